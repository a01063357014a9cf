/- The laws' own helpers together. -/
import Derived.Test.YtalccaolbadncaaRoomy
import Derived.Test.YtalccaolbadncaaStands
