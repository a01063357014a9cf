/- The laws' own helpers together. -/
import Derived.Test.YtnohhhlgfnjaoaaRoomy
import Derived.Test.YtnohhhlgfnjaoaaStands
