/- The laws' own helpers together. -/
import Derived.Test.YtlahcdkhpekefaaRoomy
import Derived.Test.YtlahcdkhpekefaaStands
