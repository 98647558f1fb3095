/- The abstract machine, part thirty-one: a contract among two variables, at any two. -/
import Derived.Test.YtapgoboiljjecaaGreatDoorAmAD
namespace Go.Am
open Go
set_option linter.unusedSectionVars false
variable [Globs]
def two (i j k:Nat):Nat:=if k = 0 then i else j
end Go.Am
