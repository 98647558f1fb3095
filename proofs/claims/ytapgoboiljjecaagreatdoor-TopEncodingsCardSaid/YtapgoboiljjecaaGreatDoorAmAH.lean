/- The abstract machine, part thirty-three: the rows of a row of rows are frozen, however many there are. -/
import Derived.Test.YtapgoboiljjecaaGreatDoorAmAE
namespace Go.Am
open Go
set_option linter.unusedSectionVars false
variable [Globs]
section
variable (n b len:Nat) (row:Nat → List AVal)
end
end Go.Am
