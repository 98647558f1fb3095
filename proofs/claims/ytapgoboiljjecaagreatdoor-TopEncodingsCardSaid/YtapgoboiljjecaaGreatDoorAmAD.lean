/- The abstract machine, part thirty: less is known of the variables. -/
import Derived.Test.YtapgoboiljjecaaGreatDoorAmAA
namespace Go.Am
open Go
set_option linter.unusedSectionVars false
variable [Globs]
end Go.Am
