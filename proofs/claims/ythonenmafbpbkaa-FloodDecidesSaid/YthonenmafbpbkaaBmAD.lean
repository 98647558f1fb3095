/- The abstract machine, part thirty: less is known of the variables. -/
import Derived.Test.YthonenmafbpbkaaBmAA
namespace Go.Am
open Go
end Go.Am
