/- A row of data whose elements hold rows: less may be said of these, too. -/
import Derived.Test.YthonenmafbpbkaaBmAE
namespace Go.Am
open Go
end Go.Am
