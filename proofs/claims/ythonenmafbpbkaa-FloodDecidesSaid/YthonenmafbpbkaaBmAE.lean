/- The abstract machine, part thirty-one: a contract among two variables, at any two. -/
import Derived.Test.YthonenmafbpbkaaBmAD
namespace Go.Am
open Go
def two (i j k : Nat) : Nat := if k = 0 then i else j
end Go.Am
