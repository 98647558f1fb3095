import Derived.Test.YthonenmafbpbkaaFXDS28
import Derived.Test.YthonenmafbpbkaaBmY
set_option linter.unusedSimpArgs false
set_option linter.unusedVariables false
namespace Go.Proofs.Ythonenmafbpbkaa
open Go Go.Am
set_option linter.unusedSimpArgs false
@[simp] def cellsR (b : List Int) (at_ : Nat) (bad : Bool) : List AVal := [encBs b, .int .i64 at_, .bool bad]
end Go.Proofs.Ythonenmafbpbkaa

namespace Go.Proofs.Ythonenmafbpbkaa
open Go Go.Am
set_option linter.unusedSimpArgs false
end Go.Proofs.Ythonenmafbpbkaa

namespace Go.Proofs.Ythonenmafbpbkaa
open Go Go.Am
set_option linter.unusedSimpArgs false
end Go.Proofs.Ythonenmafbpbkaa

namespace Go.Proofs.Ythonenmafbpbkaa
open Go Go.Am
set_option linter.unusedSimpArgs false
end Go.Proofs.Ythonenmafbpbkaa

namespace Go.Proofs.Ythonenmafbpbkaa
open Go Go.Am
set_option linter.unusedSimpArgs false
end Go.Proofs.Ythonenmafbpbkaa

namespace Go.Proofs.Ythonenmafbpbkaa
open Go Go.Am
set_option linter.unusedSimpArgs false
end Go.Proofs.Ythonenmafbpbkaa

namespace Go.Proofs.Ythonenmafbpbkaa
open Go Go.Am
set_option linter.unusedSimpArgs false
end Go.Proofs.Ythonenmafbpbkaa
