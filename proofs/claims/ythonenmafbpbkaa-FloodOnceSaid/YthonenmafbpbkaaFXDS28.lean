import Derived.Test.YthonenmafbpbkaaFXDS21
set_option linter.unusedSimpArgs false
set_option linter.unusedVariables false
namespace Go.Proofs.Ythonenmafbpbkaa
open Go Go.Am
end Go.Proofs.Ythonenmafbpbkaa

namespace Go.Proofs.Ythonenmafbpbkaa
open Go Go.Am
set_option linter.unusedSimpArgs false
end Go.Proofs.Ythonenmafbpbkaa

namespace Go.Proofs.Ythonenmafbpbkaa
open Go Go.Am
set_option linter.unusedSimpArgs false
end Go.Proofs.Ythonenmafbpbkaa

namespace Go.Proofs.Ythonenmafbpbkaa
open Go Go.Am
set_option linter.unusedSimpArgs false
end Go.Proofs.Ythonenmafbpbkaa

namespace Go.Proofs.Ythonenmafbpbkaa
open Go Go.Am
set_option linter.unusedSimpArgs false
end Go.Proofs.Ythonenmafbpbkaa

namespace Go.Proofs.Ythonenmafbpbkaa
open Go Go.Am
set_option linter.unusedSimpArgs false
@[simp] theorem tstr_39_9 : tstr Try.prog 147 9 = true := by kernel_rfl
end Go.Proofs.Ythonenmafbpbkaa

namespace Go.Proofs.Ythonenmafbpbkaa
open Go Go.Am
set_option linter.unusedSimpArgs false
end Go.Proofs.Ythonenmafbpbkaa
