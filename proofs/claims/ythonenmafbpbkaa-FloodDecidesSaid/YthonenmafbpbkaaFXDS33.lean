import Derived.Test.YthonenmafbpbkaaFXDS30
set_option linter.unusedSimpArgs false
set_option linter.unusedVariables false
namespace Go.Proofs.Ythonenmafbpbkaa
open Go Go.Am
set_option linter.unusedSimpArgs false
end Go.Proofs.Ythonenmafbpbkaa

namespace Go.Proofs.Ythonenmafbpbkaa
open Go Go.Am
set_option linter.unusedSimpArgs false
theorem flat_len {α : Type} (l : List α) (f : α → List Int) (s : Nat) (hs : ∀ x, (f x).length = s) : (l.map f).flatten.length = s * l.length := by
 induction l with
 | nil => simp
 | cons x l ih => simp only [List.map_cons, List.flatten_cons, List.length_append, hs, ih, List.length_cons, Nat.mul_succ]; omega
end Go.Proofs.Ythonenmafbpbkaa

namespace Go.Proofs.Ythonenmafbpbkaa
open Go Go.Am
set_option linter.unusedSimpArgs false
def lsa0 : Lsa := ⟨⟨0, 0, 0, 0, 0, 0, 0⟩, false, false, [], [], 0, false, 0, 0⟩
end Go.Proofs.Ythonenmafbpbkaa
