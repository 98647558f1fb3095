import Derived.Test.YtmgkemffbmfmpaaGreatZE2
set_option linter.unusedSimpArgs false
set_option linter.unusedVariables false
namespace Go.Proofs.YtmgkemffbmfmpaaGreat
open Go Go.Am

end Go.Proofs.YtmgkemffbmfmpaaGreat

namespace Go.Proofs.YtmgkemffbmfmpaaGreat
open Go Go.Am

-- The same cells, kept shut.
end Go.Proofs.YtmgkemffbmfmpaaGreat

namespace Go.Proofs.YtmgkemffbmfmpaaGreat
open Go Go.Am

end Go.Proofs.YtmgkemffbmfmpaaGreat

namespace Go.Proofs.YtmgkemffbmfmpaaGreat
open Go Go.Am

theorem gE {α : Type} {l : List α} {i : Nat} {x : α} (hx : l[i]? = some x) (h : i < l.length) : l[i]'h = x := by
  rw [List.getElem?_eq_getElem h] at hx
  injection hx
/-- Pairs, one by one. -/
def eqW {α : Type} (r : α → α → Bool) : List α → List α → Bool
  | [], [] => true
  | x :: xs, y :: ys => r x y && eqW r xs ys
  | _, _ => false
theorem eqW_len {α : Type} {r : α → α → Bool} : ∀ {a b : List α}, a.length ≠ b.length → eqW r a b = false
  | [], [], h => (h rfl).elim
  | [], _ :: _, _ => rfl
  | _ :: _, [], _ => rfl
  | x :: xs, y :: ys, h => by
    simp only [eqW]
    rw [eqW_len (by simpa using h), Bool.and_false]
end Go.Proofs.YtmgkemffbmfmpaaGreat

namespace Go.Proofs.YtmgkemffbmfmpaaGreat
open Go Go.Am

-- routingref25.Find
end Go.Proofs.YtmgkemffbmfmpaaGreat

namespace Go.Proofs.YtmgkemffbmfmpaaGreat
open Go Go.Am

end Go.Proofs.YtmgkemffbmfmpaaGreat
