/- The abstract machine, part thirty: less is known of the variables. -/
import Derived.Test.YthonenmafbpbkaaBmAA
namespace Go.Am
open Go
theorem CFun.less {P : Program} {f : FuncId} {args : List AVal} {H0 H : List (List AVal)} {x : AVal} {H' : List (List AVal)} (h : CFun P f args H0 x H') (hl : H0.length = H.length) (hb : LeBoxes H0.length H H0) : CFun P f args H x H' := by
  refine ⟨h.1, fun G w cargs hs h1 h2 hz hr => ?_⟩
  have hs0 : SR G H0 w := hs.weaken (s := ⟨fun _ => .undef, H⟩) (s' := ⟨fun _ => .undef, H0⟩) (LeBoxes_st hb)
  have := h.2 G w cargs hs0 h1 h2 hz (by rw [hl]; exact hr)
  refine this.mono ?_
  rintro e w' ⟨v, G', rfl, g1, g2, g3, g4, g5, g6⟩
  rw [hl] at g1 g6
  exact ⟨v, G', rfl, g1, g2, g3, g4, g5, g6⟩
/- The abstract machine, part thirty: less is known of the variables. -/
theorem LeCells_more {n : Nat} (rest : List AVal) : ∀ {cs ds : List AVal}, LeCells n cs ds → LeCells n (cs ++ rest) ds
  | _, [], _ => by simp [LeCells]
  | [], d :: ds, h => by simp [LeCells] at h
  | c :: cs, d :: ds, h => by
    simp only [LeCells, List.cons_append] at h ⊢
    exact ⟨h.1, h.2.1, LeCells_more rest h.2.2⟩
end Go.Am
