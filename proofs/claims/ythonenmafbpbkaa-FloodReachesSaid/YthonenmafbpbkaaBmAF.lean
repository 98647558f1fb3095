/- A row of data whose elements hold rows: less may be said of these, too. -/
import Derived.Test.YthonenmafbpbkaaBmAE
namespace Go.Am
open Go

theorem All2_getR {α : Type} {r : α → α → Prop} : ∀ {xs ys : List α}, All2 r xs ys → xs.length = ys.length ∧ ∀ (i : Nat) (y : α), ys[i]? = some y → ∃ x, xs[i]? = some x ∧ r x y
  | [], [], _ => ⟨rfl, fun i y h => by simp at h⟩
  | x :: xs, y :: ys, h => by
    obtain ⟨h1, h2⟩ := h
    obtain ⟨k1, k2⟩ := All2_getR h2
    refine ⟨by simp [k1], fun i z hz => ?_⟩
    cases i with
    | zero => simp at hz; subst hz; exact ⟨x, rfl, h1⟩
    | succ i =>
      obtain ⟨u, u1, u2⟩ := k2 i z (by simpa using hz)
      exact ⟨u, by simpa using u1, u2⟩
  | [], _ :: _, h => h.elim
  | _ :: _, [], h => h.elim
theorem RepT.deep {F : Frz} {k : Nat} {xs ys : List AVal} {m : Mode} {v : Value} (h : RepT F (.sl k xs m) v) (hd : All2 (fun x y => All2 LeC x.cells y.cells) xs ys) : RepT F (.sl k ys .sh) v := by
  obtain ⟨base, cap, L, e1, e2, e3, e4, e5, e6, e7, e8, e9, e10⟩ := h.slcells
  obtain ⟨d1, d2⟩ := All2_getR hd
  subst e1
  cases base with
  | none =>
    obtain ⟨f1, f2⟩ := e4 rfl
    subst f1 f2
    cases ys with
    | nil => exact .slnil k .sh
    | cons y ys => exact hd.elim
  | some ad =>
    obtain ⟨g1, g2⟩ := e6 ad rfl
    have hne : ys ≠ [] → xs ≠ [] := by
      rintro h rfl
      cases ys with
      | nil => exact h rfl
      | cons => exact hd.elim
    rw [d1] at e2 e3 ⊢
    refine RepT.ofCells ad cap L e2 e3 (by simp) (fun h => g1 (hne h)) g2 (fun y hy => ?_) (fun y hy c hc => ?_) (fun h => e9 (hne h)) (fun i j y c hy hc => ?_)
    · obtain ⟨i, hi, he⟩ := List.getElem_of_mem hy
      obtain ⟨x, hx, hr⟩ := d2 i y (by rw [List.getElem?_eq_getElem hi, he])
      rw [← (All2_getR hr).1]
      exact e7 x (List.mem_of_getElem? hx)
    · obtain ⟨i, hi, he⟩ := List.getElem_of_mem hy
      obtain ⟨x, hx, hr⟩ := d2 i y (by rw [List.getElem?_eq_getElem hi, he])
      obtain ⟨j, hj, he2⟩ := List.getElem_of_mem hc
      obtain ⟨b, hb, hl⟩ := (All2_getR hr).2 j c (by rw [List.getElem?_eq_getElem hj, he2])
      exact LeC_scalar hl (e8 x (List.mem_of_getElem? hx) b (List.mem_of_getElem? hb))
    · obtain ⟨x, hx, hr⟩ := d2 i y hy
      obtain ⟨b, hb, hl⟩ := (All2_getR hr).2 j c hc
      obtain ⟨u, hu, hrep⟩ := e10 i j x b hx hb
      exact ⟨u, hu, LeC_rep hl hrep⟩
theorem LoopK.deep {P : Program} {n mm : Nat} {body : Code} {Q : APost} {s : ASt} (q : Nat) (hq : q < n) (k : Nat) (xs ys : List AVal) (md : Mode) (hs : s.t q = .sl k xs md) (hd : All2 (fun x y => All2 LeC x.cells y.cells) xs ys) (h : LoopK P n mm body Q ⟨upd s.t q (.sl k ys .sh), s.H⟩) : LoopK P n mm body Q s := by
  intro ρ hρ kk G0 w0 G a w hR
  refine h ρ hρ kk G0 w0 G a w (hR.retype q hq _ ?_ rfl)
  have hlt : q < a.tmps.size := by rw [hR.sz]; exact hq
  have hu : a.tmps[q]? = some a.tmps[q] := Array.getElem?_eq_getElem hlt
  have hev : a.eval (.tmp q) = a.tmps[q] := by simp [Act.eval, Array.getD, hlt]
  have hr := (hR.tmp q _ hu).1
  rw [hs] at hr
  rw [hev]
  exact .tree _ _ ((hr.toTree rfl).deep hd)
end Go.Am
