/- The reference's walks. -/
import Derived.Test.YtgcnlmcpmocbhaaC41
import Derived.Test.YtgcnlmcpmocbhaaC32
set_option linter.unusedSimpArgs false
set_option linter.unusedVariables false
namespace Go.Proofs.Ytgcnlmcpmocbhaa
open Go Go.Am Go.Wk

structure Wlk where
  N : List Int
  C : Int
  D : Nat
def ceW (w : Wlk) : List AVal := [.sl 1 (w.N.map encI) .sh, .int .i64 w.C, .int .i64 w.D]
@[simp] def encW (w : Wlk) : AVal := .agg (ceW w)
@[simp] theorem ceW_len (w : Wlk) : (ceW w).length = 3 := rfl
theorem eWe : Enc ceW 3 := ⟨by decide, fun _ => rfl, fun _ => rfl, fun _ => rfl⟩
def stepW (w : Wlk) (x : Lnk) (c : Con) : Wlk := ⟨w.N ++ [x.To], w.C + x.Cost, if c.Thru[w.D]? = some x.To then w.D + 1 else w.D⟩
def lastW (w : Wlk) : Int := w.N.getD (w.N.length - 1) 0
def betW (w x : Wlk) : Bool := decide (w.C < x.C) || decide (w.C = x.C) && decide (cmpI w.N x.N < 0)
def keepN : List Wlk → Wlk → List Wlk
  | [], w => [w]
  | x :: l, w => if lastW x = lastW w ∧ x.D = w.D then (if betW w x = true then w else x) :: l else x :: keepN l w
theorem keepN_at {w x : Wlk} : ∀ {l : List Wlk} {i : Nat}, l[i]? = some x → (∀ j y, j < i → l[j]? = some y → ¬ (lastW y = lastW w ∧ y.D = w.D)) → (lastW x = lastW w ∧ x.D = w.D) → keepN l w = l.set i (if betW w x = true then w else x) := by
  intro l
  induction l with
  | nil => intro i h; simp at h
  | cons a l ih =>
    intro i h hn hx
    cases i with
    | zero =>
      simp at h
      subst h
      simp only [keepN, if_pos hx, List.set_cons_zero]
    | succ i =>
      have h0 := hn 0 a (by omega) rfl
      simp only [keepN, if_neg h0, List.set_cons_succ]
      rw [ih (by simpa using h) (fun j y hj hy => hn (j + 1) y (by omega) (by simpa using hy)) hx]
theorem keepN_new {w : Wlk} : ∀ {l : List Wlk}, (∀ y ∈ l, ¬ (lastW y = lastW w ∧ y.D = w.D)) → keepN l w = l ++ [w] := by
  intro l
  induction l with
  | nil => intro _; rfl
  | cons a l ih =>
    intro h
    simp only [keepN, if_neg (h a (by simp)), List.cons_append]
    rw [ih fun y hy => h y (List.mem_cons_of_mem _ hy)]
set_option maxHeartbeats 4000000 in
set_option maxRecDepth 10000 in
-- step
theorem c34 (w : Wlk) (hw : w.N.length < 1000000) (hC : 0 ≤ w.C ∧ w.C < 1099511627776) (x : Lnk) (hx : 0 ≤ x.Cost ∧ x.Cost ≤ 65535) (c : Con) (hD : w.D ≤ 1000) :
    CFun Try.prog 34 [encW w, encL x, encC c] [] (encW (stepW w x c)) [] := by
  refine CFun.intro (tr := [900001000008]) (fz := []) (n := 44) (rs := [.cell 6 66]) Try.func34 rfl (by kernel_rfl) rfl rfl mixed (by kernel_rfl) (by simp) (by simp) ?_
  have h55 := c55 w.N w.N.length rfl hw x.To
  have w1 : IntKind.i64.wrap (w.C + x.Cost) = w.C + x.Cost := wrap_in (by omega)
  have w2 : IntKind.i64.wrap ((w.D : Int) + 1) = (w.D : Int) + 1 := wrap_in (by omega)
  unfold stepW
  by_cases hd : w.D < c.Thru.length
  · have hg : c.Thru[w.D]? = some (c.Thru[w.D]'hd) := List.getElem?_eq_getElem hd
    by_cases he : c.Thru[w.D]'hd = x.To
    · simp [ceW, w1]
      refine ⟨_, by simpa using h55, by simp [noid, noid0], ?_⟩
      simp [ceW, hd, he, hg, w1, w2]
    · simp [ceW, w1]
      refine ⟨_, by simpa using h55, by simp [noid, noid0], ?_⟩
      simp [ceW, hd, he, hg, w1, w2]
  · have hg : c.Thru[w.D]? = none := List.getElem?_eq_none (by omega)
    simp [ceW, w1]
    refine ⟨_, by simpa using h55, by simp [noid, noid0], ?_⟩
    simp [ceW, hd, hg, w1, w2]
set_option maxHeartbeats 4000000 in
set_option maxRecDepth 10000 in
-- keep, of nothing
theorem c33n (w : Wlk) (h0 : 0 < w.N.length) (hw : w.N.length < 1000000) : CFun Try.prog 33 [.sl 0 [] .full, encW w] [] (.osl 1 0 1 none 3) [[], rowC ceW [w]] := by
  refine CFun.intro (tr := [100069]) (fz := []) (n := 70) (rs := [.tmp 4]) Try.func33 rfl (by kernel_rfl) rfl rfl mixed (by kernel_rfl) (by simp) (by simp) ?_
  obtain ⟨k, hk⟩ : ∃ k, w.N.length = k + 1 := ⟨w.N.length - 1, by omega⟩
  obtain ⟨e, he⟩ : ∃ e, w.N[k]? = some e := ⟨_, List.getElem?_eq_getElem (by omega)⟩
  have w1 : IntKind.i64.wrap (k : Int) = k := wrap_in (by omega)
  have hr : rowC ceW [w] = ceW w := rowC_one w
  rw [hr]
  simp [ceW, hk, w1, he, gE he]
  refine LoopK.intro (tr := [100069]) mixed (by kernel_rfl) (fun _ : Nat => [(0, .sl 0 [] .full), (3, .ptr 0 0), (16, .sl 0 [] .full), (17, .int .i64 0), (18, .int .i64 0)]) (fun _ => [ceW w]) (fun _ => True) (fun i => i) 0 trivial ?_ ?_
  · simp [ceW]
  · intro i _
    simp [ceW]
set_option maxHeartbeats 8000000 in
set_option maxRecDepth 10000 in
-- keep, of some
theorem c33s (l : List Wlk) (m : Nat) (hm : l.length = m) (hm0 : 0 < m) (hm2 : m < 1000000) (w : Wlk) (h0 : 0 < w.N.length) (hw : w.N.length < 1000000) (hl : ∀ y ∈ l, 0 < y.N.length ∧ y.N.length < 1000000) (hf : ∃ y ∈ l, lastW y = lastW w ∧ y.D = w.D) :
    CFun Try.prog 33 [.osl 0 0 m none 3, encW w] [rowC ceW l] (.osl 0 0 m none 3) [rowC ceW (keepN l w)] := by
  refine CFun.intro (tr := [100069]) (fz := []) (n := 70) (rs := [.tmp 4]) Try.func33 rfl (by kernel_rfl) rfl rfl mixed (by kernel_rfl) (by simp) (by simp) ?_
  obtain ⟨k, hk⟩ : ∃ k, w.N.length = k + 1 := ⟨w.N.length - 1, by omega⟩
  obtain ⟨e, he⟩ : ∃ e, w.N[k]? = some e := ⟨_, List.getElem?_eq_getElem (by omega)⟩
  have hlw : lastW w = e := by unfold lastW; rw [hk]; simp [List.getD_eq_getElem?_getD, he]
  have w1 : IntKind.i64.wrap (k : Int) = k := wrap_in (by omega)
  have hle := fun q (l : List Wlk) => eWe.rowLe q l
  have hrl := eWe.rowLen l
  rw [hm] at hrl
  rw [hlw] at hf
  simp [ceW, hk, w1, he, gE he]
  refine LoopK.intro (tr := [100069]) mixed (by kernel_rfl) (fun i : Nat => [(0, .osl 0 0 m none 3), (3, .ptr 1 0), (5, .int .i64 e), (16, .osl 0 0 m none 3), (17, .int .i64 m), (18, .int .i64 i)]) (fun _ => [rowC ceW l, [.sl 1 (w.N.map encI) .sh, .int .i64 w.C, .int .i64 w.D]]) (fun i => i ≤ m ∧ ∀ j y, j < i → l[j]? = some y → ¬ (lastW y = e ∧ y.D = w.D)) (fun i => m - i) 0 ?_ ?_ ?_
  · simp
  · simp [hle]
    done
  · rintro i ⟨h1, h2⟩
    by_cases hi : i < m
    case neg =>
      exfalso
      obtain ⟨y, hy, hy2⟩ := hf
      obtain ⟨j, hj, he⟩ := List.getElem_of_mem hy
      exact h2 j y (by omega) (by rw [List.getElem?_eq_getElem hj, he]) hy2
    obtain ⟨y, hy⟩ : ∃ y, l[i]? = some y := ⟨_, List.getElem?_eq_getElem (by omega)⟩
    obtain ⟨y0, y1⟩ := hl y (List.mem_of_getElem? hy)
    obtain ⟨ky, hky⟩ : ∃ k, y.N.length = k + 1 := ⟨y.N.length - 1, by omega⟩
    obtain ⟨ey, hey⟩ : ∃ e, y.N[ky]? = some e := ⟨_, List.getElem?_eq_getElem (by omega)⟩
    have hly : lastW y = ey := by unfold lastW; rw [hky]; simp [List.getD_eq_getElem?_getD, hey]
    have w2 : IntKind.i64.wrap (ky : Int) = ky := wrap_in (by omega)
    have w3 : IntKind.i64.wrap ((i : Int) + 1) = i + 1 := wrap_in (by omega)
    obtain ⟨hta, hfit⟩ := eWe.rowAt hy []
    rw [List.append_nil] at hta hfit
    rw [hrl] at hfit
    have hdis := eWe.rowDis l
    have htr : (∀ x ∈ ceW y, x.tree = true) := by simp [ceW]
    by_cases g1 : ey = e
    · by_cases g2 : y.D = w.D
      · have hk' := keepN_at (w := w) hy (fun j y hj h => by rw [hlw]; exact h2 j y hj h) (by rw [hly, hlw]; exact ⟨g1, g2⟩)
        have g2' : (y.D : Int) = w.D := by omega
        have hset : (((rowC ceW l).set (i * 3) (.sl 1 (w.N.map encI) .sh)).set (i * 3 + 1) (.int .i64 w.C)).set (i * 3 + 1 + 1) (.int .i64 w.D) = rowC ceW (l.set i w) := eWe.setOne0 l i w (by omega)
        have h21 := fun H => (c21 w.N y.N w.N.length y.N.length rfl rfl (by omega) (by omega)).up' H rfl rfl
        have hle2 := fun q => hle q (l.set i w)
        have hsame : l.set i y = l := by
          apply List.ext_getElem?
          intro j
          rw [List.getElem?_set]
          split
          · rename_i e; subst e; rw [if_pos (by omega), hy]
          · rfl
        rw [hk']
        by_cases b1 : w.C < y.C
        · have hb : betW w y = true := by simp [betW, b1]
          rw [if_pos hb]
          simp [hi, hta, htr, hfit, hrl, hdis, ceW, hky, w2, hey, gE hey, g1, g2', b1, hset, hle2]
        · by_cases b2 : w.C = y.C
          · have hbe : betW w y = decide (cmpI w.N y.N < 0) := by simp [betW, b1, b2]
            rw [hbe]
            simp [hi, hta, htr, hfit, hrl, hdis, ceW, hky, w2, hey, gE hey, g1, g2', b1, b2]
            refine ⟨_, _, .inl (by simpa using h21 _), by simp, ?_⟩
            by_cases b3 : cmpI w.N y.N < 0
            · rw [b2] at hset
              simp [hi, hfit, hrl, b3, hset, hle2, ceW]
            · simp [b3, hle, hsame]
          · have hb : betW w y = false := by simp [betW, b1, b2]
            rw [hb]
            simp [hi, hta, htr, hfit, hrl, hdis, ceW, hky, w2, hey, gE hey, g1, g2', b1, b2, hle, hsame]
      · have g2' : ¬ (y.D : Int) = w.D := by omega
        simp [hi, hta, htr, hfit, hrl, hdis, ceW, hky, w2, hey, gE hey, g1, g2, g2', w3]
        refine ⟨i + 1, ⟨by omega, fun j z hj hz => ?_⟩, by omega, by omega, hle _ _⟩
        by_cases ej : j = i
        · subst ej
          rw [hy] at hz
          injection hz with hz
          subst hz
          exact fun _ => g2
        · intro k1 k2
          exact h2 j z (by omega) hz ⟨k1, k2⟩
    · simp [hi, hta, htr, hfit, hrl, hdis, ceW, hky, w2, hey, gE hey, g1, w3]
      refine ⟨i + 1, ⟨by omega, fun j z hj hz => ?_⟩, by omega, by omega, hle _ _⟩
      by_cases ej : j = i
      · subst ej
        rw [hy] at hz
        injection hz with hz
        subst hz
        exact fun k1 _ => g1 (by rw [← hly]; exact k1)
      · intro k1 k2
        exact h2 j z (by omega) hz ⟨k1, k2⟩
set_option maxHeartbeats 8000000 in
set_option maxRecDepth 10000 in
-- keep, of some others
theorem c33m (l : List Wlk) (m : Nat) (hm : l.length = m) (hm0 : 0 < m) (hm2 : m < 1000000) (w : Wlk) (h0 : 0 < w.N.length) (hw : w.N.length < 1000000) (hl : ∀ y ∈ l, 0 < y.N.length ∧ y.N.length < 1000000) (hf : ∀ y ∈ l, ¬ (lastW y = lastW w ∧ y.D = w.D)) :
    CFun Try.prog 33 [.osl 0 0 m none 3, encW w] [rowC ceW l] (.osl 2 0 (m + 1) none 3) [[], [], rowC ceW (l ++ [w])] := by
  refine CFun.intro (tr := [100069]) (fz := []) (n := 70) (rs := [.tmp 4]) Try.func33 rfl (by kernel_rfl) rfl rfl mixed (by kernel_rfl) (by simp) (by simp) ?_
  obtain ⟨k, hk⟩ : ∃ k, w.N.length = k + 1 := ⟨w.N.length - 1, by omega⟩
  obtain ⟨e, he⟩ : ∃ e, w.N[k]? = some e := ⟨_, List.getElem?_eq_getElem (by omega)⟩
  have hlw : lastW w = e := by unfold lastW; rw [hk]; simp [List.getD_eq_getElem?_getD, he]
  have w1 : IntKind.i64.wrap (k : Int) = k := wrap_in (by omega)
  have hle := fun q (l : List Wlk) => eWe.rowLe q l
  have hrl := eWe.rowLen l
  rw [hm] at hrl
  rw [hlw] at hf
  simp [ceW, hk, w1, he, gE he]
  refine LoopK.intro (tr := [100069]) mixed (by kernel_rfl) (fun i : Nat => [(0, .osl 0 0 m none 3), (3, .ptr 1 0), (5, .int .i64 e), (16, .osl 0 0 m none 3), (17, .int .i64 m), (18, .int .i64 i)]) (fun _ => [rowC ceW l, [.sl 1 (w.N.map encI) .sh, .int .i64 w.C, .int .i64 w.D]]) (fun i => i ≤ m ∧ ∀ j y, j < i → l[j]? = some y → ¬ (lastW y = e ∧ y.D = w.D)) (fun i => m - i) 0 ?_ ?_ ?_
  · simp
  · simp [hle]
    done
  · rintro i ⟨h1, h2⟩
    by_cases hi : i < m
    case neg =>
      have : i = m := by omega
      subst this
      have s1 : i + 1 ≤ 140737488355328 := by omega
      have s2 : (i + 1) * 40 ≤ 140737488355328 := by omega
      have hsc : (rowC ceW l).all (fun c => c.scalar && !c.isOwn) = true := by
        have : ∀ l : List Wlk, (rowC ceW l).all (fun c => c.scalar && !c.isOwn) = true := by
          intro l
          induction l with
          | nil => rfl
          | cons y l ih => rw [rowC_cons, List.all_append, ih]; rfl
        exact this l
      simp only [AVal.isOwn] at hsc
      have htk : (rowC ceW l).take (i * 3) = rowC ceW l := List.take_of_length_le (by omega)
      have hne : rowC ceW l ≠ [] := by
        intro e
        rw [e] at hrl
        simp at hrl
        omega
      have happ : rowC ceW l ++ [.sl 1 (w.N.map encI) .sh, .int .i64 w.C, .int .i64 w.D] = rowC ceW (l ++ [w]) := by rw [rowC_app, rowC_one]; rfl
      have hle2 := fun q => hle q (l ++ [w])
      simp [hrl, s1, s2, hsc, htk, hne, happ, hle2, -List.all_eq_true]
      done
    obtain ⟨y, hy⟩ : ∃ y, l[i]? = some y := ⟨_, List.getElem?_eq_getElem (by omega)⟩
    obtain ⟨y0, y1⟩ := hl y (List.mem_of_getElem? hy)
    obtain ⟨ky, hky⟩ : ∃ k, y.N.length = k + 1 := ⟨y.N.length - 1, by omega⟩
    obtain ⟨ey, hey⟩ : ∃ e, y.N[ky]? = some e := ⟨_, List.getElem?_eq_getElem (by omega)⟩
    have hly : lastW y = ey := by unfold lastW; rw [hky]; simp [List.getD_eq_getElem?_getD, hey]
    have w2 : IntKind.i64.wrap (ky : Int) = ky := wrap_in (by omega)
    have w3 : IntKind.i64.wrap ((i : Int) + 1) = i + 1 := wrap_in (by omega)
    obtain ⟨hta, hfit⟩ := eWe.rowAt hy []
    rw [List.append_nil] at hta hfit
    rw [hrl] at hfit
    have hdis := eWe.rowDis l
    have htr : (∀ x ∈ ceW y, x.tree = true) := by simp [ceW]
    by_cases g1 : ey = e
    · by_cases g2 : y.D = w.D
      · exact (hf y (List.mem_of_getElem? hy) ⟨by rw [hly]; exact g1, g2⟩).elim
      · have g2' : ¬ (y.D : Int) = w.D := by omega
        simp [hi, hta, htr, hfit, hrl, hdis, ceW, hky, w2, hey, gE hey, g1, g2, g2', w3]
        refine ⟨i + 1, ⟨by omega, fun j z hj hz => ?_⟩, by omega, by omega, hle _ _⟩
        by_cases ej : j = i
        · subst ej
          rw [hy] at hz
          injection hz with hz
          subst hz
          exact fun _ => g2
        · intro k1 k2
          exact h2 j z (by omega) hz ⟨k1, k2⟩
    · simp [hi, hta, htr, hfit, hrl, hdis, ceW, hky, w2, hey, gE hey, g1, w3]
      refine ⟨i + 1, ⟨by omega, fun j z hj hz => ?_⟩, by omega, by omega, hle _ _⟩
      by_cases ej : j = i
      · subst ej
        rw [hy] at hz
        injection hz with hz
        subst hz
        exact fun k1 _ => g1 (by rw [← hly]; exact k1)
      · intro k1 k2
        exact h2 j z (by omega) hz ⟨k1, k2⟩
end Go.Proofs.Ytgcnlmcpmocbhaa

/- The reference's Route: what it keeps. -/
namespace Go.Proofs.Ytgcnlmcpmocbhaa
open Go Go.Am Go.Wk

structure okW (n t h : Nat) (w : Wlk) : Prop where
  len : w.N.length = h + 1
  lo : 0 ≤ lastW w
  hi : lastW w < n
  c0 : 0 ≤ w.C
  c1 : w.C ≤ 65535 * h
  d : w.D ≤ t
def codeW (n : Nat) (w : Wlk) : Nat := w.D * n + (lastW w).toNat
structure okNx (n t h : Nat) (l : List Wlk) : Prop where
  w : ∀ w ∈ l, okW n t h w
  nd : (l.map (codeW n)).Nodup
theorem code_inj {n t h h' : Nat} {a b : Wlk} (ha : okW n t h a) (hb : okW n t h' b) (e : codeW n a = codeW n b) : lastW a = lastW b ∧ a.D = b.D := by
  unfold codeW at e
  have a1 := ha.lo; have a2 := ha.hi; have b1 := hb.lo; have b2 := hb.hi
  have n0 : 0 < n := by omega
  have e1 : (a.D * n + (lastW a).toNat) / n = a.D := by rw [Nat.mul_comm, Nat.mul_add_div n0, Nat.div_eq_of_lt (by omega)]; rfl
  have e2 : (b.D * n + (lastW b).toNat) / n = b.D := by rw [Nat.mul_comm, Nat.mul_add_div n0, Nat.div_eq_of_lt (by omega)]; rfl
  have hd : a.D = b.D := by rw [← e1, ← e2, e]
  rw [hd] at e
  exact ⟨by omega, hd⟩
theorem code_lt {n t h : Nat} {w : Wlk} (ha : okW n t h w) : codeW n w < n * (t + 1) := by
  have a1 := ha.lo; have a2 := ha.hi; have a3 := ha.d
  unfold codeW
  have : (w.D + 1) * n ≤ (t + 1) * n := Nat.mul_le_mul_right n (by omega)
  rw [Nat.succ_mul] at this
  rw [Nat.mul_comm n]
  omega
theorem okNx.length {n t h : Nat} {l : List Wlk} (hl : okNx n t h l) : l.length ≤ n * (t + 1) := by
  have := nodup_length hl.nd (n := n * (t + 1)) (fun x hx => by
    obtain ⟨w, hw, rfl⟩ := List.mem_map.1 hx
    exact code_lt (hl.w w hw))
  simpa using this
theorem keepN_cases (l : List Wlk) (w : Wlk) : (∃ i x, l[i]? = some x ∧ lastW x = lastW w ∧ x.D = w.D ∧ keepN l w = l.set i (if betW w x = true then w else x)) ∨ ((∀ y ∈ l, ¬ (lastW y = lastW w ∧ y.D = w.D)) ∧ keepN l w = l ++ [w]) := by
  induction l with
  | nil => exact .inr ⟨by simp, rfl⟩
  | cons a l ih =>
    by_cases h : lastW a = lastW w ∧ a.D = w.D
    · exact .inl ⟨0, a, rfl, h.1, h.2, by simp only [keepN, if_pos h, List.set_cons_zero]⟩
    · rcases ih with ⟨i, x, h1, h2, h3, h4⟩ | ⟨h1, h2⟩
      · exact .inl ⟨i + 1, x, by simpa using h1, h2, h3, by simp only [keepN, if_neg h, h4, List.set_cons_succ]⟩
      · refine .inr ⟨fun y hy => ?_, by simp only [keepN, if_neg h, h2, List.cons_append]⟩
        rcases List.mem_cons.1 hy with rfl | hy
        · exact h
        · exact h1 y hy
theorem okNx.keep {n t h : Nat} {l : List Wlk} (hl : okNx n t h l) {w : Wlk} (hw : okW n t h w) : okNx n t h (keepN l w) := by
  rcases keepN_cases l w with ⟨i, x, h1, h2, h3, h4⟩ | ⟨h1, h2⟩
  · rw [h4]
    have hx := hl.w x (List.mem_of_getElem? h1)
    have hlt := (List.getElem?_eq_some_iff.1 h1).1
    refine ⟨fun y hy => ?_, ?_⟩
    · rcases List.mem_or_eq_of_mem_set hy with hy | rfl
      · exact hl.w y hy
      · split
        · exact hw
        · exact hx
    · have e : (l.set i (if betW w x = true then w else x)).map (codeW n) = l.map (codeW n) := by
        apply List.ext_getElem?
        intro j
        simp only [List.getElem?_map, List.getElem?_set]
        by_cases ej : i = j
        · subst ej
          rw [if_pos rfl, if_pos hlt, h1]
          have : codeW n w = codeW n x := by unfold codeW; rw [h2, h3]
          split <;> simp [this]
        · rw [if_neg ej]
      rw [e]
      exact hl.nd
  · rw [h2]
    refine ⟨fun y hy => ?_, ?_⟩
    · rcases List.mem_append.1 hy with hy | hy
      · exact hl.w y hy
      · simp at hy; subst hy; exact hw
    · rw [List.map_append, List.nodup_append]
      refine ⟨hl.nd, by simp, fun a ha b hb e => ?_⟩
      simp at hb
      obtain ⟨y, hy, rfl⟩ := List.mem_map.1 ha
      exact h1 y hy (code_inj (hl.w y hy) hw (e.trans hb))
theorem lastW_get {n t h : Nat} {w : Wlk} (hw : okW n t h w) : w.N.getD h 0 = lastW w ∧ w.N[h]? = some (lastW w) := by
  have : lastW w = w.N.getD h 0 := by unfold lastW; rw [hw.len, Nat.add_sub_cancel]
  refine ⟨this.symm, ?_⟩
  rw [this]
  exact getD_ofI (by rw [hw.len]; omega)
theorem okW.step {n t h : Nat} {w : Wlk} (hw : okW n t h w) {x : Lnk} (hx : okLk n x) {c : Con} (ht : c.Thru.length = t) : okW n t (h + 1) (stepW w x c) := by
  obtain ⟨o1, o2, o3, o4, o5, o6⟩ := hx
  have hl : lastW (stepW w x c) = x.To := by
    unfold lastW stepW
    simp
  refine ⟨by simp [stepW, hw.len], by rw [hl]; exact o3, by rw [hl]; exact o4, ?_, ?_, ?_⟩
  · have := hw.c0; simp only [stepW]; omega
  · have := hw.c1; simp only [stepW]; omega
  · have := hw.d
    simp only [stepW]
    split
    · rename_i e
      have := (List.getElem?_eq_some_iff.1 e).1
      omega
    · omega
/-- With one link more. -/
def linkR (c : Con) (w : Wlk) (nx : List Wlk) (x : Lnk) : List Wlk := if x.From = lastW w ∧ usableN x c = true then keepN nx (stepW w x c) else nx
def linksR (l : List Lnk) (c : Con) (nx : List Wlk) (w : Wlk) : List Wlk := l.foldl (linkR c w) nx
def nextR (l : List Lnk) (c : Con) (at_ : List Wlk) : List Wlk := at_.foldl (linksR l c) []
def lessB (b : Option Wlk) (w : Wlk) : Bool := match b with
  | none => true
  | some q => decide (w.C < q.C)
def bestS (to : Int) (t : Nat) (b : Option Wlk) (w : Wlk) : Option Wlk := if lastW w = to ∧ w.D = t ∧ lessB b w = true then some w else b
def bestR (to : Int) (t : Nat) (b : Option Wlk) (at_ : List Wlk) : Option Wlk := at_.foldl (bestS to t) b
theorem linkR_ok {n t h : Nat} {c : Con} (ht : c.Thru.length = t) {w : Wlk} (hw : okW n t h w) {nx : List Wlk} (hn : okNx n t (h + 1) nx) {x : Lnk} (hx : okLk n x) : okNx n t (h + 1) (linkR c w nx x) := by
  unfold linkR
  split
  · exact hn.keep (hw.step hx ht)
  · exact hn
theorem linksR_ok {n t h : Nat} {c : Con} (ht : c.Thru.length = t) {w : Wlk} (hw : okW n t h w) : ∀ {l : List Lnk}, (∀ x ∈ l, okLk n x) → ∀ {nx : List Wlk}, okNx n t (h + 1) nx → okNx n t (h + 1) (linksR l c nx w) := by
  intro l
  induction l with
  | nil => intro _ nx hn; exact hn
  | cons x l ih =>
    intro hl nx hn
    exact ih (fun y hy => hl y (List.mem_cons_of_mem _ hy)) (linkR_ok ht hw hn (hl x (by simp)))
theorem okNx_nil (n t h : Nat) : okNx n t h [] := ⟨by simp, by simp⟩
theorem foldl_inv {α β : Type} {f : β → α → β} {p : β → Prop} {q : α → Prop} (hf : ∀ b a, p b → q a → p (f b a)) : ∀ {l : List α} {b : β}, p b → (∀ a ∈ l, q a) → p (l.foldl f b) := by
  intro l
  induction l with
  | nil => intro b h _; exact h
  | cons a l ih => intro b h hq; exact ih (hf b a h (hq a (by simp))) (fun x hx => hq x (List.mem_cons_of_mem _ hx))
theorem nextR_ok {n t h : Nat} {c : Con} (ht : c.Thru.length = t) {l : List Lnk} (hl : ∀ x ∈ l, okLk n x) {at_ : List Wlk} (ha : ∀ w ∈ at_, okW n t h w) : okNx n t (h + 1) (nextR l c at_) :=
  foldl_inv (p := okNx n t (h + 1)) (q := okW n t h) (fun _ _ hb hw => linksR_ok ht hw hl hb) (okNx_nil n t (h + 1)) ha
/-- The rounds. -/
def loopR (l : List Lnk) (c : Con) (to : Int) (sz : Nat) : Nat → Nat → List Wlk → Option Wlk → Option Wlk
  | 0, _, _, b => b
  | f + 1, h, at_, b => if at_ ≠ [] ∧ h < sz ∧ (c.Hops = 0 ∨ (h : Int) ≤ c.Hops) then loopR l c to sz f (h + 1) (nextR l c at_) (bestR to c.Thru.length b at_) else b
def firstW (fr : Int) (c : Con) : Wlk := ⟨[fr], 0, if c.Thru[0]? = some fr then 1 else 0⟩
def refN (n : Int) (l : List Lnk) (fr to : Int) (c : Con) : List Int × Int × Int :=
  if checkE n l c ≠ 0 then ([], 0, checkE n l c) else if (outN n fr || outN n to) = true then ([], 0, 5)
  else match loopR l c to (n.toNat * (c.Thru.length + 1)) (n.toNat * (c.Thru.length + 1) + 1) 0 (if hasB c.Avoid fr = true then [] else [firstW fr c]) none with
    | none => ([], 0, 20)
    | some w => if repB w.N = true then ([], 0, 10) else (w.N, w.C, 0)
end Go.Proofs.Ytgcnlmcpmocbhaa

/- The least walk exists; it has no state twice. No program. -/
namespace Go.Wk

theorem exists_least {P : Nat → Prop} : ∀ {n : Nat}, P n → ∃ m, P m ∧ ∀ k, P k → m ≤ k := by
  intro n
  induction n using Nat.strongRecOn with
  | ind n ih =>
    intro hn
    by_cases h : ∃ k, k < n ∧ P k
    · obtain ⟨k, h1, h2⟩ := h
      exact ih k h1 h2
    · refine ⟨n, hn, fun k hk => ?_⟩
      rcases Nat.lt_or_ge k n with h1 | h1
      · exact absurd ⟨k, h1, hk⟩ h
      · exact h1
theorem Dn.exists {E : List Arc} {z x c : Nat} {ys : List Nat} (hw : W E x ys c z) : ∃ d h, Dn E z x d h := by
  obtain ⟨d, ⟨ys1, h1⟩, h2⟩ := exists_least (P := fun d => ∃ zs, W E x zs d z) ⟨ys, hw⟩
  obtain ⟨h, ⟨ys2, h3, h4⟩, h5⟩ := exists_least (P := fun h => ∃ zs, W E x zs d z ∧ zs.length = h) ⟨ys1, h1, rfl⟩
  refine ⟨d, h, ⟨ys2, h3, h4⟩, fun zs e k => ?_⟩
  have k1 := h2 e ⟨zs, k⟩
  rcases Nat.lt_or_ge d e with k2 | k2
  · exact .inl k2
  · have : d = e := by omega
    subst this
    exact .inr ⟨rfl, h5 _ ⟨zs, k, rfl⟩⟩
/-- As W.simple, and with no more steps. -/
theorem W.simple2 {E : List Arc} (hE : ∀ a ∈ E, 1 ≤ a.2.2) : ∀ {n : Nat} {ys : List Nat} {x z c : Nat}, ys.length ≤ n → W E x ys c z → (x :: ys).Nodup ∨ ∃ zs d, W E x zs d z ∧ d < c ∧ zs.length ≤ ys.length := by
  intro n
  induction n with
  | zero =>
    intro ys x z c hn h
    have : ys = [] := List.length_eq_zero_iff.1 (by omega)
    subst this
    exact .inl (by simp)
  | succ n ih =>
    intro ys x z c hn h
    cases ys with
    | nil => exact .inl (by simp)
    | cons y ys =>
      obtain ⟨a, d, h1, h2, rfl⟩ := h.cons_inv
      simp at hn
      rcases ih hn h2 with h3 | ⟨zs, e, h3, h4, h5⟩
      · by_cases hx : x ∈ y :: ys
        · obtain ⟨l, r, hl⟩ := List.append_of_mem hx
          have h' : W E x ((y :: ys)) (a + d) z := h
          rw [hl] at h'
          obtain ⟨u, p, q, k1, k2, k3⟩ := h'.split
          obtain ⟨b, e, k4, k5, k6⟩ := k2.cons_inv
          refine .inr ⟨r, e, k5, ?_, ?_⟩
          · have := hE _ k4
            simp at this
            omega
          · rw [hl]; simp; omega
        · exact .inl (List.nodup_cons.2 ⟨hx, h3⟩)
      · exact .inr ⟨y :: zs, a + e, .cons h1 h3, by omega, by simp; omega⟩
theorem Best.simple {E : List Arc} (hE : ∀ a ∈ E, 1 ≤ a.2.2) {nd : Nat → Nat} {lim : Nat → Prop} (hlim : ∀ a b, a ≤ b → lim b → lim a) {x z : Nat} {ys : List Nat} {c : Nat} (h : Best E nd lim x z ys c) : (x :: ys).Nodup := by
  rcases W.simple2 hE (Nat.le_refl _) h.w with h1 | ⟨zs, d, h1, h2, h3⟩
  · exact h1
  · have := h.le _ _ h1 (hlim _ _ h3 h.l)
    omega
theorem W.simple_len {E : List Arc} {n : Nat} (hn : ∀ a ∈ E, a.2.1 < n) {x z c : Nat} {ys : List Nat} (hx : x < n) (h : W E x ys c z) (hd : (x :: ys).Nodup) : ys.length < n := by
  have := nodup_length hd (n := n) (fun y hy => by
    rcases List.mem_cons.1 hy with rfl | hy
    · exact hx
    · obtain ⟨u, a, k⟩ := h.mem hy
      exact hn _ k)
  simp at this
  omega
/-- From a walk within the limit to one within the limit that has less than n steps and costs no more. -/
theorem W.short {E : List Arc} (hE : ∀ a ∈ E, 1 ≤ a.2.2) {n : Nat} (hn : ∀ a ∈ E, a.2.1 < n) {x z : Nat} (hx : x < n) : ∀ {c : Nat} {ys : List Nat}, W E x ys c z → ys.length < n ∨ ∃ zs d, W E x zs d z ∧ d < c ∧ zs.length ≤ ys.length ∧ zs.length < n := by
  intro c
  induction c using Nat.strongRecOn with
  | ind c ih =>
    intro ys h
    rcases W.simple2 hE (Nat.le_refl _) h with h1 | ⟨zs, d, h1, h2, h3⟩
    · exact .inl (h.simple_len hn hx h1)
    · rcases ih d h2 h1 with h4 | ⟨us, e, k1, k2, k3, k4⟩
      · exact .inr ⟨zs, d, h1, h2, h3, h4⟩
      · exact .inr ⟨us, e, k1, by omega, by omega, k4⟩
/-- The limit n is none. -/
theorem Best.of_short {E : List Arc} (hE : ∀ a ∈ E, 1 ≤ a.2.2) {n : Nat} (hn : ∀ a ∈ E, a.2.1 < n) {nd : Nat → Nat} {lim : Nat → Prop} (hlim : ∀ a b, a ≤ b → lim b → lim a) {x z : Nat} (hx : x < n) {ys : List Nat} {c : Nat} (h : Best E nd (fun k => k < n ∧ lim k) x z ys c) : Best E nd lim x z ys c := by
  refine ⟨h.w, h.l.2, fun zs d h1 h2 => ?_⟩
  rcases h1.short hE hn hx with h3 | ⟨us, e, k1, k2, k3, k4⟩
  · exact h.le _ _ h1 ⟨h3, h2⟩
  · have := h.le _ _ k1 ⟨k4, hlim _ _ k3 h2⟩
    omega
theorem find_least {α : Type} {R : α → α → Prop} {p : α → Bool} : ∀ {l : List α} {x : α}, l.Pairwise R → l.find? p = some x → ∀ y ∈ l, p y = true → y = x ∨ R x y := by
  intro l
  induction l with
  | nil => intro x _ h; simp at h
  | cons a l ih =>
    intro x hp h y hy py
    obtain ⟨h1, h2⟩ := List.pairwise_cons.1 hp
    by_cases pa : p a = true
    · rw [List.find?_cons_of_pos pa] at h
      injection h with h
      subst h
      rcases List.mem_cons.1 hy with rfl | hy
      · exact .inl rfl
      · exact .inr (h1 y hy)
    · rw [List.find?_cons_of_neg pa] at h
      rcases List.mem_cons.1 hy with rfl | hy
      · exact absurd py pa
      · exact ih h2 h y hy py
end Go.Wk

/- What the search finds is the least walk. No program. -/
namespace Go.Proofs.Ytgcnlmcpmocbhaa
open Go Go.Am Go.Wk

theorem ent_div {th : List Int} {n a k : Nat} (ha : a < n) : entN th n a k / n = entK th a k := by
  unfold entN
  rw [Nat.mul_comm, Nat.mul_add_div (by omega), Nat.div_eq_of_lt ha]
  rfl
theorem ent_mod {th : List Int} {n a k : Nat} (ha : a < n) : entN th n a k % n = a := by
  unfold entN
  rw [Nat.mul_comm, Nat.mul_add_mod, Nat.mod_eq_of_lt ha]
theorem arc_mem {ls : List Lnk} {th : List Int} {n : Nat} {a : Arc} : a ∈ arcsN ls th n ↔ ∃ k, k ≤ th.length ∧ ∃ l ∈ ls, arcN th n k l = a := by
  unfold arcsN
  simp only [List.mem_flatMap, List.mem_range, List.mem_map]
  constructor
  · rintro ⟨k, h1, l, h2, h3⟩
    exact ⟨k, by omega, l, h2, h3⟩
  · rintro ⟨k, h1, l, h2, h3⟩
    exact ⟨k, by omega, l, h2, h3⟩
section
variable {ls : List Lnk} {th : List Int} {n : Nat} (hls : ∀ x ∈ ls, okLk n x)
include hls
theorem arc_inv {x y a : Nat} (h : (x, y, a) ∈ arcsN ls th n) : x / n ≤ th.length ∧ ∃ l ∈ ls, l.From.toNat = x % n ∧ y = entN th n l.To.toNat (x / n) ∧ (a : Int) = l.Cost ∧ l.From = ((x % n : Nat) : Int) ∧ l.To = ((y % n : Nat) : Int) ∧ l.To.toNat < n := by
  obtain ⟨k, h1, l, h2, h3⟩ := arc_mem.1 h
  obtain ⟨o1, o2, o3, o4, o5, o6⟩ := hls l h2
  unfold arcN at h3
  simp only [Prod.mk.injEq] at h3
  obtain ⟨rfl, rfl, rfl⟩ := h3
  have hf : l.From.toNat < n := by omega
  have e1 : (k * n + l.From.toNat) / n = k := by rw [Nat.mul_comm, Nat.mul_add_div (by omega), Nat.div_eq_of_lt hf]; rfl
  have e2 : (k * n + l.From.toNat) % n = l.From.toNat := by rw [Nat.mul_comm, Nat.mul_add_mod, Nat.mod_eq_of_lt hf]
  have e3 := ent_mod (th := th) (k := k) (show l.To.toNat < n by omega)
  rw [e1, e2, e3]
  exact ⟨h1, l, h2, rfl, rfl, by omega, by omega, by omega, by omega⟩
omit hls in
theorem arc_of {x : Nat} (hx : x / n ≤ th.length) {l : Lnk} (hl : l ∈ ls) (hf : l.From.toNat = x % n) : (x, entN th n l.To.toNat (x / n), l.Cost.toNat) ∈ arcsN ls th n := by
  refine arc_mem.2 ⟨x / n, hx, l, hl, ?_⟩
  unfold arcN
  rw [hf]
  have := Nat.div_add_mod x n
  rw [Nat.mul_comm] at this
  rw [this]
theorem arcs_inj (hs : ls.Pairwise fun x y => x.From < y.From ∨ x.From = y.From ∧ x.To < y.To) {x y y' a a' : Nat} (h : (x, y, a) ∈ arcsN ls th n) (h' : (x, y', a') ∈ arcsN ls th n) (e : y % n = y' % n) : y = y' ∧ a = a' := by
  obtain ⟨_, l, l1, l2, l3, l4, l5, l6, l7⟩ := arc_inv hls h
  obtain ⟨_, m, m1, m2, m3, m4, m5, m6, m7⟩ := arc_inv hls h'
  have : l = m := by
    have hl : ls.find? (fun z => decide (z.From = l.From) && decide (z.To = l.To)) = some l := by
      cases hf : ls.find? (fun z => decide (z.From = l.From) && decide (z.To = l.To)) with
      | none => exact absurd (List.find?_eq_none.1 hf l l1) (by simp)
      | some z =>
        have hz := List.find?_some hf
        simp only [Bool.and_eq_true, decide_eq_true_eq] at hz
        have := find_least hs hf l l1 (by simp)
        rcases this with rfl | h1
        · rfl
        · omega
    have hm : (decide (m.From = l.From) && decide (m.To = l.To)) = true := by
      simp only [Bool.and_eq_true, decide_eq_true_eq]
      rw [l5, l6, m5, m6, e]
      exact ⟨rfl, rfl⟩
    rcases find_least hs hl m m1 hm with h1 | h1
    · exact h1.symm
    · simp only [Bool.and_eq_true, decide_eq_true_eq] at hm
      omega
  subst this
  exact ⟨by rw [l3, m3], by omega⟩
theorem folN_fol (hs : ls.Pairwise fun x y => x.From < y.From ∨ x.From = y.From ∧ x.To < y.To) {z : Nat} (gd : Nat → Nat → Int → Nat → Bool) (P : Nat → Nat → Nat → Prop)
    (hPm : ∀ h x c, P h x c → Mn (arcsN ls th n) z h x c)
    (hgd : ∀ h x c y (a : Nat), P (h + 1) x c → (x, y, a) ∈ arcsN ls th n → (gd x y a (h + 1) = true ↔ ∃ d, Mn (arcsN ls th n) z h y d ∧ c = a + d))
    (hPs : ∀ h x c y a d, P (h + 1) x c → (x, y, a) ∈ arcsN ls th n → Mn (arcsN ls th n) z h y d → c = a + d → P h y d) :
    ∀ h x c, P h x c → ∃ ys, Fol (arcsN ls th n) (· % n) z h x c ys ∧ folN ls th n gd h x = ys.map fun s => ((s % n : Nat) : Int) := by
  intro h
  induction h with
  | zero =>
    intro x c hp
    obtain ⟨⟨ys, h1, h2⟩, _⟩ := hPm _ _ _ hp
    have : ys = [] := List.length_eq_zero_iff.1 h2
    subst this
    obtain ⟨rfl, rfl⟩ := h1.nil_inv
    exact ⟨[], .nil _, rfl⟩
  | succ h ih =>
    intro x c hp
    have hm := hPm _ _ _ hp
    obtain ⟨ys, h1, h2⟩ := hm.1
    cases ys with
    | nil => simp at h2
    | cons y ys =>
      obtain ⟨a, d, k1, k2, k3⟩ := h1.cons_inv
      simp at h2
      have k4 := hm.tail k1 k2 h2 k3
      have k5 := (hgd _ _ _ _ _ hp k1).2 ⟨d, k4, k3⟩
      obtain ⟨xk, l, l1, l2, l3, l4, l5, l6, l7⟩ := arc_inv hls k1
      have k6 : pickL th n gd x (h + 1) l = true := by
        unfold pickL
        rw [← l3, ← l4, k5, l2]
        simp
      simp only [folN]
      cases hf : ls.find? (pickL th n gd x (h + 1)) with
      | none => exact absurd (List.find?_eq_none.1 hf l l1) (by simp [k6])
      | some m =>
        have m1 := List.mem_of_find?_eq_some hf
        have m2 := List.find?_some hf
        unfold pickL at m2
        simp only [Bool.and_eq_true, decide_eq_true_eq] at m2
        obtain ⟨m3, m4⟩ := m2
        have ma := arc_of xk m1 m3
        obtain ⟨o1, o2, o3, o4, o5, o6⟩ := hls m m1
        have mc : ((m.Cost.toNat : Nat) : Int) = m.Cost := by omega
        rw [← mc] at m4
        obtain ⟨e, e1, e2⟩ := (hgd _ _ _ _ _ hp ma).1 m4
        have hp' := hPs _ _ _ _ _ _ hp ma e1 e2
        obtain ⟨us, u1, u2⟩ := ih _ _ hp'
        have em := ent_mod (th := th) (k := x / n) (show m.To.toNat < n by omega)
        refine ⟨entN th n m.To.toNat (x / n) :: us, ?_, ?_⟩
        · rw [e2]
          refine .cons ma e1 (fun y' a' c' q1 q2 q3 => ?_) u1
          have q4 := (hgd _ _ _ _ _ hp q1).2 ⟨c', q2, by omega⟩
          obtain ⟨_, l', p1, p2, p3, p4, p5, p6, p7⟩ := arc_inv hls q1
          have q5 : pickL th n gd x (h + 1) l' = true := by
            unfold pickL
            rw [← p3, ← p4, q4, p2]
            simp
          show entN th n m.To.toNat (x / n) % n ≤ y' % n
          rw [em]
          rcases find_least hs hf l' p1 q5 with rfl | q6
          · rw [p6]; simp
          · omega
        · show m.To :: folN ls th n gd h (entN th n m.To.toNat (x / n)) = _
          rw [u2, List.map_cons, em]
          congr 1
          show m.To = _
          omega
end
end Go.Proofs.Ytgcnlmcpmocbhaa
