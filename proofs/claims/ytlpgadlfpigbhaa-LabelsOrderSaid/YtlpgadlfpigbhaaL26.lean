import Derived.Test.YtlpgadlfpigbhaaL25
set_option linter.unusedSimpArgs false
set_option linter.unusedVariables false
namespace Go.Proofs.Ytlpgadlfpigbhaa
open Go Go.Am

theorem cmpP_iff (p q : Pfx) : (0 < cmpP p q ↔ q.Addr < p.Addr ∨ (q.Addr = p.Addr ∧ q.Len < p.Len)) ∧ (cmpP p q = 0 ↔ p.Addr = q.Addr ∧ p.Len = q.Len) := by
  have e : p = q ↔ p.Addr = q.Addr ∧ p.Len = q.Len := by cases p; cases q; simp
  have e2 : cmpP p q = if p.Addr < q.Addr ∨ p.Addr = q.Addr ∧ p.Len < q.Len then -1 else if p = q then 0 else 1 := rfl
  by_cases h1 : p.Addr < q.Addr ∨ p.Addr = q.Addr ∧ p.Len < q.Len
  · rw [if_pos h1] at e2
    rw [e2]
    omega
  · rw [if_neg h1] at e2
    by_cases h2 : p = q
    · rw [if_pos h2] at e2
      rw [e2]
      rw [e] at h2
      omega
    · rw [if_neg h2] at e2
      rw [e2]
      rw [e] at h2
      omega
theorem grB_iff (a b : Bnd) : grB a b = true ↔ b.P.Addr < a.P.Addr ∨ (b.P.Addr = a.P.Addr ∧ (b.P.Len < a.P.Len ∨ (b.P.Len = a.P.Len ∧ b.Peer < a.Peer))) := by
  obtain ⟨h1, h2⟩ := cmpP_iff a.P b.P
  simp only [grB, Bool.or_eq_true, Bool.and_eq_true, decide_eq_true_eq, h1, h2]
  omega
theorem isB_iff (b x : Bnd) : isB b.P b.Peer x = true ↔ (x.P.Addr = b.P.Addr ∧ x.P.Len = b.P.Len) ∧ x.Peer = b.Peer := by
  have e : x.P = b.P ↔ x.P.Addr = b.P.Addr ∧ x.P.Len = b.P.Len := by cases h : x.P; cases h' : b.P; simp
  simp [isB, e]

def asc (l : List Bnd) : Prop := l.Pairwise (fun a b => grB b a = true)

theorem rbind_asc (b : Bnd) : ∀ q : List Bnd, asc q → (∀ x ∈ q, isB b.P b.Peer x = false) → asc (rbind b q false) ∧ (∀ y ∈ rbind b q false, y = b ∨ y ∈ q) ∧ (rbind b q false).find? (isB b.P b.Peer) = some b ∧
    ((rbind b q false).filter fun x => !isB b.P b.Peer x) = q ∧ (rbind b q false).length = q.length + 1 := by
  have hb : isB b.P b.Peer b = true := by simp [isB]
  intro q
  induction q with
  | nil => intro _ _; exact ⟨by simp [rbind, asc], by simp [rbind], by simp [rbind, hb], by simp [rbind, hb], rfl⟩
  | cons x xs ih =>
    intro h hn
    obtain ⟨h1, h2⟩ := List.pairwise_cons.1 h
    have hx := hn x (by simp)
    have hxs : (xs.filter fun x => !isB b.P b.Peer x) = xs := List.filter_eq_self.2 fun y hy => by simp [hn y (by simp [hy])]
    obtain ⟨i1, i2, i3, i4, i5⟩ := ih h2 fun y hy => hn y (by simp [hy])
    by_cases g : grB x b = true
    · have e : rbind b (x :: xs) false = b :: x :: xs := by simp [rbind, g, rbind_true]
      rw [e]
      refine ⟨List.pairwise_cons.2 ⟨fun y hy => ?_, h⟩, fun y hy => by simpa using hy, by simp [hb], by simp [hb, hx, hxs], by simp⟩
      rcases List.mem_cons.1 hy with rfl | hy
      · exact g
      · have a := (grB_iff _ _).1 g
        have c := (grB_iff _ _).1 (h1 y hy)
        exact (grB_iff _ _).2 (by omega)
    · have e : rbind b (x :: xs) false = x :: rbind b xs false := by simp [rbind, g]
      rw [e]
      have gx : grB b x = true := by
        have a : ¬ _ := fun h => g ((grB_iff _ _).2 h)
        have c : ¬ _ := fun h => by have := (isB_iff b x).2 h; rw [hx] at this; cases this
        exact (grB_iff _ _).2 (by omega)
      refine ⟨List.pairwise_cons.2 ⟨fun y hy => ?_, i1⟩, fun y hy => ?_, by simp [hx, i3], by simp [hx, i4], by simp [i5]⟩
      · rcases i2 y hy with rfl | hy
        · exact gx
        · exact h1 y hy
      · rcases List.mem_cons.1 hy with rfl | hy
        · exact .inr (by simp)
        · rcases i2 y hy with rfl | hy
          · exact .inl rfl
          · exact .inr (by simp [hy])

theorem delL_none (l : List Bnd) (p : Pfx) (peer : Int) : ∀ x ∈ delL l p peer, isB p peer x = false := by
  intro x hx
  have := (List.mem_filter.1 hx).2
  simpa using this

/-- Bind keeps an ascending list ascending, what it bound is found, and Unbind removes it. -/
theorem bind_asc (l : List Bnd) (b : Bnd) (h : asc l) : asc (bindL l b) ∧ findB (bindL l b) b.P b.Peer = (b.Label, true) ∧ (delL (bindL l b) b.P b.Peer).length + 1 = (bindL l b).length ∧ findB (delL (bindL l b) b.P b.Peer) b.P b.Peer = (0, false) := by
  have hq : asc (delL l b.P b.Peer) := List.Pairwise.filter _ h
  obtain ⟨i1, _, i3, i4, i5⟩ := rbind_asc b (delL l b.P b.Peer) hq (delL_none _ _ _)
  rw [bind_same] at i1 i3 i4 i5
  refine ⟨i1, by simp [findB, i3], ?_, ?_⟩
  · show ((bindL l b).filter fun x => !isB b.P b.Peer x).length + 1 = _
    rw [i4, i5]
  · have : (delL (bindL l b) b.P b.Peer).find? (isB b.P b.Peer) = none := List.find?_eq_none.2 fun x hx => by simp [delL_none _ _ _ x hx]
    simp [findB, this]

set_option maxHeartbeats 2000000 in
set_option maxRecDepth 10000 in
theorem c7 (l : List Bnd) (n : Nat) (hn : l.length = n) (b : Bnd) : CFun Try.prog 7 [.sl 4 (l.map encB) .sh, encB b] [] (.bool true) [] := by
  refine CFun.intro (tr := []) (fz := []) (n := 101) (rs := [.tmp 4]) Try.func7 rfl (by kernel_rfl) rfl rfl mixed (by kernel_rfl) (by simp) (by simp) ?_
  have hc : (l.length : Int) = n := by omega
  have H8 := c8.up' [cellsB b] rfl rfl
  by_cases h2 : (100 : Int) < n
  · simp [hc, h2]
    refine ⟨_, _, .inl H8, trivial, ?_⟩
    simp
  simp [hc, h2]
  refine LoopK.intro (tr := []) mixed (by kernel_rfl) (fun q : Nat × List Bnd => [(3, .ptr 0 0), (5, .sl 4 (q.2.map encB) .sh), (19, .sl 4 (l.map encB) .sh), (20, .int .i64 n), (21, .int .i64 q.1)]) (fun _ => [cellsB b])
    (fun q => q.1 ≤ n ∧ asc q.2 ∧ q.2.length ≤ q.1) (fun q => n - q.1) (0, []) ?_ ?_ ?_
  · exact ⟨by simp, List.Pairwise.nil, by simp⟩
  · simp [cellsB]
  · rintro ⟨i, cur⟩ ⟨h1, h3, h4⟩
    simp only at h1 h3 h4
    by_cases hi : i < n
    · obtain ⟨x, hx, _⟩ := get_drop (l := l) (i := i) (by omega)
      have w1 : IntKind.i64.wrap ((i : Int) + 1) = i + 1 := wrap_in (by omega)
      have h26 := (c26 cur _ rfl (by omega) x).up' [cellsB b, cellsB x] rfl rfl
      have hb := bind_len cur x
      have ha := (bind_asc cur x h3).1
      simp only [cellsB] at h26
      clear hn hc
      generalize bindL cur x = q at h26 hb ha
      simp [hi, hx, cellsB]
      refine ⟨_, _, .inl (by simpa using h26), trivial, ?_⟩
      simp [w1]
      exact ⟨i + 1, q, ⟨by omega, ha, by omega⟩, by omega, rfl, by simp⟩
    · have h26 := (c26 cur _ rfl (by omega) b).up' [cellsB b] rfl rfl
      have hb := bind_len cur b
      obtain ⟨ha, hf, hd, hg⟩ := bind_asc cur b h3
      have h21a := (c21 (bindL cur b) (by omega) b.P b.Peer).up' [cellsB b] rfl rfl
      have h23 := (c23 (bindL cur b) _ rfl (by omega) b.P b.Peer).up' [cellsB b] rfl rfl
      have h21b := (c21 (delL (bindL cur b) b.P b.Peer) (by omega) b.P b.Peer).up' [cellsB b] rfl rfl
      rw [hf] at h21a
      rw [hg] at h21b
      have hgone : decide ((delL (bindL cur b) b.P b.Peer).length < (bindL cur b).length) = true := by simp; omega
      rw [hgone] at h23
      clear hf hg hgone
      generalize delL (bindL cur b) b.P b.Peer = d at h23 h21b hd
      generalize bindL cur b = q at h26 hb ha h21a h23 hd
      obtain ⟨m, hm⟩ : ∃ m, q.length = m := ⟨_, rfl⟩
      have hqc : (q.length : Int) = m := by omega
      have hdc : (d.length : Int) = m - 1 := by omega
      have hm1 : 1 ≤ m := by omega
      have hmb : m ≤ 101 := by omega
      clear hd hb
      simp only [cellsB] at h26 h21a h23 h21b H8
      simp [hi, cellsB]
      refine ⟨_, _, .inl (by simpa using h26), trivial, ?_⟩
      simp
      refine LoopK.intro (tr := []) mixed (by kernel_rfl) (fun k : Nat => [(3, .ptr 0 0), (5, .sl 4 (q.map encB) .sh), (8, .int .i64 k)]) (fun _ => [cellsB b]) (fun k => 1 ≤ k ∧ k ≤ m) (fun k => m - k) 1 ?_ ?_ ?_
      · exact ⟨Nat.le_refl _, hm1⟩
      · simp [cellsB]
      · rintro k ⟨k1, k2⟩
        by_cases hk : k < m
        · obtain ⟨x, hx, _⟩ := get_drop (l := q) (i := k) (by omega)
          obtain ⟨y, hy, _⟩ := get_drop (l := q) (i := k - 1) (by omega)
          have w1 : IntKind.i64.wrap ((k : Int) + 1) = k + 1 := wrap_in (by omega)
          have w2 : IntKind.i64.wrap ((k : Int) - 1) = ((k - 1 : Nat) : Int) := by
            rw [wrap_in (by omega)]; omega
          have hxy : grB x y = true := by
            have := List.pairwise_iff_getElem.1 ha (k - 1) k (by omega) (by omega) (by omega)
            rw [List.getElem?_eq_getElem (by omega)] at hx hy
            injection hx with hx
            injection hy with hy
            rwa [hx, hy] at this
          have h28 := (c28 x y).up' [cellsB b] rfl rfl
          rw [hxy] at h28
          simp only [cellsB] at h28
          clear hm
          simp [hqc, hk, hx, hy, w2, cellsB]
          refine ⟨_, _, .inl (by simpa using h28), by simp, ?_⟩
          simp [w1]
          exact ⟨k + 1, ⟨by omega, by omega⟩, by omega, by simp⟩
        · have w3 : IntKind.i64.wrap ((m : Int) - 1) = m - 1 := wrap_in (by omega)
          clear hm
          simp [hqc, hk, cellsB]
          refine ⟨_, _, .inl (by simpa using h21a), trivial, ?_⟩
          simp
          refine ⟨_, _, .inl (by simpa using h23), trivial, ?_⟩
          simp
          refine ⟨_, _, .inl (by simpa using h21b), trivial, ?_⟩
          simp
          refine ⟨_, _, .inl H8, trivial, ?_⟩
          simp [hqc, hdc, w3]
end Go.Proofs.Ytlpgadlfpigbhaa
