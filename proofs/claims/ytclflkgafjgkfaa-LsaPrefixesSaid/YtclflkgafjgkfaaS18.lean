import Derived.Test.YtclflkgafjgkfaaS17
set_option linter.unusedSimpArgs false
set_option linter.unusedVariables false
namespace Go.Proofs.Ytclflkgafjgkfaa
open Go Go.Am

set_option maxHeartbeats 2000000 in
set_option maxRecDepth 10000 in
theorem c64 (l q : List Lnk) (n : Nat) (hn : l.length = n) (m : Nat) (hm : q.length = m) (hlen : n < 8796093022208) : CFun Try.prog 64 [.sl 4 (l.map encK) .sh, .sl 4 (q.map encK) .sh] [] (.bool (decide (l = q))) [] := by
  refine CFun.intro (tr := []) (fz := []) (n := 26) (rs := [.tmp 4]) Try.func64 rfl (by kernel_rfl) rfl rfl mixed (by kernel_rfl) (by simp) (by simp) ?_
  by_cases hnm : n = m
  case neg =>
    have : l ≠ q := by rintro rfl; exact hnm (hn.symm.trans hm)
    have hnm' : ¬ (n : Int) = m := by omega
    simp [hn, hm, hnm', this]
  subst hnm
  simp [hn, hm]
  refine LoopK.intro (tr := []) mixed (by kernel_rfl) (fun i : Nat => [(0, .sl 4 (l.map encK) .sh), (1, .sl 4 (q.map encK) .sh), (12, .int .i64 n), (13, .int .i64 i)]) (fun _ => []) (fun i => i ≤ n ∧ (l = q ↔ l.drop i = q.drop i)) (fun i => n - i) 0 ?_ ?_ ?_
  · simp
  · simp
  · rintro i ⟨h1, h2⟩
    by_cases hi : i < n
    · obtain ⟨r, hx, hd⟩ := get_drop (l := l) (i := i) (by omega)
      obtain ⟨t, hy, he⟩ := get_drop (l := q) (i := i) (by omega)
      rw [hd, he, List.cons.injEq] at h2
      have w1 : IntKind.i64.wrap ((i : Int) + 1) = i + 1 := wrap_in (by omega)
      have hext : r = t ↔ r.Kind = t.Kind ∧ r.ID = t.ID ∧ r.Data = t.Data ∧ r.Cost = t.Cost := by
        cases r; cases t; simp
      clear hn hm hd he
      by_cases hrt : r = t
      · subst hrt
        simp [hi, hx, hy, w1]
        exact ⟨i + 1, ⟨by omega, by simpa using h2⟩, by omega, by simp⟩
      · have hne : ¬ (l = q) := by rw [h2]; simp [hrt]
        rw [hext] at hrt
        by_cases b1 : r.Kind = t.Kind <;> by_cases b2 : r.ID = t.ID <;> by_cases b3 : r.Data = t.Data <;> by_cases b4 : r.Cost = t.Cost <;> simp [b1, b2, b3, b4] at hrt <;>
          simp [hi, hx, hy, b1, b2, b3, b4, hne]
    · have e : l.drop i = [] := List.drop_of_length_le (by omega)
      have e' : q.drop i = [] := List.drop_of_length_le (by omega)
      rw [e, e'] at h2
      simp [hi, h2]
set_option maxHeartbeats 2000000 in
set_option maxRecDepth 10000 in
theorem c65 (l q : List Int) (n : Nat) (hn : l.length = n) (m : Nat) (hm : q.length = m) (hlen : n < 140737488355328) : CFun Try.prog 65 [.sl 1 (l.map enc32) .sh, .sl 1 (q.map enc32) .sh] [] (.bool (decide (l = q))) [] := by
  refine CFun.intro (tr := []) (fz := []) (n := 26) (rs := [.tmp 4]) Try.func65 rfl (by kernel_rfl) rfl rfl mixed (by kernel_rfl) (by simp) (by simp) ?_
  by_cases hnm : n = m
  case neg =>
    have : l ≠ q := by rintro rfl; exact hnm (hn.symm.trans hm)
    have hnm' : ¬ (n : Int) = m := by omega
    simp [hn, hm, hnm', this]
  subst hnm
  simp [hn, hm]
  refine LoopK.intro (tr := []) mixed (by kernel_rfl) (fun i : Nat => [(0, .sl 1 (l.map enc32) .sh), (1, .sl 1 (q.map enc32) .sh), (12, .int .i64 n), (13, .int .i64 i)]) (fun _ => []) (fun i => i ≤ n ∧ (l = q ↔ l.drop i = q.drop i)) (fun i => n - i) 0 ?_ ?_ ?_
  · simp
  · simp
  · rintro i ⟨h1, h2⟩
    by_cases hi : i < n
    · obtain ⟨r, hx, hd⟩ := get_drop (l := l) (i := i) (by omega)
      obtain ⟨t, hy, he⟩ := get_drop (l := q) (i := i) (by omega)
      rw [hd, he, List.cons.injEq] at h2
      have w1 : IntKind.i64.wrap ((i : Int) + 1) = i + 1 := wrap_in (by omega)
      clear hn hm hd he
      by_cases hrt : r = t
      · subst hrt
        simp [hi, hx, hy, w1]
        exact ⟨i + 1, ⟨by omega, by simpa using h2⟩, by omega, by simp⟩
      · have hne : ¬ (l = q) := by rw [h2]; simp [hrt]
        simp [hi, hx, hy, hrt, hne]
    · have e : l.drop i = [] := List.drop_of_length_le (by omega)
      have e' : q.drop i = [] := List.drop_of_length_le (by omega)
      rw [e, e'] at h2
      simp [hi, h2]

def sameB (a b : Lsa) : Bool := decide (keyH a.H = keyH b.H ∧ a.Border = b.Border ∧ a.Boundary = b.Boundary ∧ a.Links = b.Links ∧ a.Att = b.Att ∧ a.Cost = b.Cost ∧ a.Second = b.Second ∧ a.Fwd = b.Fwd ∧ a.Tag = b.Tag)
theorem keyH_iff (a b : Hdr) : keyH a = keyH b ↔ a.Ty = b.Ty ∧ a.ID = b.ID ∧ a.Len = b.Len ∧ a.Router = b.Router := by simp [keyH]
/-- The same of the key, cell by cell. -/
def keyE (a b : Hdr) : Bool := (a.Ty == b.Ty) && ((a.ID == b.ID) && ((a.Len == b.Len) && (a.Router == b.Router)))
theorem keyE_iff (a b : Hdr) : keyE a b = true ↔ keyH a = keyH b := by
  rw [keyH_iff]; simp [keyE]

set_option maxHeartbeats 4000000 in
set_option maxRecDepth 10000 in
theorem c29 (a b : Lsa) (hl : a.Links.length < 8796093022208) (ha : a.Att.length < 140737488355328) : CFun Try.prog 29 [encA a, encA b] [] (.bool (sameB a b)) [] := by
  refine CFun.intro (tr := []) (fz := []) (n := 68) (rs := [.tmp 4]) Try.func29 rfl (by kernel_rfl) rfl rfl mixed (by kernel_rfl) (by simp) (by simp) ?_
  have h25a := fun H => (c25 a.H).up' H rfl rfl
  have h25b := fun H => (c25 b.H).up' H rfl rfl
  have h64 := fun H => (c64 a.Links b.Links _ rfl _ rfl hl).up' H rfl rfl
  have h65 := fun H => (c65 a.Att b.Att _ rfl _ rfl ha).up' H rfl rfl
  simp only [keyH, encY, cellsY] at h25a h25b
  simp
  refine ⟨_, _, .inl (h25a _), by simp, ?_⟩
  simp
  refine ⟨_, _, .inl (h25b _), by simp, ?_⟩
  by_cases e1 : keyH a.H = keyH b.H
  case neg =>
    have hf : sameB a b = false := by simp [sameB, e1]
    have hk : keyE a.H b.H = false := by
      cases h : keyE a.H b.H
      · rfl
      · exact (e1 ((keyE_iff _ _).1 h)).elim
    simp only [keyE] at hk
    simp [hf, hk]
  have hk : keyE a.H b.H = true := (keyE_iff _ _).2 e1
  simp only [keyE] at hk
  simp [hk]
  by_cases e2 : a.Border = b.Border
  case neg => rw [if_neg e2]; simp [sameB, e2]
  rw [if_pos e2]
  by_cases e3 : a.Boundary = b.Boundary
  case neg => rw [if_neg e3]; simp [sameB, e3]
  rw [if_pos e3]
  refine ⟨_, _, .inl (h64 _), by simp, ?_⟩
  by_cases e4 : a.Links = b.Links
  case neg => simp [sameB, e4]
  rw [decide_eq_true e4]
  simp
  refine ⟨_, _, .inl (h65 _), by simp, ?_⟩
  by_cases e5 : a.Att = b.Att
  case neg => simp [sameB, e5]
  rw [decide_eq_true e5]
  by_cases e6 : a.Cost = b.Cost
  case neg => simp [sameB, e6]
  have b6 : (a.Cost == b.Cost) = true := by simpa using e6
  by_cases e7 : a.Second = b.Second
  case neg =>
    have b7 : (a.Second == b.Second) = false := by simpa using e7
    simp [b6, b7, sameB, e7]
  have b7 : (a.Second == b.Second) = true := by simpa using e7
  by_cases e8 : a.Fwd = b.Fwd
  case neg =>
    have b8 : (a.Fwd == b.Fwd) = false := by simpa using e8
    simp [b6, b7, b8, sameB, e8]
  have b8 : (a.Fwd == b.Fwd) = true := by simpa using e8
  by_cases e9 : a.Tag = b.Tag
  · have b9 : (a.Tag == b.Tag) = true := by simpa using e9
    simp [b6, b7, b8, b9, sameB, e1, e2, e3, e4, e5, e6, e7, e8, e9]
  · have b9 : (a.Tag == b.Tag) = false := by simpa using e9
    simp [b6, b7, b8, b9, sameB, e9]

set_option maxHeartbeats 4000000 in
set_option maxRecDepth 10000 in
theorem c30 (a b : Lsa) (hl : a.Links.length < 8796093022208) (ha : a.Att.length < 140737488355328) : CFun Try.prog 30 [encA a, encA b] [] (.bool (sameB a b)) [] := by
  refine CFun.intro (tr := []) (fz := []) (n := 110) (rs := [.tmp 4]) Try.func30 rfl (by kernel_rfl) rfl rfl mixed (by kernel_rfl) (by simp) (by simp) ?_
  have h26a := fun H => (c26 a.H).up' H rfl rfl
  have h26b := fun H => (c26 b.H).up' H rfl rfl
  simp only [keyH, encY, cellsY] at h26a h26b
  simp
  refine ⟨_, _, .inl (h26a _), by simp, ?_⟩
  simp
  refine ⟨_, _, .inl (h26b _), by simp, ?_⟩
  by_cases e1 : keyH a.H = keyH b.H
  case neg =>
    have hf : sameB a b = false := by simp [sameB, e1]
    have hk : keyE a.H b.H = false := by
      cases h : keyE a.H b.H
      · rfl
      · exact (e1 ((keyE_iff _ _).1 h)).elim
    simp only [keyE] at hk
    simp [hf, hk]
  have hk : keyE a.H b.H = true := (keyE_iff _ _).2 e1
  simp only [keyE] at hk
  simp [hk]
  by_cases e2 : a.Border = b.Border
  case neg => rw [if_neg e2]; simp [sameB, e2]
  rw [if_pos e2]
  by_cases e3 : a.Boundary = b.Boundary
  case neg => rw [if_neg e3]; simp [sameB, e3]
  rw [if_pos e3]
  by_cases e6 : a.Cost = b.Cost
  case neg => rw [if_neg e6]; simp [sameB, e6]
  rw [if_pos e6]
  by_cases e7 : a.Second = b.Second
  case neg => rw [if_neg e7]; simp [sameB, e7]
  rw [if_pos e7]
  by_cases e8 : a.Fwd = b.Fwd
  case neg => rw [if_neg e8]; simp [sameB, e8]
  rw [if_pos e8]
  by_cases e9 : a.Tag = b.Tag
  case neg => rw [if_neg e9]; simp [sameB, e9]
  rw [if_pos e9]
  by_cases l1 : (a.Links.length : Int) = b.Links.length
  case neg =>
    have hne : a.Links ≠ b.Links := fun h => l1 (by rw [h])
    rw [if_neg l1]; simp [sameB, hne]
  rw [if_pos l1]
  by_cases l2 : (a.Att.length : Int) = b.Att.length
  case neg =>
    have hne : a.Att ≠ b.Att := fun h => l2 (by rw [h])
    rw [if_neg l2]; simp [sameB, hne]
  rw [if_pos l2]
  have hS : sameB a b = decide (a.Links = b.Links ∧ a.Att = b.Att) := by simp [sameB, e1, e2, e3, e6, e7, e8, e9]
  rw [hS]
  obtain ⟨n, hn⟩ : ∃ n, a.Links.length = n := ⟨_, rfl⟩
  obtain ⟨m, hm⟩ : ∃ m, a.Att.length = m := ⟨_, rfl⟩
  have hcn : (a.Links.length : Int) = n := by omega
  have hcm : (a.Att.length : Int) = m := by omega
  refine LoopK.intro (tr := []) mixed (by kernel_rfl) (fun i : Nat => [(2, .ptr 0 0), (3, .ptr 1 0), (5, .int .i64 i)]) (fun _ => [cellsA a, cellsA b]) (fun i => i ≤ n ∧ (a.Links = b.Links ↔ a.Links.drop i = b.Links.drop i)) (fun i => n - i) 0 ?_ ?_ ?_
  · simp
  · simp
  · rintro i ⟨h1, h2⟩
    by_cases hi : i < n
    · obtain ⟨r, hx, hd⟩ := get_drop (l := a.Links) (i := i) (by omega)
      obtain ⟨t, hy, he⟩ := get_drop (l := b.Links) (i := i) (by omega)
      rw [hd, he, List.cons.injEq] at h2
      have w1 : IntKind.i64.wrap ((i : Int) + 1) = i + 1 := wrap_in (by omega)
      have hext : r = t ↔ r.Kind = t.Kind ∧ r.ID = t.ID ∧ r.Data = t.Data ∧ r.Cost = t.Cost := by
        cases r; cases t; simp
      clear hd he
      by_cases hrt : r = t
      · subst hrt
        simp [hcn, hi, hx, hy, w1]
        exact ⟨i + 1, ⟨by omega, by simpa using h2⟩, by omega, by simp⟩
      · have hne : ¬ (a.Links = b.Links) := by rw [h2]; simp [hrt]
        rw [hext] at hrt
        by_cases b1 : r.Kind = t.Kind <;> by_cases b2 : r.ID = t.ID <;> by_cases b3 : r.Data = t.Data <;> by_cases b4 : r.Cost = t.Cost <;> simp [b1, b2, b3, b4] at hrt <;>
          simp [hcn, hi, hx, hy, b1, b2, b3, b4, hne]
    · have e : a.Links.drop i = [] := List.drop_of_length_le (by omega)
      have e' : b.Links.drop i = [] := List.drop_of_length_le (by omega)
      rw [e, e'] at h2
      have hL : a.Links = b.Links := h2.2 rfl
      simp [hcn, hi]
      refine LoopK.intro (tr := []) mixed (by kernel_rfl) (fun j : Nat => [(2, .ptr 0 0), (3, .ptr 1 0), (6, .int .i64 j)]) (fun _ => [cellsA a, cellsA b]) (fun j => j ≤ m ∧ (a.Att = b.Att ↔ a.Att.drop j = b.Att.drop j)) (fun j => m - j) 0 ?_ ?_ ?_
      · simp
      · simp
      · rintro j ⟨j1, j2⟩
        by_cases hj : j < m
        · obtain ⟨r, hx, hd⟩ := get_drop (l := a.Att) (i := j) (by omega)
          obtain ⟨t, hy, he⟩ := get_drop (l := b.Att) (i := j) (by omega)
          rw [hd, he, List.cons.injEq] at j2
          have w1 : IntKind.i64.wrap ((j : Int) + 1) = j + 1 := wrap_in (by omega)
          clear hd he
          by_cases hrt : r = t
          · subst hrt
            simp [hcm, hj, hx, hy, w1]
            exact ⟨j + 1, ⟨by omega, by simpa using j2⟩, by omega, by simp⟩
          · have hne : ¬ (a.Att = b.Att) := by rw [j2]; simp [hrt]
            simp [hcm, hj, hx, hy, hrt, hne]
        · have e : a.Att.drop j = [] := List.drop_of_length_le (by omega)
          have e' : b.Att.drop j = [] := List.drop_of_length_le (by omega)
          rw [e, e'] at j2
          have hA : a.Att = b.Att := j2.2 rfl
          simp [hcm, hj]
          exact ⟨hL, hA⟩
end Go.Proofs.Ytclflkgafjgkfaa
