import Derived.Test.YtclflkgafjgkfaaS10
set_option linter.unusedSimpArgs false
set_option linter.unusedVariables false
namespace Go.Proofs.Ytclflkgafjgkfaa
open Go Go.Am

theorem cmpI_zero (a b : Int) : cmpI a b = 0 ↔ a = b := by
  unfold cmpI; split
  · omega
  · split <;> omega
theorem cmpI_neg (a b : Int) : cmpI b a = - cmpI a b := by
  unfold cmpI
  split <;> split <;> omega
theorem cmpI_range (a b : Int) : -1 ≤ cmpI a b ∧ cmpI a b ≤ 1 := by
  unfold cmpI; split
  · omega
  · split <;> omega

theorem c52 (a b : Int) : CFun Try.prog 52 [.int .i64 a, .int .i64 b] [] (.int .i64 (cmpI a b)) [] := by
  refine CFun.intro (tr := []) (fz := []) (n := 11) (rs := [.tmp 4]) Try.func52 rfl (by kernel_rfl) rfl rfl mixed (by kernel_rfl) (by simp) (by simp) ?_
  by_cases h : a < b
  · simp [h, cmpI]
  · by_cases h2 : b < a <;> simp [h, h2, cmpI]

def inI (x : Int) : Prop := -9223372036854775808 ≤ x ∧ x ≤ 9223372036854775807

set_option maxHeartbeats 1000000 in
set_option maxRecDepth 10000 in
theorem c53 (a b : Int) (ha : inI a) (hb : inI b) (hab : a < b) : CFun Try.prog 53 [.int .i64 a, .int .i64 b] [] (.bool (decide (900 < b - a))) [] := by
  obtain ⟨a1, a2⟩ := ha
  obtain ⟨b1, b2⟩ := hb
  refine CFun.intro (tr := []) (fz := []) (n := 15) (rs := [.tmp 4]) Try.func53 rfl (by kernel_rfl) rfl rfl mixed (by kernel_rfl) (by simp) (by simp) ?_
  simp
  refine LoopK.intro (tr := []) mixed (by kernel_rfl) (fun k : Nat => [(0, .int .i64 (a + k)), (1, .int .i64 b), (5, .int .i64 k)]) (fun _ => []) (fun k => k ≤ 901 ∧ a + k ≤ b) (fun k => 901 - k) 0 ?_ ?_ ?_
  · exact ⟨by omega, by omega⟩
  · simp
  · rintro k ⟨k1, k2⟩
    by_cases hk : k ≤ 900
    · have hk' : (k : Int) ≤ 900 := by omega
      by_cases e : a + k = b
      · have : ¬ (900 < b - a) := by omega
        simp [hk', e, this]
      · have w1 : IntKind.i64.wrap ((k : Int) + 1) = k + 1 := wrap_in (by omega)
        have w2 : IntKind.i64.wrap (a + k + 1) = a + k + 1 := wrap_in (by omega)
        simp [hk', e, w1, w2]
        exact ⟨k + 1, ⟨by omega, by omega⟩, by omega, by omega, by simp⟩
    · have hk' : ¬ ((k : Int) ≤ 900) := by omega
      have : 900 < b - a := by omega
      simp [hk', this]

theorem wrap_u64 (x : Int) : IntKind.u64.wrap x = x % 18446744073709551616 := rfl
theorem ageGap_abs (a b : Hdr) (ha : inI a.Age) (hb : inI b.Age) : ageGap a b = if a.Age < b.Age then b.Age - a.Age else a.Age - b.Age := by
  obtain ⟨a1, a2⟩ := ha
  obtain ⟨b1, b2⟩ := hb
  unfold ageGap
  simp only [wrap_u64]
  split <;> split <;> omega

theorem orL_two (x y : Int) : orL [x, y] = if x = 0 then y else x := by
  simp only [orL]
  split
  · split
    · rename_i h; exact h.symm
    · rfl
  · rfl

set_option maxHeartbeats 4000000 in
set_option maxRecDepth 10000 in
theorem c17 (a b : Hdr) (ha : inI a.Age) (hb : inI b.Age) : CFun Try.prog 17 [encH a, encH b] [] (.int .i64 (cmpH a b)) [] := by
  refine CFun.intro (tr := []) (fz := []) (n := 59) (rs := [.tmp 4]) Try.func17 rfl (by kernel_rfl) rfl rfl mixed (by kernel_rfl) (by simp) (by simp) ?_
  have h52 : ∀ x y H, CFun Try.prog 52 [.int .i64 x, .int .i64 y] H (.int .i64 (cmpI x y)) H := fun x y H => (c52 x y).up' H rfl rfl
  by_cases e1 : a.Seq = b.Seq
  case neg =>
    have hr : cmpH a b = cmpI a.Seq b.Seq := by
      have : cmpI a.Seq b.Seq ≠ 0 := fun h => e1 ((cmpI_zero _ _).1 h)
      simp [cmpH, orL_two, this]
    rw [hr]
    have b1 : (a.Seq != b.Seq) = true := by simpa using e1
    simp [b1]
    refine ⟨_, _, .inl (h52 _ _ _), by simp, ?_⟩
    simp
  have b1 : (a.Seq != b.Seq) = false := by simpa using e1
  by_cases e2 : a.Sum = b.Sum
  case neg =>
    have hr : cmpH a b = cmpI a.Sum b.Sum := by
      have h0 : cmpI a.Seq b.Seq = 0 := (cmpI_zero _ _).2 e1
      have : cmpI a.Sum b.Sum ≠ 0 := fun h => e2 ((cmpI_zero _ _).1 h)
      simp [cmpH, orL_two, h0, this]
    rw [hr]
    have b2 : (a.Sum != b.Sum) = true := by simpa using e2
    simp [b1, b2]
    refine ⟨_, _, .inl (h52 _ _ _), by simp, ?_⟩
    simp
  have b2 : (a.Sum != b.Sum) = false := by simpa using e2
  have hr : cmpH a b = if a.Age = 3600 ∧ b.Age ≠ 3600 then 1 else if b.Age = 3600 ∧ a.Age ≠ 3600 then -1 else if (if a.Age < b.Age then b.Age - a.Age else a.Age - b.Age) ≤ 900 then 0 else cmpI b.Age a.Age := by
    have h0 : cmpI a.Seq b.Seq = 0 := (cmpI_zero _ _).2 e1
    have h1 : cmpI a.Sum b.Sum = 0 := (cmpI_zero _ _).2 e2
    rw [cmpH, orL_two, h0, h1, ageGap_abs a b ha hb]
    simp
  rw [hr]
  by_cases e3 : a.Age = 3600
  · by_cases e4 : b.Age = 3600
    · simp [b1, b2, e3, e4]
    · have b4 : (b.Age == 3600) = false := by simpa using e4
      have b3 : (a.Age == 3600) = true := by simpa using e3
      simp [b1, b2, b3, b4, e3, e4]
  · have b3 : (a.Age == 3600) = false := by simpa using e3
    by_cases e4 : b.Age = 3600
    · have b4 : (b.Age == 3600) = true := by simpa using e4
      simp [b1, b2, b3, b4, e3, e4]
    · have b4 : (b.Age == 3600) = false := by simpa using e4
      by_cases e5 : a.Age < b.Age
      · have h53 := fun H => (c53 a.Age b.Age ha hb e5).up' H rfl rfl
        have e6 : ¬ b.Age < a.Age := by omega
        simp [b1, b2, b3, b4, e5]
        refine ⟨_, _, .inl (h53 _), by simp, ?_⟩
        by_cases e7 : 900 < b.Age - a.Age
        · have : ¬ (b.Age - a.Age ≤ 900) := by omega
          simp [e7, e3, e4, this, cmpI, e5, e6]
        · have : b.Age - a.Age ≤ 900 := by omega
          simp [e7, e3, e4, this, e6]
      · by_cases e6 : b.Age < a.Age
        · have h53 := fun H => (c53 b.Age a.Age hb ha e6).up' H rfl rfl
          simp [b1, b2, b3, b4, e5, e6]
          refine ⟨_, _, .inl (h53 _), by simp, ?_⟩
          by_cases e7 : 900 < a.Age - b.Age
          · have : ¬ (a.Age - b.Age ≤ 900) := by omega
            simp [e7, e3, e4, this, cmpI, e5, e6]
          · have : a.Age - b.Age ≤ 900 := by omega
            simp [e7, e3, e4, this, e5]
        · have : a.Age - b.Age ≤ 900 := by omega
          simp [b1, b2, b3, b4, e5, e6, e3, e4, this]

set_option maxHeartbeats 2000000 in
set_option maxRecDepth 10000 in
theorem c4 (a b : Hdr) (ha : inI a.Age) (hb : inI b.Age) : CFun Try.prog 4 [encH a, encH b] [] (.bool true) [] := by
  refine CFun.intro (tr := []) (fz := []) (n := 15) (rs := [.tmp 4]) Try.func4 rfl (by kernel_rfl) rfl rfl mixed (by kernel_rfl) (by simp) (by simp) ?_
  have h16 := fun H => (c16 a b).up' H rfl rfl
  have h17 := fun H => (c17 a b ha hb).up' H rfl rfl
  have h15 := fun H => c15.up' H rfl rfl
  generalize cmpH a b = c at h16 h17
  simp
  refine ⟨_, _, .inl (h16 _), by simp, ?_⟩
  simp
  refine ⟨_, _, .inl (h17 _), by simp, ?_⟩
  simp
  refine ⟨_, _, .inl (h15 _), by simp, ?_⟩
  simp

theorem cmpH_neg (a b : Hdr) (ha : inI a.Age) (hb : inI b.Age) : cmpH a b = - cmpH b a := by
  have g1 := ageGap_abs a b ha hb
  have g2 := ageGap_abs b a hb ha
  have hs := cmpI_neg a.Seq b.Seq
  have hm := cmpI_neg a.Sum b.Sum
  have hg := cmpI_neg a.Age b.Age
  simp only [cmpH, orL_two, g1, g2, hs, hm, hg]
  generalize cmpI a.Seq b.Seq = s
  generalize cmpI a.Sum b.Sum = m
  generalize cmpI a.Age b.Age = g
  by_cases c1 : s = 0
  · subst c1
    by_cases c2 : m = 0
    · subst c2
      simp
      by_cases c3 : a.Age = 3600
      · by_cases c4 : b.Age = 3600
        · simp [c3, c4]
        · simp [c3, c4]
      · by_cases c4 : b.Age = 3600
        · simp [c3, c4]
        · simp [c3, c4]
          by_cases c5 : a.Age < b.Age
          · have c6 : ¬ b.Age < a.Age := by omega
            simp [c5, c6]
            split <;> simp
          · by_cases c6 : b.Age < a.Age
            · simp [c5, c6]
              split <;> simp
            · have c7 : a.Age = b.Age := by omega
              simp [c7]
    · simp [c2]
  · simp [c1]
theorem cmpH_self (a : Hdr) (ha : inI a.Age) : cmpH a a = 0 := by
  have := cmpH_neg a a ha ha
  omega
theorem cmpH_seq (a b : Hdr) (h : b.Seq < a.Seq) : cmpH a b = 1 := by
  have : cmpI a.Seq b.Seq = 1 := by unfold cmpI; rw [if_neg (by omega), if_pos h]
  simp [cmpH, orL_two, this]
theorem cmpH_range (a b : Hdr) : -1 ≤ cmpH a b ∧ cmpH a b ≤ 1 := by
  have h1 := cmpI_range a.Seq b.Seq
  have h2 := cmpI_range a.Sum b.Sum
  have h3 := cmpI_range b.Age a.Age
  simp only [cmpH, orL_two]
  repeat' split
  all_goals omega

set_option maxHeartbeats 2000000 in
set_option maxRecDepth 10000 in
theorem c6 (a b : Hdr) (ha : inI a.Age) (hb : inI b.Age) : CFun Try.prog 6 [encH a, encH b] [] (.bool true) [] := by
  refine CFun.intro (tr := []) (fz := []) (n := 35) (rs := [.tmp 4]) Try.func6 rfl (by kernel_rfl) rfl rfl mixed (by kernel_rfl) (by simp) (by simp) ?_
  have h1 := fun H => (c16 a b).up' H rfl rfl
  have h2 := fun H => (c16 b a).up' H rfl rfl
  have h3 := fun H => (c16 a a).up' H rfl rfl
  have h15 := fun H => c15.up' H rfl rfl
  rw [cmpH_self a ha] at h3
  have hn := cmpH_neg a b ha hb
  have hr := cmpH_range b a
  have hs := cmpH_seq a b
  generalize cmpH b a = d at h2 hn hr
  rw [hn] at h1 hs
  have w : IntKind.i64.wrap (-d) = -d := wrap_in (by omega)
  simp
  refine ⟨_, _, .inl (h1 _), by simp, ?_⟩
  simp
  refine ⟨_, _, .inl (h2 _), by simp, ?_⟩
  simp [w]
  refine ⟨_, _, .inl (h3 _), by simp, ?_⟩
  by_cases e : a.Seq ≤ b.Seq
  · simp [e]
    refine ⟨_, _, .inl (h15 _), by simp, ?_⟩
    simp
  · have hd := hs (by omega)
    rw [hd] at h1
    simp [e]
    refine ⟨_, _, .inl (h1 _), by simp, ?_⟩
    simp
    refine ⟨_, _, .inl (h15 _), by simp, ?_⟩
    simp
end Go.Proofs.Ytclflkgafjgkfaa
