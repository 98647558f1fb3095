import Derived.Test.YtclflkgafjgkfaaS19
set_option linter.unusedSimpArgs false
set_option linter.unusedVariables false
namespace Go.Proofs.Ytclflkgafjgkfaa
open Go Go.Am

@[simp] def encP (p : Int × Int) : AVal := .agg [.int .u32 p.1, .int .i64 p.2]
set_option maxRecDepth 10000 in
theorem c91 (a n : Int) : CFun Try.prog 91 [.int .u32 a, .int .i64 n] [] (encP (keepI a n, n)) [] := by
  refine CFun.intro (tr := []) (fz := []) (n := 10) (rs := [.cell 4 50]) Try.func91 rfl (by kernel_rfl) rfl rfl mixed (by kernel_rfl) (by simp) (by simp) ?_
  simp
  refine ⟨_, _, .inl ((c94 a n).up' _ rfl rfl), by simp, ?_⟩
  simp
def mkP (a n : Int) : (Int × Int) × Int := if n < 0 ∨ 32 < n then ((0, 0), 5) else ((keepI a n, n), 0)
set_option maxRecDepth 10000 in
theorem c67 (a n : Int) : CFun Try.prog 67 [.int .u32 a, .int .i64 n] [] (.tup [encP (mkP a n).1, .int .i64 (mkP a n).2]) [] := by
  refine CFun.intro (tr := []) (fz := []) (n := 16) (rs := [.cell 4 50, .tmp 5]) Try.func67 rfl (by kernel_rfl) rfl rfl mixed (by kernel_rfl) (by simp) (by simp) ?_
  by_cases h1 : n < 0
  · simp [h1, mkP]
  · by_cases h2 : 32 < n
    · simp [h1, h2, mkP]
    · simp [h1, h2]
      refine ⟨_, _, .inl ((c91 a n).up' _ rfl rfl), by simp, ?_⟩
      simp [h1, h2, mkP]

def pfxL (l : Lsa) : (Int × Int) × Bool := if hasP l.H.Ty = false then ((0, 0), false) else if l.H.Len < 0 ∨ 32 < l.H.Len then ((0, 0), false) else ((keepI l.H.ID l.H.Len, l.H.Len), true)
set_option maxHeartbeats 1000000 in
set_option maxRecDepth 10000 in
theorem c31 (l : Lsa) : CFun Try.prog 31 [encA l] [] (.tup [encP (pfxL l).1, .bool (pfxL l).2]) [] := by
  refine CFun.intro (tr := []) (fz := []) (n := 25) (rs := [.cell 2 50, .tmp 3]) Try.func31 rfl (by kernel_rfl) rfl rfl mixed (by kernel_rfl) (by simp) (by simp) ?_
  have h66 := fun H => (c66 l.H.Ty).up' H rfl rfl
  have h67 := fun H => (c67 l.H.ID l.H.Len).up' H rfl rfl
  rw [pfxL]
  generalize hasP l.H.Ty = hp at h66 ⊢
  simp
  refine ⟨_, _, .inl (h66 _), by simp, ?_⟩
  cases hp
  · simp
  · simp
    refine ⟨_, _, .inl (h67 _), by simp, ?_⟩
    by_cases h1 : l.H.Len < 0 ∨ 32 < l.H.Len
    · have e : mkP l.H.ID l.H.Len = ((0, 0), 5) := by rw [mkP, if_pos h1]
      simp [e, h1]
    · have e : mkP l.H.ID l.H.Len = ((keepI l.H.ID l.H.Len, l.H.Len), 0) := by rw [mkP, if_neg h1]
      simp [e, h1]

theorem chkA_head {l : Lsa} (h : chkA l = 0) : chkH l.H = 0 := by
  unfold chkA at h
  split at h
  · exact h
  · rename_i h1; simpa using h1
theorem head_ok {h : Hdr} (hc : chkH h = 0) : (1 ≤ h.Ty ∧ h.Ty ≤ 5) ∧ (0 ≤ h.Len ∧ h.Len ≤ 32) ∧ (h.Ty = 3 ∨ h.Ty = 5 → validP h.ID h.Len = true) := by
  unfold chkH at hc
  by_cases p1 : inR h.Ty 1 5 = false
  · rw [if_pos p1] at hc; cases hc
  rw [if_neg p1] at hc
  by_cases p2 : h.Router = 0 ∨ inR h.Seq 1 2147483647 = false ∨ inR h.Age 0 3600 = false ∨ inR h.Sum 0 65535 = false ∨ inR h.Len 0 (if hasP h.Ty = true then 32 else 0) = false
  · rw [if_pos p2] at hc; cases hc
  rw [if_neg p2] at hc
  by_cases p3 : h.Ty = 1 ∧ h.ID ≠ h.Router
  · rw [if_pos p3] at hc; cases hc
  rw [if_neg p3] at hc
  by_cases p4 : (h.Ty = 3 ∨ h.Ty = 5) ∧ validP h.ID h.Len = false
  · rw [if_pos p4] at hc; cases hc
  have a1 : inR h.Ty 1 5 = true := by simpa using p1
  rw [inR_iff] at a1
  have a2 : inR h.Len 0 (if hasP h.Ty = true then 32 else 0) = true := by
    cases hq : inR h.Len 0 (if hasP h.Ty = true then 32 else 0)
    · exact (p2 (.inr (.inr (.inr (.inr hq))))).elim
    · rfl
  rw [inR_iff] at a2
  refine ⟨a1, ⟨a2.1, by split at a2 <;> omega⟩, fun ht => ?_⟩
  cases hq : validP h.ID h.Len
  · exact (p4 ⟨ht, hq⟩).elim
  · rfl

set_option maxHeartbeats 1000000 in
set_option maxRecDepth 10000 in
theorem c32 (l : Lsa) (ok : okA l) (hc : chkA l = 0) : CFun Try.prog 32 [encA l] [] (.tup [encP (pfxL l).1, .bool (pfxL l).2]) [] := by
  refine CFun.intro (tr := []) (fz := []) (n := 31) (rs := [.cell 2 50, .tmp 3]) Try.func32 rfl (by kernel_rfl) rfl rfl mixed (by kernel_rfl) (by simp) (by simp) ?_
  obtain ⟨k1, k2, k3⟩ := head_ok (chkA_head hc)
  obtain ⟨A, hA⟩ : ∃ A : Nat, l.H.ID = A := ⟨l.H.ID.toNat, by have := ok.1.2.1.1; omega⟩
  have hA2 : A < 2 ^ 32 := by have := ok.1.2.1.2; omega
  obtain ⟨m, hm⟩ : ∃ m : Nat, l.H.Len = m := ⟨l.H.Len.toNat, by omega⟩
  have hm2 : m ≤ 32 := by omega
  have h68 : ∀ H, CFun Try.prog 68 [.int .u32 l.H.ID, .int .i64 l.H.Len] H (.int .u32 (keepI l.H.ID l.H.Len)) H := fun H => by
    rw [hA, hm]; exact (c68 A hA2 m hm2).up' H rfl rfl
  have hlen : ¬ (l.H.Len < 0 ∨ 32 < l.H.Len) := by omega
  by_cases t2 : l.H.Ty = 2
  · have hp : pfxL l = ((keepI l.H.ID l.H.Len, l.H.Len), true) := by simp [pfxL, hasP, t2, hlen]
    have b2 : (l.H.Ty == 2) = true := by simpa using t2
    simp [b2]
    refine ⟨_, _, .inl (h68 _), by simp, ?_⟩
    simp [hp]
  · have b2 : (l.H.Ty == 2) = false := by simpa using t2
    by_cases t3 : l.H.Ty = 3
    · have b3 : (l.H.Ty == 3) = true := by simpa using t3
      have hv := k3 (.inl t3)
      have hk : keepI l.H.ID l.H.Len = l.H.ID := by
        simp only [validP, Bool.and_eq_true, decide_eq_true_eq] at hv; exact hv.2
      have hp : pfxL l = ((l.H.ID, l.H.Len), true) := by simp [pfxL, hasP, t3, hlen, hk]
      simp [b2, b3, hp]
    · have b3 : (l.H.Ty == 3) = false := by simpa using t3
      by_cases t5 : l.H.Ty = 5
      · have b5 : (l.H.Ty == 5) = true := by simpa using t5
        have hv := k3 (.inr t5)
        have hk : keepI l.H.ID l.H.Len = l.H.ID := by
          simp only [validP, Bool.and_eq_true, decide_eq_true_eq] at hv; exact hv.2
        have hp : pfxL l = ((l.H.ID, l.H.Len), true) := by simp [pfxL, hasP, t5, hlen, hk]
        simp [b2, b3, b5, hp]
      · have b5 : (l.H.Ty == 5) = false := by simpa using t5
        have hp : pfxL l = ((0, 0), false) := by simp [pfxL, hasP, t2, t3, t5]
        simp [b2, b3, b5, hp]

theorem sameB_self (a : Lsa) : sameB a a = true := by simp [sameB]

set_option maxHeartbeats 2000000 in
set_option maxRecDepth 10000 in
theorem c8 (a b : Lsa) (ok : okA a) : CFun Try.prog 8 [encA a, encA b] [] (.bool true) [] := by
  refine CFun.intro (tr := []) (fz := []) (n := 47) (rs := [.tmp 4]) Try.func8 rfl (by kernel_rfl) rfl rfl mixed (by kernel_rfl) (by simp) (by simp) ?_
  obtain ⟨z1, z2⟩ := ok.2.2.2.2.2.2
  have h29 := fun H => (c29 a b z1 z2).up' H rfl rfl
  have h30 := fun H => (c30 a b z1 z2).up' H rfl rfl
  have h29s := fun H => (c29 a a z1 z2).up' H rfl rfl
  have h14 := fun H => (c14 a ok).up' H rfl rfl
  have h15 := fun H => c15.up' H rfl rfl
  have h31 := fun H => (c31 a).up' H rfl rfl
  rw [sameB_self] at h29s
  generalize sameB a b = s at h29 h30
  simp
  refine ⟨_, _, .inl (h29 _), by simp, ?_⟩
  simp
  refine ⟨_, _, .inl (h30 _), by simp, ?_⟩
  simp
  refine ⟨_, _, .inl (h29s _), by simp, ?_⟩
  simp
  refine ⟨_, _, .inl (h14 _), by simp, ?_⟩
  by_cases e : chkA a = 0
  · have h32 := fun H => (c32 a ok e).up' H rfl rfl
    generalize pfxL a = p at h31 h32
    simp [e]
    refine ⟨_, _, .inl (h31 _), by simp, ?_⟩
    simp
    refine ⟨_, _, .inl (h32 _), by simp, ?_⟩
    simp
    refine ⟨_, _, .inl (h15 _), by simp, ?_⟩
    simp
  · simp [e]
    refine ⟨_, _, .inl (h15 _), by simp, ?_⟩
    simp
end Go.Proofs.Ytclflkgafjgkfaa
