import Derived.Test.YtclflkgafjgkfaaS14
set_option linter.unusedSimpArgs false
set_option linter.unusedVariables false
namespace Go.Proofs.Ytclflkgafjgkfaa
open Go Go.Am

theorem inR_iff (n lo hi : Int) : inR n lo hi = true ↔ lo ≤ n ∧ n ≤ hi := by simp [inR]
theorem hasP_ty (t : Int) (h : inR t 1 5 = true) : hasP t = true ↔ ¬ (t = 1 ∨ t = 4) := by
  rw [inR_iff] at h
  simp only [hasP, Bool.or_eq_true, decide_eq_true_eq]
  omega

set_option maxHeartbeats 4000000 in
set_option maxRecDepth 10000 in
theorem c34 (h : Hdr) (hid : inW h.ID) : CFun Try.prog 34 [encH h] [] (.int .i64 (chkH h)) [] := by
  obtain ⟨A, hA⟩ : ∃ A : Nat, h.ID = A := ⟨h.ID.toNat, by have := hid.1; omega⟩
  have hA2 : A < 2 ^ 32 := by have := hid.2; omega
  refine CFun.intro (tr := []) (fz := []) (n := 82) (rs := [.tmp 2]) Try.func34 rfl (by kernel_rfl) rfl rfl mixed (by kernel_rfl) (by simp) (by simp) ?_
  have h48 : ∀ n lo hi H, CFun Try.prog 48 [.int .i64 n, .int .i64 lo, .int .i64 hi] H (.bool (inR n lo hi)) H := fun n lo hi H => (c48 n lo hi).up' H rfl rfl
  have h70 : ∀ H, CFun Try.prog 70 [.int .u32 h.ID, .int .i64 h.Len] H (.bool (validP h.ID h.Len)) H := fun H => by
    rw [hA]; exact (c70 A hA2 h.Len).up' H rfl rfl
  simp
  refine ⟨_, _, .inl (h48 _ _ _ _), trivial, ?_⟩
  cases e1 : inR h.Ty 1 5
  · simp [chkH, e1]
  simp
  by_cases e2 : h.Router = 0
  · simp [chkH, e1, e2]
  simp [e2]
  refine ⟨_, _, .inl (h48 _ _ _ _), trivial, ?_⟩
  cases e3 : inR h.Seq 1 2147483647
  · simp [chkH, e1, e2, e3]
  simp
  refine ⟨_, _, .inl (h48 _ _ _ _), trivial, ?_⟩
  cases e4 : inR h.Age 0 3600
  · simp [chkH, e1, e2, e3, e4]
  simp
  refine ⟨_, _, .inl (h48 _ _ _ _), trivial, ?_⟩
  cases e5 : inR h.Sum 0 65535
  · simp [chkH, e1, e2, e3, e4, e5]
  have hk : chkH h = if inR h.Len 0 (if hasP h.Ty = true then 32 else 0) = false then 5 else if h.Ty = 1 ∧ h.ID ≠ h.Router then 14 else if (h.Ty = 3 ∨ h.Ty = 5) ∧ validP h.ID h.Len = false then 1 else if (h.Ty = 2 ∨ h.Ty = 4) ∧ h.ID = 0 then 1 else 0 := by
    simp [chkH, e1, e2, e3, e4, e5]
  have hp := hasP_ty h.Ty e1
  by_cases t1 : h.Ty = 1
  · have hp' : hasP h.Ty = false := by
      cases hq : hasP h.Ty
      · rfl
      · exact (hp.1 hq (.inl t1)).elim
    rw [hp'] at hk
    by_cases e6 : h.Len = 0
    · have hr : inR h.Len 0 0 = true := (inR_iff _ _ _).2 (by omega)
      simp only [Bool.false_eq_true, if_false, hr] at hk
      by_cases e7 : h.ID = h.Router
      · simp [hk, t1, e6, e7]
      · simp [hk, t1, e6, e7]
    · have hr : inR h.Len 0 0 = false := by
        cases hq : inR h.Len 0 0
        · rfl
        · have := (inR_iff _ _ _).1 hq; omega
      simp only [Bool.false_eq_true, if_false, hr] at hk
      simp [hk, t1, e6]
  by_cases t4 : h.Ty = 4
  · have hp' : hasP h.Ty = false := by
      cases hq : hasP h.Ty
      · rfl
      · exact (hp.1 hq (.inr t4)).elim
    rw [hp'] at hk
    by_cases e6 : h.Len = 0
    · have hr : inR h.Len 0 0 = true := (inR_iff _ _ _).2 (by omega)
      simp only [Bool.false_eq_true, if_false, hr] at hk
      by_cases e9 : h.ID = 0 <;> simp [hk, t4, e6, e9]
    · have hr : inR h.Len 0 0 = false := by
        cases hq : inR h.Len 0 0
        · rfl
        · have := (inR_iff _ _ _).1 hq; omega
      simp only [Bool.false_eq_true, if_false, hr] at hk
      simp [hk, t4, e6]
  have hp' : hasP h.Ty = true := hp.2 (by omega)
  rw [hp'] at hk
  have b1 : (h.Ty == 1) = false := by simpa using t1
  have b4 : (h.Ty == 4) = false := by simpa using t4
  simp [b1, b4]
  refine ⟨_, _, .inl (h48 _ _ _ _), trivial, ?_⟩
  cases e6 : inR h.Len 0 32
  · simp [hk, e6]
  simp only [if_true, e6, Bool.true_eq_false, if_false] at hk
  by_cases t3 : h.Ty = 3
  · simp [t3]
    refine ⟨_, _, .inl (h70 _), trivial, ?_⟩
    cases e8 : validP h.ID h.Len <;> simp [hk, t3, e8]
  by_cases t5 : h.Ty = 5
  · simp [t5]
    refine ⟨_, _, .inl (h70 _), trivial, ?_⟩
    cases e8 : validP h.ID h.Len <;> simp [hk, t5, e8]
  by_cases t2 : h.Ty = 2
  · by_cases e9 : h.ID = 0 <;> simp [hk, t2, e9]
  simp [hk, t1, t2, t3, t4, t5]

set_option maxHeartbeats 2000000 in
set_option maxRecDepth 10000 in
theorem c83 (a b : Lnk) : CFun Try.prog 83 [encK a, encK b] [] (.int .i64 (ordK a b)) [] := by
  refine CFun.intro (tr := []) (fz := []) (n := 30) (rs := [.tmp 4]) Try.func83 rfl (by kernel_rfl) rfl rfl mixed (by kernel_rfl) (by simp) (by simp) ?_
  have h52 : ∀ x y H, CFun Try.prog 52 [.int .i64 x, .int .i64 y] H (.int .i64 (cmpI x y)) H := fun x y H => (c52 x y).up' H rfl rfl
  have h63 : ∀ x y H, CFun Try.prog 63 [.int .u32 x, .int .u32 y] H (.int .i64 (cmpI x y)) H := fun x y H => (c63 x y).up' H rfl rfl
  have nz : ∀ {x y : Int}, x ≠ y → cmpI x y ≠ 0 := fun h h' => h ((cmpI_zero _ _).1 h')
  have zz : ∀ {x y : Int}, x = y → cmpI x y = 0 := fun h => (cmpI_zero _ _).2 h
  by_cases e1 : a.Kind = b.Kind
  case neg =>
    have b1 : (a.Kind != b.Kind) = true := by simpa using e1
    simp [b1]
    refine ⟨_, _, .inl (h52 _ _ _), by simp, ?_⟩
    simp [ordK, orL, nz e1]
  have b1 : (a.Kind != b.Kind) = false := by simpa using e1
  by_cases e2 : a.ID = b.ID
  case neg =>
    have b2 : (a.ID != b.ID) = true := by simpa using e2
    simp [b1, b2]
    refine ⟨_, _, .inl (h63 _ _ _), by simp, ?_⟩
    simp [ordK, orL, zz e1, nz e2]
  have b2 : (a.ID != b.ID) = false := by simpa using e2
  simp [b1, b2]
  refine ⟨_, _, .inl (h63 _ _ _), by simp, ?_⟩
  simp [ordK, orL, zz e1, zz e2]

set_option maxHeartbeats 4000000 in
set_option maxRecDepth 10000 in
theorem c45 (l : Lsa) (ht : inR l.H.Ty 1 5 = true) : CFun Try.prog 45 [encA l] [] (.bool (!forB l)) [] := by
  rw [inR_iff] at ht
  refine CFun.intro (tr := []) (fz := []) (n := 55) (rs := [.tmp 2]) Try.func45 rfl (by kernel_rfl) rfl rfl mixed (by kernel_rfl) (by simp) (by simp) ?_
  have hm : memL [3, 4, 5] l.H.Ty = decide (3 ≤ l.H.Ty) := by
    simp only [memL, List.mem_cons, List.not_mem_nil, or_false]
    congr 1
    simp only [eq_iff_iff]
    omega
  simp only [forB, memL1, hm]
  by_cases t1 : l.H.Ty = 1
  · by_cases a1 : 0 < l.Att.length
    · simp [t1, a1]
    · by_cases a2 : l.Cost = 0
      · cases a3 : l.Second
        · by_cases a4 : l.Fwd = 0
          · by_cases a5 : l.Tag = 0 <;> simp [t1, a1, a2, a3, a4, a5]
          · simp [t1, a1, a2, a3, a4]
        · simp [t1, a1, a2, a3]
      · simp [t1, a1, a2]
  · have b1 : (l.H.Ty != 1) = true := by simpa using t1
    cases q1 : l.Border
    case true => simp [b1, t1, q1]
    cases q2 : l.Boundary
    case true => simp [b1, t1, q1, q2]
    by_cases q3 : 0 < l.Links.length
    · simp [b1, t1, q1, q2, q3]
    by_cases t2 : l.H.Ty = 2
    · by_cases a2 : l.Cost = 0
      · cases a3 : l.Second
        · by_cases a4 : l.Fwd = 0
          · by_cases a5 : l.Tag = 0 <;> simp [t2, q1, q2, q3, a2, a3, a4, a5]
          · simp [t2, q1, q2, q3, a2, a3, a4]
        · simp [t2, q1, q2, q3, a2, a3]
      · simp [t2, q1, q2, q3, a2]
    · have b2 : (l.H.Ty != 2) = true := by simpa using t2
      have b3 : ¬ (l.H.Ty < 3) := by omega
      have b3' : 3 ≤ l.H.Ty := by omega
      by_cases a1 : 0 < l.Att.length
      · simp [b1, b2, t1, t2, q1, q2, q3, a1]
      · by_cases t5 : l.H.Ty = 5
        · simp [t5, q1, q2, q3, a1]
        · have b5 : (l.H.Ty == 5) = false := by simpa using t5
          cases a3 : l.Second
          · by_cases a4 : l.Fwd = 0
            · by_cases a5 : l.Tag = 0 <;> simp [b1, b2, b3, b3', b5, t1, t2, t5, q1, q2, q3, a1, a3, a4, a5]
            · simp [b1, b2, b3, b3', b5, t1, t2, t5, q1, q2, q3, a1, a3, a4]
          · simp [b1, b2, b3, b3', b5, t1, t2, t5, q1, q2, q3, a1, a3]
end Go.Proofs.Ytclflkgafjgkfaa
