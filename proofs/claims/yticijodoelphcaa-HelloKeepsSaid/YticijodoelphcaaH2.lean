import Derived.Test.YticijodoelphcaaH1
set_option linter.unusedSimpArgs false
set_option linter.unusedVariables false
namespace Go.Proofs.Yticijodoelphcaa
open Go Go.Am

theorem f43 (n lo hi : Int) : CFun Try.prog 43 [.int .i64 n, .int .i64 lo, .int .i64 hi] [] (.bool (inR n lo hi)) [] := by
  refine CFun.intro (tr := []) (fz := []) (n := 15) (rs := [.tmp 6]) Try.func43 rfl (by kernel_rfl) rfl rfl mixed (by kernel_rfl) (by simp) (by simp) ?_
  by_cases h : lo ≤ n <;> simp [h, inR]
theorem f45 (n lo hi : Int) : CFun Try.prog 45 [.int .i64 n, .int .i64 lo, .int .i64 hi] [] (.bool (inR n lo hi)) [] := by
  refine CFun.intro (tr := []) (fz := []) (n := 15) (rs := [.tmp 6]) Try.func45 rfl (by kernel_rfl) rfl rfl mixed (by kernel_rfl) (by simp) (by simp) ?_
  by_cases h : lo ≤ n <;> simp [h, inR]
theorem f61 (x n : Int) : CFun Try.prog 61 [.int .u32 x, .int .i64 n] [] (.agg [.int .u32 (keepI x n), .int .i64 n]) [] := by
  refine CFun.intro (tr := []) (fz := []) (n := 10) (rs := [.cell 4 25]) Try.func61 rfl (by kernel_rfl) rfl rfl mixed (by kernel_rfl) (by simp) (by simp) ?_
  have h := fun H => (c94 x n).up' H rfl rfl
  simp
  refine ⟨_, _, .inl (h _), by simp, ?_⟩
  simp
-- prefix.Contains
set_option maxHeartbeats 1000000 in
set_option maxRecDepth 10000 in
theorem f44 (a n x : Int) : CFun Try.prog 44 [.agg [.int .u32 a, .int .i64 n], .int .u32 x] [] (.bool (inP a n x)) [] := by
  refine CFun.intro (tr := []) (fz := []) (n := 15) (rs := [.tmp 4]) Try.func44 rfl (by kernel_rfl) rfl rfl mixed (by kernel_rfl) (by simp) (by simp) ?_
  have h1 := fun H => (c77 a n).up' H rfl rfl
  have h2 := fun H => (f61 x n).up' H rfl rfl
  simp
  refine ⟨_, _, .inl (by simpa using h1 _), by simp, ?_⟩
  by_cases hv : validP a n = true
  · simp [hv]
    refine ⟨_, _, .inl (by simpa using h2 _), by simp, ?_⟩
    by_cases hk : keepI x n = a <;> simp [hv, hk, inP]
  · simp [hv, inP]
theorem validP_range {a n : Int} (h : validP a n = true) : 0 ≤ n ∧ n ≤ 32 := by
  simp only [validP, Bool.and_eq_true, decide_eq_true_eq] at h
  exact h.1
theorem fits (a n : Int) (ha : inW a) : CFun Try.prog 46 [.int .u32 a, .int .i64 n] [] (.bool (validP a n)) [] := by
  obtain ⟨A, rfl⟩ := Int.eq_ofNat_of_zero_le ha.1
  have := ha.2
  exact c70 A (by omega) n
theorem keeps (x n : Int) (hx : inW x) (h0 : 0 ≤ n) (h1 : n ≤ 32) : CFun Try.prog 62 [.int .u32 x, .int .i64 n] [] (.int .u32 (keepI x n)) [] := by
  obtain ⟨A, rfl⟩ := Int.eq_ofNat_of_zero_le hx.1
  obtain ⟨m, rfl⟩ := Int.eq_ofNat_of_zero_le h0
  have := hx.2
  exact c68 A (by omega) m (by omega)
-- routingref26.In
set_option maxHeartbeats 1000000 in
set_option maxRecDepth 10000 in
theorem f47 (a n x : Int) (hx : inW x) (hv : validP a n = true) : CFun Try.prog 47 [.agg [.int .u32 a, .int .i64 n], .int .u32 x] [] (.bool (inP a n x)) [] := by
  refine CFun.intro (tr := []) (fz := []) (n := 12) (rs := [.tmp 4]) Try.func47 rfl (by kernel_rfl) rfl rfl mixed (by kernel_rfl) (by simp) (by simp) ?_
  obtain ⟨h0, h1⟩ := validP_range hv
  have h2 := fun H => (keeps x n hx h0 h1).up' H rfl rfl
  simp
  refine ⟨_, _, .inl (by simpa using h2 _), by simp, ?_⟩
  by_cases hk : keepI x n = a <;> simp [inP, hv, hk]
/-- What an argument of this kind holds. -/
def okI (c : Ifc) : Prop := inI c.Kind ∧ inW c.PA ∧ inI c.PL ∧ inW c.Addr ∧ inW c.Area ∧ inI c.Cost ∧ inI c.Pri ∧ inI c.Hello ∧ inI c.Dead
-- hello.Check
set_option maxHeartbeats 4000000 in
set_option maxRecDepth 10000 in
theorem f21 (c : Ifc) : CFun Try.prog 21 [encI' c] [] (.int .i64 (chkI c)) [] := by
  refine CFun.intro (tr := []) (fz := []) (n := 45) (rs := [.tmp 2]) Try.func21 rfl (by kernel_rfl) rfl rfl mixed (by kernel_rfl) (by simp) (by simp) ?_
  have h1 := fun H => (f43 c.Kind 1 3).up' H rfl rfl
  have h2 := fun H => (f44 c.PA c.PL c.Addr).up' H rfl rfl
  have h3 := fun H => (f43 c.Cost 1 65535).up' H rfl rfl
  have h4 := fun H => (f43 c.Pri 0 255).up' H rfl rfl
  have h5 := fun H => (f43 c.Hello 1 65535).up' H rfl rfl
  have h6 := fun H => (f43 c.Dead c.Hello 65535).up' H rfl rfl
  simp only [chkI]
  simp
  refine ⟨_, _, .inl (by simpa using h1 _), by simp, ?_⟩
  cases e1 : inR c.Kind 1 3
  · simp
  simp
  by_cases e2 : c.Addr = 0
  · simp [e2]
  simp [e2]
  refine ⟨_, _, .inl (by simpa using h2 _), by simp, ?_⟩
  cases e3 : inP c.PA c.PL c.Addr
  · simp
  simp
  refine ⟨_, _, .inl (by simpa using h3 _), by simp, ?_⟩
  cases e4 : inR c.Cost 1 65535
  · simp
  simp
  refine ⟨_, _, .inl (by simpa using h4 _), by simp, ?_⟩
  cases e5 : inR c.Pri 0 255
  · simp
  simp
  refine ⟨_, _, .inl (by simpa using h5 _), by simp, ?_⟩
  cases e6 : inR c.Hello 1 65535
  · simp
  simp
  refine ⟨_, _, .inl (by simpa using h6 _), by simp, ?_⟩
  cases e7 : inR c.Dead c.Hello 65535 <;> simp
-- routingref26.Check
set_option maxHeartbeats 4000000 in
set_option maxRecDepth 10000 in
theorem f22 (c : Ifc) (ok : okI c) : CFun Try.prog 22 [encI' c] [] (.int .i64 (chkI c)) [] := by
  refine CFun.intro (tr := []) (fz := []) (n := 52) (rs := [.tmp 2]) Try.func22 rfl (by kernel_rfl) rfl rfl mixed (by kernel_rfl) (by simp) (by simp) ?_
  obtain ⟨_, oa, _, ox, _⟩ := ok
  have h1 := fun H => (f45 c.Kind 1 3).up' H rfl rfl
  have h2 := fun H => (fits c.PA c.PL oa).up' H rfl rfl
  have h3 := fun H => (f45 c.Cost 1 65535).up' H rfl rfl
  have h4 := fun H => (f45 c.Pri 0 255).up' H rfl rfl
  have h5 := fun H => (f45 c.Hello 1 65535).up' H rfl rfl
  have h6 := fun H => (f45 c.Dead c.Hello 65535).up' H rfl rfl
  simp only [chkI]
  simp
  refine ⟨_, _, .inl (by simpa using h1 _), by simp, ?_⟩
  cases e1 : inR c.Kind 1 3
  · simp
  simp
  refine ⟨_, _, .inl (by simpa using h2 _), by simp, ?_⟩
  cases e2 : validP c.PA c.PL
  · simp [inP, e2]
  have h7 := fun H => (f47 c.PA c.PL c.Addr ox e2).up' H rfl rfl
  simp
  by_cases e3 : c.Addr = 0
  · simp [e3]
  simp [e3]
  refine ⟨_, _, .inl (by simpa using h7 _), by simp, ?_⟩
  cases e3 : inP c.PA c.PL c.Addr
  · simp
  simp
  refine ⟨_, _, .inl (by simpa using h3 _), by simp, ?_⟩
  cases e4 : inR c.Cost 1 65535
  · simp
  simp
  refine ⟨_, _, .inl (by simpa using h4 _), by simp, ?_⟩
  cases e5 : inR c.Pri 0 255
  · simp
  simp
  refine ⟨_, _, .inl (by simpa using h5 _), by simp, ?_⟩
  cases e6 : inR c.Hello 1 65535
  · simp
  simp
  refine ⟨_, _, .inl (by simpa using h6 _), by simp, ?_⟩
  cases e7 : inR c.Dead c.Hello 65535 <;> simp
end Go.Proofs.Yticijodoelphcaa
