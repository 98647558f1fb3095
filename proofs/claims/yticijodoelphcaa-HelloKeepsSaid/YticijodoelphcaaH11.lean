import Derived.Test.YticijodoelphcaaH8
set_option linter.unusedSimpArgs false
set_option linter.unusedVariables false
namespace Go.Proofs.Yticijodoelphcaa
open Go Go.Am

-- hello.Wants$1
set_option maxHeartbeats 1600000 in
set_option maxRecDepth 10000 in
theorem f35 (r x : Int) (n : Nbr) : CFun Try.prog 35 [.int .u32 x, .iptr [.int .u32 r] 0, .iptr (cellsN n) 0] [] (.bool (chosen r n.Router x)) [] := by
  refine CFun.intro (tr := []) (fz := []) (n := 18) (rs := [.tmp 4]) Try.func35 rfl (by kernel_rfl) rfl rfl mixed (by kernel_rfl) (by simp) (by simp) ?_
  by_cases h1 : x = 0
  · simp [chosen, h1]
  · by_cases h2 : x = r
    · simp [chosen, h1, h2]
    · by_cases h3 : x = n.Router <;> simp [chosen, h1, h2, h3]
-- hello.Wants
set_option maxHeartbeats 1600000 in
set_option maxRecDepth 10000 in
theorem f15 (s : Ifs) (r : Int) (n : Nbr) : CFun Try.prog 15 [encS s, .int .u32 r, encN n] [] (.bool (wantsI s r n)) [] := by
  refine CFun.intro (tr := [2000004000002, 2000005000005]) (fz := []) (n := 40) (rs := [.tmp 6]) Try.func15 rfl (by kernel_rfl) rfl rfl mixed (by kernel_rfl) (by simp) (by simp) ?_
  have h1 := fun H => (f35 r s.DR n).up' H rfl rfl
  have h2 := fun H => (f35 r s.BDR n).up' H rfl rfl
  simp
  cases e1 : s.Up
  · simp [wantsI, e1]
  by_cases e2 : 2 ≤ n.State
  case neg => simp [wantsI, e1, e2]
  by_cases e3 : s.C.Kind = 1
  · simp [wantsI, e1, e2, e3]
  by_cases e4 : s.C.Kind = 2
  case neg => simp [wantsI, e1, e2, e3, e4]
  simp [e2, e4]
  refine ⟨_, _, .inl (by simpa [cargs] using h1 _), by simp, ?_⟩
  cases e5 : chosen r n.Router s.DR
  case true => simp [wantsI, e1, e2, e4, e5]
  simp
  refine ⟨_, _, .inl (by simpa [cargs] using h2 _), by simp, ?_⟩
  simp [wantsI, e1, e2, e4, e5]
-- routingref26.Wants
set_option maxHeartbeats 1600000 in
set_option maxRecDepth 10000 in
theorem f16 (s : Ifs) (r : Int) (n : Nbr) : CFun Try.prog 16 [encS s, .int .u32 r, encN n] [] (.bool (wantsI s r n)) [] := by
  refine CFun.intro (tr := []) (fz := []) (n := 55) (rs := [.tmp 6]) Try.func16 rfl (by kernel_rfl) rfl rfl mixed (by kernel_rfl) (by simp) (by simp) ?_
  simp only [wantsI, chosen]
  cases e1 : s.Up
  · simp [e1]
  by_cases e2 : n.State < 2
  · have : ¬ 2 ≤ n.State := by omega
    simp [e1, e2, this]
  have e2' : 2 ≤ n.State := by omega
  by_cases e3 : s.C.Kind = 1
  · simp [e1, e2, e2', e3]
  by_cases e4 : s.C.Kind = 2
  case neg => simp [e1, e2, e2', e3, e4]
  by_cases a1 : s.DR = 0
  · by_cases b1 : s.BDR = 0
    · simp [e1, e2, e2', e4, a1, b1]
    · by_cases b2 : s.BDR = r
      · simp [e1, e2, e2', e4, a1, b1, b2]
      · by_cases b3 : s.BDR = n.Router <;> simp [e1, e2, e2', e4, a1, b1, b2, b3]
  · by_cases a2 : s.DR = r
    · have a1' : ¬ r = 0 := by rw [← a2]; exact a1
      simp [e1, e2, e2', e4, a1', a2]
    · by_cases a3 : s.DR = n.Router
      · have a1' : ¬ n.Router = 0 := by rw [← a3]; exact a1
        have a2' : ¬ n.Router = r := by rw [← a3]; exact a2
        simp [e1, e2, e2', e4, a1', a2', a3]
      · by_cases b1 : s.BDR = 0
        · simp [e1, e2, e2', e4, a1, a2, a3, b1]
        · by_cases b2 : s.BDR = r
          · simp [e1, e2, e2', e4, a1, a2, a3, b1, b2]
          · by_cases b3 : s.BDR = n.Router <;> simp [e1, e2, e2', e4, a1, a2, a3, b1, b2, b3]
-- hello.differs
set_option maxHeartbeats 1600000 in
set_option maxRecDepth 10000 in
theorem f53 (c : Ifc) (p : Pkt) : CFun Try.prog 53 [encI' c, encP p] [] (.bool (diffI c p)) [] := by
  refine CFun.intro (tr := []) (fz := []) (n := 43) (rs := [.tmp 4]) Try.func53 rfl (by kernel_rfl) rfl rfl mixed (by kernel_rfl) (by simp) (by simp) ?_
  have h1 := fun H => (f44 c.PA c.PL p.Addr).up' H rfl rfl
  simp only [diffI]
  by_cases e1 : p.Area = c.Area
  case neg => simp [e1]
  by_cases e2 : p.E.Len = c.PL
  case neg => simp [e1, e2]
  by_cases e3 : p.E.Hello = c.Hello
  case neg => simp [e1, e2, e3]
  by_cases e4 : p.E.Dead = c.Dead
  case neg => simp [e1, e2, e3, e4]
  simp [e1, e2, e3, e4]
  refine ⟨_, _, .inl (by simpa using h1 _), by simp, ?_⟩
  simp
-- routingref26.Plain
set_option maxHeartbeats 1600000 in
set_option maxRecDepth 10000 in
theorem f33 (n : Nbr) : CFun Try.prog 33 [encN n] [] (encN (plainN n)) [] := by
  refine CFun.intro (tr := []) (fz := []) (n := 18) (rs := [.cell 2 47]) Try.func33 rfl (by kernel_rfl) rfl rfl mixed (by kernel_rfl) (by simp) (by simp) ?_
  simp [plainN, nbr0]
-- hello.refuse
set_option maxHeartbeats 1600000 in
set_option maxRecDepth 10000 in
theorem f30 (s : Ifs) (n : Nat) (hn : s.N.length = n) (hlen : n < 1000000000000) (r : Int) (p : Pkt) : CFun Try.prog 30 [encS s, .int .u32 r, encP p] [] (.int .i64 (refI s r p)) [] := by
  refine CFun.intro (tr := [2000005000003]) (fz := []) (n := 68) (rs := [.tmp 6]) Try.func30 rfl (by kernel_rfl) rfl rfl mixed (by kernel_rfl) (by simp) (by simp) ?_
  have h53 := fun H => (f53 s.C p).up' H rfl rfl
  have h54 : ∀ H, LeBoxes H.length H H → CFun Try.prog 54 [.sl 15 (s.N.map encN) .sh, .fn 52 [] [.iptr (cellsP p) 0]] H (.bool (s.N.any fun n => !isN p.Router n)) H := fun H hH =>
    n54_ct s.N (by omega) (fun n => !isN p.Router n) 52 [] [.iptr (cellsP p) 0] H (by simp [low, low0]) hH (fun x _ => (f52 x p).up' H rfl rfl)
  have h54 := h54 [cellsS s, []] (by simp)
  have h38 := fun H => (f38 s (by omega) p.Router).up' H rfl rfl
  have hany := idxL_any (isN p.Router) s.N 0
  simp only [refI]
  rw [hany]
  clear hany
  generalize (s.N.any fun n => !isN p.Router n) = A at h54 ⊢
  cases e1 : s.Up
  · simp [e1]
  by_cases e2 : s.C.Kind = 3
  · simp [e1, e2]
  by_cases e3 : p.Kind = 1
  case neg => simp [e1, e2, e3]
  simp [e1, e2, e3]
  refine ⟨_, _, .inl (by simpa [e1, e3] using h53 _), by simp, ?_⟩
  cases e4 : diffI s.C p
  case true => simp
  by_cases e5 : p.Router = 0
  · simp [e5]
  by_cases e6 : p.Router = r
  · simp [e5, e6]
  by_cases e7 : p.Addr = s.C.Addr
  · simp [e5, e6, e7]
  by_cases e8 : s.C.Kind = 1
  · simp [e5, e6, e7, e8]
    refine ⟨_, _, .inl (by simpa [e1, e3, e7, e8] using h54), by simp, ?_⟩
    cases A
    case true => simp
    simp
    refine ⟨_, _, .inl (by simpa [e1, e3, e7, e8] using h38 _), by simp, ?_⟩
    by_cases e10 : idxL (isN p.Router) s.N 0 < 0
    · have e10' : ¬ 0 ≤ idxL (isN p.Router) s.N 0 := by omega
      by_cases e11 : 63 ≤ n
      · have e11' : (63 : Int) ≤ n := by omega
        simp [e10, e10', hn, e11, e11']
      · have e11' : ¬ (63 : Int) ≤ n := by omega
        simp [e10, e10', hn, e11, e11']
    · have e10' : 0 ≤ idxL (isN p.Router) s.N 0 := by omega
      simp [e10, e10']
  · simp [e5, e6, e7, e8]
    refine ⟨_, _, .inl (by simpa [e1, e3, e7, e8] using h38 _), by simp, ?_⟩
    by_cases e10 : idxL (isN p.Router) s.N 0 < 0
    · have e10' : ¬ 0 ≤ idxL (isN p.Router) s.N 0 := by omega
      by_cases e11 : 63 ≤ n
      · have e11' : (63 : Int) ≤ n := by omega
        simp [e10, e10', hn, e11, e11']
      · have e11' : ¬ (63 : Int) ≤ n := by omega
        simp [e10, e10', hn, e11, e11']
    · have e10' : 0 ≤ idxL (isN p.Router) s.N 0 := by omega
      simp [e10, e10']
end Go.Proofs.Yticijodoelphcaa
