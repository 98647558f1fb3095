import Derived.Test.YticijodoelphcaaH14
set_option linter.unusedSimpArgs false
set_option linter.unusedVariables false
namespace Go.Proofs.Yticijodoelphcaa
open Go Go.Am

theorem recvW (s : Ifs) (hlen : (s.N.length + 1) * 168 ≤ 140737488355328) (ok : ∀ x ∈ s.N, okN x) (r : Int) (p : Pkt) (hp : p.E.Seen.length < 140737488355328) (now : Int) (hw : inI (now + s.C.Dead)) (H : List (List AVal)) (cs ds : List AVal) (h1 : All2 LeC cs (cellsS s)) (h2 : All2 LeC ds (cellsP p)) :
    CFun Try.prog 12 [.agg cs, .int .u32 r, .agg ds, .int .i64 now] H (.tup [encS (recvI s r p now).1, .int .i64 (recvI s r p now).2]) H :=
  ((f12 s hlen ok r p hp now hw).wk [.agg cs, .int .u32 r, .agg ds, .int .i64 now] (by simp) ⟨h1, LeS_refl _, h2, LeS_refl _, trivial⟩).up' H rfl rfl
theorem makeW (s : Ifs) (hlen : s.N.length < 1000000000000) (r : Int) (H : List (List AVal)) (cs : List AVal) (h1 : All2 LeC cs (cellsS s)) : CFun Try.prog 23 [.agg cs, .int .u32 r] H (encP (makeI s r)) H :=
  ((f23 s _ rfl hlen r).wk [.agg cs, .int .u32 r] (by simp) ⟨h1, LeS_refl _, trivial⟩).up' H rfl rfl
def ifOf (c : Ifc) : Ifs := { ifs0 with Up := true, C := c }
def smp (a : Int) : Ifs := ifOf ⟨1, 167772160, 24, a, 0, 1, 0, 10, 40⟩
theorem f29 (a : Int) : CFun Try.prog 29 [.int .u32 a] [] (encS (smp a)) [] := by
  refine CFun.intro (tr := []) (fz := []) (n := 7) (rs := [.cell 2 30]) Try.func29 rfl (by kernel_rfl) rfl rfl mixed (by kernel_rfl) (by simp) (by simp) ?_
  simp [smp, ifOf, ifs0]
def p1 : Pkt := { pkt0 with Kind := 1, Router := 2, Addr := 167772162, E := ⟨24, 10, 40, 0, 0, 0, []⟩ }
def n1 (st t : Int) : Nbr := { nbr0 with Router := 2, Addr := 167772162, State := st, Til := t }
def s1 (st t : Int) : Ifs := { smp 167772161 with N := [n1 st t] }
theorem make1 : makeI (smp 167772162) 2 = p1 := by decide +kernel
theorem recv1 : recvI (smp 167772161) 1 p1 100 = (s1 1 140, 0) := by decide +kernel
theorem recv2 : recvI (s1 1 140) 1 { p1 with E := { p1.E with Seen := [1] } } 110 = (s1 2 150, 0) := by decide +kernel
theorem wants1 : wantsI { smp 167772161 with C := { (smp 167772161).C with Kind := 2 } } 1 (n1 2 150) = false := by decide +kernel
theorem wants2 : wantsI (smp 167772161) 1 (n1 2 150) = true := by decide +kernel
-- routinglaw26.lives
set_option maxHeartbeats 4000000 in
set_option maxRecDepth 20000 in
theorem f11 : CFun Try.prog 11 [] [] (.bool true) [] := by
  refine CFun.intro (tr := []) (fz := []) (n := 98) (rs := [.tmp 0]) Try.func11 rfl (by kernel_rfl) rfl rfl mixed (by kernel_rfl) (by simp) (by simp) ?_
  have a1 := fun H => (f29 167772161).up' H rfl rfl
  have a2 := fun H => (f29 167772162).up' H rfl rfl
  have a3 := makeW (smp 167772162) (by simp [smp, ifOf, ifs0]) 2
  rw [make1] at a3
  have a4 := recvW (smp 167772161) (by simp [smp, ifOf, ifs0]) (by simp [smp, ifOf, ifs0]) 1 p1 (by simp [p1]) 100 (by simp [inI, smp, ifOf])
  rw [recv1] at a4
  have a5 := recvW (s1 1 140) (by simp [s1]) (by simp [s1, okN, n1, nbr0]) 1 { p1 with E := { p1.E with Seen := [1] } } (by simp) 110 (by simp [inI, s1, smp, ifOf])
  rw [recv2] at a5
  have a6 := fun H => (f15 { smp 167772161 with C := { (smp 167772161).C with Kind := 2 } } 1 (n1 2 150)).up' H rfl rfl
  rw [wants1] at a6
  have a7 := fun H => (f15 (smp 167772161) 1 (n1 2 150)).up' H rfl rfl
  rw [wants2] at a7
  simp
  refine ⟨_, _, .inl (by simpa using a1 _), by simp, ?_⟩
  simp
  refine ⟨_, _, .inl (by simpa using a2 _), by simp, ?_⟩
  simp
  refine ⟨_, _, .inl (a3 _ _ (by simp)), by simp, ?_⟩
  simp
  refine ⟨_, _, .inl (a4 _ _ _ (by simp) (by simp)), by simp, ?_⟩
  simp
  refine ⟨_, _, .inl (a5 _ _ _ (by simp) (by simp)), by simp, ?_⟩
  simp [s1, n1]
  refine ⟨_, _, .inl (by simpa [n1] using a6 _), by simp, ?_⟩
  simp
  refine ⟨_, _, .inl (by simpa [n1] using a7 _), by simp, ?_⟩
  simp
end Go.Proofs.Yticijodoelphcaa
