import Derived.Test.YticijodoelphcaaH17
set_option linter.unusedSimpArgs false
set_option linter.unusedVariables false
namespace Go.Proofs.Yticijodoelphcaa
open Go Go.Am

theorem ref0 {s : Ifs} {r : Int} {p : Pkt} (u : s.Up = true) (k : s.C.Kind ≠ 3) (k1 : p.Kind = 1) (hd : diffI s.C p = false) (h0 : p.Router ≠ 0) (h1 : p.Router ≠ r) (h2 : p.Addr ≠ s.C.Addr) (hn : ∀ n ∈ s.N, n.Router = p.Router) (hl : s.N.length ≤ 1) : refI s r p = 0 := by
  unfold refI
  have ha : (s.N.any fun n => !isN p.Router n) = false := by
    rw [List.any_eq_false]
    intro n h
    simp [isN, hn n h]
  have hb : ¬ 63 ≤ s.N.length := by omega
  simp [u, k, k1, hd, h0, h1, h2, ha, hb]
/-- The neighbor that a hello of the other one brings. -/
def nbT (c : Ifc) (r ad st t : Int) : Nbr := { nbr0 with Router := r, Addr := ad, Pri := c.Pri, State := st, Til := t }
theorem two_way {c : Ifc} {addr a b now : Int} (hc : chkI c = 0) (hd : chkI { c with Addr := addr } = 0) (h3 : c.Kind ≠ 3) (hne : c.Addr ≠ addr) (ha : a ≠ 0) (hb : b ≠ 0) (hab : a ≠ b) :
    recvI (ifOf { c with Addr := addr }) b (makeI (ifOf c) a) now = ({ ifOf { c with Addr := addr } with N := [nbT c a c.Addr 1 (now + c.Dead)] }, 0) ∧
    recvI (ifOf c) a (makeI { ifOf { c with Addr := addr } with N := [nbT c a c.Addr 1 (now + c.Dead)] } b) now = ({ ifOf c with N := [nbT c b addr 2 (now + c.Dead)] }, 0) ∧
    recvI { ifOf { c with Addr := addr } with N := [nbT c a c.Addr 1 (now + c.Dead)] } b (makeI { ifOf c with N := [nbT c b addr 2 (now + c.Dead)] } a) now = ({ ifOf { c with Addr := addr } with N := [nbT c a c.Addr 2 (now + c.Dead)] }, 0) := by
  obtain ⟨v1, _, _, _, v5, _⟩ := chk_valid hc
  obtain ⟨_, _, _, _, w5, _⟩ := chk_valid hd
  have w5 : inP c.PA c.PL addr = true := w5
  refine ⟨?_, ?_, ?_⟩
  · have hR : refI (ifOf { c with Addr := addr }) b (makeI (ifOf c) a) = 0 := ref0 rfl h3 rfl (by simp [diffI, ifOf, makeI, helOf, v5]) ha hab hne (by simp [ifOf, ifs0]) (by simp [ifOf, ifs0])
    unfold recvI
    rw [hR]
    simp [withI, withL, heard, ifOf, ifs0, makeI, helOf, memL, plainN, nbr0, nbT, insL, posF]
  · have hR : refI (ifOf c) a (makeI { ifOf { c with Addr := addr } with N := [nbT c a c.Addr 1 (now + c.Dead)] } b) = 0 := ref0 rfl h3 rfl (by simp [diffI, ifOf, makeI, helOf, w5]) hb (fun e => hab e.symm) (fun e => hne e.symm) (by simp [ifOf, ifs0]) (by simp [ifOf, ifs0])
    unfold recvI
    rw [hR]
    simp [withI, withL, heard, ifOf, ifs0, makeI, helOf, memL, plainN, nbr0, nbT, insL, posF]
  · have hR : refI { ifOf { c with Addr := addr } with N := [nbT c a c.Addr 1 (now + c.Dead)] } b (makeI { ifOf c with N := [nbT c b addr 2 (now + c.Dead)] } a) = 0 := ref0 rfl h3 rfl (by simp [diffI, ifOf, makeI, helOf, v5]) ha hab hne (by simp [ifOf, ifs0, nbT, makeI]) (by simp [ifOf, ifs0])
    unfold recvI
    rw [hR]
    simp [withI, withL, heard, findI, isN, ifOf, ifs0, makeI, helOf, memL, plainN, nbr0, nbT, insL, posF]
theorem okT (c : Ifc) (r ad st t : Int) : okN (nbT c r ad st t) := by simp [okN, nbT, nbr0]
-- HelloTwoWay
set_option maxHeartbeats 1600000 in
set_option maxRecDepth 10000 in
theorem c7 (c : Ifc) (addr a b now : Int) : CFun Try.prog 7 [encI' c, .int .u32 addr, .int .u32 a, .int .u32 b, .int .i64 now] [] (.bool true) [] := by
  refine CFun.intro (tr := [900001000072, 900001000082, 900001000092]) (fz := []) (n := 156) (rs := [.tmp 10]) Try.func7 rfl (by kernel_rfl) rfl rfl mixed (by kernel_rfl) (by simp) (by simp) ?_
  have h1 := fun H => (f21 c).up' H rfl rfl
  have h2 := fun H => (f21 { c with Addr := addr }).up' H rfl rfl
  have h0 := fun H => f11.up' H rfl rfl
  generalize hv1 : chkI c = v1 at h1
  generalize hv2 : chkI { c with Addr := addr } = v2 at h2
  simp
  refine ⟨_, _, .inl (by simpa using h1 _), by simp, ?_⟩
  by_cases e1 : v1 = 0
  case neg =>
    simp [e1]
    refine ⟨_, _, .inl (by simpa using h0 _), by simp, ?_⟩
    simp
  simp [e1]
  refine ⟨_, _, .inl (by simpa using h2 _), by simp, ?_⟩
  by_cases e2 : v2 = 0
  case neg =>
    simp [e2]
    refine ⟨_, _, .inl (by simpa using h0 _), by simp, ?_⟩
    simp
  by_cases e3 : c.Kind = 3
  · simp [e2, e3]
    refine ⟨_, _, .inl (by simpa using h0 _), by simp, ?_⟩
    simp
  by_cases e4 : c.Addr = addr
  · simp [e2, e3, e4]
    refine ⟨_, _, .inl (by simpa using h0 _), by simp, ?_⟩
    simp
  by_cases e5 : a = 0
  · simp [e2, e3, e4, e5]
    refine ⟨_, _, .inl (by simpa using h0 _), by simp, ?_⟩
    simp
  by_cases e6 : b = 0
  · simp [e2, e3, e4, e5, e6]
    refine ⟨_, _, .inl (by simpa using h0 _), by simp, ?_⟩
    simp
  by_cases e7 : a = b
  · simp [e2, e3, e4, e5, e6, e7]
    refine ⟨_, _, .inl (by simpa using h0 _), by simp, ?_⟩
    simp
  by_cases e8 : now < 0
  · simp [e2, e3, e4, e5, e6, e7, e8]
    refine ⟨_, _, .inl (by simpa using h0 _), by simp, ?_⟩
    simp
  by_cases e9 : 1099511627776 < now
  · simp [e2, e3, e4, e5, e6, e7, e8, e9]
    refine ⟨_, _, .inl (by simpa using h0 _), by simp, ?_⟩
    simp
  obtain ⟨t1, t2, t3⟩ := two_way (now := now) (hv1.trans e1) (hv2.trans e2) e3 e4 e5 e6 e7
  have hw := dead_in (hv1.trans e1) (show 0 ≤ now by omega) (show now ≤ 1099511627776 by omega)
  have m1 := makeW (ifOf c) (by simp [ifOf, ifs0]) a []
  have m2 := makeW { ifOf { c with Addr := addr } with N := [nbT c a c.Addr 1 (now + c.Dead)] } (by simp) b []
  have m3 := makeW { ifOf c with N := [nbT c b addr 2 (now + c.Dead)] } (by simp) a []
  have r1 := recvW (ifOf { c with Addr := addr }) (by simp [ifOf, ifs0]) (by simp [ifOf, ifs0]) b (makeI (ifOf c) a) (by simp [makeI, helOf, ifOf, ifs0]) now (by simpa [ifOf] using hw) []
  have r2 := recvW (ifOf c) (by simp [ifOf, ifs0]) (by simp [ifOf, ifs0]) a (makeI { ifOf { c with Addr := addr } with N := [nbT c a c.Addr 1 (now + c.Dead)] } b) (by simp [makeI, helOf, ifOf, ifs0, nbT]) now (by simpa [ifOf] using hw) []
  have r3 := recvW { ifOf { c with Addr := addr } with N := [nbT c a c.Addr 1 (now + c.Dead)] } (by simp) (by simp [okT]) b (makeI { ifOf c with N := [nbT c b addr 2 (now + c.Dead)] } a) (by simp [makeI, helOf, ifOf, ifs0, nbT]) now (by simpa [ifOf] using hw) []
  rw [t1] at r1
  rw [t2] at r2
  rw [t3] at r3
  have g1 := fun H => (f19 { ifOf c with N := [nbT c b addr 2 (now + c.Dead)] } 1 rfl (by omega) (by simp [okT]) b).up' H rfl rfl
  have g2 := fun H => (f19 { ifOf { c with Addr := addr } with N := [nbT c a c.Addr 2 (now + c.Dead)] } 1 rfl (by omega) (by simp [okT]) a).up' H rfl rfl
  have q1 : findI [nbT c b addr 2 (now + c.Dead)] b = (nbT c b addr 2 (now + c.Dead), true) := by simp [findI, isN, nbT]
  have q2 : findI [nbT c a c.Addr 2 (now + c.Dead)] a = (nbT c a c.Addr 2 (now + c.Dead), true) := by simp [findI, isN, nbT]
  simp only [q1] at g1
  simp only [q2] at g2
  generalize makeI (ifOf c) a = k1 at m1 r1
  generalize makeI { ifOf { c with Addr := addr } with N := [nbT c a c.Addr 1 (now + c.Dead)] } b = k2 at m2 r2
  generalize makeI { ifOf c with N := [nbT c b addr 2 (now + c.Dead)] } a = k3 at m3 r3
  clear t1 t2 t3 q1 q2
  simp [e2, e3, e4, e5, e6, e7, e8, e9]
  refine ⟨_, m1 _ (by simp [ifOf, ifs0]), by simp [noid, noid0], ?_⟩
  simp
  refine ⟨_, r1 _ _ (by simp [ifOf, ifs0]) (by simp), by simp [noid, noid0], ?_⟩
  simp
  refine ⟨_, m2 _ (by simp [ifOf, ifs0]), by simp [noid, noid0], ?_⟩
  simp
  refine ⟨_, r2 _ _ (by simp [ifOf, ifs0]) (by simp), by simp [noid, noid0], ?_⟩
  simp
  refine ⟨_, m3 _ (by simp [ifOf, ifs0]), by simp [noid, noid0], ?_⟩
  simp
  refine ⟨_, r3 _ _ (by simp [ifOf, ifs0]) (by simp), by simp [noid, noid0], ?_⟩
  simp
  refine ⟨_, _, .inl (by simpa using g1 _), by simp, ?_⟩
  simp
  refine ⟨_, _, .inl (by simpa using g2 _), by simp, ?_⟩
  simp [nbT]
  refine ⟨_, _, .inl (by simpa using h0 _), by simp, ?_⟩
  simp
end Go.Proofs.Yticijodoelphcaa
