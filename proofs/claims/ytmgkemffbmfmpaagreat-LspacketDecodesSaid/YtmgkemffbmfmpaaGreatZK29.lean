/- The reference's reading of a packet: keys. -/
import Derived.Test.YtmgkemffbmfmpaaGreatZM4
import Derived.Test.YtmgkemffbmfmpaaGreatZK14
import Derived.Test.YtmgkemffbmfmpaaGreatZK8
import Derived.Test.YtmgkemffbmfmpaaGreatZK27
set_option linter.unusedSimpArgs false
set_option linter.unusedVariables false
namespace Go.Proofs.YtmgkemffbmfmpaaGreat
open Go Go.Am

-- routingref24.getKeys
set_option maxHeartbeats 8000000 in
set_option maxRecDepth 10000 in
theorem key46 (b : List Int) (hb : isB b) (hlen : b.length < 140737488355328) (y : Ey) (hy : okEy b y) : CFun Tryz.prog 46 [encEy b y] [] (.tup [.sl 4 ((manyF b (kyE b) y).1.map encY) .sh, encEy b (manyF b (kyE b) y).2]) [] := by
  refine CFun.intro (tr := [53, 900001000065, 900002000065, 2500065]) (fz := []) (n := 67) (rs := [.tmp 2, .cell 3 53]) Tryz.func46 rfl (by kernel_rfl) rfl rfl mixed (by kernel_rfl) (by simp) (by simp) ?_
  have h1 := up48 hb hlen hy 1 (by omega)
  have k1 := nm_okE hy 1
  have hin := nmE_in hb 1 y
  unfold manyF
  obtain ⟨⟨v, y0⟩, hr⟩ : ∃ r, nmE b 1 y = r := ⟨_, rfl⟩
  rw [hr] at h1 k1 hin ⊢
  simp only at h1 k1 hin ⊢
  clear hr hy
  obtain ⟨c, rfl⟩ : ∃ c : Nat, v = c := ⟨v.toNat, by omega⟩
  rw [Int.toNat_natCast]
  have hc : c < 256 := by omega
  obtain ⟨M, hM⟩ : ∃ M, manyE (kyE b) c [] y0 = M := ⟨_, rfl⟩
  rw [hM]
  simp
  refine ⟨_, _, .inl (by simpa using h1 _), by simp, ?_⟩
  simp
  refine LoopK.intro (tr := [53, 900001000065, 900002000065, 2500065]) mixed (by kernel_rfl) (fun q : Nat × List LKey × Ey => [(3, .ptr 1 0), (4, .sl 4 (q.2.1.map encY) .own), (5, .int .u64 c), (6, .ptr 2 0), (7, .int .u64 q.1)]) (fun q => [[], zEy, cellsEy b q.2.2])
    (fun q => q.1 ≤ c ∧ q.2.1.length = q.1 ∧ okEy b q.2.2 ∧ manyE (kyE b) (c - q.1) q.2.1 q.2.2 = M) (fun q => c - q.1) (0, [], y0) ?_ ?_ ?_
  · exact ⟨by omega, rfl, k1, by simpa using hM⟩
  · simp [zEy]
  · rintro ⟨i, l, y⟩ ⟨g1, g2, g3, g4⟩
    simp only at g1 g2 g3 g4
    by_cases hi : i < c
    case neg =>
      have : i = c := by omega
      subst this
      rw [Nat.sub_self] at g4
      simp only [manyE] at g4
      subst g4
      simp [zEy]
    by_cases he : y.2 = 0
    case neg =>
      rw [manyE_err he] at g4
      subst g4
      simp [hi, he, zEy]
    have u1 : IntKind.u64.wrap ((i : Int) + 1) = i + 1 := by rw [wrap_u64]; omega
    have s1 : l.length + 1 ≤ 140737488355328 := by omega
    have s2 : (l.length + 1) * 32 ≤ 140737488355328 := by omega
    have s3 : i + 1 ≤ 140737488355328 := by omega
    have s4 : (i + 1) * 32 ≤ 140737488355328 := by omega
    have hs : manyE (kyE b) (c - (i + 1)) (l ++ [(kyE b y).1]) (kyE b y).2 = M := by
      rw [show c - i = (c - (i + 1)) + 1 by omega, manyE_step he] at g4
      exact g4
    have e1 : kyE b y = (⟨I64 (nmE b 1 y).1, W32 (nmE b 4 (nmE b 1 y).2).1, I64 (nmE b 1 (nmE b 4 (nmE b 1 y).2).2).1, W32 (nmE b 4 (nmE b 1 (nmE b 4 (nmE b 1 y).2).2).2).1⟩, (nmE b 4 (nmE b 1 (nmE b 4 (nmE b 1 y).2).2).2).2) := rfl
    rw [e1] at hs
    have o1 := nm_okE g3 1
    have o2 := nm_okE o1 4
    have o3 := nm_okE o2 1
    have o4 := nm_okE o3 4
    have c1 := up48 hb hlen g3 1 (by omega)
    have c2 := up48 hb hlen o1 4 (by omega)
    have c3 := up48 hb hlen o2 1 (by omega)
    have c4 := up48 hb hlen o3 4 (by omega)
    clear g4 g3 hM e1 o1 o2 o3
    generalize nmE b 4 (nmE b 1 (nmE b 4 (nmE b 1 y).2).2).2 = r4 at *
    generalize nmE b 1 (nmE b 4 (nmE b 1 y).2).2 = r3 at *
    generalize nmE b 4 (nmE b 1 y).2 = r2 at *
    generalize nmE b 1 y = r1 at *
    simp [hi, he]
    refine ⟨_, _, .inl (by simpa [he] using c1 _), by simp, ?_⟩
    simp
    refine ⟨_, _, .inl (by simpa using c2 _), by simp, ?_⟩
    simp
    refine ⟨_, _, .inl (by simpa using c3 _), by simp, ?_⟩
    simp
    refine ⟨_, _, .inl (by simpa using c4 _), by simp, ?_⟩
    simp [u1, s1, s2, s3, s4, g2]
    exact ⟨i + 1, l ++ [⟨I64 r1.1, W32 r2.1, I64 r3.1, W32 r4.1⟩], r4.2.1, r4.2.2, ⟨by omega, by simp [g2], o4, hs⟩, by omega, by simp [zEy, I64, W32]⟩
end Go.Proofs.YtmgkemffbmfmpaaGreat

/- The reference's reading of a packet: a hello. -/
namespace Go.Proofs.YtmgkemffbmfmpaaGreat
open Go Go.Am

-- routingref24.getHello
set_option maxHeartbeats 8000000 in
set_option maxRecDepth 10000 in
theorem hel45 (b : List Int) (hb : isB b) (hlen : b.length < 140737488355328) (y : Ey) (hy : okEy b y) : CFun Tryz.prog 45 [encEy b y] [] (.tup [encE (heE b y).1, encEy b (heE b y).2]) [] := by
  refine CFun.intro (tr := [88, 4000088, 900001000094, 900002000094, 2500094, 3500094]) (fz := []) (n := 96) (rs := [.cell 2 27, .cell 3 53]) Tryz.func45 rfl (by kernel_rfl) rfl rfl mixed (by kernel_rfl) (by simp) (by simp) ?_
  have e1 : heE b y = (⟨I64 (nmE b 1 y).1, I64 (nmE b 2 (nmE b 1 y).2).1, I64 (nmE b 2 (nmE b 2 (nmE b 1 y).2).2).1, I64 (nmE b 1 (nmE b 2 (nmE b 2 (nmE b 1 y).2).2).2).1, W32 (nmE b 4 (nmE b 1 (nmE b 2 (nmE b 2 (nmE b 1 y).2).2).2).2).1,
    W32 (nmE b 4 (nmE b 4 (nmE b 1 (nmE b 2 (nmE b 2 (nmE b 1 y).2).2).2).2).2).1, (manyF b (mpE W32 (nmE b 4)) (nmE b 4 (nmE b 4 (nmE b 1 (nmE b 2 (nmE b 2 (nmE b 1 y).2).2).2).2).2).2).1⟩,
    (manyF b (mpE W32 (nmE b 4)) (nmE b 4 (nmE b 4 (nmE b 1 (nmE b 2 (nmE b 2 (nmE b 1 y).2).2).2).2).2).2).2) := rfl
  rw [e1]
  clear e1
  have k1 := nm_okE hy 1
  have k2 := nm_okE k1 2
  have k3 := nm_okE k2 2
  have k4 := nm_okE k3 1
  have k5 := nm_okE k4 4
  have k6 := nm_okE k5 4
  have k7 := nm_okE k6 1
  have h1 := up48 hb hlen hy 1 (by omega)
  have h2 := up48 hb hlen k1 2 (by omega)
  have h3 := up48 hb hlen k2 2 (by omega)
  have h4 := up48 hb hlen k3 1 (by omega)
  have h5 := up48 hb hlen k4 4 (by omega)
  have h6 := up48 hb hlen k5 4 (by omega)
  have h7 := up48 hb hlen k6 1 (by omega)
  have hin := nmE_in hb 1 (nmE b 4 (nmE b 4 (nmE b 1 (nmE b 2 (nmE b 2 (nmE b 1 y).2).2).2).2).2).2
  unfold manyF
  clear k1 k2 k3 k4 k5 k6 hy
  generalize nmE b 1 (nmE b 4 (nmE b 4 (nmE b 1 (nmE b 2 (nmE b 2 (nmE b 1 y).2).2).2).2).2).2 = r7 at *
  generalize nmE b 4 (nmE b 4 (nmE b 1 (nmE b 2 (nmE b 2 (nmE b 1 y).2).2).2).2).2 = r6 at *
  generalize nmE b 4 (nmE b 1 (nmE b 2 (nmE b 2 (nmE b 1 y).2).2).2).2 = r5 at *
  generalize nmE b 1 (nmE b 2 (nmE b 2 (nmE b 1 y).2).2).2 = r4 at *
  generalize nmE b 2 (nmE b 2 (nmE b 1 y).2).2 = r3 at *
  generalize nmE b 2 (nmE b 1 y).2 = r2 at *
  generalize nmE b 1 y = r1 at *
  obtain ⟨v, y0⟩ := r7
  simp only at h7 k7 hin ⊢
  obtain ⟨c, rfl⟩ : ∃ c : Nat, v = c := ⟨v.toNat, by omega⟩
  rw [Int.toNat_natCast]
  have hc : c < 256 := by omega
  obtain ⟨M, hM⟩ : ∃ M, manyE (mpE W32 (nmE b 4)) c [] y0 = M := ⟨_, rfl⟩
  rw [hM]
  simp
  refine ⟨_, _, .inl (by simpa using h1 _), by simp, ?_⟩
  simp
  refine ⟨_, _, .inl (by simpa using h2 _), by simp, ?_⟩
  simp
  refine ⟨_, _, .inl (by simpa using h3 _), by simp, ?_⟩
  simp
  refine ⟨_, _, .inl (by simpa using h4 _), by simp, ?_⟩
  simp
  refine ⟨_, _, .inl (by simpa using h5 _), by simp, ?_⟩
  simp
  refine ⟨_, _, .inl (by simpa using h6 _), by simp, ?_⟩
  simp
  refine ⟨_, _, .inl (by simpa using h7 _), by simp, ?_⟩
  simp
  refine LoopK.intro (tr := [88, 4000088, 900001000094, 900002000094, 2500094, 3500094]) mixed (by kernel_rfl) (fun q : Nat × List Int × Ey => [(2, .ptr 1 0), (3, .ptr 2 0), (4, .ptr 3 0), (17, .int .u64 c), (18, .ptr 10 0), (19, .int .u64 q.1)])
    (fun q => [[], [.int .i64 0, .int .i64 0, .int .i64 0, .int .i64 0, .int .u32 0, .int .u32 0, .sl 0 [] .full], zEy, [.int .i64 (I64 r1.1), .int .i64 (I64 r2.1), .int .i64 (I64 r3.1), .int .i64 (I64 r4.1), .int .u32 (W32 r5.1), .int .u32 (W32 r6.1), .sl 1 (q.2.1.map enc32) .own], [], [], [], [], [], [], cellsEy b q.2.2])
    (fun q => q.1 ≤ c ∧ q.2.1.length = q.1 ∧ okEy b q.2.2 ∧ manyE (mpE W32 (nmE b 4)) (c - q.1) q.2.1 q.2.2 = M) (fun q => c - q.1) (0, [], y0) ?_ ?_ ?_
  · exact ⟨by omega, rfl, k7, by simpa using hM⟩
  · simp [zEy, I64, W32]
  · rintro ⟨i, l, y⟩ ⟨g1, g2, g3, g4⟩
    simp only at g1 g2 g3 g4
    by_cases hi : i < c
    case neg =>
      have : i = c := by omega
      subst this
      rw [Nat.sub_self] at g4
      simp only [manyE] at g4
      subst g4
      simp [zEy]
    by_cases he : y.2 = 0
    case neg =>
      rw [manyE_err he] at g4
      subst g4
      simp [hi, he, zEy]
    have u1 : IntKind.u64.wrap ((i : Int) + 1) = i + 1 := by rw [wrap_u64]; omega
    have s1 : l.length + 1 ≤ 140737488355328 := by omega
    have s2 : (l.length + 1) * 4 ≤ 140737488355328 := by omega
    have s3 : i + 1 ≤ 140737488355328 := by omega
    have s4 : (i + 1) * 4 ≤ 140737488355328 := by omega
    have hs : manyE (mpE W32 (nmE b 4)) (c - (i + 1)) (l ++ [W32 (nmE b 4 y).1]) (nmE b 4 y).2 = M := by
      rw [show c - i = (c - (i + 1)) + 1 by omega, manyE_step he] at g4
      exact g4
    have o1 := nm_okE g3 4
    have c1 := up48 hb hlen g3 4 (by omega)
    clear g4 g3 hM
    generalize nmE b 4 y = r at *
    simp [hi, he]
    refine ⟨_, _, .inl (by simpa [he] using c1 _), by simp, ?_⟩
    simp [u1, s1, s2, s3, s4, g2]
    exact ⟨i + 1, l ++ [W32 r.1], r.2.1, r.2.2, ⟨by omega, by simp [g2], o1, hs⟩, by omega, by simp [zEy, W32]⟩
end Go.Proofs.YtmgkemffbmfmpaaGreat

/- The reference's reading of a packet: its body. -/
namespace Go.Proofs.YtmgkemffbmfmpaaGreat
open Go Go.Am

theorem nmE_pos {b : List Int} {n : Nat} {y : Ey} (h : (nmE b n y).1 ≠ 0) : (nmE b n y).2.2 = 0 := by
  unfold nmE at h ⊢
  split
  · rename_i e; rw [if_pos e] at h; simp at h
  · rename_i e
    rw [if_neg e] at h
    split
    · rfl
    · rename_i e2; rw [if_neg e2] at h; simp at h
theorem rem_bits {n : Nat} (h : n < 256) : (((n : Int).tmod 2) == 1) = (bits3 n).1 ∧ ((IntKind.u64.wrap ((n : Int) / 2)).tmod 2 == 1) = (bits3 n).2.1 ∧ ((IntKind.u64.wrap ((n : Int) / 4)).tmod 2 == 1) = (bits3 n).2.2 := by
  have key : ∀ m : Fin 256, ((((m.1 : Nat) : Int).tmod 2) == 1) = (bits3 m.1).1 ∧ ((IntKind.u64.wrap (((m.1 : Nat) : Int) / 2)).tmod 2 == 1) = (bits3 m.1).2.1 ∧ ((IntKind.u64.wrap (((m.1 : Nat) : Int) / 4)).tmod 2 == 1) = (bits3 m.1).2.2 := by decide +kernel
  exact key ⟨n, h⟩
section
variable (b : List Int) (hb : isB b) (hlen : b.length < 140737488355328) (y : Ey) (hy : okEy b y) (p : Pkt)
set_option maxHeartbeats 8000000 in
set_option maxRecDepth 10000 in
include hb hlen hy in
theorem read16_1 (h1 : p.Kind = 1) : CFun Tryz.prog 16 [encPk p, encEy b y] [] (.tup [encPk (rdE b p y).1, encEy b (rdE b p y).2]) [] := by
  refine CFun.intro (tr := [900001000029, 900002000029, 3500029, 4500029, 900001000040, 900002000040, 3500040, 4500040, 900001000051, 900002000051, 3500051, 4500051, 900001000098, 900002000098, 3500098, 4500098]) (fz := []) (n := 100) (rs := [.cell 4 32, .cell 5 53]) Tryz.func16 rfl (by kernel_rfl) rfl rfl mixed (by kernel_rfl) (by simp) (by simp) ?_
  have e : rdE b p y = ({ p with E := (heE b y).1 }, (heE b y).2) := by unfold rdE; rw [if_pos h1]
  have k := fun H => (hel45 b hb hlen y hy).up' H rfl rfl
  rw [e]
  generalize heE b y = r at *
  simp [h1]
  refine ⟨_, _, .inl (by simpa using k _), by simp, ?_⟩
  simp [h1]
set_option maxHeartbeats 8000000 in
set_option maxRecDepth 10000 in
include hb hlen hy in
theorem read16_3 (h1 : p.Kind = 3) : CFun Tryz.prog 16 [encPk p, encEy b y] [] (.tup [encPk (rdE b p y).1, encEy b (rdE b p y).2]) [] := by
  refine CFun.intro (tr := [900001000029, 900002000029, 3500029, 4500029, 900001000040, 900002000040, 3500040, 4500040, 900001000051, 900002000051, 3500051, 4500051, 900001000098, 900002000098, 3500098, 4500098]) (fz := []) (n := 100) (rs := [.cell 4 32, .cell 5 53]) Tryz.func16 rfl (by kernel_rfl) rfl rfl mixed (by kernel_rfl) (by simp) (by simp) ?_
  have e : rdE b p y = ({ p with Keys := (manyF b (kyE b) y).1 }, (manyF b (kyE b) y).2) := by unfold rdE; rw [if_neg (by omega), if_neg (by omega), if_pos h1]
  have k := fun H => (key46 b hb hlen y hy).up' H rfl rfl
  rw [e]
  generalize manyF b (kyE b) y = r at *
  simp [h1]
  refine ⟨_, _, .inl (by simpa using k _), by simp, ?_⟩
  simp [h1]
set_option maxHeartbeats 8000000 in
set_option maxRecDepth 10000 in
include hb hlen hy in
theorem read16_4 (h1 : p.Kind = 4) : CFun Tryz.prog 16 [encPk p, encEy b y] [] (.tup [encPk (rdE b p y).1, encEy b (rdE b p y).2]) [] := by
  refine CFun.intro (tr := [900001000029, 900002000029, 3500029, 4500029, 900001000040, 900002000040, 3500040, 4500040, 900001000051, 900002000051, 3500051, 4500051, 900001000098, 900002000098, 3500098, 4500098]) (fz := []) (n := 100) (rs := [.cell 4 32, .cell 5 53]) Tryz.func16 rfl (by kernel_rfl) rfl rfl mixed (by kernel_rfl) (by simp) (by simp) ?_
  have e : rdE b p y = ({ p with Lsas := (manyF b (lsE b) y).1 }, (manyF b (lsE b) y).2) := by unfold rdE; rw [if_neg (by omega), if_neg (by omega), if_neg (by omega), if_pos h1]
  have k := fun H => (lsa47 b hb hlen y hy).up' H rfl rfl
  rw [e]
  generalize manyF b (lsE b) y = r at *
  simp [h1]
  refine ⟨_, _, .inl (by simpa using k _), by simp, ?_⟩
  simp [h1]
set_option maxHeartbeats 8000000 in
set_option maxRecDepth 10000 in
include hb hlen hy in
theorem read16_5 (k1 : ¬ p.Kind = 1) (k2 : ¬ p.Kind = 2) (k3 : ¬ p.Kind = 3) (k4 : ¬ p.Kind = 4) : CFun Tryz.prog 16 [encPk p, encEy b y] [] (.tup [encPk (rdE b p y).1, encEy b (rdE b p y).2]) [] := by
  refine CFun.intro (tr := [900001000029, 900002000029, 3500029, 4500029, 900001000040, 900002000040, 3500040, 4500040, 900001000051, 900002000051, 3500051, 4500051, 900001000098, 900002000098, 3500098, 4500098]) (fz := []) (n := 100) (rs := [.cell 4 32, .cell 5 53]) Tryz.func16 rfl (by kernel_rfl) rfl rfl mixed (by kernel_rfl) (by simp) (by simp) ?_
  have e : rdE b p y = ({ p with Heads := (manyF b (hdE b) y).1 }, (manyF b (hdE b) y).2) := by unfold rdE; rw [if_neg k1, if_neg k2, if_neg k3, if_neg k4]
  have k := fun H => (hds49 b hb hlen y hy).up' H rfl rfl
  rw [e]
  generalize manyF b (hdE b) y = r at *
  simp [k1, k2, k3, k4]
  refine ⟨_, _, .inl (by simpa using k _), by simp, ?_⟩
  simp
set_option maxHeartbeats 8000000 in
set_option maxRecDepth 10000 in
include hb hlen hy in
theorem read16_2 (h1 : p.Kind = 2) : CFun Tryz.prog 16 [encPk p, encEy b y] [] (.tup [encPk (rdE b p y).1, encEy b (rdE b p y).2]) [] := by
  refine CFun.intro (tr := [900001000029, 900002000029, 3500029, 4500029, 900001000040, 900002000040, 3500040, 4500040, 900001000051, 900002000051, 3500051, 4500051, 900001000098, 900002000098, 3500098, 4500098]) (fz := []) (n := 100) (rs := [.cell 4 32, .cell 5 53]) Tryz.func16 rfl (by kernel_rfl) rfl rfl mixed (by kernel_rfl) (by simp) (by simp) ?_
  have e : rdE b p y = ({ p with Seq := (dbE b y).1.1, Init := (dbE b y).1.2.1.1, More := (dbE b y).1.2.1.2.1, Master := (dbE b y).1.2.1.2.2, Heads := (dbE b y).1.2.2 }, (dbE b y).2) := by unfold rdE; rw [if_neg (by omega), if_pos h1]
  have e2 : dbE b y = ((I64 (nmE b 4 y).1, (flE b (nmE b 4 y).2).1, (manyF b (hdE b) (flE b (nmE b 4 y).2).2).1), (manyF b (hdE b) (flE b (nmE b 4 y).2).2).2) := rfl
  rw [e, e2]
  clear e e2
  have k1 := nm_okE hy 4
  have k2 := nm_okE k1 1
  have c1 := up48 hb hlen hy 4 (by omega)
  have c2 := up48 hb hlen k1 1 (by omega)
  have hin := nmE_in hb 1 (nmE b 4 y).2
  have hpos := fun h => nmE_pos (b := b) (n := 1) (y := (nmE b 4 y).2) h
  unfold flE
  clear k1 hy
  generalize nmE b 1 (nmE b 4 y).2 = r2 at *
  generalize nmE b 4 y = r1 at *
  obtain ⟨v, y2⟩ := r2
  simp only at c2 k2 hin hpos ⊢
  obtain ⟨n, rfl⟩ : ∃ n : Nat, v = n := ⟨v.toNat, by omega⟩
  have hn : n < 256 := by omega
  obtain ⟨f1, f2, f3⟩ := rem_bits hn
  have u1 : IntKind.u64.wrap ((n : Int).tmod 2) = (n : Int).tmod 2 := by rw [Int.tmod_eq_emod_of_nonneg (by omega), wrap_u64]; omega
  have u2 : IntKind.u64.wrap ((n : Int).tdiv 2) = (n : Int).tdiv 2 := by rw [Int.tdiv_eq_ediv_of_nonneg (by omega), wrap_u64]; omega
  have u3 : IntKind.u64.wrap (((n : Int).tdiv 2).tmod 2) = ((n : Int).tdiv 2).tmod 2 := by rw [Int.tdiv_eq_ediv_of_nonneg (by omega), Int.tmod_eq_emod_of_nonneg (by omega), wrap_u64]; omega
  have u4 : IntKind.u64.wrap ((n : Int).tdiv 4) = (n : Int).tdiv 4 := by rw [Int.tdiv_eq_ediv_of_nonneg (by omega), wrap_u64]; omega
  have u5 : IntKind.u64.wrap (((n : Int).tdiv 4).tmod 2) = ((n : Int).tdiv 4).tmod 2 := by rw [Int.tdiv_eq_ediv_of_nonneg (by omega), Int.tmod_eq_emod_of_nonneg (by omega), wrap_u64]; omega
  generalize bits3 (n : Int) = fl at *
  obtain ⟨fi, fm, fs⟩ := fl
  simp only at f1 f2 f3
  by_cases h7 : 7 < n
  · have h7' : (7 : Int) < n := by omega
    have hz : y2.2 = 0 := hpos (by omega)
    have ok3 : okEy b (y2.1, 2) := ⟨k2.1, fun h => by simp at h⟩
    have c3 := fun H => (hds49 b hb hlen (y2.1, 2) ok3).up' H rfl rfl
    rw [if_pos h7']
    clear hpos k2 ok3 hin
    generalize manyF b (hdE b) (y2.1, 2) = r at *
    simp [h1]
    refine ⟨_, _, .inl (by simpa using c1 _), by simp, ?_⟩
    simp
    refine ⟨_, _, .inl (by simpa using c2 _), by simp, ?_⟩
    simp [hz, h7, h7', u1, u2, u3, u4, u5, f1, f2, f3]
    refine ⟨_, _, .inl (by simpa using c3 _), by simp, ?_⟩
    simp [h1, I64, f1, f2, f3]
  · have h7' : ¬ (7 : Int) < n := by omega
    have c3 := fun H => (hds49 b hb hlen y2 k2).up' H rfl rfl
    rw [if_neg h7']
    clear hpos k2 hin
    generalize manyF b (hdE b) y2 = r at *
    by_cases hz : y2.2 = 0
    · simp [h1]
      refine ⟨_, _, .inl (by simpa using c1 _), by simp, ?_⟩
      simp
      refine ⟨_, _, .inl (by simpa using c2 _), by simp, ?_⟩
      simp [hz, h7, h7', u1, u2, u3, u4, u5, f1, f2, f3]
      refine ⟨_, _, .inl (by simpa [hz] using c3 _), by simp, ?_⟩
      simp [h1, I64, f1, f2, f3]
    · simp [h1]
      refine ⟨_, _, .inl (by simpa using c1 _), by simp, ?_⟩
      simp
      refine ⟨_, _, .inl (by simpa using c2 _), by simp, ?_⟩
      simp [hz, h7, h7', u1, u2, u3, u4, u5, f1, f2, f3]
      refine ⟨_, _, .inl (by simpa using c3 _), by simp, ?_⟩
      simp [h1, I64, f1, f2, f3]
include hb hlen hy in
theorem read16 : CFun Tryz.prog 16 [encPk p, encEy b y] [] (.tup [encPk (rdE b p y).1, encEy b (rdE b p y).2]) [] := by
  by_cases h1 : p.Kind = 1
  · exact read16_1 b hb hlen y hy p h1
  by_cases h2 : p.Kind = 2
  · exact read16_2 b hb hlen y hy p h2
  by_cases h3 : p.Kind = 3
  · exact read16_3 b hb hlen y hy p h3
  by_cases h4 : p.Kind = 4
  · exact read16_4 b hb hlen y hy p h4
  exact read16_5 b hb hlen y hy p h1 h2 h3 h4
end
end Go.Proofs.YtmgkemffbmfmpaaGreat

/- The reference's Decode. -/
namespace Go.Proofs.YtmgkemffbmfmpaaGreat
open Go Go.Am

theorem decP_bad {b : List Int} {k : Int} (h : frontP b = k) (hk : k ≠ 0) : decP b = (pkt0, k) := by
  unfold decP
  rw [h, if_pos hk]
theorem withB_blank {b : List Int} (h : 18 ≤ b.length) : withB b 16 0 = blankP b := by
  rw [← blank_set h]
  rfl
def zPx (k r a d : Int) : List AVal := [.int .i64 k, .int .u32 r, .int .u32 a, .int .u32 d, .int .i64 0, .int .i64 0, .int .i64 0, .int .i64 0, .int .u32 0, .int .u32 0, .sl 0 [] .full, .int .i64 0, .bool false, .bool false, .bool false, .sl 0 [] .full, .sl 0 [] .full, .sl 0 [] .full]
-- routingref24.Decode
set_option maxHeartbeats 8000000 in
set_option maxRecDepth 10000 in
theorem dec5 (b : List Int) (hb : isB b) (hlen : b.length ≤ 140737488355327) : CFun Tryz.prog 5 [encBs b] [] (.tup [encPk (decP b).1, .int .i64 (decP b).2]) [] := by
  refine CFun.intro (tr := [900001000042, 900001000068, 900002000068, 1500068]) (fz := []) (n := 84) (rs := [.cell 2 32, .tmp 3]) Tryz.func5 rfl (by kernel_rfl) rfl rfl mixed (by kernel_rfl) (by simp) (by simp) ?_
  obtain ⟨n, hn⟩ : ∃ n, b.length = n := ⟨_, rfl⟩
  have hc : (b.length : Int) = n := by omega
  by_cases h18 : n < 18
  · have h18' : (n : Int) < 18 := by omega
    rw [decP_bad (k := 3) (by unfold frontP; rw [if_pos (by omega)]) (by decide)]
    simp [hn, hc, h18, h18', pkt0, hel0]
  have h18' : ¬ (n : Int) < 18 := by omega
  have e18 : ¬ b.length < 18 := by omega
  have g0 := get_getD (b := b) (i := 0) (by omega)
  have g1 := get_getD (b := b) (i := 1) (by omega)
  obtain ⟨_, ga0⟩ := List.getElem?_eq_some_iff.1 g0
  obtain ⟨_, ga1⟩ := List.getElem?_eq_some_iff.1 g1
  have d2 : 0 < n := by omega
  have d2' : (0 : Int) < n := by omega
  have d3 : 1 < n := by omega
  have d3' : (1 : Int) < n := by omega
  by_cases e0 : b.getD 0 0 = 1
  case neg =>
    rw [decP_bad (k := 12) (by unfold frontP; rw [if_neg e18, if_pos e0]) (by decide)]
    generalize b.getD 0 0 = x0 at *
    simp [hn, hc, h18, h18', d2, d2', g0, ga0, e0, pkt0, hel0]
  have h2 := fun H => u75 (b := b) 2 2 H hb (by omega) (by omega) (by omega)
  have n2 := numAt_in hb 2 2
  have w2 : IntKind.i64.wrap (numAt b 2 2) = numAt b 2 2 := wrap_in (by omega)
  by_cases e1 : (b.length : Int) < numAt b 2 2
  · rw [decP_bad (k := 3) (by unfold frontP; rw [if_neg e18, if_neg (fun k => k e0), if_pos e1]) (by decide)]
    rw [hc] at e1
    rw [e0] at g0 ga0
    generalize numAt b 2 2 = v2 at *
    simp [hn, hc, h18, h18', d2, d2', g0, ga0]
    refine ⟨_, _, .inl (by simpa using h2 _), by simp, ?_⟩
    simp [hn, hc, w2, e1, pkt0, hel0]
  by_cases e2 : numAt b 2 2 < b.length
  · rw [decP_bad (k := 2) (by unfold frontP; rw [if_neg e18, if_neg (fun k => k e0), if_neg e1, if_pos e2]) (by decide)]
    rw [hc] at e1 e2
    rw [e0] at g0 ga0
    generalize numAt b 2 2 = v2 at *
    simp [hn, hc, h18, h18', d2, d2', g0, ga0]
    refine ⟨_, _, .inl (by simpa using h2 _), by simp, ?_⟩
    simp [hn, hc, w2, e1, e2, pkt0, hel0]
  have hn6 : n ≤ 65535 := by omega
  have hbl := blank_len (b := b) (by omega)
  have h16 := fun H => u75 (b := b) 16 2 H hb (by omega) (by omega) (by omega)
  have n16 := numAt_in hb 16 2
  have w16 : IntKind.i64.wrap (numAt b 16 2) = numAt b 16 2 := wrap_in (by omega)
  have hW := fun H => (c100 b 16 (by omega) (by omega) 0).up' H rfl rfl
  rw [withB_blank (by omega)] at hW
  have hI := fun H => (f119 (blankP b) _ rfl (by omega) (isB_blank hb)).up' H rfl rfl
  by_cases e3 : numAt b 16 2 = inet (blankP b)
  case neg =>
    rw [decP_bad (k := 13) (by unfold frontP; rw [if_neg e18, if_neg (fun k => k e0), if_neg e1, if_neg e2, if_pos e3]) (by decide)]
    rw [hc] at e1 e2
    rw [e0] at g0 ga0
    generalize numAt b 2 2 = v2 at *
    generalize numAt b 16 2 = v16 at *
    generalize blankP b = B at *
    generalize inet B = iB at *
    simp [hn, hc, h18, h18', d2, d2', g0, ga0]
    refine ⟨_, _, .inl (by simpa using h2 _), by simp, ?_⟩
    simp [hn, hc, w2, e1, e2]
    refine ⟨_, _, .inl (by simpa using h16 _), by simp, ?_⟩
    simp [w16]
    refine ⟨_, _, .inl (by simpa using hW _), by simp, ?_⟩
    simp
    refine ⟨_, _, .inl (by simpa using hI _), by simp, ?_⟩
    simp [w16, e3, pkt0, hel0]
  have r4 := u75 (b := b) 4 4 [] hb (by omega) (by omega) (by omega)
  have r8 := u75 (b := b) 8 4 [] hb (by omega) (by omega) (by omega)
  have r12 := u75 (b := b) 12 4 [] hb (by omega) (by omega) (by omega)
  have hR := fun H => (f63 (b.getD 1 0) 1 5).up' H rfl rfl
  have b1 := getD_in hb 1
  have w1 : IntKind.i64.wrap (b.getD 1 0) = b.getD 1 0 := wrap_in (by omega)
  by_cases e4 : inR (b.getD 1 0) 1 5 = false
  · rw [decP_bad (k := 15) (by unfold frontP; rw [if_neg e18, if_neg (fun k => k e0), if_neg e1, if_neg e2, if_neg (fun k => k e3), if_pos e4]) (by decide)]
    rw [hc] at e1 e2
    rw [e0] at g0 ga0
    rw [e4] at hR
    generalize numAt b 2 2 = v2 at *
    generalize numAt b 16 2 = v16 at *
    generalize numAt b 4 4 = v4 at *
    generalize numAt b 8 4 = v8 at *
    generalize numAt b 12 4 = v12 at *
    generalize blankP b = B at *
    generalize inet B = iB at *
    generalize b.getD 1 0 = x1 at *
    subst e3
    simp [hn, hc, h18, h18', d2, d2', g0, ga0]
    refine ⟨_, _, .inl (by simpa using h2 _), by simp, ?_⟩
    simp [hn, hc, w2, e1, e2]
    refine ⟨_, _, .inl (by simpa using h16 _), by simp, ?_⟩
    simp [w16]
    refine ⟨_, _, .inl (by simpa using hW _), by simp, ?_⟩
    simp
    refine ⟨_, _, .inl (by simpa using hI _), by simp, ?_⟩
    simp [w16, hn, hc, d3, d3', g1, ga1, w1]
    refine ⟨_, by simpa using r4, by simp [noid, noid0], ?_⟩
    simp
    refine ⟨_, by simpa using r8, by simp [noid, noid0], ?_⟩
    simp
    refine ⟨_, by simpa using r12, by simp [noid, noid0], ?_⟩
    simp
    refine ⟨_, _, .inl (by simpa using hR _), by simp, ?_⟩
    simp [pkt0, hel0]
  have hf : frontP b = 0 := by unfold frontP; rw [if_neg e18, if_neg (fun k => k e0), if_neg e1, if_neg e2, if_neg (fun k => k e3), if_neg e4]
  have e4' : inR (b.getD 1 0) 1 5 = true := by simpa using e4
  obtain ⟨q1, q2, q3⟩ := reE_rd hb (by omega : 18 ≤ b.length)
  have hok : (readP b).2.2 = 0 → okPk (readP b).1 := fun e => (rdP_ok (isB_drop hb 18) e).1
  have hchk : (readP b).2.2 = 0 → ∀ H, CFun Tryz.prog 17 [encPk (readP b).1] H (.int .i64 (chkP (readP b).1)) H := fun e H => (f17 _ (hok e)).up' H rfl rfl
  have hrd := fun H (hn0 : (AVal.agg (zPx (b.getD 1 0) (W32 (numAt b 4 4)) (W32 (numAt b 8 4)) (W32 (numAt b 12 4)))).isOwn = false) => ((read16 b hb (by omega) (18, 0) ⟨by simp only; omega, fun _ => by simp only; omega⟩ (pkA (b.getD 1 0) (W32 (numAt b 4 4)) (W32 (numAt b 8 4)) (W32 (numAt b 12 4)))).wk [.agg (zPx (b.getD 1 0) (W32 (numAt b 4 4)) (W32 (numAt b 8 4)) (W32 (numAt b 12 4))), encEy b (18, 0)] (by simp) ⟨by simp [zPx, pkA, pkt0, hel0, All2, LeC], LeS_refl _, trivial⟩).up' H (by simp [noid, noid0, zPx]) rfl
  have hre : rdE b (pkA (b.getD 1 0) (W32 (numAt b 4 4)) (W32 (numAt b 8 4)) (W32 (numAt b 12 4))) (18, 0) = reE b := rfl
  rw [hre] at hrd
  unfold decP
  rw [hf, if_neg (by simp)]
  generalize reE b = R at *
  generalize readP b = Q at *
  rw [hc] at e1 e2
  rw [e0] at g0 ga0
  rw [e4'] at hR
  clear hok hre hf e4 e4'
  generalize numAt b 2 2 = v2 at *
  generalize numAt b 16 2 = v16 at *
  generalize numAt b 4 4 = v4 at *
  generalize numAt b 8 4 = v8 at *
  generalize numAt b 12 4 = v12 at *
  generalize blankP b = B at *
  generalize inet B = iB at *
  generalize b.getD 1 0 = x1 at *
  subst e3
  obtain ⟨P1, at_, er⟩ := R
  obtain ⟨P2, rest, er2⟩ := Q
  simp only at q1 q2 q3 hchk hrd ⊢
  subst q1
  simp [hn, hc, h18, h18', d2, d2', g0, ga0]
  refine ⟨_, _, .inl (by simpa using h2 _), by simp, ?_⟩
  simp [hn, hc, w2, e1, e2]
  refine ⟨_, _, .inl (by simpa using h16 _), by simp, ?_⟩
  simp [w16]
  refine ⟨_, _, .inl (by simpa using hW _), by simp, ?_⟩
  simp
  refine ⟨_, _, .inl (by simpa using hI _), by simp, ?_⟩
  simp [w16, hn, hc, d3, d3', g1, ga1, w1]
  refine ⟨_, by simpa using r4, by simp [noid, noid0], ?_⟩
  simp
  refine ⟨_, by simpa using r8, by simp [noid, noid0], ?_⟩
  simp
  refine ⟨_, by simpa using r12, by simp [noid, noid0], ?_⟩
  simp
  refine ⟨_, _, .inl (by simpa using hR _), by simp, ?_⟩
  simp
  refine ⟨_, _, .inl (by simpa [zPx, W32] using hrd _ rfl), by simp, ?_⟩
  by_cases he : er = 0
  case neg => simp [he, pkt0, hel0]
  obtain ⟨p1, p2, p3⟩ := q2 he
  subst p1
  by_cases hr : at_ = n
  · have hr2 : rest = [] := p2.1 (by omega)
    have hk := hchk he
    subst hr
    simp [he, hn, hc, hr2]
    refine ⟨_, _, .inl (by simpa using hk _), by simp, ?_⟩
    by_cases h0 : chkP P1 = 0
    · simp [h0]
    · simp [h0, pkt0, hel0]
  · have hr2 : ¬ rest = [] := fun h => hr (by have := p2.2 h; omega)
    have hr3 : ¬ (at_ : Int) = n := by omega
    simp [he, hn, hc, hr2, hr, hr3, pkt0, hel0]
end Go.Proofs.YtmgkemffbmfmpaaGreat

namespace Go.Proofs.YtmgkemffbmfmpaaGreat
open Go Go.Am

theorem bytes_cells (p : List Int) : (p.map enc8).flatMap AVal.cells = p.map enc8 := by
  induction p with
  | nil => rfl
  | cons x p ih => simp only [List.map_cons, List.flatMap_cons, ih]; rfl
theorem rep1 (c : AVal) (n : Nat) : (List.replicate n [c]).flatten = List.replicate n c := by
  induction n with
  | zero => rfl
  | succ n ih => simp [List.replicate_succ, ih]
theorem setR_bytes (a y : List Int) (m : Nat) (z : AVal) (h : y.length ≤ m) : setR (a.map enc8 ++ List.replicate m z) a.length (y.map enc8) = (a ++ y).map enc8 ++ List.replicate (m - y.length) z := by
  rw [setR_mid _ _ _ (by simpa using h) _ (by simp)]
  simp
/-- A row of texts, one after the other, in a row. -/
theorem run_fill (ps : List (List Int)) (n N : Nat) (hn : ps.length = n) (hN : ps.flatten.length = N) :
    ∃ R : Nat → List Int, R 0 = [] ∧ (∀ i p, ps[i]? = some p → R (i + 1) = R i ++ p) ∧ R n = ps.flatten ∧ ∀ i, (R i).length ≤ N := by
  refine ⟨fun i => (ps.take i).flatten, by simp, fun i p h => by simp only; rw [List.take_add_one, h]; simp, ?_, fun i => ?_⟩
  · simp only; rw [List.take_of_length_le (by omega)]
  · have := congrArg (fun l => l.flatten.length) (List.take_append_drop i ps)
    simp only [List.flatten_append, List.length_append] at this
    simp only
    omega
-- field.join, into a row
set_option maxHeartbeats 2000000 in
set_option maxRecDepth 10000 in
theorem f114r (ps : List (List Int)) (n N : Nat) (hn : ps.length = n) (hN : ps.flatten.length = N) (h0 : 0 < N) (hlen : n < 1099511627776) (hsz : N < 1099511627776) :
    CFun Tryz.prog 74 [.sl 1 (ps.map encBs) .sh] [] (.osl 0 0 N (some N) 1) [ps.flatten.map enc8] := by
  refine CFun.intro (tr := [100021, 100030]) (fz := []) (n := 33) (rs := [.tmp 2]) Tryz.func74 rfl (by kernel_rfl) rfl rfl mixed (by kernel_rfl) (by simp) (by simp) ?_
  obtain ⟨R, r0, rs, rn, rl⟩ := run_fill ps n N hn hN
  rw [← rn]
  have rnl : (R n).length = N := by rw [rn, hN]
  simp [hn]
  refine LoopK.intro (tr := [100021, 100030]) mixed (by kernel_rfl) (fun i : Nat => [(0, .sl 1 (ps.map encBs) .sh), (3, .int .i64 ((R i).length : Nat)), (9, .sl 1 (ps.map encBs) .sh), (10, .int .i64 n), (11, .int .i64 i)]) (fun _ => []) (fun i => i ≤ n) (fun i => n - i) 0 ?_ ?_ ?_
  · simp
  · simp [r0]
  · rintro i h1
    by_cases hi : i < n
    · obtain ⟨p, hp, _⟩ := get_drop (l := ps) (i := i) (by omega)
      have w1 : IntKind.i64.wrap ((i : Int) + 1) = i + 1 := wrap_in (by omega)
      have hr := rs i p hp
      have hl := rl (i + 1)
      have hl2 : (R (i + 1)).length = (R i).length + p.length := by rw [hr, List.length_append]
      have w2 : IntKind.i64.wrap (((R i).length : Int) + p.length) = ((R (i + 1)).length : Nat) := by rw [wrap_in (by omega)]; omega
      simp [hi, hp, gE hp, hn, w1, w2]
      exact ⟨i + 1, by omega, by omega, by simp⟩
    · have hin : i = n := by omega
      subst hin
      have z0 : ¬ N = 0 := by omega
      have z1 : (0 : Int) < N := by omega
      have z2 : N ≤ 281474976710656 := by omega
      have z3 : (N : Int) ≤ 9223372036854775807 := by omega
      simp [hn, rnl, z0, z1, z2, z3, h0, rep1]
      refine LoopK.intro (tr := [100021, 100030]) mixed (by kernel_rfl) (fun j : Nat => [(6, .osl 0 0 (R j).length (some N) 1), (22, .sl 1 (ps.map encBs) .sh), (23, .int .i64 i), (24, .int .i64 j)]) (fun j => [(R j).map enc8 ++ List.replicate (N - (R j).length) (.int .u8 0)]) (fun j => j ≤ i) (fun j => i - j) 0 ?_ ?_ ?_
      · simp
      · have hle : LeCells 1 (List.replicate N (AVal.int .u8 0)) (List.replicate N (AVal.int .u8 0)) := treeCells_le 1 (by simp [AVal.tree])
        simp [r0, hle]
      · rintro j j1
        by_cases hj : j < i
        · obtain ⟨p, hp, _⟩ := get_drop (l := ps) (i := j) (by omega)
          have w1 : IntKind.i64.wrap ((j : Int) + 1) = j + 1 := wrap_in (by omega)
          have hr := rs j p hp
          have hl := rl (j + 1)
          have hl2 : (R (j + 1)).length = (R j).length + p.length := by rw [hr, List.length_append]
          have hcp := bytes_cells p
          have hsb : ∀ H, asrc H (.sl 1 (p.map enc8) .sh) = some (1, p.length, p.map enc8) := fun H => by
            simp only [asrc, hcp, List.length_map]
          have hsrc : ∀ rest, asrc [(R j).map enc8 ++ rest] (.osl 0 0 (R j).length (some N) 1) = some (1, (R j).length, (R j).map enc8) := by
            intro rest
            unfold asrc
            by_cases h0 : (R j).length = 0
            · have e : R j = [] := List.length_eq_zero_iff.1 h0
              simp [e]
            · simp [h0]
          have hlb : (R (j + 1)).length ≤ N := hl
          have hq1 : ¬ N < (R j).length + p.length := by omega
          have hq2 : (R j).length + p.length ≤ 140737488355328 := by omega
          have hset := setR_bytes (R j) p (N - (R j).length) (.int .u8 0) (by omega)
          have hle : LeCells 1 ((R j ++ p).map enc8 ++ List.replicate (N - (R j).length - p.length) (AVal.int .u8 0)) ((R (j + 1)).map enc8 ++ List.replicate (N - (R (j + 1)).length) (.int .u8 0)) := by
            rw [hr, List.length_append, Nat.sub_sub]
            exact treeCells_le 1 (by rw [List.all_append, List.all_map]; simp [AVal.tree])
          have hfit : (R j).length + p.length ≤ (R j).length + (N - (R j).length) := by omega
          have hps : (p.map enc8).all AVal.scalar = true := by rw [List.all_map]; simp [AVal.scalar]
          have hpd : (p.map enc8).map AVal.dis = p.map enc8 := by rw [List.map_map]; rfl
          by_cases hp0 : p.length = 0
          · have e : p = [] := List.length_eq_zero_iff.1 hp0
            subst e
            rw [List.append_nil] at hr
            have hsb0 : ∀ H, asrc H (.sl 1 [] .sh) = some (1, 0, []) := fun _ => rfl
            simp at hq1 hq2
            have hq1' : ¬ N < (R j).length := by omega
            simp [hj, hp, gE hp, hsrc, hsb0, -asrc, w1, hq1', hq2]
            refine ⟨j + 1, by omega, by omega, ?_⟩
            rw [hr]
            simp at hle
            rw [hr] at hle
            simp [hle]
          · simp [hj, hp, gE hp, hsrc, hsb, -asrc, w1, hq1, hq2, hp0, hfit, hps, hpd, hset, -setR, -List.all_eq_true, -List.map_append]
            refine ⟨j + 1, by omega, by omega, ?_⟩
            rw [hl2] at hle
            simp [hl2, hle, -List.map_append]
        · have hji : j = i := by omega
          subst hji
          have hle : LeCells 1 ((R j).map enc8) ((R j).map enc8) := treeCells_le 1 (by rw [List.all_map]; simp [AVal.tree])
          simp [hn, rnl, hle]
-- field.Put, into a row
set_option maxHeartbeats 1000000 in
set_option maxRecDepth 10000 in
theorem f70r (b : List Int) (m : Nat) (hm : b.length = m) (hb : m < 1099511627000) (n : Nat) (h1 : 1 ≤ n) (hn : n ≤ 8) (x : Int) :
    CFun Tryz.prog 58 [encBs b, .int .i64 n, .int .u64 x] [] (.osl 0 0 (m + n) (some (m + n)) 1) [(b ++ numB n x).map enc8] := by
  refine CFun.intro (tr := []) (fz := []) (n := 15) (rs := [.tmp 6]) Tryz.func58 rfl (by kernel_rfl) rfl rfl mixed (by kernel_rfl) (by simp) (by simp) ?_
  have hN : ([b, numB n x] : List (List Int)).flatten.length = m + n := by simp [numB_len, hm]
  have h103 := (f114r [b, numB n x] 2 (m + n) rfl hN (by omega) (by omega) (by omega)).wk [.sl 1 ([b, numB n x].map encBs) .full] (by simp) ⟨whole, trivial⟩
  simp only [List.map_cons, List.map_nil, List.flatten_cons, List.flatten_nil, List.append_nil] at h103
  have z1 : ¬ ((n : Int) < 0) := by omega
  have z2 : ¬ ((8 : Int) < n) := by omega
  have hle : LeCells 1 ((b ++ numB n x).map enc8) ((b ++ numB n x).map enc8) := treeCells_le 1 (by rw [List.all_map]; simp [AVal.tree])
  simp [z1, z2]
  refine ⟨_, _, .inl (c104 n hn x), by simp, ?_⟩
  simp
  refine ⟨_, _, .inl (by simpa [cargs] using h103), by simp, ?_⟩
  simp at hle
  simp [hle]
end Go.Proofs.YtmgkemffbmfmpaaGreat

namespace Go.Proofs.YtmgkemffbmfmpaaGreat
open Go Go.Am

theorem bodyP_pos (p : Pkt) : 0 < (bodyP p).length := by
  unfold bodyP headsB
  repeat' split
  all_goals simp only [List.length_append, helB_len, cntB_len, numB_len]; omega
theorem isB_headP (p : Pkt) (n : Nat) : isB (headP p n) := by
  unfold headP
  repeat' apply isB_app
  all_goals exact isB_numB _ _
theorem isB_keyBt (k : LKey) : isB (keyBt k) := isB_app (isB_app (isB_app (isB_numB _ _) (isB_numB _ _)) (isB_numB _ _)) (isB_numB _ _)
theorem isB_helB (h : Hel) : isB (helB h) := by
  unfold helB cntB
  repeat' apply isB_app
  all_goals exact isB_numB _ _
theorem isB_headsB (l : List Hdr) : isB (headsB l) := isB_app (isB_numB _ _) (isB_flat _ _ isB_hdrB)
theorem isB_bodyP (p : Pkt) : isB (bodyP p) := by
  unfold bodyP
  split
  · exact isB_app (isB_helB _) (isB_flat _ _ fun x => isB_numB _ _)
  split
  · exact isB_app (isB_numB _ _) (isB_flat _ _ isB_keyBt)
  split
  · exact isB_app (isB_numB _ _) (isB_flat _ _ isB_bytesA)
  split
  · exact isB_app (isB_app (isB_numB _ _) (isB_numB _ _)) (isB_headsB _)
  · exact isB_headsB _
theorem isB_zeros : isB [0, 0] := by intro x hx; simp at hx; omega
set_option maxHeartbeats 8000000 in
set_option maxRecDepth 10000 in
theorem f19 (p : Pkt) (ok : okPk p) : CFun Tryz.prog 21 [encPk p] [] (.tup [encBs (encQ p).1, .int .i64 (encQ p).2]) [] := by
  refine CFun.intro (tr := [100044]) (fz := [(2, 2, false)]) (n := 53) (rs := [.tmp 2, .tmp 3]) Tryz.func21 rfl (by kernel_rfl) rfl rfl mixed (by kernel_rfl) (by simp) (by simp) ?_
  have h16 := fun H => (f16 p ok).up' H rfl rfl
  unfold encQ
  by_cases hc : chkP p = 0
  case neg =>
    simp
    refine ⟨_, _, .inl (by simpa using h16 _), by simp, ?_⟩
    simp [hc]
  have h69 := fun H => (f69 p hc).up' H rfl rfl
  have hl := bodyP_len hc
  have hp := bodyP_pos p
  have hT := isB_bodyP p
  rw [if_neg (by simp [hc])]
  unfold encB
  generalize bodyP p = T at *
  obtain ⟨t, ht⟩ : ∃ t, T.length = t := ⟨_, rfl⟩
  have w1 : IntKind.i64.wrap (18 + (t : Int)) = (18 + t : Nat) := by rw [wrap_in (by omega)]; omega
  have h1 := fun H => ((c88 [] (by simp) 1 (by omega) 1).wk [.sl 0 [] .full, .int .i64 1, .int .u64 1] (by simp) (by simp [All2, LeS])).up' H rfl rfl
  simp only [List.nil_append] at h1
  have h2 := fun H => (c88 (numB 1 1) (by simp [numB_len]) 1 (by omega) (U p.Kind)).up' H rfl rfl
  have h3 := fun H => (c88 (numB 1 1 ++ numB 1 (U p.Kind)) (by simp [numB_len]) 2 (by omega) (U (18 + t : Nat))).up' H rfl rfl
  have h4 := fun H => (c88 (numB 1 1 ++ numB 1 (U p.Kind) ++ numB 2 (U (18 + t : Nat))) (by simp [numB_len]) 4 (by omega) (U p.Router)).up' H rfl rfl
  have h5 := fun H => (c88 (numB 1 1 ++ numB 1 (U p.Kind) ++ numB 2 (U (18 + t : Nat)) ++ numB 4 (U p.Router)) (by simp [numB_len]) 4 (by omega) (U p.Area)).up' H rfl rfl
  have h6 := fun H => (c88 (numB 1 1 ++ numB 1 (U p.Kind) ++ numB 2 (U (18 + t : Nat)) ++ numB 4 (U p.Router) ++ numB 4 (U p.Area)) (by simp [numB_len]) 4 (by omega) (U p.Addr)).up' H rfl rfl
  have hd16 := headP_len p t
  have hdef : numB 1 1 ++ numB 1 (U p.Kind) ++ numB 2 (U (18 + t : Nat)) ++ numB 4 (U p.Router) ++ numB 4 (U p.Area) ++ numB 4 (U p.Addr) = headP p t := rfl
  have hz : numB 2 0 = [0, 0] := by decide
  have h7 := (f70r (headP p t) 16 hd16 (by omega) 2 (by omega) (by omega) 0).upNew [cellsPk p] (by rw [List.all_map]; simp [noid0]) rfl rfl
  rw [hz] at h7
  rw [hdef] at h6
  have hfr : frameP p T = headP p t ++ (numB 2 (U (inet (headP p t ++ [0, 0] ++ T))) ++ T) := by unfold frameP; rw [ht]
  rw [hfr]
  have hW : isB (headP p t ++ [0, 0] ++ T) := isB_app (isB_app (isB_headP p t) isB_zeros) hT
  have hWl : (headP p t ++ [0, 0] ++ T).length = 18 + t := by simp only [List.length_append, hd16, ht]; rfl
  have h8 := fun H hid => lend71 (H := H) (id := 2) (cap := none) (b := headP p t ++ [0, 0] ++ T) hid hWl (by omega) (by omega) hW
  have h9 := fun H => ((c88 [] (by simp) 2 (by omega) (U (inet (headP p t ++ [0, 0] ++ T)))).wk [.sl 0 [] .full, .int .i64 2, .int .u64 (U (inet (headP p t ++ [0, 0] ++ T)))] (by simp) (by simp [All2, LeS])).up' H rfl rfl
  simp only [List.nil_append] at h9
  have hV' : IntKind.u64.wrap (18 + (t : Int)) = U (18 + t : Nat) := by simp
  clear hdef
  generalize U (18 + t : Nat) = V at *
  generalize numB 1 1 ++ numB 1 (U p.Kind) = B2 at *
  generalize B2 ++ numB 2 V = B3 at *
  generalize B3 ++ numB 4 (U p.Router) = B4 at *
  generalize B4 ++ numB 4 (U p.Area) = B5 at *
  generalize numB 1 1 = B1 at *
  generalize headP p t = B6 at *
  have e18 : ∀ (X : List Int), B6 ++ [0, 0] ++ X = (B6 ++ [0, 0]) ++ X := fun _ => rfl
  have hB7 : (B6 ++ [0, 0]).length = 18 := by simp [hd16]
  have hset : ∀ y : List Int, y.length = 2 → setR ((B6 ++ [0, 0] ++ T).map enc8) 16 (y.map enc8) = (B6 ++ (y ++ T)).map enc8 := by
    intro y hy
    have := setR_mid (B6.map enc8) (([0, 0] ++ T).map enc8) (y.map enc8) (by simp [hy]) 16 (by simp [hd16])
    rw [List.append_assoc, List.map_append, this, List.map_append, List.map_append]
    congr 2
    simp [hy]
  have hch := fun (y : List Int) (hy : y.length = 2) => chunk8 (B6 ++ (y ++ T)) (18 + t) (by simp only [List.length_append, hd16, hy, ht]; omega)
  have hYl : ∀ y, (numB 2 y).length = 2 := fun y => numB_len 2 y
  have hsY : ∀ (y : List Int) (H : List (List AVal)), y.length = 2 → asrc H (.sl 1 (y.map enc8) .own) = some (1, 2, y.map enc8) := fun y H hy => by
    simp only [asrc, bytes_cells, List.length_map, hy]
  have hsT : ∀ (H : List (List AVal)), asrc H (.sl 1 (T.map enc8) .sh) = some (1, t, T.map enc8) := fun H => by
    simp only [asrc, bytes_cells, List.length_map, ht]
  have hds : ∀ y : List Int, (y.map enc8).map AVal.dis = y.map enc8 := fun y => by rw [List.map_map]; rfl
  have hsc : ∀ y : List Int, (y.map enc8).all AVal.scalar = true := fun y => by rw [List.all_map]; simp [AVal.scalar]
  have htr : ∀ y : List Int, (y.map enc8).all AVal.tree = true := fun y => by rw [List.all_map]; simp [AVal.tree]
  clear e18
  generalize hW' : B6 ++ [0, 0] ++ T = W at *
  generalize B6 ++ [0, 0] = B7 at *
  generalize inet W = v at *
  have hs7 : ∀ c0, asrc [c0, B7.map enc8] (.osl 1 0 18 (some 18) 1) = some (1, 18, B7.map enc8) := fun c0 => by
    simp [asrc, hB7]
    exact List.take_of_length_le (by simp [hB7])
  have happ : B7.map enc8 ++ T.map enc8 = W.map enc8 := by rw [← List.map_append, hW']
  have hset' := hset (numB 2 (U v)) (hYl _)
  have hch' := hch (numB 2 (U v)) (hYl _)
  have hY := hYl (U v)
  have hsY' := fun H => hsY (numB 2 (U v)) H hY
  have hfl : (B6 ++ (numB 2 (U v) ++ T)).length = 18 + t := by simp only [List.length_append, hd16, hY, ht]; omega
  generalize hZ : B6 ++ (numB 2 (U v) ++ T) = Z at *
  generalize numB 2 (U v) = Y at *
  clear hset hch hsY hYl hW' hZ
  simp
  refine ⟨_, _, .inl (by simpa using h16 _), by simp, ?_⟩
  simp [hc]
  refine ⟨_, _, .inl (by simpa using h69 _), by simp, ?_⟩
  simp
  refine ⟨_, _, .inl (by simpa using h1 _), by simp, ?_⟩
  simp
  refine ⟨_, _, .inl (by simpa using h2 _), by simp, ?_⟩
  simp [ht, w1, hV']
  refine ⟨_, _, .inl (by simpa [ht, w1, hV'] using h3 _), by simp, ?_⟩
  simp
  refine ⟨_, _, .inl (by simpa using h4 _), by simp, ?_⟩
  simp
  refine ⟨_, _, .inl (by simpa using h5 _), by simp, ?_⟩
  simp
  refine ⟨_, _, .inl (by simpa using h6 _), by simp, ?_⟩
  simp
  refine ⟨_, _, .inl (by simpa [ren, ren0] using h7), by simp, ?_⟩
  have q1 : 18 + t ≤ 140737488355328 := by omega
  have q2 : 0 < t := by omega
  have q3 : (16 : Int) ≤ 18 + t := by omega
  have q4 : min 2 (18 + t - 16) = 2 := by omega
  have q5 : 16 + 2 ≤ 18 + t := by omega
  have q6 : (Y.map enc8).take 2 = Y.map enc8 := List.take_of_length_le (by simp [hY])
  have q7 : (Z.map enc8).take (18 + t) = Z.map enc8 := List.take_of_length_le (by simp [hfl])
  have q9 : 0 < 18 + t := by omega
  have q8 : (W.map enc8).take (18 + t) = W.map enc8 := List.take_of_length_le (by simp [hWl])
  simp [hs7, hsT, -asrc, q1, q2, q3, happ, hds, -List.map_map]
  refine ⟨_, _, .inl (h8 _ rfl), by simp, ?_⟩
  simp [-asrc, q1, q2, q3, happ, hds, -List.map_map]
  refine ⟨_, _, .inl (by simpa using h9 _), by simp, ?_⟩
  simp [hsY', -asrc, q9, q3, q4, q5, q6, q7, hds, hsc, htr, hset', hch', hWl, hfl, -List.map_map, -List.all_eq_true, -setR]
end Go.Proofs.YtmgkemffbmfmpaaGreat
