/- What is waited for, by the reference. -/
import Derived.Test.YthonenmafbpbkaaFE2
import Derived.Test.YthonenmafbpbkaaFXA1
set_option linter.unusedSimpArgs false
set_option linter.unusedVariables false
namespace Go.Proofs.Ythonenmafbpbkaa
open Go Go.Am
set_option maxHeartbeats 8000000 in
set_option maxRecDepth 10000 in
theorem e22 (l : List Ifs) (m : Nat) (hm : l.length = m) (hm2 : m < 8796093022208) (hl : ∀ s ∈ l, s.Nb.length < 8796093022208 ∧ ∀ n ∈ s.Nb, n.Una.length < 8796093022208) (k : LKey) : CFun Try.prog 22 [.sl 15 (l.map encIf) .sh, encY k] [] (.bool (waitL l k)) [] := by
 refine CFun.intro (tr := []) (fz := []) (n := 35) (rs := [.tmp 4]) Try.func22 rfl (by kernel_rfl) rfl rfl mixed (by kernel_rfl) (by simp) (by simp) ?_
 obtain ⟨W, hW⟩ : ∃ W, W = waitL l k := ⟨_, rfl⟩
 rw [← hW]
 simp [hm]
 refine LoopK.intro (tr := []) mixed (by kernel_rfl) (fun i : Nat => [(0, .sl 15 (l.map encIf) .sh), (3, .ptr 0 0), (5, .int .i64 i)]) (fun _ => [cellsY k])
   (fun i => i ≤ m ∧ W = (l.drop i).any fun s => s.Nb.any (waitB k)) (fun i => m - i) 0 ?_ ?_ ?_
 · exact ⟨Nat.zero_le _, by simpa [waitL] using hW⟩
 · simp
 rintro i ⟨i1, i2⟩
 by_cases hi : i < m
 case neg =>
   rw [List.drop_eq_nil_of_le (by omega)] at i2
   subst i2
   simp [hi, hm]
 obtain ⟨s, hs, hd⟩ := get_drop (l := l) (i := i) (by omega)
 rw [hd] at i2
 simp only [List.any_cons] at i2
 obtain ⟨g1, g2⟩ := hl s (List.mem_of_getElem? hs)
 have w1 : IntKind.i64.wrap ((i : Int) + 1) = i + 1 := wrap_in (by omega)
 simp [hi, hm]
 refine LoopK.intro (tr := []) mixed (by kernel_rfl) (fun j : Nat => [(0, .sl 15 (l.map encIf) .sh), (3, .ptr 0 0), (5, .int .i64 i), (6, .int .i64 j)]) (fun _ => [cellsY k])
   (fun j => j ≤ s.Nb.length ∧ s.Nb.any (waitB k) = (s.Nb.drop j).any (waitB k)) (fun j => s.Nb.length - j) 0 ?_ ?_ ?_
 · exact ⟨Nat.zero_le _, rfl⟩
 · simp
 rintro j ⟨j1, j2⟩
 by_cases hj : j < s.Nb.length
 case neg =>
   rw [List.drop_eq_nil_of_le (by omega)] at j2
   simp only [List.any_nil] at j2
   rw [j2, Bool.false_or] at i2
   simp [hi, hm, hs, gE hs, hj]
   exact ⟨i + 1, ⟨hi, i2⟩, by omega, w1⟩
 obtain ⟨n, hn, hnd⟩ := get_drop (l := s.Nb) (i := j) hj
 rw [hnd] at j2
 simp only [List.any_cons] at j2
 have w2 : IntKind.i64.wrap ((j : Int) + 1) = j + 1 := wrap_in (by omega)
 have gN := gE hn
 have k20 := fun H => (x20 n.Una _ rfl (g2 n (List.mem_of_getElem? hn)) k).up' H rfl rfl
 have hwb : waitB k n = decide (0 ≤ idxL (hasKH k) n.Una 0) := idxL_any _ _ 0
 rw [hwb] at j2
 clear hwb
 generalize idxL (hasKH k) n.Una 0 = q at *
 by_cases hb : 0 ≤ q
 · have hWt : W = true := by rw [i2, j2, decide_eq_true hb]; rfl
   clear i2 j2 hW
   subst hWt
   simp [hi, hm, hs, gE hs, hj, hn, gN]
   refine ⟨_, _, .inl (by simpa using k20 _), by simp, ?_⟩
   simp [hb]
 · rw [decide_eq_false hb, Bool.false_or] at j2
   simp [hi, hm, hs, gE hs, hj, hn, gN]
   refine ⟨_, _, .inl (by simpa using k20 _), by simp, ?_⟩
   simp [hb]
   exact ⟨j + 1, ⟨hj, j2⟩, by omega, w2⟩
end Go.Proofs.Ythonenmafbpbkaa

/- What interfaces and keys bring as arguments; the law FloodDue. -/
namespace Go.Proofs.Ythonenmafbpbkaa
open Go Go.Am
def csI : List CTy := [.int .i64, .int .u32, .int .i64, .int .u32, .int .u32, .int .i64, .int .i64, .int .i64, .int .i64, .bool, .int .u32, .int .u32, .int .i64, .int .i64, .sl true 168 csN]
def tyIs : Bool × List CTy := (false, [.sl true 120 csI])
def tyKey : Bool × List CTy := (true, [.int .i64, .int .u32, .int .i64, .int .u32])
structure okIf (s : Ifs) : Prop where
  area : inW s.Area
  dr : inW s.DR
  bdr : inW s.BDR
  kind : inI s.Kind
  nb : s.Nb.length * 168 ≤ 140737488351232
  nbs : ∀ n ∈ s.Nb, okN n
theorem rd_If {x : AVal} (h : RdA (true, csI) x) : ∃ s : Ifs, x = encIf s ∧ okIf s := by
 obtain ⟨cs, h1, h⟩ := h
 obtain ⟨a1, r, rfl, h, w1⟩ := Rds_int h
 obtain ⟨a2, r, rfl, h, w2⟩ := Rds_int h
 obtain ⟨a3, r, rfl, h, w3⟩ := Rds_int h
 obtain ⟨a4, r, rfl, h, w4⟩ := Rds_int h
 obtain ⟨a5, r, rfl, h, w5⟩ := Rds_int h
 obtain ⟨a6, r, rfl, h, w6⟩ := Rds_int h
 obtain ⟨a7, r, rfl, h, w7⟩ := Rds_int h
 obtain ⟨a8, r, rfl, h, w8⟩ := Rds_int h
 obtain ⟨a9, r, rfl, h, w9⟩ := Rds_int h
 obtain ⟨b1, r, rfl, k1⟩ := Rds_bool h
 obtain ⟨b2, r, rfl, h, v2⟩ := Rds_int k1
 obtain ⟨b3, r, rfl, h, v3⟩ := Rds_int h
 obtain ⟨b4, r, rfl, h, _⟩ := Rds_int h
 obtain ⟨b5, r, rfl, h, _⟩ := Rds_int h
 obtain ⟨l, r, rfl, h, z⟩ := Rds_sl (enc := fun x : { x : Nbr // okN x } => encN x.1) h (fun y cs e h => by
   obtain ⟨a, ha, ok⟩ := rd_N (x := y) ⟨cs, e, h⟩
   exact ⟨⟨a, ok⟩, ha⟩)
 obtain rfl := Rds_nil h
 refine ⟨⟨a1, a2, a3, a4, a5, a6, a7, a8, a9, b1, b2, b3, b4, b5, l.map (·.1)⟩, ?_, ⟨wf_u32 w4, wf_u32 v2, wf_u32 v3, wf_i64 w1, by simpa [reachBytes] using z, fun n hn => ?_⟩⟩
 · rw [if_pos rfl] at h1
   rw [h1]
   simp [csN, Function.comp_def]
 · obtain ⟨y, _, rfl⟩ := List.mem_map.1 hn
   exact y.2
theorem rd_Is {x : AVal} (h : RdA tyIs x) : ∃ l : List Ifs, x = .sl 15 (l.map encIf) .sh ∧ l.length * 120 ≤ 140737488351232 ∧ ∀ s ∈ l, okIf s := by
 obtain ⟨cs, h1, h2⟩ := h
 obtain ⟨l, r, rfl, h, z⟩ := Rds_sl (enc := fun x : { x : Ifs // okIf x } => encIf x.1) h2 (fun y cs e h => by
   obtain ⟨a, ha, ok⟩ := rd_If (x := y) ⟨cs, e, h⟩
   exact ⟨⟨a, ok⟩, ha⟩)
 obtain rfl := Rds_nil h
 refine ⟨l.map (·.1), ?_, by simpa [reachBytes] using z, fun n hn => ?_⟩
 · rw [if_neg (by simp [tyIs])] at h1
   rw [List.cons.inj h1 |>.1.symm]
   simp [csI, Function.comp_def]
 · obtain ⟨y, _, rfl⟩ := List.mem_map.1 hn
   exact y.2
theorem rd_Key {x : AVal} (h : RdA tyKey x) : ∃ k : LKey, x = encY k := by
 obtain ⟨cs, h1, h⟩ := h
 obtain ⟨a1, r, rfl, h, _⟩ := Rds_int h
 obtain ⟨a2, r, rfl, h, _⟩ := Rds_int h
 obtain ⟨a3, r, rfl, h, _⟩ := Rds_int h
 obtain ⟨a4, r, rfl, h, _⟩ := Rds_int h
 obtain rfl := Rds_nil h
 exact ⟨⟨a1, a2, a3, a4⟩, by rw [if_pos (show tyKey.1 = true from rfl)] at h1; exact h1⟩
set_option maxHeartbeats 8000000 in
set_option maxRecDepth 10000 in
theorem e5 (n : Nbr) (ok : okN n) (l : List Ifs) (hl : l.length * 120 ≤ 140737488351232) (okl : ∀ s ∈ l, okIf s) (k : LKey) (now : Int) : CFun Try.prog 5 [encN n, .sl 15 (l.map encIf) .sh, encY k, .int .i64 now] [] (.bool true) [] := by
 refine CFun.intro (tr := []) (fz := []) (n := 52) (rs := [.tmp 8]) Try.func5 rfl (by kernel_rfl) rfl rfl mixed (by kernel_rfl) (by simp) (by simp) ?_
 have k10 := fun H => f10.up' H rfl rfl
 by_cases c1 : now < 0
 · simp [c1]
   refine ⟨_, _, .inl (by simpa using k10 _), by simp, ?_⟩
   simp
 by_cases c2 : 1099511627776 < now
 · simp [c1, c2]
   refine ⟨_, _, .inl (by simpa using k10 _), by simp, ?_⟩
   simp
 have hw : inI (now + 5) := by unfold inI; omega
 have k18 := fun H => (e18 n ok now hw).up' H rfl rfl
 have k19 := fun H => (e19 n ok now hw).up' H rfl rfl
 have hlk : ∀ s ∈ l, s.Nb.length < 8796093022208 ∧ ∀ n ∈ s.Nb, n.Una.length < 8796093022208 := fun s hs => ⟨by have := (okl s hs).nb; omega, fun n hn => by have := ((okl s hs).nbs n hn).una; omega⟩
 have k21 := fun H => (e21 l _ rfl (by omega) hlk k).up' H rfl rfl
 have k22 := fun H => (e22 l _ rfl (by omega) hlk k).up' H rfl rfl
 have hd : (dueN n now).1.Lst = n.Lst ∧ (dueN n now).1.Sent = n.Sent ∧ (dueN n now).1.Req = n.Req ∧ (dueN n now).1.Una = n.Una ∧ (dueN n now).2.length ≤ n.Una.length := by
   unfold dueN; split <;> simp
 obtain ⟨d1, d2, d3, d4, d5⟩ := hd
 generalize dueN n now = a at *
 obtain ⟨a, u⟩ := a
 simp only at d1 d2 d3 d4 d5 k18 k19
 have h1 := ok.lst
 have h2 := ok.sent
 have h3 := ok.req
 have h4 := ok.una
 have k15 := fun H => (x12 a (by rw [d1]; omega) (by rw [d2]; omega) (by rw [d3]; omega) (by rw [d4]; omega)).up' H rfl rfl
 have k20 := fun H => (f42 u u _ _ rfl rfl (by omega)).up' H rfl rfl
 generalize waitL l k = w at *
 clear hlk okl d1 d2 d3 d4 d5 h1 h2 h3 h4 hl ok hw
 simp [c1, c2]
 refine ⟨_, _, .inl (by simpa using k18 _), by simp, ?_⟩
 simp
 refine ⟨_, _, .inl (by simpa using k19 _), by simp, ?_⟩
 simp
 refine ⟨_, _, .inl (by simpa using k15 _), by simp, ?_⟩
 simp
 refine ⟨_, _, .inl (by simpa using k20 _), by simp, ?_⟩
 simp
 refine ⟨_, _, .inl (by simpa using k21 _), by simp, ?_⟩
 simp
 refine ⟨_, _, .inl (by simpa using k22 _), by simp, ?_⟩
 simp
 refine ⟨_, _, .inl (by simpa using k10 _), by simp, ?_⟩
 simp
end Go.Proofs.Ythonenmafbpbkaa
