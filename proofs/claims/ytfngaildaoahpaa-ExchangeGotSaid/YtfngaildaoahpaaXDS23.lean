import Derived.Test.YtfngaildaoahpaaXDS17
set_option linter.unusedSimpArgs false
set_option linter.unusedVariables false
namespace Go.Proofs.Ytfngaildaoahpaa
open Go Go.Am

def sameB (a b : Lsa) : Bool := decide (keyH a.H = keyH b.H ∧ a.Border = b.Border ∧ a.Boundary = b.Boundary ∧ a.Links = b.Links ∧ a.Att = b.Att ∧ a.Cost = b.Cost ∧ a.Second = b.Second ∧ a.Fwd = b.Fwd ∧ a.Tag = b.Tag)
theorem keyH_iff (a b : Hdr) : keyH a = keyH b ↔ a.Ty = b.Ty ∧ a.ID = b.ID ∧ a.Len = b.Len ∧ a.Router = b.Router := by simp [keyH]
/-- The same of the key, cell by cell. -/
def keyE (a b : Hdr) : Bool := (a.Ty == b.Ty) && ((a.ID == b.ID) && ((a.Len == b.Len) && (a.Router == b.Router)))
theorem keyE_iff (a b : Hdr) : keyE a b = true ↔ keyH a = keyH b := by
  rw [keyH_iff]; simp [keyE]

set_option maxHeartbeats 4000000 in
set_option maxRecDepth 10000 in
theorem c30 (a b : Lsa) (hl : a.Links.length < 8796093022208) (ha : a.Att.length < 140737488355328) : CFun Try.prog 72 [encA a, encA b] [] (.bool (sameB a b)) [] := by
  refine CFun.intro (tr := []) (fz := []) (n := 110) (rs := [.tmp 4]) Try.func72 rfl (by kernel_rfl) rfl rfl mixed (by kernel_rfl) (by simp) (by simp) ?_
  have h26a := fun H => (c26 a.H).up' H rfl rfl
  have h26b := fun H => (c26 b.H).up' H rfl rfl
  simp only [keyH, encY, cellsY] at h26a h26b
  simp
  refine ⟨_, _, .inl (h26a _), by simp, ?_⟩
  simp
  refine ⟨_, _, .inl (h26b _), by simp, ?_⟩
  by_cases e1 : keyH a.H = keyH b.H
  case neg =>
    have hf : sameB a b = false := by simp [sameB, e1]
    have hk : keyE a.H b.H = false := by
      cases h : keyE a.H b.H
      · rfl
      · exact (e1 ((keyE_iff _ _).1 h)).elim
    simp only [keyE] at hk
    simp [hf, hk]
  have hk : keyE a.H b.H = true := (keyE_iff _ _).2 e1
  simp only [keyE] at hk
  simp [hk]
  by_cases e2 : a.Border = b.Border
  case neg => rw [if_neg e2]; simp [sameB, e2]
  rw [if_pos e2]
  by_cases e3 : a.Boundary = b.Boundary
  case neg => rw [if_neg e3]; simp [sameB, e3]
  rw [if_pos e3]
  by_cases e6 : a.Cost = b.Cost
  case neg => rw [if_neg e6]; simp [sameB, e6]
  rw [if_pos e6]
  by_cases e7 : a.Second = b.Second
  case neg => rw [if_neg e7]; simp [sameB, e7]
  rw [if_pos e7]
  by_cases e8 : a.Fwd = b.Fwd
  case neg => rw [if_neg e8]; simp [sameB, e8]
  rw [if_pos e8]
  by_cases e9 : a.Tag = b.Tag
  case neg => rw [if_neg e9]; simp [sameB, e9]
  rw [if_pos e9]
  by_cases l1 : (a.Links.length : Int) = b.Links.length
  case neg =>
    have hne : a.Links ≠ b.Links := fun h => l1 (by rw [h])
    rw [if_neg l1]; simp [sameB, hne]
  rw [if_pos l1]
  by_cases l2 : (a.Att.length : Int) = b.Att.length
  case neg =>
    have hne : a.Att ≠ b.Att := fun h => l2 (by rw [h])
    rw [if_neg l2]; simp [sameB, hne]
  rw [if_pos l2]
  have hS : sameB a b = decide (a.Links = b.Links ∧ a.Att = b.Att) := by simp [sameB, e1, e2, e3, e6, e7, e8, e9]
  rw [hS]
  obtain ⟨n, hn⟩ : ∃ n, a.Links.length = n := ⟨_, rfl⟩
  obtain ⟨m, hm⟩ : ∃ m, a.Att.length = m := ⟨_, rfl⟩
  have hcn : (a.Links.length : Int) = n := by omega
  have hcm : (a.Att.length : Int) = m := by omega
  refine LoopK.intro (tr := []) mixed (by kernel_rfl) (fun i : Nat => [(2, .ptr 0 0), (3, .ptr 1 0), (5, .int .i64 i)]) (fun _ => [cellsA a, cellsA b]) (fun i => i ≤ n ∧ (a.Links = b.Links ↔ a.Links.drop i = b.Links.drop i)) (fun i => n - i) 0 ?_ ?_ ?_
  · simp
  · simp
  · rintro i ⟨h1, h2⟩
    by_cases hi : i < n
    · obtain ⟨r, hx, hd⟩ := get_drop (l := a.Links) (i := i) (by omega)
      obtain ⟨t, hy, he⟩ := get_drop (l := b.Links) (i := i) (by omega)
      rw [hd, he, List.cons.injEq] at h2
      have w1 : IntKind.i64.wrap ((i : Int) + 1) = i + 1 := wrap_in (by omega)
      have hext : r = t ↔ r.Kind = t.Kind ∧ r.ID = t.ID ∧ r.Data = t.Data ∧ r.Cost = t.Cost := by
        cases r; cases t; simp
      clear hd he
      by_cases hrt : r = t
      · subst hrt
        simp [hcn, hi, hx, hy, w1]
        exact ⟨i + 1, ⟨by omega, by simpa using h2⟩, by omega, by simp⟩
      · have hne : ¬ (a.Links = b.Links) := by rw [h2]; simp [hrt]
        rw [hext] at hrt
        by_cases b1 : r.Kind = t.Kind <;> by_cases b2 : r.ID = t.ID <;> by_cases b3 : r.Data = t.Data <;> by_cases b4 : r.Cost = t.Cost <;> simp [b1, b2, b3, b4] at hrt <;>
          simp [hcn, hi, hx, hy, b1, b2, b3, b4, hne]
    · have e : a.Links.drop i = [] := List.drop_of_length_le (by omega)
      have e' : b.Links.drop i = [] := List.drop_of_length_le (by omega)
      rw [e, e'] at h2
      have hL : a.Links = b.Links := h2.2 rfl
      simp [hcn, hi]
      refine LoopK.intro (tr := []) mixed (by kernel_rfl) (fun j : Nat => [(2, .ptr 0 0), (3, .ptr 1 0), (6, .int .i64 j)]) (fun _ => [cellsA a, cellsA b]) (fun j => j ≤ m ∧ (a.Att = b.Att ↔ a.Att.drop j = b.Att.drop j)) (fun j => m - j) 0 ?_ ?_ ?_
      · simp
      · simp
      · rintro j ⟨j1, j2⟩
        by_cases hj : j < m
        · obtain ⟨r, hx, hd⟩ := get_drop (l := a.Att) (i := j) (by omega)
          obtain ⟨t, hy, he⟩ := get_drop (l := b.Att) (i := j) (by omega)
          rw [hd, he, List.cons.injEq] at j2
          have w1 : IntKind.i64.wrap ((j : Int) + 1) = j + 1 := wrap_in (by omega)
          clear hd he
          by_cases hrt : r = t
          · subst hrt
            simp [hcm, hj, hx, hy, w1]
            exact ⟨j + 1, ⟨by omega, by simpa using j2⟩, by omega, by simp⟩
          · have hne : ¬ (a.Att = b.Att) := by rw [j2]; simp [hrt]
            simp [hcm, hj, hx, hy, hrt, hne]
        · have e : a.Att.drop j = [] := List.drop_of_length_le (by omega)
          have e' : b.Att.drop j = [] := List.drop_of_length_le (by omega)
          rw [e, e'] at j2
          have hA : a.Att = b.Att := j2.2 rfl
          simp [hcm, hj]
          exact ⟨hL, hA⟩
end Go.Proofs.Ytfngaildaoahpaa

namespace Go.Proofs.Ytfngaildaoahpaa
open Go Go.Am

theorem and_mask_val (A k : Nat) (hA : A < 2 ^ 32) (hk : k ≤ 32) : A &&& ((4294967295 * 2 ^ k) % 2 ^ 32) = A / 2 ^ k * 2 ^ k := by
  apply Nat.eq_of_testBit_eq
  intro i
  rw [Nat.testBit_and, mask_bits k i hk, Nat.testBit_mul_two_pow]
  by_cases h2 : k ≤ i
  · have e : (A / 2 ^ k).testBit (i - k) = A.testBit i := by
      rw [Nat.testBit_div_two_pow]
      congr 1; omega
    by_cases h1 : i < 32
    · simp [h1, h2, e]
    · have : A.testBit i = false := Nat.testBit_lt_two_pow (Nat.lt_of_lt_of_le hA (Nat.pow_le_pow_right (by omega) (by omega)))
      simp [h2, e, this]
  · simp [h2]
theorem keep_val (A m : Nat) (hA : A < 2 ^ 32) (hm : m ≤ 32) : keepI A m = ((A / 2 ^ (32 - m) * 2 ^ (32 - m) : Nat) : Int) := by
  rw [keep_nat A m hA hm, and_mask_val A (32 - m) hA (by omega)]

theorem and_pow (B s : Nat) : B &&& 2 ^ s = (B.testBit s).toNat * 2 ^ s := by
  apply Nat.eq_of_testBit_eq
  intro i
  rw [Nat.testBit_and, Nat.testBit_two_pow]
  by_cases h : s = i
  · subst h
    cases hb : B.testBit s <;> simp
  · cases hb : B.testBit s <;> simp [h, Nat.testBit_two_pow]

end Go.Proofs.Ytfngaildaoahpaa

namespace Go.Proofs.Ytfngaildaoahpaa
open Go Go.Am

@[simp] def encP (p : Int × Int) : AVal := .agg [.int .u32 p.1, .int .i64 p.2]
def mkP (a n : Int) : (Int × Int) × Int := if n < 0 ∨ 32 < n then ((0, 0), 5) else ((keepI a n, n), 0)
def pfxL (l : Lsa) : (Int × Int) × Bool := if hasP l.H.Ty = false then ((0, 0), false) else if l.H.Len < 0 ∨ 32 < l.H.Len then ((0, 0), false) else ((keepI l.H.ID l.H.Len, l.H.Len), true)
theorem chkA_head {l : Lsa} (h : chkA l = 0) : chkH l.H = 0 := by
  unfold chkA at h
  split at h
  · exact h
  · rename_i h1; simpa using h1
theorem head_ok {h : Hdr} (hc : chkH h = 0) : (1 ≤ h.Ty ∧ h.Ty ≤ 5) ∧ (0 ≤ h.Len ∧ h.Len ≤ 32) ∧ (h.Ty = 3 ∨ h.Ty = 5 → validP h.ID h.Len = true) := by
  unfold chkH at hc
  by_cases p1 : inR h.Ty 1 5 = false
  · rw [if_pos p1] at hc; cases hc
  rw [if_neg p1] at hc
  by_cases p2 : h.Router = 0 ∨ inR h.Seq 1 2147483647 = false ∨ inR h.Age 0 3600 = false ∨ inR h.Sum 0 65535 = false ∨ inR h.Len 0 (if hasP h.Ty = true then 32 else 0) = false
  · rw [if_pos p2] at hc; cases hc
  rw [if_neg p2] at hc
  by_cases p3 : h.Ty = 1 ∧ h.ID ≠ h.Router
  · rw [if_pos p3] at hc; cases hc
  rw [if_neg p3] at hc
  by_cases p4 : (h.Ty = 3 ∨ h.Ty = 5) ∧ validP h.ID h.Len = false
  · rw [if_pos p4] at hc; cases hc
  have a1 : inR h.Ty 1 5 = true := by simpa using p1
  rw [inR_iff] at a1
  have a2 : inR h.Len 0 (if hasP h.Ty = true then 32 else 0) = true := by
    cases hq : inR h.Len 0 (if hasP h.Ty = true then 32 else 0)
    · exact (p2 (.inr (.inr (.inr (.inr hq))))).elim
    · rfl
  rw [inR_iff] at a2
  refine ⟨a1, ⟨a2.1, by split at a2 <;> omega⟩, fun ht => ?_⟩
  cases hq : validP h.ID h.Len
  · exact (p4 ⟨ht, hq⟩).elim
  · rfl

theorem sameB_self (a : Lsa) : sameB a a = true := by simp [sameB]

end Go.Proofs.Ytfngaildaoahpaa

namespace Go.Proofs.Ytfngaildaoahpaa
open Go Go.Am

theorem ofGift {P : Program} {f : FuncId} {args : List AVal} {H H' : List (List AVal)} {x : AVal} (h : CFunO P f args H x H') (ha : args.all (fun y => !y.isOwn) = true) : CFun P f args H x H' := by
  refine ⟨h.1, fun G w cargs h1 h2 h3 h4 h5 => h.2 G w cargs h1 h2 h3 h4 fun i y v hy hv => ⟨h5 i y v hy hv, OwnAt.of_not ?_⟩⟩
  simp only [List.all_eq_true, Bool.not_eq_true'] at ha
  exact ha y (List.mem_of_getElem? hy)

/-- Bytes to which more are appended: with the right to grow, or none as yet. -/
def Acc (b : List Int) (x : AVal) : Prop := x = .sl 1 (b.map enc8) .own ∨ (b = [] ∧ ∃ k, x = .sl k [] .full)

set_option maxHeartbeats 2000000 in
set_option maxRecDepth 10000 in
theorem o61 (n : Nat) (h1 : 1 ≤ n) (hn : n ≤ 8) (b : List Int) (X : AVal) (hX : Acc b X) (hb : b.length < 1099511627000) (y : Int) (H : List (List AVal)) (hH : LeBoxes H.length H H) :
    CFunO Try.prog 116 [X, .int .i64 n, .int .u64 y] H (.sl 1 ((b ++ numB n y).map enc8) .own) H := by
  refine CFunO.intro (tr := [14, 23]) (fz := []) (n := 24) (rs := [.tmp 6]) Try.func116 rfl (by kernel_rfl) rfl rfl mixed (by kernel_rfl) (by simp) ?_
  have w0 : IntKind.i64.wrap ((n : Int) - 1) = n - 1 := wrap_in (by omega)
  simp [w0, -List.map_append]
  refine LoopK.intro (tr := [14, 23]) mixed (by kernel_rfl) (fun q : Nat × List Int × AVal => [(0, q.2.2), (2, .int .u64 y), (7, .int .i64 ((q.1 : Int) - 1))]) (fun _ => H) (fun q => q.1 ≤ n ∧ Acc q.2.1 q.2.2 ∧ q.2.1.length + q.1 = b.length + n ∧ q.2.1 ++ numB q.1 y = b ++ numB n y) (fun q => q.1) (n, b, X) ?_ ?_ ?_
  · exact ⟨Nat.le_refl _, hX, rfl, rfl⟩
  · rcases hX with rfl | ⟨rfl, kk, rfl⟩ <;> simp [hH]
  · rintro ⟨k, out, Y⟩ ⟨k1, k2, k3, k4⟩
    simp only at k1 k2 k3 k4
    cases k with
    | zero =>
      simp only [numB, List.append_nil] at k4
      rcases k2 with rfl | ⟨rfl, kk, rfl⟩
      · simp [k4, hH, -List.map_append]
      · have := congrArg List.length k4
        simp [numB_len] at this
        omega
    | succ k =>
      have w1 : IntKind.i64.wrap (8 * (k : Int)) = 8 * k := wrap_in (by omega)
      have w2 : IntKind.i64.wrap ((k : Int) - 1) = k - 1 := wrap_in (by omega)
      have w3 : IntKind.u64.wrap (8 * (k : Int)) = 8 * k := by rw [wrap_u64]; omega
      have g0 : (0 : Int) ≤ k := by omega
      have g5 : ¬ (8 * (k : Int) < 0) := by omega
      have g6 : min (8 * (k : Int)).toNat IntKind.u64.bits = 8 * k := by
        have : IntKind.u64.bits = 64 := rfl
        omega
      have s1 : out.length + 1 ≤ 140737488355328 := by omega
      have hbt : IntKind.u8.wrap (y.fdiv (2 ^ (8 * k))) = bt y k := rfl
      have hnx : (out ++ [bt y k]) ++ numB k y = b ++ numB n y := by rw [← k4]; simp [numB]
      rcases k2 with rfl | ⟨rfl, kk, rfl⟩
      · simp [w1, w2, w3, g0, g5, g6, s1, hbt, hH]
        exact ⟨k, out ++ [bt y k], _, ⟨by omega, .inl rfl, by simp; omega, hnx⟩, by omega, by simp, by simp, rfl⟩
      · simp [w1, w2, w3, g0, g5, g6, hbt, hH]
        exact ⟨k, [bt y k], _, ⟨by omega, .inl rfl, by simp at k3 ⊢; omega, by simpa using hnx⟩, by omega, by simp, by simp, rfl⟩
end Go.Proofs.Ytfngaildaoahpaa

namespace Go.Proofs.Ytfngaildaoahpaa
open Go Go.Am

theorem c61z (n : Nat) (h1 : 1 ≤ n) (hn : n ≤ 8) (k : Nat) (y : Int) : CFun Try.prog 116 [.sl k [] .full, .int .i64 n, .int .u64 y] [] (.sl 1 ((numB n y).map enc8) .own) [] :=
  ofGift (o61 n h1 hn [] _ (.inr ⟨rfl, k, rfl⟩) (by simp) y [] trivial) rfl
theorem u61z (n : Nat) (h1 : 1 ≤ n) (hn : n ≤ 8) (k : Nat) (y : Int) (H : List (List AVal)) : CFun Try.prog 116 [.sl k [] .full, .int .i64 n, .int .u64 y] H (.sl 1 ((numB n y).map enc8) .own) H :=
  (c61z n h1 hn k y).up' H rfl rfl
theorem p61 (n : Nat) (b : List Int) (y : Int) (H : List (List AVal)) (h1 : 1 ≤ n) (hn : n ≤ 8) (hb : b.length < 1099511627000) (hH : LeBoxes H.length H H) :
    CFunO Try.prog 116 [.sl 1 (b.map enc8) .own, .int .i64 n, .int .u64 y] H (.sl 1 ((b ++ numB n y).map enc8) .own) H := o61 n h1 hn b _ (.inl rfl) hb y H hH

theorem c89 (a b : Bool) : CFun Try.prog 120 [.bool a, .bool b] [] (.int .u64 (orU (flagI a 1) (flagI b 2))) [] := by
  refine CFun.intro (tr := []) (fz := []) (n := 11) (rs := [.tmp 4]) Try.func120 rfl (by kernel_rfl) rfl rfl mixed (by kernel_rfl) (by simp) (by simp) ?_
  cases a <;> cases b <;> simp [flagI] <;> decide

set_option maxHeartbeats 2000000 in
set_option maxRecDepth 10000 in
theorem c35 (h : Hdr) : CFun Try.prog 117 [encH h] [] (.sl 1 ((hdrB h).map enc8) .own) [] := by
  refine CFun.intro (tr := [8, 13, 18, 23, 28, 33, 400012, 400017, 400022, 400027, 400032, 400037]) (fz := []) (n := 38) (rs := [.tmp 2]) Try.func117 rfl (by kernel_rfl) rfl rfl mixed (by kernel_rfl) (by simp) (by simp) ?_
  simp
  refine ⟨_, _, .inl (u61z 2 (by omega) (by omega) _ (U h.Age) _), by simp, ?_⟩
  simp [-List.map_append]
  refine ⟨_, _, p61 1 _ (U h.Ty) _ (by omega) (by omega) (by simp [numB_len]) (by simp), ?_⟩
  simp [-List.map_append]
  refine ⟨_, _, p61 1 _ (U h.Len) _ (by omega) (by omega) (by simp [numB_len]) (by simp), ?_⟩
  simp [-List.map_append]
  refine ⟨_, _, p61 4 _ (U h.ID) _ (by omega) (by omega) (by simp [numB_len]) (by simp), ?_⟩
  simp [-List.map_append]
  refine ⟨_, _, p61 4 _ (U h.Router) _ (by omega) (by omega) (by simp [numB_len]) (by simp), ?_⟩
  simp [-List.map_append]
  refine ⟨_, _, p61 4 _ (U h.Seq) _ (by omega) (by omega) (by simp [numB_len]) (by simp), ?_⟩
  simp [-List.map_append]
  refine ⟨_, _, p61 2 _ (U h.Sum) _ (by omega) (by omega) (by simp [numB_len]) (by simp), ?_⟩
  simp [-List.map_append, hdrB]
end Go.Proofs.Ytfngaildaoahpaa

namespace Go.Proofs.Ytfngaildaoahpaa
open Go Go.Am
set_option linter.unusedSimpArgs false

theorem orU_f (b : Bool) : orU (flagI b 1) (flagI false 2) = flagI b 1 := by cases b <;> decide
theorem p61z (n : Nat) (k : Nat) (y : Int) (H : List (List AVal)) (h1 : 1 ≤ n) (hn : n ≤ 8) (hH : LeBoxes H.length H H) :
    CFunO Try.prog 116 [.sl k [] .full, .int .i64 n, .int .u64 y] H (.sl 1 ((numB n y).map enc8) .own) H := o61 n h1 hn [] _ (.inr ⟨rfl, k, rfl⟩) (by simp) y H hH

set_option maxHeartbeats 4000000 in
set_option maxRecDepth 10000 in
theorem c60 (l : Lsa) (hl : l.Links.length ≤ 64) (ha : l.Att.length ≤ 64) : CFun Try.prog 115 [encA l] [] (encBs (bodyB l)) [] := by
  refine CFun.intro (tr := [12, 19, 32, 41, 50, 59, 70, 83, 94, 101, 106, 111, 116, 400018, 400024, 400040, 400049, 400058, 400067, 400075, 400090, 400098, 400105, 400110, 400115, 400120]) (fz := []) (n := 122) (rs := [.tmp 2]) Try.func115 rfl (by kernel_rfl) rfl rfl mixed (by kernel_rfl) (by simp) (by simp) ?_
  have h89 : ∀ a b H, CFun Try.prog 120 [.bool a, .bool b] H (.int .u64 (orU (flagI a 1) (flagI b 2))) H := fun a b H => (c89 a b).up' H rfl rfl
  by_cases t3 : l.H.Ty = 3
  · simp [t3]
    refine ⟨_, _, p61z 4 _ (U l.Cost) _ (by omega) (by omega) (by simp), ?_⟩
    simp [bodyB, t3]
  by_cases t4 : l.H.Ty = 4
  · simp [t4]
    refine ⟨_, _, p61z 4 _ (U l.Cost) _ (by omega) (by omega) (by simp), ?_⟩
    simp [bodyB, t4]
  by_cases t5 : l.H.Ty = 5
  · simp [t5]
    refine ⟨_, _, .inl (h89 _ _ _), trivial, ?_⟩
    simp
    refine ⟨_, _, p61z 1 _ (orU (flagI l.Second 1) (flagI false 2)) _ (by omega) (by omega) (by simp), ?_⟩
    simp
    refine ⟨_, _, p61 4 _ (U l.Cost) _ (by omega) (by omega) (by simp [numB_len]) (by simp), ?_⟩
    simp [-List.map_append]
    refine ⟨_, _, p61 4 _ (U l.Fwd) _ (by omega) (by omega) (by simp [numB_len]) (by simp), ?_⟩
    simp [-List.map_append]
    refine ⟨_, _, p61 4 _ (U l.Tag) _ (by omega) (by omega) (by simp [numB_len]) (by simp), ?_⟩
    simp [-List.map_append, bodyB, t5, orU_f]
  by_cases t1 : l.H.Ty = 1
  · have h1 : bodyB l = numB 1 (orU (flagI l.Border 1) (flagI l.Boundary 2)) ++ numB 1 (U l.Links.length) ++ (l.Links.map linkB).flatten := by simp [bodyB, t1]
    rw [h1]
    obtain ⟨n, hn⟩ : ∃ n, l.Links.length = n := ⟨_, rfl⟩
    have hc : (l.Links.length : Int) = n := by omega
    rw [hc]
    simp [t1, hc, -List.map_append, -List.append_assoc]
    refine ⟨_, _, .inl (h89 _ _ _), trivial, ?_⟩
    simp [-List.map_append, -List.append_assoc]
    refine ⟨_, _, p61z 1 _ (orU (flagI l.Border 1) (flagI l.Boundary 2)) _ (by omega) (by omega) (by simp), ?_⟩
    simp [hc, -List.map_append, -List.append_assoc]
    refine ⟨_, _, p61 1 _ (U n) _ (by omega) (by omega) (by simp [numB_len]) (by simp), ?_⟩
    have hp : (numB 1 (orU (flagI l.Border 1) (flagI l.Boundary 2)) ++ numB 1 (U n)).length = 2 := by simp [numB_len]
    generalize numB 1 (orU (flagI l.Border 1) (flagI l.Boundary 2)) ++ numB 1 (U n) = pre at hp ⊢
    simp [hc, -List.map_append, -List.append_assoc]
    refine LoopK.intro (tr := [12, 19, 32, 41, 50, 59, 70, 83, 94, 101, 106, 111, 116, 400018, 400024, 400040, 400049, 400058, 400067, 400075, 400090, 400098, 400105, 400110, 400115, 400120]) mixed (by kernel_rfl) (fun q : Nat × List Int => [(1, .ptr 0 0), (3, .sl 1 (q.2.map enc8) .own), (4, .int .i64 q.1), (9, .int .i64 1)]) (fun q => [cellsA l])
      (fun q => q.1 ≤ n ∧ q.2.length ≤ 2 + 11 * q.1 ∧ q.2 = pre ++ ((l.Links.map linkB).take q.1).flatten) (fun q => n - q.1) (0, pre) ?_ ?_ ?_
    · exact ⟨by simp, by simp [hp], by simp⟩
    · simp [t1]
    · rintro ⟨i, out⟩ ⟨k1, k2, k3⟩
      simp only at k1 k2 k3
      by_cases hi : i < n
      · obtain ⟨x, hx, _⟩ := get_drop (l := l.Links) (i := i) (by omega)
        have w1 : IntKind.i64.wrap ((i : Int) + 1) = i + 1 := wrap_in (by omega)
        have hnx := take_map linkB l.Links i x hx
        have s0 : out.length < 1099511620000 := by omega
        simp [hi, hx, hc]
        refine ⟨_, _, p61 1 _ (U x.Kind) _ (by omega) (by omega) (by first | omega | (simp [numB_len]; omega)) (by simp), ?_⟩
        simp [-List.map_append, hi, hx, hc]
        refine ⟨_, _, p61 4 _ (U x.ID) _ (by omega) (by omega) (by first | omega | (simp [numB_len]; omega)) (by simp), ?_⟩
        simp [-List.map_append, hi, hx, hc]
        refine ⟨_, _, p61 4 _ (U x.Data) _ (by omega) (by omega) (by first | omega | (simp [numB_len]; omega)) (by simp), ?_⟩
        simp [-List.map_append, hi, hx, hc]
        refine ⟨_, _, p61 2 _ (U x.Cost) _ (by omega) (by omega) (by first | omega | (simp [numB_len]; omega)) (by simp), ?_⟩
        simp [-List.map_append, w1]
        refine ⟨i + 1, out ++ linkB x, ⟨by omega, by rw [List.length_append, linkB_len]; omega, ?_⟩, by omega, by simp [linkB], by simp⟩
        show out ++ linkB x = pre ++ ((l.Links.map linkB).take (i + 1)).flatten
        rw [hnx, ← List.append_assoc, ← k3]
      · have hin : i = n := by omega
        subst hin
        have ht : (l.Links.map linkB).take i = l.Links.map linkB := List.take_of_length_le (by simp; omega)
        rw [ht] at k3
        simp [k3, hc]
  by_cases t2 : l.H.Ty = 2
  · have h1 : bodyB l = numB 1 (U l.Att.length) ++ (l.Att.map attB).flatten := by simp [bodyB, t2]
    rw [h1]
    obtain ⟨n, hn⟩ : ∃ n, l.Att.length = n := ⟨_, rfl⟩
    have hc : (l.Att.length : Int) = n := by omega
    rw [hc]
    simp [t2, hc, -List.map_append]
    refine ⟨_, _, p61z 1 _ (U n) _ (by omega) (by omega) (by simp), ?_⟩
    have hp : (numB 1 (U n)).length = 1 := by simp [numB_len]
    generalize numB 1 (U n) = pre at hp ⊢
    simp [hc, -List.map_append]
    refine LoopK.intro (tr := [12, 19, 32, 41, 50, 59, 70, 83, 94, 101, 106, 111, 116, 400018, 400024, 400040, 400049, 400058, 400067, 400075, 400090, 400098, 400105, 400110, 400115, 400120]) mixed (by kernel_rfl) (fun q : Nat × List Int => [(1, .ptr 0 0), (3, .sl 1 (q.2.map enc8) .own), (5, .int .i64 q.1), (9, .int .i64 2)]) (fun q => [cellsA l])
      (fun q => q.1 ≤ n ∧ q.2.length ≤ 1 + 4 * q.1 ∧ q.2 = pre ++ ((l.Att.map attB).take q.1).flatten) (fun q => n - q.1) (0, pre) ?_ ?_ ?_
    · exact ⟨by simp, by simp [hp], by simp⟩
    · simp [t2]
    · rintro ⟨i, out⟩ ⟨k1, k2, k3⟩
      simp only at k1 k2 k3
      by_cases hi : i < n
      · obtain ⟨x, hx, _⟩ := get_drop (l := l.Att) (i := i) (by omega)
        have w1 : IntKind.i64.wrap ((i : Int) + 1) = i + 1 := wrap_in (by omega)
        have hnx := take_map attB l.Att i x hx
        have s0 : out.length < 1099511620000 := by omega
        simp [hi, hx, hc]
        refine ⟨_, _, p61 4 _ (U x) _ (by omega) (by omega) (by first | omega | (simp [numB_len]; omega)) (by simp), ?_⟩
        simp [-List.map_append, w1]
        refine ⟨i + 1, out ++ attB x, ⟨by omega, by rw [List.length_append, attB_len]; omega, ?_⟩, by omega, by simp [attB], by simp⟩
        show out ++ attB x = pre ++ ((l.Att.map attB).take (i + 1)).flatten
        rw [hnx, ← List.append_assoc, ← k3]
      · have hin : i = n := by omega
        subst hin
        have ht : (l.Att.map attB).take i = l.Att.map attB := List.take_of_length_le (by simp; omega)
        rw [ht] at k3
        simp [k3, hc]
  · simp [t1, t2, t3, t4, t5, bodyB]
end Go.Proofs.Ytfngaildaoahpaa
