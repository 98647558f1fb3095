import Derived.Test.YtmgkemffbmfmpaaK35
import Derived.Test.YtmgkemffbmfmpaaK27
set_option linter.unusedSimpArgs false
set_option linter.unusedVariables false
namespace Go.Proofs.Ytmgkemffbmfmpaa
open Go Go.Am

theorem less0 {P : Program} {f : FuncId} {args : List AVal} {H0 H : List (List AVal)} {x : AVal} {H' : List (List AVal)} (h : CFun P f args H0 x H') (hl : H0.length = H.length) (hb : LeBoxes H0.length H H0) : CFun P f args H x H' := by
  refine ⟨h.1, fun G w cargs hs h1 h2 hz hr => ?_⟩
  have hs0 : SR G H0 w := hs.weaken (s := ⟨fun _ => .undef, H⟩) (s' := ⟨fun _ => .undef, H0⟩) (LeBoxes_st hb)
  have := h.2 G w cargs hs0 h1 h2 hz (by rw [hl]; exact hr)
  refine this.mono ?_
  rintro e w' ⟨v, G', rfl, g1, g2, g3, g4, g5, g6⟩
  rw [hl] at g1 g6
  exact ⟨v, G', rfl, g1, g2, g3, g4, g5, g6⟩
def zPk : List AVal := [.int .i64 0, .int .u32 0, .int .u32 0, .int .u32 0, .int .i64 0, .int .i64 0, .int .i64 0, .int .i64 0, .int .u32 0, .int .u32 0, .sl 0 [] .full, .int .i64 0, .bool false, .bool false, .bool false, .sl 0 [] .full, .sl 0 [] .full, .sl 0 [] .full]
theorem next_Z {H : List (List AVal)} {id : Nat} {s : Sr} (hid : H[id]? = some (cellsSr s)) (ok : okSr s) (n : Nat) (hn : n ≤ 8) (Z : List (List AVal)) :
    CFun Try.prog 106 [.ptr id 0, .int .i64 n] (H ++ Z) (.int .u64 (nx n s).1) (H.set id (cellsSr (nx n s).2) ++ Z) := by
  have hl := (List.getElem?_eq_some_iff.1 hid).1
  have h := next_ (H := H ++ Z) (id := id) (by rw [List.getElem?_append_left hl]; exact hid) ok n hn
  rwa [List.set_append_left _ _ hl] at h
theorem rdP_pkt (p : Pkt) (s : Sr) (ok : okSr s) : CFun Try.prog 107 [.ptr 0 0, .ptr 1 0] [cellsSr s, cellsPk p] (.tup []) [cellsSr (rdP p s).2, cellsPk (rdP p s).1] := by
  by_cases h1 : p.Kind = 1
  · exact f107_1 p h1 s ok
  by_cases h2 : p.Kind = 2
  · exact f107_2 p h2 s ok
  by_cases h3 : p.Kind = 3
  · exact f107_3 p h3 s ok
  by_cases h4 : p.Kind = 4
  · exact f107_4 p h4 s ok
  · exact f107_5 p h1 h2 h3 h4 s ok
theorem rdP_at (c0 : List AVal) (p : Pkt) (s : Sr) (ok : okSr s) : CFun Try.prog 107 [.ptr 1 0, .ptr 2 0] [c0, cellsSr s, cellsPk p] (.tup []) [c0, cellsSr (rdP p s).2, cellsPk (rdP p s).1] := by
  have h := (rdP_pkt p s ok).lift (fun i => i + 1) (H := [c0, cellsSr s, cellsPk p]) (H' := [c0, cellsSr (rdP p s).2, cellsPk (rdP p s).1]) (by first | (simp; done) | (simp; intros; omega)) (by first | (simp; done) | (simp; intros; omega)) (by
    intro i cs hi
    match i, hi with
    | 0, hi => simp at hi; subst hi; simp [ren0, low0]
    | 1, hi => simp at hi; subst hi; simp [ren0, low0]) (by simp [low, low0]) (by simp) (by
    intro i cs hi
    match i, hi with
    | 0, hi => simp at hi; subst hi; simp [ren0, low0, grow]
    | 1, hi => simp at hi; subst hi; simp [ren0, low0, grow]) (by
    intro j hj hne
    match j, hj with
    | 0, _ => rfl
    | 1, _ => exact (hne 0 (by simp) rfl).elim
    | 2, _ => exact (hne 1 (by simp) rfl).elim) rfl
  simpa [ren, ren0] using h
-- lspacket.Decode
set_option maxHeartbeats 8000000 in
set_option maxRecDepth 10000 in
theorem f50 (b : List Int) (hb : isB b) (hlen : b.length ≤ 140737488355327) : CFun Try.prog 50 [encBs b] [] (.tup [encPk (decP b).1, .int .i64 (decP b).2]) [] := by
  refine CFun.intro (tr := [2500023, 2500026, 2500029, 900004000023, 900001000042, 900002000042, 1500042]) (fz := []) (n := 62) (rs := [.cell 2 31, .tmp 3]) Try.func50 rfl (by kernel_rfl) rfl rfl mixed (by kernel_rfl) (by simp) (by simp) ?_
  have h1 := fun H => (f105 b hb hlen).up' H rfl rfl
  unfold decP
  by_cases hf : frontP b = 0
  case neg =>
    simp
    refine ⟨_, _, .inl (by simpa using h1 _), by simp, ?_⟩
    simp [hf, pkt0, hel0]
  obtain ⟨f1, f2, f3, f4, f5⟩ := frontP_ok hf
  rw [if_neg (by simp [hf])]
  obtain ⟨n, hn⟩ : ∃ n, b.length = n := ⟨_, rfl⟩
  have ok0 : ∀ m, okSr (b.drop m, 0) := fun m => ⟨isB_drop hb m, by simp only [List.length_drop]; omega⟩
  have n1 := nx_at (b := b) (m := 4) (n := 4) (by omega)
  have n2 := nx_at (b := b) (m := 8) (n := 4) (by omega)
  have n3 := nx_at (b := b) (m := 12) (n := 4) (by omega)
  have n4 := nx_at (b := b) (m := 16) (n := 2) (by omega)
  have g1 := get_getD (b := b) (i := 1) (by omega)
  have w1 : IntKind.i64.wrap (b.getD 1 0) = b.getD 1 0 := wrap_in (by omega)
  have c1 := fun c0 Z => next_Z (H := [c0, cellsSr (b.drop 4, 0)]) (id := 1) rfl (ok0 4) 4 (by omega) Z
  have c2 := fun c0 Z => next_Z (H := [c0, cellsSr (b.drop 8, 0)]) (id := 1) rfl (ok0 8) 4 (by omega) Z
  have c3 := fun c0 Z => next_Z (H := [c0, cellsSr (b.drop 12, 0)]) (id := 1) rfl (ok0 12) 4 (by omega) Z
  have c4 := fun c0 c2 => next_ (H := [c0, cellsSr (b.drop 16, 0), c2]) (id := 1) rfl (ok0 16) 2 (by omega)
  rw [n1] at c1
  rw [n2] at c2
  rw [n3] at c3
  rw [n4] at c4
  have hr := fun c0 => rdP_at c0 (pkA (b.getD 1 0) (W32 (numAt b 4 4)) (W32 (numAt b 8 4)) (W32 (numAt b 12 4))) (b.drop 18, 0) (ok0 18)
  have hchk : (readP b).2.2 = 0 → ∀ H, CFun Try.prog 16 [encPk (readP b).1] H (.int .i64 (chkP (readP b).1)) H := fun e H => (f16 _ (rdP_ok (isB_drop hb 18) e).1).up' H rfl rfl
  have he : readP b = rdP (pkA (b.getD 1 0) (W32 (numAt b 4 4)) (W32 (numAt b 8 4)) (W32 (numAt b 12 4))) (b.drop 18, 0) := rfl
  rw [← he] at hr
  generalize readP b = q at *
  obtain ⟨p, r, e⟩ := q
  clear he n1 n2 n3 n4 ok0 f2 f3 f4
  simp only at hr hchk ⊢
  generalize b.getD 1 0 = v1 at *
  generalize numAt b 4 4 = a1 at *
  generalize numAt b 8 4 = a2 at *
  generalize numAt b 12 4 = a3 at *
  have htk : (b.map enc8).take n = b.map enc8 := List.take_of_length_le (by simp [hn])
  have h4n : 4 ≤ n := by omega
  have h4n' : (4 : Int) ≤ n := by omega
  simp
  refine ⟨_, _, .inl (by simpa using h1 _), by simp, ?_⟩
  simp [hf, hn, h4n, h4n', htk, g1, w1]
  refine ⟨_, [_, [.sl 1 ((b.map enc8).drop 8) .sh, .int .i64 0]], ⟨rfl, fun Z => by simpa using c1 _ Z⟩, by simp, ?_⟩
  simp
  refine ⟨_, [_, [.sl 1 ((b.map enc8).drop 12) .sh, .int .i64 0]], ⟨rfl, fun Z => by simpa using c2 _ Z⟩, by simp, ?_⟩
  simp
  refine ⟨_, [_, [.sl 1 ((b.map enc8).drop 16) .sh, .int .i64 0]], ⟨rfl, fun Z => by simpa using c3 _ Z⟩, by simp, ?_⟩
  simp
  refine ⟨_, _, .inl (by simpa using c4 _ _), by simp, ?_⟩
  simp
  refine ⟨_, _, .inl (less0 (hr zPk) rfl (by simp [pkA, pkt0, hel0, W32, zPk, All2, LeC])), by simp [zPk], ?_⟩
  simp only [zPk]
  by_cases he : e = 0
  case neg =>
    simp [he, pkt0, hel0]
  by_cases hr0 : r = []
  case neg =>
    have hr1 : 0 < r.length := List.length_pos_iff.2 hr0
    simp [he, hr0, hr1, pkt0, hel0]
  have h16 := hchk he
  simp [he, hr0]
  refine ⟨_, _, .inl (by simpa using h16 _), by simp, ?_⟩
  by_cases hc : chkP p = 0
  · simp [hc]
  · simp [hc, pkt0, hel0]
end Go.Proofs.Ytmgkemffbmfmpaa

namespace Go.Proofs.Ytmgkemffbmfmpaa
open Go Go.Am

theorem rd_Y2 {x : AVal} (h : RdA tyY x) : ∃ k : LKey, x = encY k ∧ inW k.ID ∧ inW k.Router := by
  obtain ⟨cs, h1, h2⟩ := h
  obtain ⟨a1, r, rfl, h, _⟩ := Rds_int h2
  obtain ⟨a2, r, rfl, h, w2⟩ := Rds_int h
  obtain ⟨a3, r, rfl, h, _⟩ := Rds_int h
  obtain ⟨a4, r, rfl, h, w4⟩ := Rds_int h
  obtain rfl := Rds_nil h
  exact ⟨⟨a1, a2, a3, a4⟩, h1, wf_u32 w2, wf_u32 w4⟩
theorem rd_Pk2 {x : AVal} (h : RdA tyP x) : ∃ p : Pkt, x = encPk p ∧ okPw p ∧ ∀ k ∈ p.Keys, inW k.ID ∧ inW k.Router := by
  obtain ⟨cs, h1, h⟩ := h
  obtain ⟨a1, r, rfl, h, w1⟩ := Rds_int h
  obtain ⟨a2, r, rfl, h, w2⟩ := Rds_int h
  obtain ⟨a3, r, rfl, h, w3⟩ := Rds_int h
  obtain ⟨a4, r, rfl, h, w4⟩ := Rds_int h
  obtain ⟨e1, r, rfl, h, v1⟩ := Rds_int h
  obtain ⟨e2, r, rfl, h, v2⟩ := Rds_int h
  obtain ⟨e3, r, rfl, h, v3⟩ := Rds_int h
  obtain ⟨e4, r, rfl, h, v4⟩ := Rds_int h
  obtain ⟨e5, r, rfl, h, v5⟩ := Rds_int h
  obtain ⟨e6, r, rfl, h, v6⟩ := Rds_int h
  obtain ⟨e7, r, rfl, h, z7⟩ := Rds_sl (enc := fun x : { x : Int // inW x } => enc32 x.1) h (fun y cs e h => by
    obtain ⟨a, r, rfl, h3, w⟩ := Rds_int h
    obtain rfl := Rds_nil h3
    simp at e
    exact ⟨⟨a, wf_u32 w⟩, e.symm⟩)
  obtain ⟨f1, r, rfl, h, w5⟩ := Rds_int h
  obtain ⟨f2, r, rfl, k1⟩ := Rds_bool h
  obtain ⟨f3, r, rfl, k2⟩ := Rds_bool k1
  obtain ⟨f4, r, rfl, k3⟩ := Rds_bool k2
  obtain ⟨g1, r, rfl, h, z1⟩ := Rds_sl (enc := fun x : { x : Hdr // okH x } => encH x.1) k3 (fun y cs e h => by
    obtain ⟨a, ha, ok⟩ := rd_H (x := y) ⟨cs, e, h⟩
    exact ⟨⟨a, ok⟩, ha⟩)
  obtain ⟨g2, r, rfl, h, z2⟩ := Rds_sl (enc := fun x : { x : LKey // inW x.ID ∧ inW x.Router } => encY x.1) h (fun y cs e h => by
    obtain ⟨a, ha, ok⟩ := rd_Y2 (x := y) ⟨cs, e, h⟩
    exact ⟨⟨a, ok⟩, ha⟩)
  obtain ⟨g3, r, rfl, h, z3⟩ := Rds_sl (enc := fun x : { x : Lsa // okD x } => encA x.1) h (fun y cs e h => by
    obtain ⟨a, ha, ok⟩ := rd_AD (x := y) ⟨cs, e, h⟩
    exact ⟨⟨a, ok⟩, ha⟩)
  obtain rfl := Rds_nil h
  simp only [reachBytes] at z7 z1 z2 z3
  have q1 : ∀ x ∈ e7.map (·.1), inW x := fun x hx => by
    obtain ⟨y, _, rfl⟩ := List.mem_map.1 hx
    exact y.2
  have q2 : ∀ x ∈ g1.map (·.1), okH x := fun x hx => by
    obtain ⟨y, _, rfl⟩ := List.mem_map.1 hx
    exact y.2
  have q3 : ∀ x ∈ g3.map (·.1), okD x := fun x hx => by
    obtain ⟨y, _, rfl⟩ := List.mem_map.1 hx
    exact y.2
  refine ⟨⟨a1, a2, a3, a4, ⟨e1, e2, e3, e4, e5, e6, e7.map (·.1)⟩, f1, f2, f3, f4, g1.map (·.1), g2.map (·.1), g3.map (·.1)⟩, ?_, ?_, ?_⟩
  · rw [if_pos (show tyP.1 = true from rfl)] at h1
    rw [h1]
    simp [Function.comp_def, csH, csA, tyY]
  · exact ⟨⟨by simp; omega, by simp; omega, by simp; omega, by simp; omega, fun x hx => (q1 x hx).1, fun x hx => (q2 x hx).2.1, fun x hx => (q3 x hx).1⟩,
      wf_i64 w1, wf_u32 w2, wf_u32 w3, wf_u32 w4, wf_i64 v1, wf_i64 v2, wf_i64 v3, wf_i64 v4, wf_u32 v5, wf_u32 v6, q1, wf_i64 w5, q2, q3, by simp; omega, by simp; omega, by simp; omega, by simp; omega⟩
  · intro k hk
    obtain ⟨y, _, rfl⟩ := List.mem_map.1 hk
    exact y.2
end Go.Proofs.Ytmgkemffbmfmpaa

namespace Go.Proofs.Ytmgkemffbmfmpaa
open Go Go.Am

theorem bytes_cells (p : List Int) : (p.map enc8).flatMap AVal.cells = p.map enc8 := by
  induction p with
  | nil => rfl
  | cons x p ih => simp only [List.map_cons, List.flatMap_cons, ih]; rfl
theorem rep1 (c : AVal) (n : Nat) : (List.replicate n [c]).flatten = List.replicate n c := by
  induction n with
  | zero => rfl
  | succ n ih => simp [List.replicate_succ, ih]
theorem setR_bytes (a y : List Int) (m : Nat) (z : AVal) (h : y.length ≤ m) : setR (a.map enc8 ++ List.replicate m z) a.length (y.map enc8) = (a ++ y).map enc8 ++ List.replicate (m - y.length) z := by
  rw [setR_mid _ _ _ (by simpa using h) _ (by simp)]
  simp
/-- A row of texts, one after the other, in a row. -/
theorem run_fill (ps : List (List Int)) (n N : Nat) (hn : ps.length = n) (hN : ps.flatten.length = N) :
    ∃ R : Nat → List Int, R 0 = [] ∧ (∀ i p, ps[i]? = some p → R (i + 1) = R i ++ p) ∧ R n = ps.flatten ∧ ∀ i, (R i).length ≤ N := by
  refine ⟨fun i => (ps.take i).flatten, by simp, fun i p h => by simp only; rw [List.take_add_one, h]; simp, ?_, fun i => ?_⟩
  · simp only; rw [List.take_of_length_le (by omega)]
  · have := congrArg (fun l => l.flatten.length) (List.take_append_drop i ps)
    simp only [List.flatten_append, List.length_append] at this
    simp only
    omega
-- field.join, into a row
set_option maxHeartbeats 2000000 in
set_option maxRecDepth 10000 in
theorem f114r (ps : List (List Int)) (n N : Nat) (hn : ps.length = n) (hN : ps.flatten.length = N) (h0 : 0 < N) (hlen : n < 1099511627776) (hsz : N < 1099511627776) :
    CFun Try.prog 114 [.sl 1 (ps.map encBs) .sh] [] (.osl 0 0 N (some N) 1) [ps.flatten.map enc8] := by
  refine CFun.intro (tr := [100021, 100030]) (fz := []) (n := 33) (rs := [.tmp 2]) Try.func114 rfl (by kernel_rfl) rfl rfl mixed (by kernel_rfl) (by simp) (by simp) ?_
  obtain ⟨R, r0, rs, rn, rl⟩ := run_fill ps n N hn hN
  rw [← rn]
  have rnl : (R n).length = N := by rw [rn, hN]
  simp [hn]
  refine LoopK.intro (tr := [100021, 100030]) mixed (by kernel_rfl) (fun i : Nat => [(0, .sl 1 (ps.map encBs) .sh), (3, .int .i64 ((R i).length : Nat)), (9, .sl 1 (ps.map encBs) .sh), (10, .int .i64 n), (11, .int .i64 i)]) (fun _ => []) (fun i => i ≤ n) (fun i => n - i) 0 ?_ ?_ ?_
  · simp
  · simp [r0]
  · rintro i h1
    by_cases hi : i < n
    · obtain ⟨p, hp, _⟩ := get_drop (l := ps) (i := i) (by omega)
      have w1 : IntKind.i64.wrap ((i : Int) + 1) = i + 1 := wrap_in (by omega)
      have hr := rs i p hp
      have hl := rl (i + 1)
      have hl2 : (R (i + 1)).length = (R i).length + p.length := by rw [hr, List.length_append]
      have w2 : IntKind.i64.wrap (((R i).length : Int) + p.length) = ((R (i + 1)).length : Nat) := by rw [wrap_in (by omega)]; omega
      simp [hi, hp, gE hp, hn, w1, w2]
      exact ⟨i + 1, by omega, by omega, by simp⟩
    · have hin : i = n := by omega
      subst hin
      have z0 : ¬ N = 0 := by omega
      have z1 : (0 : Int) < N := by omega
      have z2 : N ≤ 281474976710656 := by omega
      have z3 : (N : Int) ≤ 9223372036854775807 := by omega
      simp [hn, rnl, z0, z1, z2, z3, h0, rep1]
      refine LoopK.intro (tr := [100021, 100030]) mixed (by kernel_rfl) (fun j : Nat => [(6, .osl 0 0 (R j).length (some N) 1), (22, .sl 1 (ps.map encBs) .sh), (23, .int .i64 i), (24, .int .i64 j)]) (fun j => [(R j).map enc8 ++ List.replicate (N - (R j).length) (.int .u8 0)]) (fun j => j ≤ i) (fun j => i - j) 0 ?_ ?_ ?_
      · simp
      · have hle : LeCells 1 (List.replicate N (AVal.int .u8 0)) (List.replicate N (AVal.int .u8 0)) := treeCells_le 1 (by simp [AVal.tree])
        simp [r0, hle]
      · rintro j j1
        by_cases hj : j < i
        · obtain ⟨p, hp, _⟩ := get_drop (l := ps) (i := j) (by omega)
          have w1 : IntKind.i64.wrap ((j : Int) + 1) = j + 1 := wrap_in (by omega)
          have hr := rs j p hp
          have hl := rl (j + 1)
          have hl2 : (R (j + 1)).length = (R j).length + p.length := by rw [hr, List.length_append]
          have hcp := bytes_cells p
          have hsb : ∀ H, asrc H (.sl 1 (p.map enc8) .sh) = some (1, p.length, p.map enc8) := fun H => by
            simp only [asrc, hcp, List.length_map]
          have hsrc : ∀ rest, asrc [(R j).map enc8 ++ rest] (.osl 0 0 (R j).length (some N) 1) = some (1, (R j).length, (R j).map enc8) := by
            intro rest
            unfold asrc
            by_cases h0 : (R j).length = 0
            · have e : R j = [] := List.length_eq_zero_iff.1 h0
              simp [e]
            · simp [h0]
          have hlb : (R (j + 1)).length ≤ N := hl
          have hq1 : ¬ N < (R j).length + p.length := by omega
          have hq2 : (R j).length + p.length ≤ 140737488355328 := by omega
          have hset := setR_bytes (R j) p (N - (R j).length) (.int .u8 0) (by omega)
          have hle : LeCells 1 ((R j ++ p).map enc8 ++ List.replicate (N - (R j).length - p.length) (AVal.int .u8 0)) ((R (j + 1)).map enc8 ++ List.replicate (N - (R (j + 1)).length) (.int .u8 0)) := by
            rw [hr, List.length_append, Nat.sub_sub]
            exact treeCells_le 1 (by rw [List.all_append, List.all_map]; simp [AVal.tree])
          have hfit : (R j).length + p.length ≤ (R j).length + (N - (R j).length) := by omega
          have hps : (p.map enc8).all AVal.scalar = true := by rw [List.all_map]; simp [AVal.scalar]
          have hpd : (p.map enc8).map AVal.dis = p.map enc8 := by rw [List.map_map]; rfl
          by_cases hp0 : p.length = 0
          · have e : p = [] := List.length_eq_zero_iff.1 hp0
            subst e
            rw [List.append_nil] at hr
            have hsb0 : ∀ H, asrc H (.sl 1 [] .sh) = some (1, 0, []) := fun _ => rfl
            simp at hq1 hq2
            have hq1' : ¬ N < (R j).length := by omega
            simp [hj, hp, gE hp, hsrc, hsb0, -asrc, w1, hq1', hq2]
            refine ⟨j + 1, by omega, by omega, ?_⟩
            rw [hr]
            simp at hle
            rw [hr] at hle
            simp [hle]
          · simp [hj, hp, gE hp, hsrc, hsb, -asrc, w1, hq1, hq2, hp0, hfit, hps, hpd, hset, -setR, -List.all_eq_true, -List.map_append]
            refine ⟨j + 1, by omega, by omega, ?_⟩
            rw [hl2] at hle
            simp [hl2, hle, -List.map_append]
        · have hji : j = i := by omega
          subst hji
          have hle : LeCells 1 ((R j).map enc8) ((R j).map enc8) := treeCells_le 1 (by rw [List.all_map]; simp [AVal.tree])
          simp [hn, rnl, hle]
-- field.Put, into a row
set_option maxHeartbeats 1000000 in
set_option maxRecDepth 10000 in
theorem f70r (b : List Int) (m : Nat) (hm : b.length = m) (hb : m < 1099511627000) (n : Nat) (h1 : 1 ≤ n) (hn : n ≤ 8) (x : Int) :
    CFun Try.prog 70 [encBs b, .int .i64 n, .int .u64 x] [] (.osl 0 0 (m + n) (some (m + n)) 1) [(b ++ numB n x).map enc8] := by
  refine CFun.intro (tr := []) (fz := []) (n := 15) (rs := [.tmp 6]) Try.func70 rfl (by kernel_rfl) rfl rfl mixed (by kernel_rfl) (by simp) (by simp) ?_
  have hN : ([b, numB n x] : List (List Int)).flatten.length = m + n := by simp [numB_len, hm]
  have h103 := (f114r [b, numB n x] 2 (m + n) rfl hN (by omega) (by omega) (by omega)).wk [.sl 1 ([b, numB n x].map encBs) .full] (by simp) ⟨whole, trivial⟩
  simp only [List.map_cons, List.map_nil, List.flatten_cons, List.flatten_nil, List.append_nil] at h103
  have z1 : ¬ ((n : Int) < 0) := by omega
  have z2 : ¬ ((8 : Int) < n) := by omega
  have hle : LeCells 1 ((b ++ numB n x).map enc8) ((b ++ numB n x).map enc8) := treeCells_le 1 (by rw [List.all_map]; simp [AVal.tree])
  simp [z1, z2]
  refine ⟨_, _, .inl (c104 n hn x), by simp, ?_⟩
  simp
  refine ⟨_, _, .inl (by simpa [cargs] using h103), by simp, ?_⟩
  simp at hle
  simp [hle]
end Go.Proofs.Ytmgkemffbmfmpaa

namespace Go.Proofs.Ytmgkemffbmfmpaa
open Go Go.Am

theorem bodyP_pos (p : Pkt) : 0 < (bodyP p).length := by
  unfold bodyP headsB
  repeat' split
  all_goals simp only [List.length_append, helB_len, cntB_len, numB_len]; omega
theorem isB_headP (p : Pkt) (n : Nat) : isB (headP p n) := by
  unfold headP
  repeat' apply isB_app
  all_goals exact isB_numB _ _
theorem isB_keyBt (k : LKey) : isB (keyBt k) := isB_app (isB_app (isB_app (isB_numB _ _) (isB_numB _ _)) (isB_numB _ _)) (isB_numB _ _)
theorem isB_helB (h : Hel) : isB (helB h) := by
  unfold helB cntB
  repeat' apply isB_app
  all_goals exact isB_numB _ _
theorem isB_headsB (l : List Hdr) : isB (headsB l) := isB_app (isB_numB _ _) (isB_flat _ _ isB_hdrB)
theorem isB_bodyP (p : Pkt) : isB (bodyP p) := by
  unfold bodyP
  split
  · exact isB_app (isB_helB _) (isB_flat _ _ fun x => isB_numB _ _)
  split
  · exact isB_app (isB_numB _ _) (isB_flat _ _ isB_keyBt)
  split
  · exact isB_app (isB_numB _ _) (isB_flat _ _ isB_bytesA)
  split
  · exact isB_app (isB_app (isB_numB _ _) (isB_numB _ _)) (isB_headsB _)
  · exact isB_headsB _
theorem isB_zeros : isB [0, 0] := by intro x hx; simp at hx; omega
theorem isB_frame (p : Pkt) : isB (encB p) := by
  unfold encB frameP
  exact isB_app (isB_headP _ _) (isB_app (isB_numB _ _) (isB_bodyP _))

-- lspacket.Encode
set_option maxHeartbeats 8000000 in
set_option maxRecDepth 10000 in
theorem f19 (p : Pkt) (ok : okPk p) : CFun Try.prog 19 [encPk p] [] (.tup [encBs (encQ p).1, .int .i64 (encQ p).2]) [] := by
  refine CFun.intro (tr := [100044]) (fz := [(2, 2, false)]) (n := 53) (rs := [.tmp 2, .tmp 3]) Try.func19 rfl (by kernel_rfl) rfl rfl mixed (by kernel_rfl) (by simp) (by simp) ?_
  have h16 := fun H => (f16 p ok).up' H rfl rfl
  unfold encQ
  by_cases hc : chkP p = 0
  case neg =>
    simp
    refine ⟨_, _, .inl (by simpa using h16 _), by simp, ?_⟩
    simp [hc]
  have h69 := fun H => (f69 p hc).up' H rfl rfl
  have hl := bodyP_len hc
  have hp := bodyP_pos p
  have hT := isB_bodyP p
  rw [if_neg (by simp [hc])]
  unfold encB
  generalize bodyP p = T at *
  obtain ⟨t, ht⟩ : ∃ t, T.length = t := ⟨_, rfl⟩
  have w1 : IntKind.i64.wrap (18 + (t : Int)) = (18 + t : Nat) := by rw [wrap_in (by omega)]; omega
  have h1 := fun H => ((c88 [] (by simp) 1 (by omega) 1).wk [.sl 0 [] .full, .int .i64 1, .int .u64 1] (by simp) (by simp [All2, LeS])).up' H rfl rfl
  simp only [List.nil_append] at h1
  have h2 := fun H => (c88 (numB 1 1) (by simp [numB_len]) 1 (by omega) (U p.Kind)).up' H rfl rfl
  have h3 := fun H => (c88 (numB 1 1 ++ numB 1 (U p.Kind)) (by simp [numB_len]) 2 (by omega) (U (18 + t : Nat))).up' H rfl rfl
  have h4 := fun H => (c88 (numB 1 1 ++ numB 1 (U p.Kind) ++ numB 2 (U (18 + t : Nat))) (by simp [numB_len]) 4 (by omega) (U p.Router)).up' H rfl rfl
  have h5 := fun H => (c88 (numB 1 1 ++ numB 1 (U p.Kind) ++ numB 2 (U (18 + t : Nat)) ++ numB 4 (U p.Router)) (by simp [numB_len]) 4 (by omega) (U p.Area)).up' H rfl rfl
  have h6 := fun H => (c88 (numB 1 1 ++ numB 1 (U p.Kind) ++ numB 2 (U (18 + t : Nat)) ++ numB 4 (U p.Router) ++ numB 4 (U p.Area)) (by simp [numB_len]) 4 (by omega) (U p.Addr)).up' H rfl rfl
  have hd16 := headP_len p t
  have hdef : numB 1 1 ++ numB 1 (U p.Kind) ++ numB 2 (U (18 + t : Nat)) ++ numB 4 (U p.Router) ++ numB 4 (U p.Area) ++ numB 4 (U p.Addr) = headP p t := rfl
  have hz : numB 2 0 = [0, 0] := by decide
  have h7 := (f70r (headP p t) 16 hd16 (by omega) 2 (by omega) (by omega) 0).upNew [cellsPk p] (by rw [List.all_map]; simp [noid0]) rfl rfl
  rw [hz] at h7
  rw [hdef] at h6
  have hfr : frameP p T = headP p t ++ (numB 2 (U (inet (headP p t ++ [0, 0] ++ T))) ++ T) := by unfold frameP; rw [ht]
  rw [hfr]
  have hW : isB (headP p t ++ [0, 0] ++ T) := isB_app (isB_app (isB_headP p t) isB_zeros) hT
  have hWl : (headP p t ++ [0, 0] ++ T).length = 18 + t := by simp only [List.length_append, hd16, ht]; rfl
  have h8 := fun H hid => lend71 (H := H) (id := 2) (cap := none) (b := headP p t ++ [0, 0] ++ T) hid hWl (by omega) (by omega) hW
  have h9 := fun H => ((c88 [] (by simp) 2 (by omega) (U (inet (headP p t ++ [0, 0] ++ T)))).wk [.sl 0 [] .full, .int .i64 2, .int .u64 (U (inet (headP p t ++ [0, 0] ++ T)))] (by simp) (by simp [All2, LeS])).up' H rfl rfl
  simp only [List.nil_append] at h9
  have hV' : IntKind.u64.wrap (18 + (t : Int)) = U (18 + t : Nat) := by simp
  clear hdef
  generalize U (18 + t : Nat) = V at *
  generalize numB 1 1 ++ numB 1 (U p.Kind) = B2 at *
  generalize B2 ++ numB 2 V = B3 at *
  generalize B3 ++ numB 4 (U p.Router) = B4 at *
  generalize B4 ++ numB 4 (U p.Area) = B5 at *
  generalize numB 1 1 = B1 at *
  generalize headP p t = B6 at *
  have e18 : ∀ (X : List Int), B6 ++ [0, 0] ++ X = (B6 ++ [0, 0]) ++ X := fun _ => rfl
  have hB7 : (B6 ++ [0, 0]).length = 18 := by simp [hd16]
  have hset : ∀ y : List Int, y.length = 2 → setR ((B6 ++ [0, 0] ++ T).map enc8) 16 (y.map enc8) = (B6 ++ (y ++ T)).map enc8 := by
    intro y hy
    have := setR_mid (B6.map enc8) (([0, 0] ++ T).map enc8) (y.map enc8) (by simp [hy]) 16 (by simp [hd16])
    rw [List.append_assoc, List.map_append, this, List.map_append, List.map_append]
    congr 2
    simp [hy]
  have hch := fun (y : List Int) (hy : y.length = 2) => chunk8 (B6 ++ (y ++ T)) (18 + t) (by simp only [List.length_append, hd16, hy, ht]; omega)
  have hYl : ∀ y, (numB 2 y).length = 2 := fun y => numB_len 2 y
  have hsY : ∀ (y : List Int) (H : List (List AVal)), y.length = 2 → asrc H (.sl 1 (y.map enc8) .own) = some (1, 2, y.map enc8) := fun y H hy => by
    simp only [asrc, bytes_cells, List.length_map, hy]
  have hsT : ∀ (H : List (List AVal)), asrc H (.sl 1 (T.map enc8) .sh) = some (1, t, T.map enc8) := fun H => by
    simp only [asrc, bytes_cells, List.length_map, ht]
  have hds : ∀ y : List Int, (y.map enc8).map AVal.dis = y.map enc8 := fun y => by rw [List.map_map]; rfl
  have hsc : ∀ y : List Int, (y.map enc8).all AVal.scalar = true := fun y => by rw [List.all_map]; simp [AVal.scalar]
  have htr : ∀ y : List Int, (y.map enc8).all AVal.tree = true := fun y => by rw [List.all_map]; simp [AVal.tree]
  clear e18
  generalize hW' : B6 ++ [0, 0] ++ T = W at *
  generalize B6 ++ [0, 0] = B7 at *
  generalize inet W = v at *
  have hs7 : ∀ c0, asrc [c0, B7.map enc8] (.osl 1 0 18 (some 18) 1) = some (1, 18, B7.map enc8) := fun c0 => by
    simp [asrc, hB7]
    exact List.take_of_length_le (by simp [hB7])
  have happ : B7.map enc8 ++ T.map enc8 = W.map enc8 := by rw [← List.map_append, hW']
  have hset' := hset (numB 2 (U v)) (hYl _)
  have hch' := hch (numB 2 (U v)) (hYl _)
  have hY := hYl (U v)
  have hsY' := fun H => hsY (numB 2 (U v)) H hY
  have hfl : (B6 ++ (numB 2 (U v) ++ T)).length = 18 + t := by simp only [List.length_append, hd16, hY, ht]; omega
  generalize hZ : B6 ++ (numB 2 (U v) ++ T) = Z at *
  generalize numB 2 (U v) = Y at *
  clear hset hch hsY hYl hW' hZ
  simp
  refine ⟨_, _, .inl (by simpa using h16 _), by simp, ?_⟩
  simp [hc]
  refine ⟨_, _, .inl (by simpa using h69 _), by simp, ?_⟩
  simp
  refine ⟨_, _, .inl (by simpa using h1 _), by simp, ?_⟩
  simp
  refine ⟨_, _, .inl (by simpa using h2 _), by simp, ?_⟩
  simp [ht, w1, hV']
  refine ⟨_, _, .inl (by simpa [ht, w1, hV'] using h3 _), by simp, ?_⟩
  simp
  refine ⟨_, _, .inl (by simpa using h4 _), by simp, ?_⟩
  simp
  refine ⟨_, _, .inl (by simpa using h5 _), by simp, ?_⟩
  simp
  refine ⟨_, _, .inl (by simpa using h6 _), by simp, ?_⟩
  simp
  refine ⟨_, _, .inl (by simpa [ren, ren0] using h7), by simp, ?_⟩
  have q1 : 18 + t ≤ 140737488355328 := by omega
  have q2 : 0 < t := by omega
  have q3 : (16 : Int) ≤ 18 + t := by omega
  have q4 : min 2 (18 + t - 16) = 2 := by omega
  have q5 : 16 + 2 ≤ 18 + t := by omega
  have q6 : (Y.map enc8).take 2 = Y.map enc8 := List.take_of_length_le (by simp [hY])
  have q7 : (Z.map enc8).take (18 + t) = Z.map enc8 := List.take_of_length_le (by simp [hfl])
  have q9 : 0 < 18 + t := by omega
  have q8 : (W.map enc8).take (18 + t) = W.map enc8 := List.take_of_length_le (by simp [hWl])
  simp [hs7, hsT, -asrc, q1, q2, q3, happ, hds, -List.map_map]
  refine ⟨_, _, .inl (h8 _ rfl), by simp, ?_⟩
  simp [-asrc, q1, q2, q3, happ, hds, -List.map_map]
  refine ⟨_, _, .inl (by simpa using h9 _), by simp, ?_⟩
  simp [hsY', -asrc, q9, q3, q4, q5, q6, q7, hds, hsc, htr, hset', hch', hWl, hfl, -List.map_map, -List.all_eq_true, -setR]
end Go.Proofs.Ytmgkemffbmfmpaa

namespace Go.Proofs.Ytmgkemffbmfmpaa
open Go Go.Am

theorem withB_frame (a T : List Int) (ha : a.length = 16) (v : Int) (hv : 0 ≤ v ∧ v ≤ 65535) : withB (a ++ [0, 0] ++ T) 16 v = a ++ (numB 2 (U v) ++ T) := by
  have e1 : v.tdiv 256 = v / 256 := by rw [Int.tdiv_eq_ediv_of_nonneg hv.1]
  have e2 : v.tmod 256 = v % 256 := by rw [Int.tmod_eq_emod_of_nonneg hv.1]
  have b1 : IntKind.u8.wrap (v / 256) = v / 256 := by
    have : IntKind.u8.wrap (v / 256) = v / 256 % 256 := rfl
    omega
  have b2 : IntKind.u8.wrap (v % 256) = v % 256 := by
    have : IntKind.u8.wrap (v % 256) = v % 256 % 256 := rfl
    omega
  have hn : numB 2 (U v) = [v / 256, v % 256] := by
    rw [u64_id (by omega)]
    have h1 : bt v 1 = v / 256 := by
      have : bt v 1 = v.fdiv 256 % 256 := rfl
      rw [this, Int.fdiv_eq_ediv_of_nonneg _ (by omega)]; omega
    have h0 : bt v 0 = v % 256 := by
      have : bt v 0 = v.fdiv 1 % 256 := rfl
      rw [this, Int.fdiv_eq_ediv_of_nonneg _ (by omega)]; omega
    simp only [numB, h1, h0]
  rw [hn, withB, e1, e2, b1, b2, List.append_assoc, List.set_append_right _ _ (by omega), List.set_append_right _ _ (by omega), ha]
  rfl
-- routingref24.frame
set_option maxHeartbeats 4000000 in
set_option maxRecDepth 10000 in
theorem f72 (p : Pkt) (hk : 1 ≤ p.Kind ∧ p.Kind ≤ 5) (T : List Int) (hT : isB T) (t : Nat) (ht : T.length = t) (hl : t ≤ 60000) : CFun Try.prog 72 [encPk p, encBs T] [] (encBs (frameP p T)) [] := by
  refine CFun.intro (tr := [10, 16, 21, 26, 31, 34, 400015, 400020, 400025, 400030]) (fz := []) (n := 41) (rs := [.tmp 4]) Try.func72 rfl (by kernel_rfl) rfl rfl mixed (by kernel_rfl) (by simp) (by simp) ?_
  have w1 : IntKind.i64.wrap (18 + (t : Int)) = (18 + t : Nat) := by rw [wrap_in (by omega)]; omega
  have hd16 := headP_len p t
  have hone := headP_one p t hk
  have hW : isB (headP p t ++ [0, 0] ++ T) := isB_app (isB_app (isB_headP p t) isB_zeros) hT
  have hWl : (headP p t ++ [0, 0] ++ T).length = 18 + t := by simp only [List.length_append, hd16, ht]; rfl
  have h8 := fun H => (f119 (headP p t ++ [0, 0] ++ T) _ rfl (by omega) hW).up' H rfl rfl
  have h9 := fun H => (c100 (headP p t ++ [0, 0] ++ T) 16 (by omega) (by omega) (inet (headP p t ++ [0, 0] ++ T))).up' H rfl rfl
  have hin := inet_in (headP p t ++ [0, 0] ++ T)
  rw [withB_frame (headP p t) T hd16 _ hin] at h9
  have hfr : frameP p T = headP p t ++ (numB 2 (U (inet (headP p t ++ [0, 0] ++ T))) ++ T) := by unfold frameP; rw [ht]
  rw [hfr]
  have hu8 : IntKind.u8.wrap p.Kind = p.Kind := by
    have : IntKind.u8.wrap p.Kind = p.Kind % 256 := rfl
    omega
  have e1 : [AVal.int .u8 1, AVal.int .u8 p.Kind] = [1, p.Kind].map enc8 := rfl
  have hV' : IntKind.u64.wrap (18 + (t : Int)) = U (18 + t : Nat) := by simp
  have hH : LeBoxes ([cellsPk p] : List (List AVal)).length [cellsPk p] [cellsPk p] := by simp
  have g1 := o61f 2 (by omega) (by omega) [1, p.Kind] (by simp) (U (18 + t : Nat)) [cellsPk p] hH
  have g2 := p61 4 ([1, p.Kind] ++ numB 2 (U (18 + t : Nat))) (U p.Router) [cellsPk p] (by omega) (by omega) (by simp [numB_len]) hH
  have g3 := p61 4 ([1, p.Kind] ++ numB 2 (U (18 + t : Nat)) ++ numB 4 (U p.Router)) (U p.Area) [cellsPk p] (by omega) (by omega) (by simp [numB_len]) hH
  have g4 := p61 4 ([1, p.Kind] ++ numB 2 (U (18 + t : Nat)) ++ numB 4 (U p.Router) ++ numB 4 (U p.Area)) (U p.Addr) [cellsPk p] (by omega) (by omega) (by simp [numB_len]) hH
  rw [← hone] at g4
  clear hone hW e1 hH
  generalize U (18 + t : Nat) = V at *
  generalize inet (headP p t ++ [0, 0] ++ T) = v at *
  generalize hB2 : [1, p.Kind] ++ numB 2 V = B2 at *
  generalize B2 ++ numB 4 (U p.Router) = B3 at *
  generalize B3 ++ numB 4 (U p.Area) = B4 at *
  generalize headP p t = B5 at *
  clear hB2
  have hr2 : List.range 2 = [0, 1] := rfl
  have q1 : 16 + 2 ≤ 140737488355328 := by omega
  have q2 : 16 + 2 + t ≤ 140737488355328 := by omega
  simp at g1
  simp [hu8, ht, w1, hV']
  refine ⟨_, _, by simpa [ht, w1, hV'] using g1, ?_⟩
  simp
  refine ⟨_, _, by simpa using g2, ?_⟩
  simp
  refine ⟨_, _, by simpa using g3, ?_⟩
  simp
  refine ⟨_, _, by simpa using g4, ?_⟩
  simp [hd16, ht, q1, q2, hr2]
  refine ⟨_, _, .inl (by simpa using h8 _), by simp, ?_⟩
  simp [hd16, ht, q1, q2, hr2]
  refine ⟨_, _, .inl (by simpa using h9 _), by simp, ?_⟩
  simp
end Go.Proofs.Ytmgkemffbmfmpaa

namespace Go.Proofs.Ytmgkemffbmfmpaa
open Go Go.Am

-- routingref24.Bytes
set_option maxHeartbeats 2000000 in
set_option maxRecDepth 10000 in
theorem f21 (p : Pkt) (h : chkP p = 0) : CFun Try.prog 21 [encPk p] [] (encBs (encB p)) [] := by
  refine CFun.intro (tr := []) (fz := []) (n := 7) (rs := [.tmp 2]) Try.func21 rfl (by kernel_rfl) rfl rfl mixed (by kernel_rfl) (by simp) (by simp) ?_
  have h1 := fun H => (f73 p h).up' H rfl rfl
  have h2 := fun H => (f72 p (chkP_ok h).1 (bodyP p) (isB_bodyP p) _ rfl (by have := bodyP_len h; omega)).up' H rfl rfl
  unfold encB
  generalize frameP p (bodyP p) = F at *
  generalize bodyP p = T at *
  simp
  refine ⟨_, _, .inl (by simpa using h1 _), by simp, ?_⟩
  simp
  refine ⟨_, _, .inl (by simpa using h2 _), by simp, ?_⟩
  simp

def p1 : Pkt := { pkt0 with Kind := 5, Router := 1 }
def p2 : Pkt := { pkt0 with Kind := 1, Router := 1, E := ⟨24, 10, 40, 0, 0, 0, [2]⟩ }
theorem okp1 : okPk p1 := ⟨by decide, by decide, by decide, by decide, by decide, by simp [p1, pkt0], by simp [p1, pkt0]⟩
theorem okp2 : okPk p2 := ⟨by decide, by decide, by decide, by decide, by decide, by simp [p2, pkt0], by simp [p2, pkt0]⟩
theorem ep1 : (encQ p1).2 = 0 ∧ (encQ p1).1.length = 19 := by
  have h : chkP p1 = 0 := by decide
  unfold encQ
  rw [if_neg (by simp [h])]
  exact ⟨rfl, by rw [encB, frame_len]; rfl⟩
theorem ep2 : (encQ p2).2 = 0 ∧ (encQ p2).1.length = 37 := by
  have h : chkP p2 = 0 := by decide
  unfold encQ
  rw [if_neg (by simp [h])]
  exact ⟨rfl, by rw [encB, frame_len]; rfl⟩
-- routinglaw24.lives
set_option maxHeartbeats 4000000 in
set_option maxRecDepth 10000 in
theorem f18 : CFun Try.prog 18 [] [] (.bool true) [] := by
  refine CFun.intro (tr := []) (fz := []) (n := 33) (rs := [.tmp 0]) Try.func18 rfl (by kernel_rfl) rfl rfl mixed (by kernel_rfl) (by simp) (by simp) ?_
  have h1 := fun (cs : List AVal) (hcs : All2 LeC cs (cellsPk p1)) H (hn : (AVal.agg cs).isOwn = false) => ((f19 p1 okp1).wk [.agg cs] (by simp) ⟨hcs, trivial⟩).up' H (by simp [noid, noid0]) rfl
  have h2 := fun (cs : List AVal) (hcs : All2 LeC cs (cellsPk p2)) H (hn : (AVal.agg cs).isOwn = false) => ((f19 p2 okp2).wk [.agg cs] (by simp) ⟨hcs, trivial⟩).up' H (by simp [noid, noid0]) rfl
  obtain ⟨e1, e2⟩ := ep1
  obtain ⟨e3, e4⟩ := ep2
  generalize encQ p1 = q1 at *
  generalize encQ p2 = q2 at *
  simp
  refine ⟨_, _, .inl (h1 _ (by simp [p1, pkt0, hel0, All2, LeC]) _ rfl), by simp, ?_⟩
  simp
  refine ⟨_, _, .inl (h2 _ (by simp [p2, pkt0, hel0, All2, LeC]) _ rfl), by simp, ?_⟩
  simp [e1, e2, e3, e4]

-- LspacketChecks
set_option maxHeartbeats 2000000 in
set_option maxRecDepth 10000 in
theorem g3 (p : Pkt) (ok : okPk p) : CFun Try.prog 3 [encPk p] [] (.bool true) [] := by
  refine CFun.intro (tr := []) (fz := []) (n := 11) (rs := [.tmp 2]) Try.func3 rfl (by kernel_rfl) rfl rfl mixed (by kernel_rfl) (by simp) (by simp) ?_
  have h1 := fun H => (f16 p ok).up' H rfl rfl
  have h2 := fun H => (f17 p ok).up' H rfl rfl
  have h3 := fun H => f18.up' H rfl rfl
  generalize chkP p = v at *
  simp
  refine ⟨_, _, .inl (by simpa using h1 _), by simp, ?_⟩
  simp
  refine ⟨_, _, .inl (by simpa using h2 _), by simp, ?_⟩
  simp
  refine ⟨_, _, .inl (by simpa using h3 _), by simp, ?_⟩
  simp
-- LspacketEncodes
set_option maxHeartbeats 2000000 in
set_option maxRecDepth 10000 in
theorem g4 (p : Pkt) (ok : okPk p) : CFun Try.prog 4 [encPk p] [] (.bool true) [] := by
  refine CFun.intro (tr := []) (fz := []) (n := 37) (rs := [.tmp 2]) Try.func4 rfl (by kernel_rfl) rfl rfl mixed (by kernel_rfl) (by simp) (by simp) ?_
  have h1 := fun H => (f19 p ok).up' H rfl rfl
  have h2 := fun H => (f17 p ok).up' H rfl rfl
  have h3 := fun H => f18.up' H rfl rfl
  have h4 := fun (h : chkP p = 0) H => (f21 p h).up' H rfl rfl
  have h5 := fun H => (c23 (encB p) (encB p) (isB_frame p) (isB_frame p)).up' H rfl rfl
  unfold encQ at h1
  by_cases hc : chkP p = 0
  · have h4' := h4 hc
    rw [hc] at h2
    simp only [hc, ne_eq, not_true_eq_false, if_false] at h1
    generalize encB p = B at *
    simp
    refine ⟨_, _, .inl (by simpa using h1 _), by simp, ?_⟩
    simp
    refine ⟨_, _, .inl (by simpa using h2 _), by simp, ?_⟩
    simp
    refine ⟨_, _, .inl (by simpa using h4' _), by simp, ?_⟩
    simp
    refine ⟨_, _, .inl (by simpa using h5 _), by simp, ?_⟩
    simp
    refine ⟨_, _, .inl (by simpa using h3 _), by simp, ?_⟩
    simp
  · simp only [ne_eq, hc, not_false_eq_true, if_true] at h1
    generalize chkP p = v at *
    simp
    refine ⟨_, _, .inl (by simpa using h1 _), by simp, ?_⟩
    simp
    refine ⟨_, _, .inl (by simpa using h2 _), by simp, ?_⟩
    simp [hc]
    refine ⟨_, _, .inl (by simpa using h3 _), by simp, ?_⟩
    simp
theorem sameL_refl (x : Lsa) : sameL x x = true := by
  have := sameB_self x
  simp [sameL, this]
theorem sameP_refl (p : Pkt) : sameP p p = true := by
  simp [sameP, eqW_refl sameL_refl]
-- LspacketSame
set_option maxHeartbeats 2000000 in
set_option maxRecDepth 10000 in
theorem g5 (a b : Pkt) (ok : okS a) : CFun Try.prog 5 [encPk a, encPk b] [] (.bool true) [] := by
  refine CFun.intro (tr := []) (fz := []) (n := 20) (rs := [.tmp 4]) Try.func5 rfl (by kernel_rfl) rfl rfl mixed (by kernel_rfl) (by simp) (by simp) ?_
  have h1 := fun H => (f22 a b ok).up' H rfl rfl
  have h2 := fun H => (f23 a b ok).up' H rfl rfl
  have h3 := fun H => f18.up' H rfl rfl
  have h4 := fun H => (f22 a a ok).up' H rfl rfl
  rw [sameP_refl] at h4
  generalize sameP a b = v at *
  simp
  refine ⟨_, _, .inl (by simpa using h1 _), by simp, ?_⟩
  simp
  refine ⟨_, _, .inl (by simpa using h2 _), by simp, ?_⟩
  simp
  refine ⟨_, _, .inl (by simpa using h4 _), by simp, ?_⟩
  simp
  refine ⟨_, _, .inl (by simpa using h3 _), by simp, ?_⟩
  simp
end Go.Proofs.Ytmgkemffbmfmpaa
