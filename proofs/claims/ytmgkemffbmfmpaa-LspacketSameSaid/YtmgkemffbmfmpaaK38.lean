import Derived.Test.YtmgkemffbmfmpaaK27
set_option linter.unusedSimpArgs false
set_option linter.unusedVariables false
namespace Go.Proofs.Ytmgkemffbmfmpaa
open Go Go.Am

theorem bytes_cells (p : List Int) : (p.map enc8).flatMap AVal.cells = p.map enc8 := by
  induction p with
  | nil => rfl
  | cons x p ih => simp only [List.map_cons, List.flatMap_cons, ih]; rfl
theorem rep1 (c : AVal) (n : Nat) : (List.replicate n [c]).flatten = List.replicate n c := by
  induction n with
  | zero => rfl
  | succ n ih => simp [List.replicate_succ, ih]
theorem setR_bytes (a y : List Int) (m : Nat) (z : AVal) (h : y.length ≤ m) : setR (a.map enc8 ++ List.replicate m z) a.length (y.map enc8) = (a ++ y).map enc8 ++ List.replicate (m - y.length) z := by
  rw [setR_mid _ _ _ (by simpa using h) _ (by simp)]
  simp
/-- A row of texts, one after the other, in a row. -/
theorem run_fill (ps : List (List Int)) (n N : Nat) (hn : ps.length = n) (hN : ps.flatten.length = N) :
    ∃ R : Nat → List Int, R 0 = [] ∧ (∀ i p, ps[i]? = some p → R (i + 1) = R i ++ p) ∧ R n = ps.flatten ∧ ∀ i, (R i).length ≤ N := by
  refine ⟨fun i => (ps.take i).flatten, by simp, fun i p h => by simp only; rw [List.take_add_one, h]; simp, ?_, fun i => ?_⟩
  · simp only; rw [List.take_of_length_le (by omega)]
  · have := congrArg (fun l => l.flatten.length) (List.take_append_drop i ps)
    simp only [List.flatten_append, List.length_append] at this
    simp only
    omega
-- field.join, into a row
set_option maxHeartbeats 2000000 in
set_option maxRecDepth 10000 in
theorem f114r (ps : List (List Int)) (n N : Nat) (hn : ps.length = n) (hN : ps.flatten.length = N) (h0 : 0 < N) (hlen : n < 1099511627776) (hsz : N < 1099511627776) :
    CFun Try.prog 114 [.sl 1 (ps.map encBs) .sh] [] (.osl 0 0 N (some N) 1) [ps.flatten.map enc8] := by
  refine CFun.intro (tr := [100021, 100030]) (fz := []) (n := 33) (rs := [.tmp 2]) Try.func114 rfl (by kernel_rfl) rfl rfl mixed (by kernel_rfl) (by simp) (by simp) ?_
  obtain ⟨R, r0, rs, rn, rl⟩ := run_fill ps n N hn hN
  rw [← rn]
  have rnl : (R n).length = N := by rw [rn, hN]
  simp [hn]
  refine LoopK.intro (tr := [100021, 100030]) mixed (by kernel_rfl) (fun i : Nat => [(0, .sl 1 (ps.map encBs) .sh), (3, .int .i64 ((R i).length : Nat)), (9, .sl 1 (ps.map encBs) .sh), (10, .int .i64 n), (11, .int .i64 i)]) (fun _ => []) (fun i => i ≤ n) (fun i => n - i) 0 ?_ ?_ ?_
  · simp
  · simp [r0]
  · rintro i h1
    by_cases hi : i < n
    · obtain ⟨p, hp, _⟩ := get_drop (l := ps) (i := i) (by omega)
      have w1 : IntKind.i64.wrap ((i : Int) + 1) = i + 1 := wrap_in (by omega)
      have hr := rs i p hp
      have hl := rl (i + 1)
      have hl2 : (R (i + 1)).length = (R i).length + p.length := by rw [hr, List.length_append]
      have w2 : IntKind.i64.wrap (((R i).length : Int) + p.length) = ((R (i + 1)).length : Nat) := by rw [wrap_in (by omega)]; omega
      simp [hi, hp, gE hp, hn, w1, w2]
      exact ⟨i + 1, by omega, by omega, by simp⟩
    · have hin : i = n := by omega
      subst hin
      have z0 : ¬ N = 0 := by omega
      have z1 : (0 : Int) < N := by omega
      have z2 : N ≤ 281474976710656 := by omega
      have z3 : (N : Int) ≤ 9223372036854775807 := by omega
      simp [hn, rnl, z0, z1, z2, z3, h0, rep1]
      refine LoopK.intro (tr := [100021, 100030]) mixed (by kernel_rfl) (fun j : Nat => [(6, .osl 0 0 (R j).length (some N) 1), (22, .sl 1 (ps.map encBs) .sh), (23, .int .i64 i), (24, .int .i64 j)]) (fun j => [(R j).map enc8 ++ List.replicate (N - (R j).length) (.int .u8 0)]) (fun j => j ≤ i) (fun j => i - j) 0 ?_ ?_ ?_
      · simp
      · have hle : LeCells 1 (List.replicate N (AVal.int .u8 0)) (List.replicate N (AVal.int .u8 0)) := treeCells_le 1 (by simp [AVal.tree])
        simp [r0, hle]
      · rintro j j1
        by_cases hj : j < i
        · obtain ⟨p, hp, _⟩ := get_drop (l := ps) (i := j) (by omega)
          have w1 : IntKind.i64.wrap ((j : Int) + 1) = j + 1 := wrap_in (by omega)
          have hr := rs j p hp
          have hl := rl (j + 1)
          have hl2 : (R (j + 1)).length = (R j).length + p.length := by rw [hr, List.length_append]
          have hcp := bytes_cells p
          have hsb : ∀ H, asrc H (.sl 1 (p.map enc8) .sh) = some (1, p.length, p.map enc8) := fun H => by
            simp only [asrc, hcp, List.length_map]
          have hsrc : ∀ rest, asrc [(R j).map enc8 ++ rest] (.osl 0 0 (R j).length (some N) 1) = some (1, (R j).length, (R j).map enc8) := by
            intro rest
            unfold asrc
            by_cases h0 : (R j).length = 0
            · have e : R j = [] := List.length_eq_zero_iff.1 h0
              simp [e]
            · simp [h0]
          have hlb : (R (j + 1)).length ≤ N := hl
          have hq1 : ¬ N < (R j).length + p.length := by omega
          have hq2 : (R j).length + p.length ≤ 140737488355328 := by omega
          have hset := setR_bytes (R j) p (N - (R j).length) (.int .u8 0) (by omega)
          have hle : LeCells 1 ((R j ++ p).map enc8 ++ List.replicate (N - (R j).length - p.length) (AVal.int .u8 0)) ((R (j + 1)).map enc8 ++ List.replicate (N - (R (j + 1)).length) (.int .u8 0)) := by
            rw [hr, List.length_append, Nat.sub_sub]
            exact treeCells_le 1 (by rw [List.all_append, List.all_map]; simp [AVal.tree])
          have hfit : (R j).length + p.length ≤ (R j).length + (N - (R j).length) := by omega
          have hps : (p.map enc8).all AVal.scalar = true := by rw [List.all_map]; simp [AVal.scalar]
          have hpd : (p.map enc8).map AVal.dis = p.map enc8 := by rw [List.map_map]; rfl
          by_cases hp0 : p.length = 0
          · have e : p = [] := List.length_eq_zero_iff.1 hp0
            subst e
            rw [List.append_nil] at hr
            have hsb0 : ∀ H, asrc H (.sl 1 [] .sh) = some (1, 0, []) := fun _ => rfl
            simp at hq1 hq2
            have hq1' : ¬ N < (R j).length := by omega
            simp [hj, hp, gE hp, hsrc, hsb0, -asrc, w1, hq1', hq2]
            refine ⟨j + 1, by omega, by omega, ?_⟩
            rw [hr]
            simp at hle
            rw [hr] at hle
            simp [hle]
          · simp [hj, hp, gE hp, hsrc, hsb, -asrc, w1, hq1, hq2, hp0, hfit, hps, hpd, hset, -setR, -List.all_eq_true, -List.map_append]
            refine ⟨j + 1, by omega, by omega, ?_⟩
            rw [hl2] at hle
            simp [hl2, hle, -List.map_append]
        · have hji : j = i := by omega
          subst hji
          have hle : LeCells 1 ((R j).map enc8) ((R j).map enc8) := treeCells_le 1 (by rw [List.all_map]; simp [AVal.tree])
          simp [hn, rnl, hle]
-- field.Put, into a row
set_option maxHeartbeats 1000000 in
set_option maxRecDepth 10000 in
theorem f70r (b : List Int) (m : Nat) (hm : b.length = m) (hb : m < 1099511627000) (n : Nat) (h1 : 1 ≤ n) (hn : n ≤ 8) (x : Int) :
    CFun Try.prog 70 [encBs b, .int .i64 n, .int .u64 x] [] (.osl 0 0 (m + n) (some (m + n)) 1) [(b ++ numB n x).map enc8] := by
  refine CFun.intro (tr := []) (fz := []) (n := 15) (rs := [.tmp 6]) Try.func70 rfl (by kernel_rfl) rfl rfl mixed (by kernel_rfl) (by simp) (by simp) ?_
  have hN : ([b, numB n x] : List (List Int)).flatten.length = m + n := by simp [numB_len, hm]
  have h103 := (f114r [b, numB n x] 2 (m + n) rfl hN (by omega) (by omega) (by omega)).wk [.sl 1 ([b, numB n x].map encBs) .full] (by simp) ⟨whole, trivial⟩
  simp only [List.map_cons, List.map_nil, List.flatten_cons, List.flatten_nil, List.append_nil] at h103
  have z1 : ¬ ((n : Int) < 0) := by omega
  have z2 : ¬ ((8 : Int) < n) := by omega
  have hle : LeCells 1 ((b ++ numB n x).map enc8) ((b ++ numB n x).map enc8) := treeCells_le 1 (by rw [List.all_map]; simp [AVal.tree])
  simp [z1, z2]
  refine ⟨_, _, .inl (c104 n hn x), by simp, ?_⟩
  simp
  refine ⟨_, _, .inl (by simpa [cargs] using h103), by simp, ?_⟩
  simp at hle
  simp [hle]
end Go.Proofs.Ytmgkemffbmfmpaa

namespace Go.Proofs.Ytmgkemffbmfmpaa
open Go Go.Am

theorem bodyP_pos (p : Pkt) : 0 < (bodyP p).length := by
  unfold bodyP headsB
  repeat' split
  all_goals simp only [List.length_append, helB_len, cntB_len, numB_len]; omega
theorem isB_headP (p : Pkt) (n : Nat) : isB (headP p n) := by
  unfold headP
  repeat' apply isB_app
  all_goals exact isB_numB _ _
theorem isB_keyBt (k : LKey) : isB (keyBt k) := isB_app (isB_app (isB_app (isB_numB _ _) (isB_numB _ _)) (isB_numB _ _)) (isB_numB _ _)
theorem isB_helB (h : Hel) : isB (helB h) := by
  unfold helB cntB
  repeat' apply isB_app
  all_goals exact isB_numB _ _
theorem isB_headsB (l : List Hdr) : isB (headsB l) := isB_app (isB_numB _ _) (isB_flat _ _ isB_hdrB)
theorem isB_bodyP (p : Pkt) : isB (bodyP p) := by
  unfold bodyP
  split
  · exact isB_app (isB_helB _) (isB_flat _ _ fun x => isB_numB _ _)
  split
  · exact isB_app (isB_numB _ _) (isB_flat _ _ isB_keyBt)
  split
  · exact isB_app (isB_numB _ _) (isB_flat _ _ isB_bytesA)
  split
  · exact isB_app (isB_app (isB_numB _ _) (isB_numB _ _)) (isB_headsB _)
  · exact isB_headsB _
theorem isB_zeros : isB [0, 0] := by intro x hx; simp at hx; omega
theorem isB_frame (p : Pkt) : isB (encB p) := by
  unfold encB frameP
  exact isB_app (isB_headP _ _) (isB_app (isB_numB _ _) (isB_bodyP _))

-- lspacket.Encode
set_option maxHeartbeats 8000000 in
set_option maxRecDepth 10000 in
theorem f19 (p : Pkt) (ok : okPk p) : CFun Try.prog 19 [encPk p] [] (.tup [encBs (encQ p).1, .int .i64 (encQ p).2]) [] := by
  refine CFun.intro (tr := [100044]) (fz := [(2, 2, false)]) (n := 53) (rs := [.tmp 2, .tmp 3]) Try.func19 rfl (by kernel_rfl) rfl rfl mixed (by kernel_rfl) (by simp) (by simp) ?_
  have h16 := fun H => (f16 p ok).up' H rfl rfl
  unfold encQ
  by_cases hc : chkP p = 0
  case neg =>
    simp
    refine ⟨_, _, .inl (by simpa using h16 _), by simp, ?_⟩
    simp [hc]
  have h69 := fun H => (f69 p hc).up' H rfl rfl
  have hl := bodyP_len hc
  have hp := bodyP_pos p
  have hT := isB_bodyP p
  rw [if_neg (by simp [hc])]
  unfold encB
  generalize bodyP p = T at *
  obtain ⟨t, ht⟩ : ∃ t, T.length = t := ⟨_, rfl⟩
  have w1 : IntKind.i64.wrap (18 + (t : Int)) = (18 + t : Nat) := by rw [wrap_in (by omega)]; omega
  have h1 := fun H => ((c88 [] (by simp) 1 (by omega) 1).wk [.sl 0 [] .full, .int .i64 1, .int .u64 1] (by simp) (by simp [All2, LeS])).up' H rfl rfl
  simp only [List.nil_append] at h1
  have h2 := fun H => (c88 (numB 1 1) (by simp [numB_len]) 1 (by omega) (U p.Kind)).up' H rfl rfl
  have h3 := fun H => (c88 (numB 1 1 ++ numB 1 (U p.Kind)) (by simp [numB_len]) 2 (by omega) (U (18 + t : Nat))).up' H rfl rfl
  have h4 := fun H => (c88 (numB 1 1 ++ numB 1 (U p.Kind) ++ numB 2 (U (18 + t : Nat))) (by simp [numB_len]) 4 (by omega) (U p.Router)).up' H rfl rfl
  have h5 := fun H => (c88 (numB 1 1 ++ numB 1 (U p.Kind) ++ numB 2 (U (18 + t : Nat)) ++ numB 4 (U p.Router)) (by simp [numB_len]) 4 (by omega) (U p.Area)).up' H rfl rfl
  have h6 := fun H => (c88 (numB 1 1 ++ numB 1 (U p.Kind) ++ numB 2 (U (18 + t : Nat)) ++ numB 4 (U p.Router) ++ numB 4 (U p.Area)) (by simp [numB_len]) 4 (by omega) (U p.Addr)).up' H rfl rfl
  have hd16 := headP_len p t
  have hdef : numB 1 1 ++ numB 1 (U p.Kind) ++ numB 2 (U (18 + t : Nat)) ++ numB 4 (U p.Router) ++ numB 4 (U p.Area) ++ numB 4 (U p.Addr) = headP p t := rfl
  have hz : numB 2 0 = [0, 0] := by decide
  have h7 := (f70r (headP p t) 16 hd16 (by omega) 2 (by omega) (by omega) 0).upNew [cellsPk p] (by rw [List.all_map]; simp [noid0]) rfl rfl
  rw [hz] at h7
  rw [hdef] at h6
  have hfr : frameP p T = headP p t ++ (numB 2 (U (inet (headP p t ++ [0, 0] ++ T))) ++ T) := by unfold frameP; rw [ht]
  rw [hfr]
  have hW : isB (headP p t ++ [0, 0] ++ T) := isB_app (isB_app (isB_headP p t) isB_zeros) hT
  have hWl : (headP p t ++ [0, 0] ++ T).length = 18 + t := by simp only [List.length_append, hd16, ht]; rfl
  have h8 := fun H hid => lend71 (H := H) (id := 2) (cap := none) (b := headP p t ++ [0, 0] ++ T) hid hWl (by omega) (by omega) hW
  have h9 := fun H => ((c88 [] (by simp) 2 (by omega) (U (inet (headP p t ++ [0, 0] ++ T)))).wk [.sl 0 [] .full, .int .i64 2, .int .u64 (U (inet (headP p t ++ [0, 0] ++ T)))] (by simp) (by simp [All2, LeS])).up' H rfl rfl
  simp only [List.nil_append] at h9
  have hV' : IntKind.u64.wrap (18 + (t : Int)) = U (18 + t : Nat) := by simp
  clear hdef
  generalize U (18 + t : Nat) = V at *
  generalize numB 1 1 ++ numB 1 (U p.Kind) = B2 at *
  generalize B2 ++ numB 2 V = B3 at *
  generalize B3 ++ numB 4 (U p.Router) = B4 at *
  generalize B4 ++ numB 4 (U p.Area) = B5 at *
  generalize numB 1 1 = B1 at *
  generalize headP p t = B6 at *
  have e18 : ∀ (X : List Int), B6 ++ [0, 0] ++ X = (B6 ++ [0, 0]) ++ X := fun _ => rfl
  have hB7 : (B6 ++ [0, 0]).length = 18 := by simp [hd16]
  have hset : ∀ y : List Int, y.length = 2 → setR ((B6 ++ [0, 0] ++ T).map enc8) 16 (y.map enc8) = (B6 ++ (y ++ T)).map enc8 := by
    intro y hy
    have := setR_mid (B6.map enc8) (([0, 0] ++ T).map enc8) (y.map enc8) (by simp [hy]) 16 (by simp [hd16])
    rw [List.append_assoc, List.map_append, this, List.map_append, List.map_append]
    congr 2
    simp [hy]
  have hch := fun (y : List Int) (hy : y.length = 2) => chunk8 (B6 ++ (y ++ T)) (18 + t) (by simp only [List.length_append, hd16, hy, ht]; omega)
  have hYl : ∀ y, (numB 2 y).length = 2 := fun y => numB_len 2 y
  have hsY : ∀ (y : List Int) (H : List (List AVal)), y.length = 2 → asrc H (.sl 1 (y.map enc8) .own) = some (1, 2, y.map enc8) := fun y H hy => by
    simp only [asrc, bytes_cells, List.length_map, hy]
  have hsT : ∀ (H : List (List AVal)), asrc H (.sl 1 (T.map enc8) .sh) = some (1, t, T.map enc8) := fun H => by
    simp only [asrc, bytes_cells, List.length_map, ht]
  have hds : ∀ y : List Int, (y.map enc8).map AVal.dis = y.map enc8 := fun y => by rw [List.map_map]; rfl
  have hsc : ∀ y : List Int, (y.map enc8).all AVal.scalar = true := fun y => by rw [List.all_map]; simp [AVal.scalar]
  have htr : ∀ y : List Int, (y.map enc8).all AVal.tree = true := fun y => by rw [List.all_map]; simp [AVal.tree]
  clear e18
  generalize hW' : B6 ++ [0, 0] ++ T = W at *
  generalize B6 ++ [0, 0] = B7 at *
  generalize inet W = v at *
  have hs7 : ∀ c0, asrc [c0, B7.map enc8] (.osl 1 0 18 (some 18) 1) = some (1, 18, B7.map enc8) := fun c0 => by
    simp [asrc, hB7]
    exact List.take_of_length_le (by simp [hB7])
  have happ : B7.map enc8 ++ T.map enc8 = W.map enc8 := by rw [← List.map_append, hW']
  have hset' := hset (numB 2 (U v)) (hYl _)
  have hch' := hch (numB 2 (U v)) (hYl _)
  have hY := hYl (U v)
  have hsY' := fun H => hsY (numB 2 (U v)) H hY
  have hfl : (B6 ++ (numB 2 (U v) ++ T)).length = 18 + t := by simp only [List.length_append, hd16, hY, ht]; omega
  generalize hZ : B6 ++ (numB 2 (U v) ++ T) = Z at *
  generalize numB 2 (U v) = Y at *
  clear hset hch hsY hYl hW' hZ
  simp
  refine ⟨_, _, .inl (by simpa using h16 _), by simp, ?_⟩
  simp [hc]
  refine ⟨_, _, .inl (by simpa using h69 _), by simp, ?_⟩
  simp
  refine ⟨_, _, .inl (by simpa using h1 _), by simp, ?_⟩
  simp
  refine ⟨_, _, .inl (by simpa using h2 _), by simp, ?_⟩
  simp [ht, w1, hV']
  refine ⟨_, _, .inl (by simpa [ht, w1, hV'] using h3 _), by simp, ?_⟩
  simp
  refine ⟨_, _, .inl (by simpa using h4 _), by simp, ?_⟩
  simp
  refine ⟨_, _, .inl (by simpa using h5 _), by simp, ?_⟩
  simp
  refine ⟨_, _, .inl (by simpa using h6 _), by simp, ?_⟩
  simp
  refine ⟨_, _, .inl (by simpa [ren, ren0] using h7), by simp, ?_⟩
  have q1 : 18 + t ≤ 140737488355328 := by omega
  have q2 : 0 < t := by omega
  have q3 : (16 : Int) ≤ 18 + t := by omega
  have q4 : min 2 (18 + t - 16) = 2 := by omega
  have q5 : 16 + 2 ≤ 18 + t := by omega
  have q6 : (Y.map enc8).take 2 = Y.map enc8 := List.take_of_length_le (by simp [hY])
  have q7 : (Z.map enc8).take (18 + t) = Z.map enc8 := List.take_of_length_le (by simp [hfl])
  have q9 : 0 < 18 + t := by omega
  have q8 : (W.map enc8).take (18 + t) = W.map enc8 := List.take_of_length_le (by simp [hWl])
  simp [hs7, hsT, -asrc, q1, q2, q3, happ, hds, -List.map_map]
  refine ⟨_, _, .inl (h8 _ rfl), by simp, ?_⟩
  simp [-asrc, q1, q2, q3, happ, hds, -List.map_map]
  refine ⟨_, _, .inl (by simpa using h9 _), by simp, ?_⟩
  simp [hsY', -asrc, q9, q3, q4, q5, q6, q7, hds, hsc, htr, hset', hch', hWl, hfl, -List.map_map, -List.all_eq_true, -setR]
end Go.Proofs.Ytmgkemffbmfmpaa

namespace Go.Proofs.Ytmgkemffbmfmpaa
open Go Go.Am

theorem withB_frame (a T : List Int) (ha : a.length = 16) (v : Int) (hv : 0 ≤ v ∧ v ≤ 65535) : withB (a ++ [0, 0] ++ T) 16 v = a ++ (numB 2 (U v) ++ T) := by
  have e1 : v.tdiv 256 = v / 256 := by rw [Int.tdiv_eq_ediv_of_nonneg hv.1]
  have e2 : v.tmod 256 = v % 256 := by rw [Int.tmod_eq_emod_of_nonneg hv.1]
  have b1 : IntKind.u8.wrap (v / 256) = v / 256 := by
    have : IntKind.u8.wrap (v / 256) = v / 256 % 256 := rfl
    omega
  have b2 : IntKind.u8.wrap (v % 256) = v % 256 := by
    have : IntKind.u8.wrap (v % 256) = v % 256 % 256 := rfl
    omega
  have hn : numB 2 (U v) = [v / 256, v % 256] := by
    rw [u64_id (by omega)]
    have h1 : bt v 1 = v / 256 := by
      have : bt v 1 = v.fdiv 256 % 256 := rfl
      rw [this, Int.fdiv_eq_ediv_of_nonneg _ (by omega)]; omega
    have h0 : bt v 0 = v % 256 := by
      have : bt v 0 = v.fdiv 1 % 256 := rfl
      rw [this, Int.fdiv_eq_ediv_of_nonneg _ (by omega)]; omega
    simp only [numB, h1, h0]
  rw [hn, withB, e1, e2, b1, b2, List.append_assoc, List.set_append_right _ _ (by omega), List.set_append_right _ _ (by omega), ha]
  rfl
-- routingref24.frame
set_option maxHeartbeats 4000000 in
set_option maxRecDepth 10000 in
theorem f72 (p : Pkt) (hk : 1 ≤ p.Kind ∧ p.Kind ≤ 5) (T : List Int) (hT : isB T) (t : Nat) (ht : T.length = t) (hl : t ≤ 60000) : CFun Try.prog 72 [encPk p, encBs T] [] (encBs (frameP p T)) [] := by
  refine CFun.intro (tr := [10, 16, 21, 26, 31, 34, 400015, 400020, 400025, 400030]) (fz := []) (n := 41) (rs := [.tmp 4]) Try.func72 rfl (by kernel_rfl) rfl rfl mixed (by kernel_rfl) (by simp) (by simp) ?_
  have w1 : IntKind.i64.wrap (18 + (t : Int)) = (18 + t : Nat) := by rw [wrap_in (by omega)]; omega
  have hd16 := headP_len p t
  have hone := headP_one p t hk
  have hW : isB (headP p t ++ [0, 0] ++ T) := isB_app (isB_app (isB_headP p t) isB_zeros) hT
  have hWl : (headP p t ++ [0, 0] ++ T).length = 18 + t := by simp only [List.length_append, hd16, ht]; rfl
  have h8 := fun H => (f119 (headP p t ++ [0, 0] ++ T) _ rfl (by omega) hW).up' H rfl rfl
  have h9 := fun H => (c100 (headP p t ++ [0, 0] ++ T) 16 (by omega) (by omega) (inet (headP p t ++ [0, 0] ++ T))).up' H rfl rfl
  have hin := inet_in (headP p t ++ [0, 0] ++ T)
  rw [withB_frame (headP p t) T hd16 _ hin] at h9
  have hfr : frameP p T = headP p t ++ (numB 2 (U (inet (headP p t ++ [0, 0] ++ T))) ++ T) := by unfold frameP; rw [ht]
  rw [hfr]
  have hu8 : IntKind.u8.wrap p.Kind = p.Kind := by
    have : IntKind.u8.wrap p.Kind = p.Kind % 256 := rfl
    omega
  have e1 : [AVal.int .u8 1, AVal.int .u8 p.Kind] = [1, p.Kind].map enc8 := rfl
  have hV' : IntKind.u64.wrap (18 + (t : Int)) = U (18 + t : Nat) := by simp
  have hH : LeBoxes ([cellsPk p] : List (List AVal)).length [cellsPk p] [cellsPk p] := by simp
  have g1 := o61f 2 (by omega) (by omega) [1, p.Kind] (by simp) (U (18 + t : Nat)) [cellsPk p] hH
  have g2 := p61 4 ([1, p.Kind] ++ numB 2 (U (18 + t : Nat))) (U p.Router) [cellsPk p] (by omega) (by omega) (by simp [numB_len]) hH
  have g3 := p61 4 ([1, p.Kind] ++ numB 2 (U (18 + t : Nat)) ++ numB 4 (U p.Router)) (U p.Area) [cellsPk p] (by omega) (by omega) (by simp [numB_len]) hH
  have g4 := p61 4 ([1, p.Kind] ++ numB 2 (U (18 + t : Nat)) ++ numB 4 (U p.Router) ++ numB 4 (U p.Area)) (U p.Addr) [cellsPk p] (by omega) (by omega) (by simp [numB_len]) hH
  rw [← hone] at g4
  clear hone hW e1 hH
  generalize U (18 + t : Nat) = V at *
  generalize inet (headP p t ++ [0, 0] ++ T) = v at *
  generalize hB2 : [1, p.Kind] ++ numB 2 V = B2 at *
  generalize B2 ++ numB 4 (U p.Router) = B3 at *
  generalize B3 ++ numB 4 (U p.Area) = B4 at *
  generalize headP p t = B5 at *
  clear hB2
  have hr2 : List.range 2 = [0, 1] := rfl
  have q1 : 16 + 2 ≤ 140737488355328 := by omega
  have q2 : 16 + 2 + t ≤ 140737488355328 := by omega
  simp at g1
  simp [hu8, ht, w1, hV']
  refine ⟨_, _, by simpa [ht, w1, hV'] using g1, ?_⟩
  simp
  refine ⟨_, _, by simpa using g2, ?_⟩
  simp
  refine ⟨_, _, by simpa using g3, ?_⟩
  simp
  refine ⟨_, _, by simpa using g4, ?_⟩
  simp [hd16, ht, q1, q2, hr2]
  refine ⟨_, _, .inl (by simpa using h8 _), by simp, ?_⟩
  simp [hd16, ht, q1, q2, hr2]
  refine ⟨_, _, .inl (by simpa using h9 _), by simp, ?_⟩
  simp
end Go.Proofs.Ytmgkemffbmfmpaa

namespace Go.Proofs.Ytmgkemffbmfmpaa
open Go Go.Am

-- routingref24.Bytes
set_option maxHeartbeats 2000000 in
set_option maxRecDepth 10000 in
theorem f21 (p : Pkt) (h : chkP p = 0) : CFun Try.prog 21 [encPk p] [] (encBs (encB p)) [] := by
  refine CFun.intro (tr := []) (fz := []) (n := 7) (rs := [.tmp 2]) Try.func21 rfl (by kernel_rfl) rfl rfl mixed (by kernel_rfl) (by simp) (by simp) ?_
  have h1 := fun H => (f73 p h).up' H rfl rfl
  have h2 := fun H => (f72 p (chkP_ok h).1 (bodyP p) (isB_bodyP p) _ rfl (by have := bodyP_len h; omega)).up' H rfl rfl
  unfold encB
  generalize frameP p (bodyP p) = F at *
  generalize bodyP p = T at *
  simp
  refine ⟨_, _, .inl (by simpa using h1 _), by simp, ?_⟩
  simp
  refine ⟨_, _, .inl (by simpa using h2 _), by simp, ?_⟩
  simp

def p1 : Pkt := { pkt0 with Kind := 5, Router := 1 }
def p2 : Pkt := { pkt0 with Kind := 1, Router := 1, E := ⟨24, 10, 40, 0, 0, 0, [2]⟩ }
theorem okp1 : okPk p1 := ⟨by decide, by decide, by decide, by decide, by decide, by simp [p1, pkt0], by simp [p1, pkt0]⟩
theorem okp2 : okPk p2 := ⟨by decide, by decide, by decide, by decide, by decide, by simp [p2, pkt0], by simp [p2, pkt0]⟩
theorem ep1 : (encQ p1).2 = 0 ∧ (encQ p1).1.length = 19 := by
  have h : chkP p1 = 0 := by decide
  unfold encQ
  rw [if_neg (by simp [h])]
  exact ⟨rfl, by rw [encB, frame_len]; rfl⟩
theorem ep2 : (encQ p2).2 = 0 ∧ (encQ p2).1.length = 37 := by
  have h : chkP p2 = 0 := by decide
  unfold encQ
  rw [if_neg (by simp [h])]
  exact ⟨rfl, by rw [encB, frame_len]; rfl⟩
-- routinglaw24.lives
set_option maxHeartbeats 4000000 in
set_option maxRecDepth 10000 in
theorem f18 : CFun Try.prog 18 [] [] (.bool true) [] := by
  refine CFun.intro (tr := []) (fz := []) (n := 33) (rs := [.tmp 0]) Try.func18 rfl (by kernel_rfl) rfl rfl mixed (by kernel_rfl) (by simp) (by simp) ?_
  have h1 := fun (cs : List AVal) (hcs : All2 LeC cs (cellsPk p1)) H (hn : (AVal.agg cs).isOwn = false) => ((f19 p1 okp1).wk [.agg cs] (by simp) ⟨hcs, trivial⟩).up' H (by simp [noid, noid0]) rfl
  have h2 := fun (cs : List AVal) (hcs : All2 LeC cs (cellsPk p2)) H (hn : (AVal.agg cs).isOwn = false) => ((f19 p2 okp2).wk [.agg cs] (by simp) ⟨hcs, trivial⟩).up' H (by simp [noid, noid0]) rfl
  obtain ⟨e1, e2⟩ := ep1
  obtain ⟨e3, e4⟩ := ep2
  generalize encQ p1 = q1 at *
  generalize encQ p2 = q2 at *
  simp
  refine ⟨_, _, .inl (h1 _ (by simp [p1, pkt0, hel0, All2, LeC]) _ rfl), by simp, ?_⟩
  simp
  refine ⟨_, _, .inl (h2 _ (by simp [p2, pkt0, hel0, All2, LeC]) _ rfl), by simp, ?_⟩
  simp [e1, e2, e3, e4]

-- LspacketChecks
set_option maxHeartbeats 2000000 in
set_option maxRecDepth 10000 in
theorem g3 (p : Pkt) (ok : okPk p) : CFun Try.prog 3 [encPk p] [] (.bool true) [] := by
  refine CFun.intro (tr := []) (fz := []) (n := 11) (rs := [.tmp 2]) Try.func3 rfl (by kernel_rfl) rfl rfl mixed (by kernel_rfl) (by simp) (by simp) ?_
  have h1 := fun H => (f16 p ok).up' H rfl rfl
  have h2 := fun H => (f17 p ok).up' H rfl rfl
  have h3 := fun H => f18.up' H rfl rfl
  generalize chkP p = v at *
  simp
  refine ⟨_, _, .inl (by simpa using h1 _), by simp, ?_⟩
  simp
  refine ⟨_, _, .inl (by simpa using h2 _), by simp, ?_⟩
  simp
  refine ⟨_, _, .inl (by simpa using h3 _), by simp, ?_⟩
  simp
-- LspacketEncodes
set_option maxHeartbeats 2000000 in
set_option maxRecDepth 10000 in
theorem g4 (p : Pkt) (ok : okPk p) : CFun Try.prog 4 [encPk p] [] (.bool true) [] := by
  refine CFun.intro (tr := []) (fz := []) (n := 37) (rs := [.tmp 2]) Try.func4 rfl (by kernel_rfl) rfl rfl mixed (by kernel_rfl) (by simp) (by simp) ?_
  have h1 := fun H => (f19 p ok).up' H rfl rfl
  have h2 := fun H => (f17 p ok).up' H rfl rfl
  have h3 := fun H => f18.up' H rfl rfl
  have h4 := fun (h : chkP p = 0) H => (f21 p h).up' H rfl rfl
  have h5 := fun H => (c23 (encB p) (encB p) (isB_frame p) (isB_frame p)).up' H rfl rfl
  unfold encQ at h1
  by_cases hc : chkP p = 0
  · have h4' := h4 hc
    rw [hc] at h2
    simp only [hc, ne_eq, not_true_eq_false, if_false] at h1
    generalize encB p = B at *
    simp
    refine ⟨_, _, .inl (by simpa using h1 _), by simp, ?_⟩
    simp
    refine ⟨_, _, .inl (by simpa using h2 _), by simp, ?_⟩
    simp
    refine ⟨_, _, .inl (by simpa using h4' _), by simp, ?_⟩
    simp
    refine ⟨_, _, .inl (by simpa using h5 _), by simp, ?_⟩
    simp
    refine ⟨_, _, .inl (by simpa using h3 _), by simp, ?_⟩
    simp
  · simp only [ne_eq, hc, not_false_eq_true, if_true] at h1
    generalize chkP p = v at *
    simp
    refine ⟨_, _, .inl (by simpa using h1 _), by simp, ?_⟩
    simp
    refine ⟨_, _, .inl (by simpa using h2 _), by simp, ?_⟩
    simp [hc]
    refine ⟨_, _, .inl (by simpa using h3 _), by simp, ?_⟩
    simp
theorem sameL_refl (x : Lsa) : sameL x x = true := by
  have := sameB_self x
  simp [sameL, this]
theorem sameP_refl (p : Pkt) : sameP p p = true := by
  simp [sameP, eqW_refl sameL_refl]
-- LspacketSame
set_option maxHeartbeats 2000000 in
set_option maxRecDepth 10000 in
theorem g5 (a b : Pkt) (ok : okS a) : CFun Try.prog 5 [encPk a, encPk b] [] (.bool true) [] := by
  refine CFun.intro (tr := []) (fz := []) (n := 20) (rs := [.tmp 4]) Try.func5 rfl (by kernel_rfl) rfl rfl mixed (by kernel_rfl) (by simp) (by simp) ?_
  have h1 := fun H => (f22 a b ok).up' H rfl rfl
  have h2 := fun H => (f23 a b ok).up' H rfl rfl
  have h3 := fun H => f18.up' H rfl rfl
  have h4 := fun H => (f22 a a ok).up' H rfl rfl
  rw [sameP_refl] at h4
  generalize sameP a b = v at *
  simp
  refine ⟨_, _, .inl (by simpa using h1 _), by simp, ?_⟩
  simp
  refine ⟨_, _, .inl (by simpa using h2 _), by simp, ?_⟩
  simp
  refine ⟨_, _, .inl (by simpa using h4 _), by simp, ?_⟩
  simp
  refine ⟨_, _, .inl (by simpa using h3 _), by simp, ?_⟩
  simp
end Go.Proofs.Ytmgkemffbmfmpaa
