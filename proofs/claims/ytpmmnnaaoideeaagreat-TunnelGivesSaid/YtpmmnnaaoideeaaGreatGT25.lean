/- The tunnels that give way, by the program. -/
import Derived.Test.YtpmmnnaaoideeaaGreatGT12
import Derived.Test.YtpmmnnaaoideeaaGreatGT6
set_option linter.unusedSimpArgs false
set_option linter.unusedVariables false
namespace Go.Proofs.YtpmmnnaaoideeaaGreat
open Go Go.Am Go.Wk

theorem vicF_spec (cand : Nat → Tun → Bool) (ts : List Tun) : ∀ (r : List Tun) (i : Nat) (b : Int), r = ts.drop i → vicF cand ts b i r = b ∨ ∃ (j : Nat) (t : Tun), vicF cand ts b i r = j ∧ ts[j]? = some t ∧ cand j t = true := by
  intro r
  induction r with
  | nil => intro i b _; exact .inl rfl
  | cons t r ih =>
    intro i b h
    have ht : ts[i]? = some t := by
      have := congrArg (fun l => l[0]?) h
      simpa using this.symm
    have hr : r = ts.drop (i + 1) := by
      have := congrArg List.tail h
      simpa using this
    simp only [vicF]
    rcases ih (i + 1) (if (cand i t && (decide (b < 0) || betT t (ts.getD b.toNat tun0))) = true then (i : Int) else b) hr with e | e
    · rw [e]
      split
      · rename_i g
        simp only [Bool.and_eq_true] at g
        exact .inr ⟨i, t, rfl, ht, g.1⟩
      · exact .inl rfl
    · exact .inr e
def vicL (l : List Lnk) (ts : List Tun) (us : List Int) (c : Con) : Nat → List Lnk → List Int → List Int → List Int × Int
  | 0, _, _, _ => ([], 19)
  | f + 1, r, ch, ids =>
    if (us.filter fun x => !fullP r c.Band x) = [] then (ids, 0)
    else if vicF (candP l (us.filter fun x => !fullP r c.Band x) c ch) ts (-1) 0 ts < 0 then ([], 19)
    else vicL l ts us c f (chA (ts.getD (vicF (candP l (us.filter fun x => !fullP r c.Band x) c ch) ts (-1) 0 ts).toNat tun0).W.Band (ts.getD (vicF (candP l (us.filter fun x => !fullP r c.Band x) c ch) ts (-1) 0 ts).toNat tun0).W.Hold.toNat (usesL l (ts.getD (vicF (candP l (us.filter fun x => !fullP r c.Band x) c ch) ts (-1) 0 ts).toNat tun0).P) r)
      (ch ++ [vicF (candP l (us.filter fun x => !fullP r c.Band x) c ch) ts (-1) 0 ts]) (ids ++ [(ts.getD (vicF (candP l (us.filter fun x => !fullP r c.Band x) c ch) ts (-1) 0 ts).toNat tun0).ID])
def vicN (l : List Lnk) (ts : List Tun) (path : List Int) (c : Con) : List Int × Int :=
  if amtB c.Setup c.Band = false then ([], 5) else if hasB (usesL l path) (-1) = true then ([], 20) else vicL l ts (usesL l path) c (ts.length + 1) l [] []
theorem chA_skip {v : Int} {h : Nat} {us : List Int} {l : List Lnk} : chA v h (-1 :: us) l = chA v h us l := by
  apply List.ext_getElem?
  intro j
  rw [chA_get, chA_get, cntI_cons, if_neg (by omega)]
  rfl
theorem chA_nil {v : Int} {h : Nat} {l : List Lnk} : chA v h [] l = l := by
  apply List.ext_getElem?
  intro j
  rw [chA_get]
  cases l[j]? <;> simp [cntI, chR_zero]
set_option maxHeartbeats 4000000 in
set_option maxRecDepth 10000 in
theorem t43n (H : List (List AVal)) (cs : List AVal) (hf : low H.length (.fn 33 [] cs) = true) (hH : LeBoxes H.length H H) : CFun Tryz.prog 31 [.sl 1 [] .full, .fn 33 [] cs] H (.sl 1 [] .full) H := by
  have h69 : CFun Tryz.prog 60 [.sl 1 [] .full, .fn 33 [] cs] H (.int .i64 (-1)) H := by
    refine CFun.intro (tr := []) (fz := []) (n := 19) (rs := [.tmp 4]) Tryz.func60 rfl (by kernel_rfl) rfl rfl mixed (by kernel_rfl) (by simp) (by simp) ?_
    simp
    refine LoopK.intro (tr := []) mixed (by kernel_rfl) (fun j : Nat => [(0, .sl 1 [] .sh), (7, .int .i64 0), (8, .int .i64 0)]) (fun _ => H) (fun _ => True) (fun j => j) 0 trivial ?_ ?_
    · simp [hH]
    · intro j _
      simp [hH]
  refine CFun.intro (tr := []) (fz := []) (n := 42) (rs := [.tmp 4]) Tryz.func31 rfl (by kernel_rfl) rfl rfl mixed (by kernel_rfl) (by simp) (by simp) ?_
  simp
  refine ⟨_, _, .inl h69, by simp, ?_⟩
  simp [hH]
end Go.Proofs.YtpmmnnaaoideeaaGreat

/- tunnel.Victims, by the program. -/
namespace Go.Proofs.YtpmmnnaaoideeaaGreat
open Go Go.Am Go.Wk

theorem chunkI (l : List Int) (f : Nat) (h : l.length = f) : chunk false (l.map encI) 0 1 f = l.map encI := by
  apply List.ext_getElem?
  intro j
  rw [chunk_get]
  by_cases e : j < f
  · rw [if_pos e]
    have : j < (l.map encI).length := by simp; omega
    rw [List.getElem?_eq_getElem this]
    simp [List.getD_eq_getElem?_getD, show j < l.length by omega, AVal.dis]
  · rw [if_neg e, List.getElem?_eq_none (by simp; omega)]
theorem chR_ge {h : Nat} (h8 : 8 ≤ h) (v : Int) (x : Lnk) : chR h v x = x := by
  have : (fun k => if h ≤ k ∧ k < 8 then x.Fr k + v else x.Fr k) = x.Fr := by
    funext k; rw [if_neg (by omega)]
  unfold chR
  rw [this]
structure VS where
  r : List Lnk
  ch : List Int
  ids : List Int
theorem nodup_len_int {ch : List Int} {n : Nat} (hd : ch.Nodup) (hb : ∀ x ∈ ch, 0 ≤ x ∧ x < n) : ch.length ≤ n := by
  have hl := nodup_length (l := ch.map Int.toNat) (n := n) (by
    unfold List.Nodup at hd ⊢
    rw [List.pairwise_map]
    refine hd.imp_of_mem ?_
    intro a b ha hb' h e
    have := hb a ha
    have := hb b hb'
    omega) (fun x hx => by
    obtain ⟨a, ha, rfl⟩ := List.mem_map.1 hx
    have := hb a ha
    omega)
  simpa using hl
set_option maxHeartbeats 32000000 in
set_option maxRecDepth 10000 in
theorem t18 (l : List Lnk) (n : Nat) (hn : l.length = n) (hn2 : n < 1000) (hB : ∀ x ∈ l, ∀ k, k < 8 → -1125899906842624 ≤ x.Fr k ∧ x.Fr k ≤ 1125899906842624) (ts : List Tun) (r : Nat) (hr : ts.length = r) (hr2 : r ≤ 100)
    (hts : ∀ t ∈ ts, t.P.length ≤ 30 ∧ t.W.Band ≤ 1099511627776 ∧ inI t.W.Hold) (p : List Int) (m : Nat) (hm : p.length = m) (hm2 : m ≤ 1000) (c : Con) :
    CFun Tryz.prog 8 [.sl 13 (l.map encL) .sh, .sl 12 (ts.map encT) .sh, .sl 1 (p.map encI) .sh, encC c] [] (.tup [.sl 1 ((vicN l ts p c).1.map encI) .sh, .int .i64 (vicN l ts p c).2]) [] := by
  refine CFun.intro (tr := [60, 64, 10000014000006]) (fz := []) (n := 117) (rs := [.tmp 8, .tmp 9]) Tryz.func8 rfl (by kernel_rfl) rfl rfl mixed (by kernel_rfl) (by simp) (by simp) ?_
  have h41 := fun H => (t41 l n hn (by omega) p m hm (by omega)).up' H rfl rfl
  have h42 := fun H => (c24 (usesL l p) (m - 1) (by rw [usesL_len, hm]) (by omega) (-1)).up' H rfl rfl
  unfold vicN
  by_cases a1 : c.Setup < 0
  · simp [amtB_false (b := c.Band) (.inl a1), a1]
  by_cases a2 : 7 < c.Setup
  · simp [amtB_false (b := c.Band) (.inr (.inl a2)), a1, a2]
  by_cases a3 : c.Band < 0
  · simp [amtB_false (h := c.Setup) (.inr (.inr (.inl a3))), a1, a2, a3]
  by_cases a4 : 1099511627776 < c.Band
  · simp [amtB_false (h := c.Setup) (.inr (.inr (.inr a4))), a1, a2, a3, a4]
  rw [amtB_true (h := c.Setup) (b := c.Band) (by omega), if_neg (by simp)]
  by_cases g2 : hasB (usesL l p) (-1) = true
  · rw [g2] at h42
    rw [if_pos g2]
    simp [a1, a2, a3, a4]
    refine ⟨_, _, .inl (by simpa using h41 _), by simp, ?_⟩
    simp
    refine ⟨_, _, .inl (by simpa using h42 _), by simp, ?_⟩
    simp
  have g2' : hasB (usesL l p) (-1) = false := by simpa using g2
  rw [g2'] at h42
  rw [if_neg g2]
  have hus : ∀ u ∈ usesL l p, 0 ≤ u ∧ u < n := by
    intro u hu
    have h1 := usesL_range l p u hu
    rw [hasB_iff] at g2
    have : u ≠ -1 := fun e => g2 (e ▸ hu)
    omega
  have hul : (usesL l p).length = m - 1 := by rw [usesL_len, hm]
  obtain ⟨us, hU⟩ : ∃ us, us = usesL l p := ⟨_, rfl⟩
  rw [← hU] at h41 h42 hus hul ⊢
  clear hU g2
  by_cases hne : us = []
  · subst hne
    have hv0 : vicL l ts [] c (ts.length + 1) l [] [] = ([], 0) := by simp [vicL]
    rw [hv0]
    have k44 := fun H => t44n.up' H rfl rfl
    by_cases hl : l = []
    · subst hl
      have k34 := fun H => t34n.up' H rfl rfl
      have k43 := t43n [cellsC c, [.sl 13 [] .full]] [.ptr 1 0, .ptr 0 0] (by simp [low, low0]) (by simp)
      simp [a1, a2, a3, a4]
      refine ⟨_, _, .inl (by simpa using h41 _), by simp, ?_⟩
      simp
      refine ⟨_, _, .inl (by simpa using h42 _), by simp, ?_⟩
      simp
      refine ⟨_, _, .inl (by simpa using k34 _), by simp, ?_⟩
      simp
      refine LoopK.intro (tr := [60, 64, 10000014000006]) mixed (by kernel_rfl) (fun _ : Nat => [(7, .ptr 0 0), (10, .sl 1 [] .sh), (11, .ptr 1 0), (13, .sl 1 [] .sh)]) (fun _ => [cellsC c, [.sl 13 [] .full]]) (fun _ => True) (fun i => i) 0 trivial (by simp) ?_
      intro _ _
      simp
      refine ⟨_, _, .inl (by simpa using k44 _), by simp, ?_⟩
      simp
      refine ⟨_, _, .inl (by simpa using k43), by simp, ?_⟩
      simp
    · have k34 : ∀ H, CFun Tryz.prog 30 [.sl 13 (l.map encL) .sh] H (.osl H.length 0 l.length none 13) (H ++ [rowC cellsL l]) := fun H => (t34r l hl (by omega)).upNew H (encL_enc.rowNoid l) rfl rfl
      have hle := fun k (l : List Lnk) => encL_enc.rowLe k l
      have k43 := t43n [cellsC c, rowC cellsL l, [.osl 1 0 n none 13]] [.ptr 2 0, .ptr 0 0] (by simp [low, low0]) (by simp [hle])
      simp [a1, a2, a3, a4]
      refine ⟨_, _, .inl (by simpa using h41 _), by simp, ?_⟩
      simp
      refine ⟨_, _, .inl (by simpa using h42 _), by simp, ?_⟩
      simp
      refine ⟨_, _, .inl (by simpa using k34 _), by simp, ?_⟩
      simp
      refine LoopK.intro (tr := [60, 64, 10000014000006]) mixed (by kernel_rfl) (fun _ : Nat => [(7, .ptr 0 0), (10, .sl 1 [] .sh), (11, .ptr 2 0), (13, .sl 1 [] .sh)]) (fun _ => [cellsC c, rowC cellsL l, [.osl 1 0 n none 13]]) (fun _ => True) (fun i => i) 0 trivial (by simp [hle, hn]) ?_
      intro _ _
      simp
      refine ⟨_, _, .inl (by simpa using k44 _), by simp, ?_⟩
      simp
      refine ⟨_, _, .inl (by simpa using k43), by simp, ?_⟩
      simp
  have hl : l ≠ [] := by
    intro e
    obtain ⟨u, us', hu⟩ := List.exists_cons_of_ne_nil hne
    have := hus u (by rw [hu]; simp)
    rw [e] at hn
    simp at hn
    omega
  have hn0 : 0 < n := by rw [← hn]; exact List.length_pos_iff.2 hl
  have k34 : ∀ H, CFun Tryz.prog 30 [.sl 13 (l.map encL) .sh] H (.osl H.length 0 l.length none 13) (H ++ [rowC cellsL l]) := fun H => (t34r l hl (by omega)).upNew H (encL_enc.rowNoid l) rfl rfl
  have hle := fun k (l : List Lnk) => encL_enc.rowLe k l
  have hrl := encL_enc.rowLen
  have hle2 := fun k us => encI_le k us
  have k44 : ∀ H, CFun Tryz.prog 32 [.sl 1 (us.map encI) .sh] H (.osl H.length 0 us.length none 1) (H ++ [us.map encI]) := fun H => (t44r us hne (by omega)).upNew H (by rw [List.all_map]; simp [noid0, encI]) rfl rfl
  simp [a1, a2, a3, a4]
  refine ⟨_, _, .inl (by simpa using h41 _), by simp, ?_⟩
  simp
  refine ⟨_, _, .inl (by simpa using h42 _), by simp, ?_⟩
  simp
  refine ⟨_, _, .inl (by simpa using k34 _), by simp, ?_⟩
  simp
  clear h41 h42 k34
  obtain ⟨T, hT⟩ : ∃ T, T = vicL l ts us c (ts.length + 1) l [] [] := ⟨_, rfl⟩
  rw [← hT]
  refine LoopK.intro (tr := [60, 64, 10000014000006]) mixed (by kernel_rfl) (fun s : VS => [(0, .sl 13 (l.map encL) .sh), (1, .sl 12 (ts.map encT) .sh), (7, .ptr 0 0), (10, .sl 1 (us.map encI) .sh), (11, .ptr 2 0), (12, .sl 1 (s.ch.map encI) .own), (13, .sl 1 (s.ids.map encI) .own)]) (fun s => [cellsC c, rowC cellsL s.r, [.osl 1 0 n none 13]])
    (fun s => (s.r.length = n ∧ s.ids.length = s.ch.length ∧ s.ch.Nodup ∧ ∀ x ∈ s.ch, 0 ≤ x ∧ x < r) ∧ (∀ x ∈ s.r, ∀ k, k < 8 → -1125899906842624 - 32985348833280 * s.ch.length ≤ x.Fr k ∧ x.Fr k ≤ 1125899906842624 + 32985348833280 * s.ch.length) ∧ T = vicL l ts us c (ts.length + 1 - s.ch.length) s.r s.ch s.ids) (fun s => r + 1 - s.ch.length) ⟨l, [], []⟩ ?_ ?_ ?_
  · exact ⟨⟨hn, rfl, List.nodup_nil, by simp⟩, fun x hx k hk => by have := hB x hx k hk; simp; omega, hT⟩
  · simp [hle, hn]
  clear hB hT
  rintro ⟨rm, ch, ids⟩ ⟨⟨v1, v2, v3, v4⟩, v5, v6⟩
  simp only at v1 v2 v3 v4 v5 v6
  have hchl := nodup_len_int v3 v4
  rw [hr, show r + 1 - ch.length = (r - ch.length) + 1 by omega] at v6
  simp only [vicL] at v6
  have hdel := t43 c rm n v1 us us.length rfl (by omega) hus
  have hv : vicF (candP l (us.filter fun x => !fullP rm c.Band x) c ch) ts (-1) 0 ts = -1 ∨ ∃ (j : Nat) (t : Tun), vicF (candP l (us.filter fun x => !fullP rm c.Band x) c ch) ts (-1) 0 ts = j ∧ ts[j]? = some t ∧ candP l (us.filter fun x => !fullP rm c.Band x) c ch j t = true := vicF_spec _ ts ts 0 (-1) (by simp)
  have hfl : (us.filter fun x => !fullP rm c.Band x).length ≤ us.length := List.length_filter_le _ _
  have h46 := fun H => (t46 l n hn (by omega) ts r hr (by omega) (fun t ht => by have := (hts t ht).1; omega) (us.filter fun x => !fullP rm c.Band x) _ rfl (by omega) c ch _ rfl (by omega)).up' H (by simp [noid, noid0]) rfl
  generalize (us.filter fun x => !fullP rm c.Band x) = fu at *
  have hcand : ∀ (j : Nat) (t : Tun), candP l fu c ch j t = true → 0 < t.W.Band ∧ (j : Int) ∉ ch := by
    intro j t h
    unfold candP at h
    simp only [Bool.and_eq_true, Bool.not_eq_true', Bool.or_eq_false_iff, decide_eq_false_iff_not] at h
    refine ⟨by omega, fun hc => ?_⟩
    rw [← hasB_iff] at hc
    rw [hc] at h
    simp at h
  generalize candP l fu c ch = cand at *
  obtain ⟨f, hfe⟩ : ∃ f, fu.length = f := ⟨_, rfl⟩
  rw [hfe] at hdel hfl
  simp only [hV] at hdel
  have k44' := k44 [cellsC c, rowC cellsL rm, [.osl 1 0 n none 13]]
  by_cases q0 : fu = []
  · rw [if_pos q0] at v6
    subst q0
    have hf0 : f = 0 := hfe.symm
    subst hf0
    simp
    refine ⟨_, _, .inl (by simpa using k44'), by simp, ?_⟩
    simp
    refine ⟨_, _, .inl (by simpa using hdel), by simp, ?_⟩
    have hu0 : 0 < us.length := List.length_pos_iff.2 hne
    have hc0 : chunk false ([] : List AVal) 0 1 0 = [] := rfl
    simp [v6, hu0, hc0]
  rw [if_neg q0] at v6
  have hf0 : 0 < f := by rw [← hfe]; exact List.length_pos_iff.2 q0
  have hf0' : ¬ f = 0 := by omega
  have k3 : (fu.map encI ++ List.replicate (us.length - f) AVal.undef).take f = fu.map encI := by
    rw [List.take_append_of_le_length (by simp [hfe]), List.take_of_length_le (by simp [hfe])]
  have k4 := chunkI fu f hfe
  have k5 : ∀ x ∈ fu.map encI, x.tree = true := List.all_eq_true.1 (encI_tree fu)
  have hu0 : 0 < us.length := List.length_pos_iff.2 hne
  have k6 : f + (us.length - f) = us.length := by omega
  rcases hv with hv | ⟨j, t, hv, htj, hcj⟩
  · rw [if_pos (by rw [hv]; decide)] at v6
    rw [hv] at h46
    simp
    refine ⟨_, _, .inl (by simpa using k44'), by simp, ?_⟩
    simp
    refine ⟨_, _, .inl (by simpa using hdel), by simp, ?_⟩
    simp [hu0, hfe, hf0, hf0', k3, k4, k6]
    refine ⟨_, _, .inl (by simpa using h46 _), by simp, ?_⟩
    simp [v6]
  rw [hv, if_neg (by omega), Int.toNat_natCast] at v6
  rw [hv] at h46
  have htd : ts.getD j tun0 = t := by rw [List.getD_eq_getElem?_getD, htj]; rfl
  rw [htd] at v6
  obtain ⟨hb0, hjc⟩ := hcand j t hcj
  have htm := List.mem_of_getElem? htj
  obtain ⟨hp30, hb1, hhi⟩ := hts t htm
  have hj : j < r := by rw [← hr]; exact (List.getElem?_eq_some_iff.1 htj).1
  have hnd : (ch ++ [(j : Int)]).Nodup := by
    rw [List.nodup_append]
    refine ⟨v3, by simp, fun a ha b hb e => ?_⟩
    simp at hb
    subst hb
    subst e
    exact hjc ha
  have hrb : ∀ x ∈ ch ++ [(j : Int)], 0 ≤ x ∧ x < r := by
    intro x hx
    rcases List.mem_append.1 hx with hx | hx
    · exact v4 x hx
    · simp at hx; subst hx; omega
  have hcl := nodup_len_int hnd hrb
  simp only [List.length_append, List.length_cons, List.length_nil] at hcl
  have k41 := fun H => (t41 l n hn (by omega) t.P t.P.length rfl (by omega)).up' H rfl rfl
  have hwr := usesL_range l t.P
  have hwl : (usesL l t.P).length ≤ 30 := by rw [usesL_len]; omega
  clear hcand hcj
  generalize usesL l t.P = uv at *
  obtain ⟨w, hw⟩ : ∃ w, uv.length = w := ⟨_, rfl⟩
  rw [hw] at hwl
  obtain ⟨h, hh⟩ : ∃ h : Nat, h = t.W.Hold.toNat := ⟨_, rfl⟩
  rw [← hh] at v6
  have hmx : (if t.W.Hold < 0 then (0 : Int) else t.W.Hold) = (h : Int) := by rw [hh]; split <;> omega
  unfold inI at hhi
  have s1 : ch.length + 1 ≤ 140737488355328 := by omega
  have s2 : (ch.length + 1) * 8 ≤ 140737488355328 := by omega
  have j0 : ¬ (j : Int) < 0 := by omega
  simp
  refine ⟨_, _, .inl (by simpa using k44'), by simp, ?_⟩
  simp
  refine ⟨_, _, .inl (by simpa using hdel), by simp, ?_⟩
  simp [hu0, hfe, hf0, hf0', k3, k4, k6]
  refine ⟨_, _, .inl (by simpa using h46 _), by simp, ?_⟩
  simp [j0, hj, hr, htj, gE htj, v2, s1, s2]
  refine ⟨_, _, .inl (by simpa using k41 _), by simp, ?_⟩
  simp [hw]
  refine LoopK.intro (tr := [60, 64, 10000014000006]) mixed (by kernel_rfl) (fun s : Nat × List Lnk => [(0, .sl 13 (l.map encL) .sh), (1, .sl 12 (ts.map encT) .sh), (7, .ptr 0 0), (10, .sl 1 (us.map encI) .sh), (11, .ptr 2 0), (12, .sl 1 ((ch ++ [(j : Int)]).map encI) .own), (13, .sl 1 ((ids ++ [t.ID]).map encI) .own), (15, .int .i64 j), (78, .sl 1 (uv.map encI) .sh), (79, .int .i64 w), (80, .int .i64 s.1)]) (fun s => [cellsC c, rowC cellsL s.2, [.osl 1 0 n none 13]])
    (fun s => s.1 ≤ w ∧ s.2.length = n ∧ (∀ x ∈ s.2, ∀ k, k < 8 → -1125899906842624 - 32985348833280 * ch.length - 1099511627776 * s.1 ≤ x.Fr k ∧ x.Fr k ≤ 1125899906842624 + 32985348833280 * ch.length + 1099511627776 * s.1) ∧ chA t.W.Band h uv rm = chA t.W.Band h (uv.drop s.1) s.2) (fun s => w - s.1) (0, rm) ?_ ?_ ?_
  · exact ⟨Nat.zero_le _, v1, fun x hx k hk => by have := v5 x hx k hk; simp; omega, rfl⟩
  · simp [hle]
  clear h46 k41 v5 hdel k44 k44'
  rintro ⟨q, cur⟩ ⟨q1, q2, q3, q4⟩
  simp only at q1 q2 q3 q4
  by_cases hq : q < w
  case neg =>
    have : q = w := by omega
    subst this
    rw [List.drop_eq_nil_of_le (by omega), chA_nil] at q4
    rw [q4] at v6
    simp
    refine ⟨⟨cur, ch ++ [(j : Int)], ids ++ [t.ID]⟩, ⟨⟨q2, by simp [v2], hnd, hrb⟩, fun x hx k hk => ?_, ?_⟩, ?_, ?_⟩
    · have := q3 x hx k hk
      simp only [List.length_append, List.length_cons, List.length_nil]
      omega
    · rw [v6]
      simp only [List.length_append, List.length_cons, List.length_nil]
      congr 1
      omega
    · simp only [List.length_append, List.length_cons, List.length_nil]
      omega
    · simp [hle]
  obtain ⟨v, hvq⟩ : ∃ v, uv[q]? = some v := ⟨_, List.getElem?_eq_getElem (by omega)⟩
  obtain ⟨u0, u1⟩ := hwr v (List.mem_of_getElem? hvq)
  have hdd : uv.drop q = v :: uv.drop (q + 1) := by
    obtain ⟨k1, k2⟩ := List.getElem?_eq_some_iff.1 hvq
    rw [List.drop_eq_getElem_cons k1, k2]
  rw [hdd] at q4
  have w1 : IntKind.i64.wrap ((q : Int) + 1) = q + 1 := wrap_in (by omega)
  by_cases hm1 : v = -1
  · subst hm1
    rw [chA_skip] at q4
    simp [hq, hw, hvq, gE hvq, hj, hr, htj, gE htj, hmx]
    refine LoopK.intro (tr := [60, 64, 10000014000006]) mixed (by kernel_rfl) (fun _ : Nat => [(0, .sl 13 (l.map encL) .sh), (1, .sl 12 (ts.map encT) .sh), (7, .ptr 0 0), (10, .sl 1 (us.map encI) .sh), (11, .ptr 2 0), (12, .sl 1 ((ch ++ [(j : Int)]).map encI) .own), (13, .sl 1 ((ids ++ [t.ID]).map encI) .own), (15, .int .i64 j), (17, .int .i64 (-1)), (18, .int .i64 h), (78, .sl 1 (uv.map encI) .sh), (79, .int .i64 w), (80, .int .i64 q)]) (fun _ => [cellsC c, rowC cellsL cur, [.osl 1 0 n none 13]]) (fun _ => True) (fun i => i) 0 trivial (by simp [hle]) ?_
    intro _ _
    simp [w1]
    exact ⟨q + 1, cur, ⟨by omega, q2, fun x hx k hk => by have := q3 x hx k hk; omega, q4⟩, by omega, by simp [hle]⟩
  obtain ⟨i, rfl⟩ : ∃ i : Nat, v = i := ⟨v.toNat, by omega⟩
  have hi : i < n := by omega
  obtain ⟨x, hx⟩ : ∃ x, cur[i]? = some x := ⟨_, List.getElem?_eq_getElem (by omega)⟩
  rw [← chA_cons hx] at q4
  have hxb := q3 x (List.mem_of_getElem? hx)
  have i0 : (0 : Int) ≤ i := by omega
  simp [hq, hw, hvq, gE hvq, hj, hr, htj, gE htj, hmx]
  refine LoopK.intro (tr := [60, 64, 10000014000006]) mixed (by kernel_rfl) (fun s : Nat × Lnk => [(0, .sl 13 (l.map encL) .sh), (1, .sl 12 (ts.map encT) .sh), (7, .ptr 0 0), (10, .sl 1 (us.map encI) .sh), (11, .ptr 2 0), (12, .sl 1 ((ch ++ [(j : Int)]).map encI) .own), (13, .sl 1 ((ids ++ [t.ID]).map encI) .own), (15, .int .i64 j), (17, .int .i64 i), (18, .int .i64 s.1), (78, .sl 1 (uv.map encI) .sh), (79, .int .i64 w), (80, .int .i64 q)]) (fun s => [cellsC c, rowC cellsL (cur.set i s.2), [.osl 1 0 n none 13]])
    (fun s => h ≤ s.1 ∧ (s.1 ≤ 8 ∨ s.1 = h) ∧ (∀ k, k < 8 → -1125899906842624 - 32985348833280 * ch.length - 1099511627776 * ((q + 1 : Nat) : Int) ≤ s.2.Fr k ∧ s.2.Fr k ≤ 1125899906842624 + 32985348833280 * ch.length + 1099511627776 * ((q + 1 : Nat) : Int)) ∧ (∀ k, s.1 ≤ k → s.2.Fr k = x.Fr k) ∧ chR h t.W.Band x = chR s.1 t.W.Band s.2) (fun s => 8 - s.1) (h, x) ?_ ?_ ?_
  · exact ⟨Nat.le_refl _, .inr rfl, fun k hk => by have := hxb k hk; show _ ≤ x.Fr k ∧ x.Fr k ≤ _; constructor <;> omega, fun _ _ => rfl, rfl⟩
  · have hsame : cur.set i x = cur := by
      apply List.ext_getElem?
      intro j'
      rw [List.getElem?_set]
      split
      · rename_i e; subst e; rw [if_pos (by omega), hx]
      · rfl
    simp [hsame, hle]
  rintro ⟨k, z⟩ ⟨p1, p2, p3, p5, p4⟩
  simp only at p1 p2 p3 p4 p5
  have hsl : (cur.set i z).length = n := by rw [List.length_set]; exact q2
  by_cases hk : k < 8
  case neg =>
    have hk' : ¬ (k : Int) < 8 := by omega
    rw [chR_ge (h := k) (by omega)] at p4
    rw [p4] at q4
    simp [i0, hk, hk', w1]
    refine ⟨q + 1, cur.set i z, ⟨by omega, hsl, fun y hy => ?_, q4⟩, by omega, by simp [hle]⟩
    rcases List.mem_or_eq_of_mem_set hy with hy | rfl
    · intro k hk
      have := q3 y hy k hk
      omega
    · exact p3
  have hk' : (k : Int) < 8 := by omega
  have hk7 : k ≤ 7 := by omega
  have hz : (cur.set i z)[i]? = some z := by rw [List.getElem?_set_self (by omega)]
  have hg := rowL_get hz hk
  have hset := rowL_set hz hk (z.Fr k + t.W.Band)
  rw [List.set_set] at hset
  have hrc := hrl (cur.set i z)
  rw [hsl] at hrc
  have hzx := p5 k (Nat.le_refl _)
  have hxk := hxb k hk
  have hv : -1125899906842624 - 32985348833280 * (ch.length : Int) - 1099511627776 * ((q + 1 : Nat) : Int) ≤ z.Fr k + t.W.Band ∧ z.Fr k + t.W.Band ≤ 1125899906842624 + 32985348833280 * (ch.length : Int) + 1099511627776 * ((q + 1 : Nat) : Int) := by
    rw [hzx]
    constructor <;> omega
  have w2 : IntKind.i64.wrap ((k : Int) + 1) = k + 1 := wrap_in (by omega)
  have w3 : IntKind.i64.wrap (z.Fr k + t.W.Band) = z.Fr k + t.W.Band := wrap_in (by omega)
  have b1 : i * 13 + 4 + k < n * 13 := by omega
  have b2 : i * 13 + 4 + k + 1 ≤ n * 13 := by omega
  have hst := chR_step hk t.W.Band z
  simp [i0, hk, hk', hk7, hi, hg, gE hg, hrc, b1, b2, hj, hr, htj, gE htj, w3]
  simp [hset, w2]
  refine ⟨k + 1, setF z k (z.Fr k + t.W.Band), ⟨by omega, by omega, fun j hj => ?_, fun j hj => ?_, by rw [hst]; exact p4⟩, by omega, by simp [hle]⟩
  · show _ ≤ updF z.Fr k (z.Fr k + t.W.Band) j ∧ updF z.Fr k (z.Fr k + t.W.Band) j ≤ _
    unfold updF
    split
    · exact hv
    · exact p3 j hj
  · show updF z.Fr k (z.Fr k + t.W.Band) j = x.Fr j
    unfold updF
    rw [if_neg (by omega)]
    exact p5 j (by omega)
end Go.Proofs.YtpmmnnaaoideeaaGreat

/- Checks of tunnels. -/
namespace Go.Proofs.YtpmmnnaaoideeaaGreat
open Go Go.Am Go.Wk

-- tunnel.repeats
set_option maxHeartbeats 4000000 in
set_option maxRecDepth 10000 in
theorem t64 (l : List Int) (n : Nat) (hn : l.length = n) (hlen : n < 9223372036854775807) : CFun Tryz.prog 89 [.sl 1 (l.map encI) .sh] [] (.bool (repB l)) [] := by
  refine CFun.intro (tr := []) (fz := []) (n := 18) (rs := [.tmp 2]) Tryz.func89 rfl (by kernel_rfl) rfl rfl mixed (by kernel_rfl) (by simp) (by simp) ?_
  unfold repB
  rw [hn]
  simp
  refine LoopK.intro (tr := []) mixed (by kernel_rfl) (fun i : Nat => [(0, .sl 1 (l.map encI) .sh), (5, .sl 1 (l.map encI) .sh), (6, .int .i64 n), (7, .int .i64 i)]) (fun _ => []) (fun i => i ≤ n ∧ repI l n n = repI l n (n - i)) (fun i => n - i) 0 ?_ ?_ ?_
  · simp
  · simp [hn]
  · rintro i ⟨h1, h2⟩
    by_cases hi : i < n
    · obtain ⟨x, hx, _⟩ := get_drop (l := l) (i := i) (by omega)
      have w1 : IntKind.i64.wrap ((i : Int) + 1) = i + 1 := wrap_in (by omega)
      rw [repI_step l n i hi] at h2
      have hd : l.getD i 0 = x := by simp [hx]
      rw [hd] at h2
      have k1 := fun H => (c24 (l.take i) i (by simp; omega) (by omega) x).up' H (by simp [noid, noid0]) rfl
      generalize hasB (l.take i) x = b at k1 h2
      simp [hi, hn, hx, gE hx, h1]
      refine ⟨_, _, .inl (by simpa using k1 _), by simp, ?_⟩
      cases b with
      | true => simp at h2; simp [h2]
      | false =>
        simp at h2
        simp [w1]
        exact ⟨i + 1, ⟨by omega, h2⟩, by omega, by simp⟩
    · have : i = n := by omega
      subst this
      rw [Nat.sub_self] at h2
      simp [hn, h2, repI]
def endsE (n : Int) (t : Tun) : Int := if t.From < 0 ∨ n ≤ t.From ∨ t.To < 0 ∨ n ≤ t.To then 5 else if t.From = t.To then 1 else 0
set_option maxHeartbeats 4000000 in
set_option maxRecDepth 10000 in
theorem t63 (n : Int) (t : Tun) : CFun Tryz.prog 68 [.int .i64 n, encT t] [] (.int .i64 (endsE n t)) [] := by
  refine CFun.intro (tr := []) (fz := []) (n := 30) (rs := [.tmp 4]) Tryz.func68 rfl (by kernel_rfl) rfl rfl mixed (by kernel_rfl) (by simp) (by simp) ?_
  unfold endsE
  by_cases g1 : t.From < 0
  · simp [g1]
  by_cases g2 : n ≤ t.From
  · simp [g1, g2]
  by_cases g3 : t.To < 0
  · simp [g1, g2, g3]
  by_cases g4 : n ≤ t.To
  · simp [g1, g2, g3, g4]
  by_cases g5 : t.From = t.To
  · simp [g5, g3, g4]
  simp [g1, g2, g3, g4, g5]
set_option maxHeartbeats 4000000 in
set_option maxRecDepth 10000 in
theorem t29 (n : Int) (t : Tun) : CFun Tryz.prog 22 [.int .i64 n, encT t] [] (.int .i64 (endsE n t)) [] := by
  refine CFun.intro (tr := []) (fz := []) (n := 30) (rs := [.tmp 4]) Tryz.func22 rfl (by kernel_rfl) rfl rfl mixed (by kernel_rfl) (by simp) (by simp) ?_
  unfold endsE
  by_cases g1 : t.From < 0
  · simp [g1]
  by_cases g2 : n ≤ t.From
  · simp [g1, g2]
  by_cases g3 : t.To < 0
  · simp [g1, g2, g3]
  by_cases g4 : n ≤ t.To
  · simp [g1, g2, g3, g4]
  by_cases g5 : t.From = t.To
  · simp [g5, g3, g4]
  simp [g1, g2, g3, g4, g5]
def pathB (l : List Lnk) (t : Tun) : Bool := if t.P.length = 0 then false else decide (t.P.getD 0 0 ≠ t.From) || decide (t.P.getD (t.P.length - 1) 0 ≠ t.To) || repB t.P || hasB (usesL l t.P) (-1)
def tunE (n : Int) (l : List Lnk) (t : Tun) : Int := if conE n t.W ≠ 0 then conE n t.W else if endsE n t ≠ 0 then endsE n t else if pathB l t = true then 20 else 0
def con0 : Con := ⟨0, 0, 0, 0, 0, 0, [], []⟩
theorem checkE_con {n : Int} {l : List Lnk} (h : checkE n l con0 = 0) (c : Con) : checkE n l c = conE n c ∧ checkE n [] c = conE n c := by
  obtain ⟨n1, n2, l2, lk, cn⟩ := check_links h
  unfold checkE
  rw [if_neg (by omega), if_neg (by omega), if_neg (by simpa using lk), if_neg (by omega), if_neg (by simp), if_neg (by simp [linksE])]
  exact ⟨rfl, rfl⟩
structure okTn (t : Tun) : Prop where
  p : t.P.length < 1000000
  a : t.W.Avoid.length < 9223372036854775807
  h : t.W.Thru.length < 9223372036854775807
set_option maxHeartbeats 8000000 in
set_option maxRecDepth 10000 in
-- tunnel.checkTunnel
theorem t27 (n : Int) (l : List Lnk) (k : Nat) (hk : l.length = k) (hk2 : k < 9223372036854775807) (hc : checkE n l con0 = 0) (t : Tun) (ok : okTn t) :
    CFun Tryz.prog 64 [.int .i64 n, .sl 13 (l.map encL) .sh, encT t] [] (.int .i64 (tunE n l t)) [] := by
  refine CFun.intro (tr := []) (fz := []) (n := 58) (rs := [.tmp 6]) Tryz.func64 rfl (by kernel_rfl) rfl rfl mixed (by kernel_rfl) (by simp) (by simp) ?_
  have h26 := fun H => ((c12 [] 0 rfl (by decide) t.W n _ _ rfl rfl ok.a ok.h).up' H (by simp [noid, noid0]) rfl).wk [.int .i64 n, .sl 0 [] .full, encC t.W] (by simp [noid, noid0]) ⟨LeS_refl _, by simp [LeS], LeS_refl _, trivial⟩
  rw [(checkE_con hc t.W).2] at h26
  have h63 := fun H => (t63 n t).up' H (by simp [noid, noid0]) rfl
  have h64 := fun H => (t64 t.P t.P.length rfl (by have := ok.p; omega)).up' H rfl rfl
  have h41 := fun H => (t41 l k hk hk2 t.P t.P.length rfl ok.p).up' H rfl rfl
  have h42 := fun H => (c24 (usesL l t.P) (t.P.length - 1) (by rw [usesL_len]) (by have := ok.p; omega) (-1)).up' H rfl rfl
  have hpl := ok.p
  unfold tunE pathB
  obtain ⟨m, hm⟩ : ∃ m, t.P.length = m := ⟨_, rfl⟩
  rw [hm] at hpl ⊢
  generalize conE n t.W = e1 at *
  generalize endsE n t = e2 at *
  generalize usesL l t.P = us at *
  generalize hasB us (-1) = b4 at *
  generalize repB t.P = b3 at *
  by_cases g1 : e1 = 0
  case neg =>
    simp
    refine ⟨_, _, .inl (by simpa using h26 _), by simp, ?_⟩
    simp [g1]
  subst g1
  by_cases g2 : e2 = 0
  case neg =>
    simp
    refine ⟨_, _, .inl (by simpa using h26 _), by simp, ?_⟩
    simp
    refine ⟨_, _, .inl (by simpa using h63 _), by simp, ?_⟩
    simp [g2]
  subst g2
  simp
  refine ⟨_, _, .inl (by simpa using h26 _), by simp, ?_⟩
  simp
  refine ⟨_, _, .inl (by simpa using h63 _), by simp, ?_⟩
  by_cases g3 : m = 0
  · simp [hm, g3]
  obtain ⟨x, hx⟩ : ∃ x, t.P[0]? = some x := ⟨_, List.getElem?_eq_getElem (by omega)⟩
  obtain ⟨y, hy⟩ : ∃ y, t.P[m - 1]? = some y := ⟨_, List.getElem?_eq_getElem (by omega)⟩
  have hm1 : 0 < m := by omega
  have hm2 : m - 1 < m := by omega
  have w1 : IntKind.i64.wrap ((m : Int) - 1) = ((m - 1 : Nat) : Int) := by
    rw [show ((m - 1 : Nat) : Int) = (m : Int) - 1 by omega]; exact wrap_in (by omega)
  by_cases g4 : x = t.From
  case neg => simp [hm, g3, hm1, hx, gE hx, g4]
  by_cases g5 : y = t.To
  case neg => simp [hm, g3, hm1, hm2, w1, hx, gE hx, hy, gE hy, g4, g5]
  simp [hm, g3, hm1, hm2, w1, hx, gE hx, hy, gE hy, g4, g5]
  refine ⟨_, _, .inl (by simpa [cargs] using h64 _), by simp [cargs], ?_⟩
  cases b3 with
  | true => simp
  | false =>
    simp [hm, g3, hm1, hm2, w1, hx, gE hx, hy, gE hy, g4, g5]
    refine ⟨_, _, .inl (by simpa [cargs] using h41 _), by simp [cargs], ?_⟩
    simp
    refine ⟨_, _, .inl (by simpa [cargs] using h42 _), by simp [cargs], ?_⟩
    cases b4 <;> simp
end Go.Proofs.YtpmmnnaaoideeaaGreat

/- tunnel.agree, by the program. -/
namespace Go.Proofs.YtpmmnnaaoideeaaGreat
open Go Go.Am Go.Wk

theorem eAr : Enc arC 8 := ⟨by decide, fun _ => rfl, fun _ => rfl, fun _ => rfl⟩
/-- What a tunnel takes of a link at a level. -/
def oneT (l : List Lnk) (t : Tun) (i k : Nat) : Int := takenF t.W.Hold t.W.Band k * (cntI i (usesL l t.P) : Int)
def totT (l : List Lnk) : List Tun → Nat → Nat → Int
  | [], _, _ => 0
  | t :: ts, i, k => oneT l t i k + totT l ts i k
theorem totT_snoc (l : List Lnk) : ∀ (ts : List Tun) (t : Tun) (i k : Nat), totT l (ts ++ [t]) i k = totT l ts i k + oneT l t i k
  | [], t, i, k => by simp [totT]
  | x :: ts, t, i, k => by simp only [List.cons_append, totT, totT_snoc l ts t i k]; omega
structure okA (l : List Lnk) (t : Tun) : Prop where
  h0 : 0 ≤ t.W.Hold
  h7 : t.W.Hold ≤ 7
  b0 : 0 ≤ t.W.Band
  b1 : t.W.Band ≤ 1099511627776
  us : ∀ u ∈ usesL l t.P, 0 ≤ u ∧ u < l.length
  p : t.P.length ≤ 30
theorem cntI_le (i : Nat) (us : List Int) : cntI i us ≤ us.length := List.countP_le_length
theorem taken_bd {l : List Lnk} {t : Tun} (ok : okA l t) (k : Nat) : 0 ≤ takenF t.W.Hold t.W.Band k ∧ takenF t.W.Hold t.W.Band k ≤ 1099511627776 := by
  have := ok.b0; have := ok.b1
  unfold takenF; split <;> omega
theorem mul_bd {a : Int} (h : 0 ≤ a ∧ a ≤ 1099511627776) {c : Nat} (hc : c ≤ 30) : 0 ≤ a * (c : Int) ∧ a * (c : Int) ≤ 32985348833280 := by
  refine ⟨Int.mul_nonneg h.1 (Int.natCast_nonneg c), ?_⟩
  have : a * (c : Int) ≤ 1099511627776 * 30 := Int.mul_le_mul h.2 (by omega) (Int.natCast_nonneg c) (by omega)
  omega
theorem oneT_bd {l : List Lnk} {t : Tun} (ok : okA l t) (i k : Nat) : 0 ≤ oneT l t i k ∧ oneT l t i k ≤ 32985348833280 := by
  refine mul_bd (taken_bd ok k) ?_
  have h1 := cntI_le i (usesL l t.P)
  rw [usesL_len] at h1
  have := ok.p
  omega
theorem totT_bd {l : List Lnk} : ∀ {ts : List Tun}, (∀ t ∈ ts, okA l t) → ∀ i k, 0 ≤ totT l ts i k ∧ totT l ts i k ≤ 32985348833280 * ts.length
  | [], _, i, k => by simp [totT]
  | t :: ts, h, i, k => by
    have h1 := oneT_bd (h t (by simp)) i k
    have h2 := totT_bd (fun t ht => h t (List.mem_cons_of_mem _ ht)) i k (ts := ts)
    simp only [totT, List.length_cons]
    omega
theorem cntI_take {us : List Int} {q : Nat} {v : Int} (hv : us[q]? = some v) (i : Nat) : cntI i (us.take (q + 1)) = cntI i (us.take q) + if v = (i : Int) then 1 else 0 := by
  rw [List.take_add_one, hv]
  unfold cntI
  rw [List.countP_append]
  simp only [Option.toList_some, List.countP_cons, List.countP_nil, decide_eq_true_eq]
  omega
theorem rowA_get {S : List (Nat → Int)} {i : Nat} {f : Nat → Int} (h : S[i]? = some f) {k : Nat} (hk : k < 8) : (rowC arC S)[i * 8 + k]? = some (.int .i64 (f k)) := by
  have h1 := (eAr.rowAt h []).1
  rw [List.append_nil] at h1
  have h2 : (((rowC arC S).drop (i * 8)).take 8)[k]? = some (.int .i64 (f k)) := by rw [h1]; exact arC_get f hk
  rw [List.getElem?_take_of_lt (by omega), List.getElem?_drop] at h2
  exact h2
theorem rowA_set {S : List (Nat → Int)} {i : Nat} {f : Nat → Int} (h : S[i]? = some f) {k : Nat} (hk : k < 8) (v : Int) : (rowC arC S).set (i * 8 + k) (.int .i64 v) = rowC arC (S.set i (updF f k v)) := by
  induction S generalizing i with
  | nil => simp at h
  | cons y S ih =>
    cases i with
    | zero =>
      simp at h
      subst h
      rw [rowC_cons, Nat.zero_mul, Nat.zero_add, List.set_append_left _ _ (by simp; omega), arC_set _ hk, List.set_cons_zero, rowC_cons]
    | succ i =>
      rw [rowC_cons, List.set_append_right _ _ (by simp; omega), arC_len, List.set_cons_succ, rowC_cons]
      rw [show (i + 1) * 8 + k - 8 = i * 8 + k by omega, ih (by simpa using h)]
def gk (f u : Nat → Int) (k : Nat) : Nat → Int := fun j => if j < k then f j + u j else f j
theorem gk_zero (f u : Nat → Int) : gk f u 0 = f := by funext j; simp [gk]
theorem gk_at (f u : Nat → Int) (k : Nat) : gk f u k k = f k := by simp [gk]
theorem gk_upd (f u : Nat → Int) (k : Nat) : updF (gk f u k) k (f k + u k) = gk f u (k + 1) := by
  funext j
  unfold updF gk
  by_cases e : j = k
  · subst e; rw [if_pos rfl, if_pos (by omega)]
  · rw [if_neg e]
    by_cases e2 : j < k
    · rw [if_pos e2, if_pos (by omega)]
    · rw [if_neg e2, if_neg (by omega)]
/-- Every link has free what the tunnels leave. -/
def agreeP (l : List Lnk) (ts : List Tun) : Prop := ∀ (i : Nat) (x : Lnk), l[i]? = some x → ∀ k, k < 8 → x.Fr k = x.Cap - totT l ts i k
noncomputable def agreeB (l : List Lnk) (ts : List Tun) : Bool := @decide (agreeP l ts) (Classical.propDecidable _)
theorem agreeB_yes {l : List Lnk} {ts : List Tun} (h : agreeP l ts) : agreeB l ts = true := by unfold agreeB; simp [h]
theorem agreeB_no {l : List Lnk} {ts : List Tun} (h : ¬ agreeP l ts) : agreeB l ts = false := by unfold agreeB; simp [h]
set_option maxHeartbeats 16000000 in
set_option maxRecDepth 10000 in
theorem t28 (l : List Lnk) (n : Nat) (hn : l.length = n) (hn2 : n < 1000) (hC : ∀ x ∈ l, 0 ≤ x.Cap ∧ x.Cap ≤ 1099511627776) (ts : List Tun) (r : Nat) (hr : ts.length = r) (hr2 : r < 1000) (hts : ∀ t ∈ ts, okA l t) :
    CFun Tryz.prog 65 [.sl 13 (l.map encL) .sh, .sl 12 (ts.map encT) .sh] [] (.bool (agreeB l ts)) [] := by
  refine CFun.intro (tr := [100017]) (fz := []) (n := 80) (rs := [.tmp 4]) Tryz.func65 rfl (by kernel_rfl) rfl rfl mixed (by kernel_rfl) (by simp) (by simp) ?_
  have h35 := fun t (ht : t ∈ ts) H => (t35 t.W (hts t ht).h0 (by have := (hts t ht).h0; have := (hts t ht).h7; unfold inI; omega)).up' H (by simp [noid, noid0]) (by simp [noid, noid0])
  have h41 := fun t (ht : t ∈ ts) H => (t41 l n hn (by omega) t.P t.P.length rfl (by have := (hts t ht).p; omega)).up' H rfl rfl
  by_cases hne : l = []
  · have hB : agreeB l ts = true := agreeB_yes (by intro i x hx; rw [hne] at hx; simp at hx)
    rw [hB]
    have hus0 : ∀ t ∈ ts, usesL l t.P = [] := by
      intro t ht
      have := (hts t ht).us
      cases hu : usesL l t.P with
      | nil => rfl
      | cons u us =>
        rw [hu] at this
        have := this u (by simp)
        rw [hne] at this
        simp at this
        omega
    have hn0 : n = 0 := by rw [← hn, hne]; rfl
    subst hne
    simp [hr]
    refine LoopK.intro (tr := [100017]) mixed (by kernel_rfl) (fun j : Nat => [(0, .sl 13 [] .sh), (18, .sl 12 (ts.map encT) .sh), (19, .int .i64 r), (20, .int .i64 j)]) (fun _ => []) (fun j => j ≤ r) (fun j => r - j) 0 (by omega) (by simp) ?_
    intro j j1
    by_cases hj : j < r
    · obtain ⟨t, ht⟩ : ∃ t, ts[j]? = some t := ⟨_, List.getElem?_eq_getElem (by omega)⟩
      have hm := List.mem_of_getElem? ht
      have k35 := h35 t hm
      have k41 := h41 t hm
      rw [hus0 t hm] at k41
      have w1 : IntKind.i64.wrap ((j : Int) + 1) = j + 1 := wrap_in (by omega)
      simp [hj, hr, ht, gE ht]
      refine ⟨_, _, .inl (by simpa using k35 _), by simp, ?_⟩
      simp
      refine ⟨_, _, .inl (by simpa using k41 _), by simp, ?_⟩
      simp
      refine LoopK.intro (tr := [100017]) mixed (by kernel_rfl) (fun _ : Nat => [(0, .sl 13 [] .sh), (18, .sl 12 (ts.map encT) .sh), (19, .int .i64 r), (20, .int .i64 j), (31, .int .i64 0), (32, .int .i64 0)]) (fun _ => []) (fun _ => True) (fun i => i) 0 trivial (by simp) ?_
      intro _ _
      simp [w1]
      exact ⟨j + 1, by omega, by omega, by simp⟩
    · simp [hj]
      refine LoopK.intro (tr := [100017]) mixed (by kernel_rfl) (fun _ : Nat => [(55, .int .i64 0), (56, .int .i64 0)]) (fun _ => []) (fun _ => True) (fun i => i) 0 trivial (by simp) ?_
      intro _ _
      simp
  have hn0 : 0 < n := by rw [← hn]; exact List.length_pos_iff.2 hne
  have s1 : 64 * n ≤ 281474976710656 := by omega
  have s2 : (n : Int) ≤ 9223372036854775807 := by omega
  have s0 : (List.replicate n [AVal.int .i64 0, .int .i64 0, .int .i64 0, .int .i64 0, .int .i64 0, .int .i64 0, .int .i64 0, .int .i64 0]).flatten = rowC arC (List.replicate n zF) := by
    simp [rowC, List.flatMap_replicate, arC_zero]
  have hle := fun k (S : List (Nat → Int)) => eAr.rowLe k S
  have hrl := eAr.rowLen
  simp [hn, hr, s1, s2, hn0]
  rw [s0]
  refine LoopK.intro (tr := [100017]) mixed (by kernel_rfl) (fun s : Nat × List (Nat → Int) => [(0, .sl 13 (l.map encL) .sh), (5, .osl 0 0 n (some n) 8), (18, .sl 12 (ts.map encT) .sh), (19, .int .i64 r), (20, .int .i64 s.1)]) (fun s => [rowC arC s.2])
    (fun s => s.1 ≤ r ∧ s.2.length = n ∧ ∀ (i : Nat) (f : Nat → Int), s.2[i]? = some f → ∀ k, k < 8 → f k = totT l (ts.take s.1) i k) (fun s => r - s.1) (0, List.replicate n zF) ?_ ?_ ?_
  · refine ⟨Nat.zero_le _, by simp, fun i f hf k hk => ?_⟩
    have := List.mem_of_getElem? hf
    rw [List.mem_replicate] at this
    rw [this.2]
    simp [zF, totT]
  · simp [hle]
  rintro ⟨j, S⟩ ⟨j1, j2, j3⟩
  simp only at j1 j2 j3
  by_cases hj : j < r
  case pos =>
    obtain ⟨t, ht⟩ : ∃ t, ts[j]? = some t := ⟨_, List.getElem?_eq_getElem (by omega)⟩
    have hm := List.mem_of_getElem? ht
    have k35 := h35 t hm
    have k41 := h41 t hm
    have okt := hts t hm
    have w1 : IntKind.i64.wrap ((j : Int) + 1) = j + 1 := wrap_in (by omega)
    have hsn : ts.take (j + 1) = ts.take j ++ [t] := by rw [List.take_add_one, ht]; rfl
    have hone := fun i k => show oneT l t i k = takenF t.W.Hold t.W.Band k * (cntI i (usesL l t.P) : Int) from rfl
    have hus := okt.us
    have hul : (usesL l t.P).length ≤ 30 := by rw [usesL_len]; have := okt.p; omega
    have htb := taken_bd okt
    generalize usesL l t.P = us at *
    generalize takenF t.W.Hold t.W.Band = tk at *
    obtain ⟨u, hu⟩ : ∃ u, us.length = u := ⟨_, rfl⟩
    rw [hu] at hul
    simp [hj, hr, ht, gE ht]
    refine ⟨_, _, .inl (by simpa using k35 _), by simp, ?_⟩
    simp
    refine ⟨_, _, .inl (by simpa using k41 _), by simp, ?_⟩
    simp [hu]
    refine LoopK.intro (tr := [100017]) mixed (by kernel_rfl) (fun s : Nat × List (Nat → Int) => [(0, .sl 13 (l.map encL) .sh), (5, .osl 0 0 n (some n) 8), (8, .ptr 2 0), (18, .sl 12 (ts.map encT) .sh), (19, .int .i64 r), (20, .int .i64 j), (30, .sl 1 (us.map encI) .sh), (31, .int .i64 u), (32, .int .i64 s.1)]) (fun s => [rowC arC s.2, [], arC tk])
      (fun s => s.1 ≤ u ∧ s.2.length = n ∧ ∀ (i : Nat) (f : Nat → Int), s.2[i]? = some f → ∀ k, k < 8 → f k = totT l (ts.take j) i k + tk k * (cntI i (us.take s.1) : Int)) (fun s => u - s.1) (0, S) ?_ ?_ ?_
    · refine ⟨Nat.zero_le _, j2, fun i f hf k hk => ?_⟩
      rw [j3 i f hf k hk]
      simp [cntI]
    · simp [hle]
    rintro ⟨q, S'⟩ ⟨q1, q2, q3⟩
    simp only at q1 q2 q3
    by_cases hq : q < u
    case neg =>
      have : q = u := by omega
      subst this
      simp [hq, w1]
      refine ⟨j + 1, S', ⟨by omega, q2, fun i f hf k hk => ?_⟩, by omega, by simp [hle]⟩
      rw [q3 i f hf k hk, hsn, totT_snoc, hone, show us.take q = us from List.take_of_length_le (by omega)]
    obtain ⟨v, hv⟩ : ∃ v, us[q]? = some v := ⟨_, List.getElem?_eq_getElem (by omega)⟩
    obtain ⟨v0, v1⟩ := hus v (List.mem_of_getElem? hv)
    obtain ⟨i, rfl⟩ : ∃ i : Nat, v = i := ⟨v.toNat, by omega⟩
    have hi : i < n := by omega
    obtain ⟨f, hf⟩ : ∃ f, S'[i]? = some f := ⟨_, List.getElem?_eq_getElem (by omega)⟩
    have w2 : IntKind.i64.wrap ((q : Int) + 1) = q + 1 := wrap_in (by omega)
    have hct := fun i' => cntI_take hv i'
    simp [hq, hu, hv, gE hv]
    refine LoopK.intro (tr := [100017]) mixed (by kernel_rfl) (fun k : Nat => [(0, .sl 13 (l.map encL) .sh), (5, .osl 0 0 n (some n) 8), (8, .ptr 2 0), (10, .int .i64 i), (18, .sl 12 (ts.map encT) .sh), (19, .int .i64 r), (20, .int .i64 j), (30, .sl 1 (us.map encI) .sh), (31, .int .i64 u), (32, .int .i64 q), (36, .int .i64 k)]) (fun k => [rowC arC (S'.set i (gk f tk k)), [], arC tk])
      (fun k => k ≤ 8) (fun k => 8 - k) 0 ?_ ?_ ?_
    · omega
    · have hsame : S'.set i (gk f tk 0) = S' := by
        rw [gk_zero]
        apply List.ext_getElem?
        intro j'
        rw [List.getElem?_set]
        split
        · rename_i e; subst e; rw [if_pos (by omega), hf]
        · rfl
      simp [hsame, hle]
    intro k k1
    by_cases hk : k < 8
    case neg =>
      have : k = 8 := by omega
      subst this
      simp [w2]
      refine ⟨q + 1, S'.set i (gk f tk 8), ⟨by omega, by rw [List.length_set]; exact q2, fun i' f' hf' k hk => ?_⟩, by omega, by simp [hle]⟩
      rw [List.getElem?_set] at hf'
      rw [hct i']
      by_cases e : i = i'
      · subst e
        rw [if_pos rfl, if_pos (by omega)] at hf'
        injection hf' with hf'
        subst hf'
        have := q3 i f hf k hk
        rw [if_pos rfl]
        simp only [gk, if_pos hk, this]
        rw [Int.natCast_add, Int.mul_add]
        simp
        omega
      · rw [if_neg e] at hf'
        rw [if_neg (by omega), Nat.add_zero]
        exact q3 i' f' hf' k hk
    have hk' : (k : Int) < 8 := by omega
    have hk7 : k ≤ 7 := by omega
    have hz : (S'.set i (gk f tk k))[i]? = some (gk f tk k) := by rw [List.getElem?_set_self (by omega)]
    have hg := rowA_get hz hk
    rw [gk_at] at hg
    have hset := rowA_set hz hk (f k + tk k)
    rw [List.set_set, gk_upd] at hset
    have hrc := hrl (S'.set i (gk f tk k))
    rw [List.length_set, q2] at hrc
    have ha := arC_get tk hk
    have hfk := q3 i f hf k hk
    have hb1 := totT_bd (l := l) (ts := ts.take j) (fun t ht => hts t (List.mem_of_mem_take ht)) i k
    have hlt : (ts.take j).length ≤ 1000 := by rw [List.length_take]; omega
    have hb2 := mul_bd (htb k) (c := cntI i (us.take q)) (by have := cntI_le i (us.take q); rw [List.length_take] at this; omega)
    have hb3 := htb k
    have w3 : IntKind.i64.wrap (f k + tk k) = f k + tk k := wrap_in (by omega)
    have w4 : IntKind.i64.wrap ((k : Int) + 1) = k + 1 := wrap_in (by omega)
    have b1 : i * 8 + k < n * 8 := by omega
    have b2 : i * 8 + k + 1 ≤ n * 8 := by omega
    simp [hk, hk', hk7, hi, hg, gE hg, ha, gE ha, hrc, b1, b2, w3]
    simp [hset, w4]
    exact ⟨k + 1, by omega, by omega, by simp [hle]⟩
  have : j = r := by omega
  subst this
  rw [List.take_of_length_le (by omega)] at j3
  simp [hn]
  refine LoopK.intro (tr := [100017]) mixed (by kernel_rfl) (fun i : Nat => [(5, .osl 0 0 n (some n) 8), (54, .sl 13 (l.map encL) .sh), (55, .int .i64 n), (56, .int .i64 i)]) (fun _ => [rowC arC S])
    (fun i => i ≤ n ∧ ∀ (i' : Nat) (x : Lnk), i' < i → l[i']? = some x → ∀ k, k < 8 → x.Fr k = x.Cap - totT l ts i' k) (fun i => n - i) 0 ?_ ?_ ?_
  · exact ⟨by omega, fun i' x hi' => by omega⟩
  · simp [hle]
  rintro i ⟨i1, i2⟩
  by_cases hi : i < n
  case neg =>
    have hB : agreeB l ts = true := agreeB_yes fun i' x hx => i2 i' x (by have := (List.getElem?_eq_some_iff.1 hx).1; omega) hx
    simp [hi, hB]
  obtain ⟨x, hx⟩ : ∃ x, l[i]? = some x := ⟨_, List.getElem?_eq_getElem (by omega)⟩
  obtain ⟨f, hf⟩ : ∃ f, S[i]? = some f := ⟨_, List.getElem?_eq_getElem (by omega)⟩
  have w1 : IntKind.i64.wrap ((i : Int) + 1) = i + 1 := wrap_in (by omega)
  have hcx := hC x (List.mem_of_getElem? hx)
  simp [hi, hn, hx, gE hx]
  refine LoopK.intro (tr := [100017]) mixed (by kernel_rfl) (fun k : Nat => [(5, .osl 0 0 n (some n) 8), (12, .int .i64 i), (13, .ptr 1 0), (54, .sl 13 (l.map encL) .sh), (55, .int .i64 n), (56, .int .i64 i), (61, .int .i64 k)]) (fun _ => [rowC arC S, cellsL x])
    (fun k => k ≤ 8 ∧ ∀ k', k' < k → x.Fr k' = x.Cap - totT l ts i k') (fun k => 8 - k) 0 ?_ ?_ ?_
  · exact ⟨by omega, fun k' hk' => by omega⟩
  · simp [hle]
  rintro k ⟨k1, k2⟩
  by_cases hk : k < 8
  case neg =>
    have : k = 8 := by omega
    subst this
    simp [w1]
    refine ⟨i + 1, ⟨by omega, fun i' y hi' hy => ?_⟩, by omega, by simp [hle]⟩
    by_cases e : i' = i
    · subst e
      rw [hx] at hy
      injection hy with hy
      subst hy
      exact k2
    · exact i2 i' y (by omega) hy
  have hk' : (k : Int) < 8 := by omega
  have hk7 : k ≤ 7 := by omega
  have hg := rowA_get hf hk
  have hgx := cellsL_fr x hk
  have hrc := hrl S
  rw [j2] at hrc
  have hfk := j3 i f hf k hk
  have hb1 := totT_bd (l := l) (ts := ts) hts i k
  have w3 : IntKind.i64.wrap (x.Cap - f k) = x.Cap - f k := wrap_in (by omega)
  have w4 : IntKind.i64.wrap ((k : Int) + 1) = k + 1 := wrap_in (by omega)
  have b1 : i * 8 + k < n * 8 := by omega
  have b3 : 4 + k < 13 := by omega
  by_cases g : x.Fr k = x.Cap - f k
  · simp [hk, hk', hk7, hi, hg, gE hg, hgx, gE hgx, hrc, b1, b3, w3, g, w4]
    refine ⟨k + 1, ⟨by omega, fun k' hk' => ?_⟩, by omega, by simp [hle]⟩
    by_cases e : k' = k
    · subst e; omega
    · exact k2 k' (by omega)
  · have hB : agreeB l ts = false := agreeB_no fun h => g (by rw [h i x hx k hk, hfk])
    simp [hk, hk', hk7, hi, hg, gE hg, hgx, gE hgx, hrc, b1, b3, w3, g, hB]
end Go.Proofs.YtpmmnnaaoideeaaGreat

/- The reference's freed and helps, by the program. -/
namespace Go.Proofs.YtpmmnnaaoideeaaGreat
open Go Go.Am Go.Wk

set_option maxHeartbeats 16000000 in
set_option maxRecDepth 10000 in
-- routingref47.freed
theorem t48 (l : List Lnk) (n : Nat) (hn : l.length = n) (hn2 : n < 1000) (t : Tun) (m : Nat) (hm : t.P.length = m) (hm2 : m ≤ 30) (hb : 0 ≤ t.W.Band ∧ t.W.Band ≤ 1099511627776) (hI : inI t.W.Hold) (hF : ∀ x ∈ l, ∀ k, k < 8 → -1225899906842624 - 3298534883328000 ≤ x.Fr k ∧ x.Fr k ≤ 1225899906842624 + 3298534883328000) :
    CFun Tryz.prog 83 [.sl 13 (l.map encL) .sh, encT t] [] (.sl 13 ((chA t.W.Band t.W.Hold.toNat (usesL l t.P) l).map encL) .sh) [] := by
  refine CFun.intro (tr := [100010]) (fz := [(4, 1, true)]) (n := 46) (rs := [.tmp 4]) Tryz.func83 rfl (by kernel_rfl) rfl rfl mixed (by kernel_rfl) (by simp) (by simp) ?_
  have h39 := fun j H => (t39 l n hn (by omega) t.P m hm (by omega) j).up' H rfl rfl
  have hul : (usesL l t.P).length ≤ 30 := by rw [usesL_len]; omega
  obtain ⟨h, hh⟩ : ∃ h : Nat, h = t.W.Hold.toNat := ⟨_, rfl⟩
  have hmx : (if t.W.Hold < 0 then (0 : Int) else t.W.Hold) = (h : Int) := by rw [hh]; split <;> omega
  unfold inI at hI
  rw [← hh]
  by_cases hne : l = []
  · subst hne
    have he : chA t.W.Band h (usesL [] t.P) [] = [] := rfl
    rw [he]
    simp
    refine LoopK.intro (tr := [100010]) mixed (by kernel_rfl) (fun _ : Nat => [(5, .sl 13 [] .sh), (12, .int .i64 0), (13, .int .i64 0)]) (fun _ => []) (fun _ => True) (fun i => i) 0 trivial (by simp) ?_
    intro _ _
    simp
  have s1 : n * 104 ≤ 140737488355328 := by omega
  have s2 : n ≤ 140737488355328 := by omega
  have s3 : 0 < n := by rw [← hn]; exact List.length_pos_iff.2 hne
  have s4 : (l.map encL).isEmpty = false := by cases l <;> simp_all
  have s5 : (l.map encL).flatMap AVal.cells = rowC cellsL l := rowC_map (ce := cellsL) l
  have s6 : (rowC cellsL l).map AVal.dis = rowC cellsL l := encL_enc.rowDis l
  have hle := fun k (l : List Lnk) => encL_enc.rowLe k l
  have hrl := encL_enc.rowLen
  generalize usesL l t.P = uv at *
  simp [hne, s1, s2, s3, s4, hn]
  rw [s5, s6]
  refine LoopK.intro (tr := [100010]) mixed (by kernel_rfl) (fun s : Nat × List Lnk => [(0, .sl 13 (l.map encL) .sh), (3, .ptr 0 0), (5, .osl 1 0 n none 13), (12, .int .i64 n), (13, .int .i64 s.1)]) (fun s => [cellsT t, rowC cellsL s.2])
    (fun s => s.1 ≤ n ∧ s.2.length = n ∧ ∀ (j : Nat) (x : Lnk), l[j]? = some x → s.2[j]? = some (if j < s.1 then chR h (t.W.Band * cntI j uv) x else x)) (fun s => n - s.1) (0, l) ?_ ?_ ?_
  · exact ⟨Nat.zero_le _, hn, fun j x hx => by rw [if_neg (by simp)]; exact hx⟩
  · simp [hle]
  rintro ⟨i, cur⟩ ⟨q1, q2, q3⟩
  simp only at q1 q2 q3
  by_cases hi : i < n
  case neg =>
    have : i = n := by omega
    subst this
    have hcur : cur = chA t.W.Band h uv l := by
      apply List.ext_getElem?
      intro j
      rw [chA_get]
      cases hx : l[j]? with
      | none =>
        rw [List.getElem?_eq_none_iff] at hx
        rw [List.getElem?_eq_none (by omega)]
        rfl
      | some x =>
        rw [q3 j x hx, if_pos (by have := (List.getElem?_eq_some_iff.1 hx).1; omega)]
        rfl
    rw [← hcur]
    have k4 := encL_enc.chunk cur i q2
    have k3 : ∀ x ∈ rowC cellsL cur, x.tree = true := by simpa using encL_enc.rowTree cur
    have hn0 : 0 < i := by omega
    have hrc := hrl cur
    rw [q2] at hrc
    have k2 : (rowC cellsL cur).take (i * 13) = rowC cellsL cur := List.take_of_length_le (by omega)
    simp [hi, hrc, k2, k4, hn0]
    rw [if_pos k3]
    simp
  obtain ⟨x, hx⟩ : ∃ x, l[i]? = some x := ⟨_, List.getElem?_eq_getElem (by omega)⟩
  have hcx := q3 i x hx
  rw [if_neg (by omega)] at hcx
  have w1 : IntKind.i64.wrap ((i : Int) + 1) = i + 1 := wrap_in (by omega)
  have hxb := hF x (List.mem_of_getElem? hx)
  have k39 := h39 i
  have hcl : cntI i uv ≤ 30 := by have := cntI_le i uv; omega
  have hmb := mul_bd hb hcl
  obtain ⟨V, hV⟩ : ∃ V : Int, V = t.W.Band * (cntI i uv : Int) := ⟨_, rfl⟩
  rw [← hV] at hmb
  have hV2 : (cntI i uv : Int) * t.W.Band = V := by rw [hV, Int.mul_comm]
  simp [hi, hmx]
  refine LoopK.intro (tr := [100010]) mixed (by kernel_rfl) (fun s : Nat × Lnk => [(0, .sl 13 (l.map encL) .sh), (3, .ptr 0 0), (5, .osl 1 0 n none 13), (6, .int .i64 i), (7, .int .i64 s.1), (12, .int .i64 n), (13, .int .i64 i)]) (fun s => [cellsT t, rowC cellsL (cur.set i s.2)])
    (fun s => h ≤ s.1 ∧ (s.1 ≤ 8 ∨ s.1 = h) ∧ (∀ k, s.1 ≤ k → s.2.Fr k = x.Fr k) ∧ chR h V x = chR s.1 V s.2) (fun s => 8 - s.1) (h, x) ?_ ?_ ?_
  · exact ⟨Nat.le_refl _, .inr rfl, fun _ _ => rfl, rfl⟩
  · have hsame : cur.set i x = cur := by
      apply List.ext_getElem?
      intro j'
      rw [List.getElem?_set]
      split
      · rename_i e; subst e; rw [if_pos (by omega), hcx]
      · rfl
    simp [hsame, hle]
  rintro ⟨k, z⟩ ⟨p1, p2, p5, p4⟩
  simp only at p1 p2 p4 p5
  have hsl : (cur.set i z).length = n := by rw [List.length_set]; exact q2
  by_cases hk : k < 8
  case neg =>
    have hk' : ¬ (k : Int) < 8 := by omega
    rw [chR_ge (h := k) (by omega)] at p4
    simp [hk, hk', w1]
    refine ⟨i + 1, cur.set i z, ⟨by omega, hsl, fun j y hy => ?_⟩, by omega, by simp [hle]⟩
    rw [List.getElem?_set]
    by_cases e : i = j
    · subst e
      rw [hx] at hy
      injection hy with hy
      subst hy
      rw [if_pos rfl, if_pos (by omega), if_pos (by omega), ← hV, p4]
    · rw [if_neg e, q3 j y hy]
      by_cases e2 : j < i
      · rw [if_pos e2, if_pos (by omega)]
      · rw [if_neg e2, if_neg (by omega)]
  have hk' : (k : Int) < 8 := by omega
  have hk7 : k ≤ 7 := by omega
  have hz : (cur.set i z)[i]? = some z := by rw [List.getElem?_set_self (by omega)]
  have hg := rowL_get hz hk
  have hset := rowL_set hz hk (z.Fr k + V)
  rw [List.set_set] at hset
  have hrc := hrl (cur.set i z)
  rw [hsl] at hrc
  have hzx := p5 k (Nat.le_refl _)
  have hxk := hxb k hk
  have w2 : IntKind.i64.wrap ((k : Int) + 1) = k + 1 := wrap_in (by omega)
  have w3 : IntKind.i64.wrap (z.Fr k + V) = z.Fr k + V := wrap_in (by omega)
  have w5 : IntKind.i64.wrap V = V := wrap_in (by omega)
  have b1 : i * 13 + 4 + k < n * 13 := by omega
  have b2 : i * 13 + 4 + k + 1 ≤ n * 13 := by omega
  have hst := chR_step hk V z
  generalize cntI i uv = ct at *
  simp [hk, hk', hk7, hi, hg, gE hg, hrc, b1, b2]
  refine ⟨_, _, .inl (by simpa [cargs] using k39 _), by simp [cargs], ?_⟩
  simp [hk, hk', hk7, hi, hg, gE hg, hrc, b1, b2, hV2, w5, w3]
  simp [hset, w2]
  refine ⟨k + 1, setF z k (z.Fr k + V), ⟨by omega, by omega, fun j hj => ?_, by rw [hst]; exact p4⟩, by omega, by simp [hle]⟩
  show updF z.Fr k (z.Fr k + V) j = x.Fr j
  unfold updF
  rw [if_neg (by omega)]
  exact p5 j (by omega)
set_option maxHeartbeats 16000000 in
set_option maxRecDepth 10000 in
-- routingref47.helps
theorem t47 (l : List Lnk) (n : Nat) (hn : l.length = n) (hn2 : n < 1000) (t : Tun) (ht : t.P.length ≤ 30) (p : List Int) (hp : p.length ≤ 1000) (c : Con) (hus : ∀ u ∈ usesL l p, 0 ≤ u ∧ u < n) :
    CFun Tryz.prog 82 [.sl 13 (l.map encL) .sh, encT t, .sl 1 (p.map encI) .sh, encC c] [] (.bool (!(decide (t.W.Band ≤ 0) || decide (t.W.Hold ≤ c.Setup)) && (usesL l t.P).any (inF ((usesL l p).filter fun x => !fullP l c.Band x)))) [] := by
  refine CFun.intro (tr := []) (fz := []) (n := 52) (rs := [.tmp 8]) Tryz.func82 rfl (by kernel_rfl) rfl rfl mixed (by kernel_rfl) (by simp) (by simp) ?_
  have h1 := fun j H => (t39 l n hn (by omega) p p.length rfl (by omega) j).up' H rfl rfl
  have h2 := fun j H => (t39 l n hn (by omega) t.P t.P.length rfl (by omega) j).up' H rfl rfl
  by_cases g1 : t.W.Band ≤ 0
  · simp [g1]
  by_cases g2 : t.W.Hold ≤ c.Setup
  · simp [g1, g2]
  have hrng := usesL_range l t.P
  obtain ⟨T, hT⟩ : ∃ T, T = (usesL l t.P).any (inF ((usesL l p).filter fun x => !fullP l c.Band x)) := ⟨_, rfl⟩
  rw [← hT]
  generalize usesL l t.P = uv at *
  generalize usesL l p = us at *
  have hfu : ∀ (i : Nat) (x : Lnk), l[i]? = some x → ((i : Int) ∈ us.filter (fun x => !fullP l c.Band x) ↔ (i : Int) ∈ us ∧ x.Fr 7 < c.Band) := by
    intro i x hx
    rw [List.mem_filter]
    have : fullP l c.Band i = decide (c.Band ≤ x.Fr 7) := by
      unfold fullP
      rw [Int.toNat_natCast, List.getD_eq_getElem?_getD, hx]
      rfl
    rw [this]
    simp only [Bool.not_eq_true', decide_eq_false_iff_not]
    constructor
    · rintro ⟨a, b⟩; exact ⟨a, by omega⟩
    · rintro ⟨a, b⟩; exact ⟨a, by omega⟩
  have yes : ∀ (i : Nat) (x : Lnk), l[i]? = some x → 0 < cntI i us → x.Fr 7 < c.Band → 0 < cntI i uv → T = true := by
    intro i x hx k1 k2 k3
    rw [hT, List.any_eq_true]
    refine ⟨i, cntI_pos.1 k3, ?_⟩
    unfold inF
    have hm := (hfu i x hx).2 ⟨cntI_pos.1 k1, k2⟩
    rw [← hasB_iff] at hm
    rw [hm]
    simp
  have no : (∀ (i : Nat) (x : Lnk), l[i]? = some x → ¬ (0 < cntI i us ∧ x.Fr 7 < c.Band ∧ 0 < cntI i uv)) → T = false := by
    intro hno
    rw [hT, List.any_eq_false]
    intro u hu hin
    unfold inF at hin
    simp only [Bool.and_eq_true, decide_eq_true_eq] at hin
    obtain ⟨e1, e2⟩ := hin
    obtain ⟨i, rfl⟩ : ∃ i : Nat, u = i := ⟨u.toNat, by omega⟩
    rw [hasB_iff] at e2
    have hlt := (hrng i hu).2
    obtain ⟨x, hx⟩ : ∃ x, l[i]? = some x := ⟨_, List.getElem?_eq_getElem (by omega)⟩
    obtain ⟨e3, e4⟩ := (hfu i x hx).1 e2
    exact hno i x hx ⟨cntI_pos.2 e3, e4, cntI_pos.2 hu⟩
  clear hT hfu hrng hus
  simp [g1, g2, hn]
  refine LoopK.intro (tr := []) mixed (by kernel_rfl) (fun i : Nat => [(0, .sl 13 (l.map encL) .sh), (2, .sl 1 (p.map encI) .sh), (5, .ptr 0 0), (7, .ptr 1 0), (23, .sl 13 (l.map encL) .sh), (24, .int .i64 n), (25, .int .i64 i)]) (fun _ => [cellsT t, cellsC c])
    (fun i => i ≤ n ∧ ∀ (j : Nat) (x : Lnk), j < i → l[j]? = some x → 0 < cntI j us → x.Fr 7 < c.Band → cntI j uv = 0) (fun i => n - i) 0 ?_ ?_ ?_
  · exact ⟨by omega, fun j x hj => by omega⟩
  · simp
  rintro i ⟨i1, i2⟩
  by_cases hi : i < n
  case neg =>
    have := no fun j x hx h => by have := i2 j x (by have := (List.getElem?_eq_some_iff.1 hx).1; omega) hx h.1 h.2.1; omega
    simp [hi, this]
  obtain ⟨x, hx⟩ : ∃ x, l[i]? = some x := ⟨_, List.getElem?_eq_getElem (by omega)⟩
  have w1 : IntKind.i64.wrap ((i : Int) + 1) = i + 1 := wrap_in (by omega)
  have h7 := cellsL_fr x (i := 7) (by omega)
  have k1 := h1 i
  have k2 := h2 i
  have hy := yes i x hx
  have next : ¬ (0 < cntI i us ∧ x.Fr 7 < c.Band ∧ 0 < cntI i uv) → ∀ (j : Nat) (y : Lnk), j < i + 1 → l[j]? = some y → 0 < cntI j us → y.Fr 7 < c.Band → cntI j uv = 0 := by
    intro hg j y hj hyy e1 e2
    by_cases e : j = i
    · subst e
      rw [hx] at hyy
      injection hyy with hyy
      subst hyy
      exact Nat.eq_zero_of_not_pos fun e3 => hg ⟨e1, e2, e3⟩
    · exact i2 j y (by omega) hyy e1 e2
  generalize cntI i us = c1 at *
  generalize cntI i uv = c2 at *
  simp [hi, hn, hx, gE hx]
  refine ⟨_, _, .inl (by simpa [cargs] using k1 _), by simp [cargs], ?_⟩
  by_cases d1 : 0 < c1
  case neg =>
    have d1' : ¬ (0 : Int) < c1 := by omega
    simp [d1, d1', w1]
    exact ⟨i + 1, ⟨by omega, next (fun h => d1 h.1)⟩, by omega, by simp⟩
  have d1' : (0 : Int) < c1 := by omega
  by_cases d2 : x.Fr 7 < c.Band
  case neg =>
    simp [d1, d1', h7, d2, w1]
    exact ⟨i + 1, ⟨by omega, next (fun h => d2 h.2.1)⟩, by omega, by simp⟩
  simp [d1, d1', h7, d2]
  refine ⟨_, _, .inl (by simpa [cargs] using k2 _), by simp [cargs], ?_⟩
  by_cases d3 : 0 < c2
  · have d3' : (0 : Int) < c2 := by omega
    have := hy d1 d2 d3
    simp [d3, d3', this]
  · have d3' : ¬ (0 : Int) < c2 := by omega
    simp [d3, d3', w1]
    exact ⟨i + 1, ⟨by omega, next (fun h => d3 h.2.2)⟩, by omega, by simp⟩
end Go.Proofs.YtpmmnnaaoideeaaGreat

/- The reference's Victims, by the program. -/
namespace Go.Proofs.YtpmmnnaaoideeaaGreat
open Go Go.Am Go.Wk

def bsV (R : Nat) (ch : List Int) : List AVal := (List.range R).map fun i : Nat => AVal.bool (hasB ch (i : Int))
theorem bsV_len (R : Nat) (ch : List Int) : (bsV R ch).length = R := by simp [bsV]
theorem bsV_get {R i : Nat} (h : i < R) (ch : List Int) : (bsV R ch)[i]? = some (.bool (hasB ch i)) := by
  simp [bsV, h]
theorem bsV_tree (R : Nat) (ch : List Int) : (bsV R ch).all AVal.tree = true := by
  unfold bsV; rw [List.all_map]; simp [AVal.tree]
theorem bsV_nil (R : Nat) : bsV R [] = List.replicate R (.bool false) := by
  apply List.ext_getElem?
  intro j
  by_cases h : j < R
  · rw [bsV_get h]; simp [h, hasB]
  · rw [List.getElem?_eq_none (by rw [bsV_len]; omega), List.getElem?_eq_none (by simp; omega)]
theorem bsV_set {R j : Nat} (ch : List Int) : (bsV R ch).set j (.bool true) = bsV R (ch ++ [(j : Int)]) := by
  apply List.ext_getElem?
  intro i
  by_cases h : i < R
  · rw [List.getElem?_set, bsV_get h]
    by_cases e : j = i
    · subst e
      rw [if_pos rfl, if_pos (by rw [bsV_len]; exact h)]
      have : hasB (ch ++ [(j : Int)]) j = true := by rw [hasB_iff]; simp
      rw [bsV_get h, this]
    · rw [if_neg e, bsV_get h]
      congr 2
      rw [Bool.eq_iff_iff, hasB_iff, hasB_iff]
      simp
      omega
  · rw [List.getElem?_eq_none (by rw [List.length_set, bsV_len]; omega), List.getElem?_eq_none (by rw [bsV_len]; omega)]
theorem room_fu (r : List Lnk) (b : Int) (us : List Int) : roomB r b us = decide ((us.filter fun x => !fullP r b x) = []) := by
  rw [Bool.eq_iff_iff, decide_eq_true_eq, List.filter_eq_nil_iff]
  unfold roomB
  rw [List.all_eq_true]
  constructor
  · intro h u hu; have := h u hu; unfold fullP; simp at this ⊢; omega
  · intro h u hu; have := h u hu; unfold fullP at this; simp at this ⊢; omega
set_option maxHeartbeats 32000000 in
set_option maxRecDepth 10000 in
theorem t19 (l : List Lnk) (n : Nat) (hn : l.length = n) (hn2 : n < 1000) (hB : ∀ x ∈ l, ∀ k, k < 8 → -1125899906842624 ≤ x.Fr k ∧ x.Fr k ≤ 1125899906842624) (ts : List Tun) (R : Nat) (hr : ts.length = R) (hr2 : R ≤ 100)
    (hts : ∀ t ∈ ts, t.P.length ≤ 30 ∧ t.W.Band ≤ 1099511627776 ∧ inI t.W.Hold) (p : List Int) (m : Nat) (hm : p.length = m) (hm2 : m ≤ 1000) (c : Con) :
    CFun Tryz.prog 50 [.sl 13 (l.map encL) .sh, .sl 12 (ts.map encT) .sh, .sl 1 (p.map encI) .sh, encC c] [] (.tup [.sl 1 ((vicN l ts p c).1.map encI) .sh, .int .i64 (vicN l ts p c).2]) [] := by
  refine CFun.intro (tr := [100, 100031]) (fz := []) (n := 115) (rs := [.tmp 8, .tmp 9]) Tryz.func50 rfl (by kernel_rfl) rfl rfl mixed (by kernel_rfl) (by simp) (by simp) ?_
  have h36 := fun H => (t36 c.Setup c.Band).up' H rfl rfl
  have h31 := fun H => (t31 l n hn (by omega) p m hm (by omega)).up' H rfl rfl
  unfold vicN
  cases ha : amtB c.Setup c.Band with
  | false =>
    rw [ha] at h36
    simp
    refine ⟨_, _, .inl (by simpa using h36 _), by simp, ?_⟩
    simp
  | true =>
  rw [ha] at h36
  rw [if_neg (by simp)]
  by_cases g2 : hasB (usesL l p) (-1) = true
  · rw [g2] at h31
    rw [if_pos g2]
    simp
    refine ⟨_, _, .inl (by simpa using h36 _), by simp, ?_⟩
    simp
    refine ⟨_, _, .inl (by simpa using h31 _), by simp, ?_⟩
    simp
  have g2' : hasB (usesL l p) (-1) = false := by simpa using g2
  rw [g2'] at h31
  rw [if_neg g2]
  have hus : ∀ u ∈ usesL l p, 0 ≤ u ∧ u < n := by
    intro u hu
    have h1 := usesL_range l p u hu
    rw [hasB_iff] at g2
    have : u ≠ -1 := fun e => g2 (e ▸ hu)
    omega
  have h38 := fun (r : List Lnk) (h1 : r.length = n) (h2 : ∀ q, usesL r q = usesL l q) H => (t38 r n h1 (by omega) p m hm (by omega) c.Band (by rw [h2, h1]; exact hus)).up' H rfl rfl
  obtain ⟨us, hU⟩ : ∃ us, us = usesL l p := ⟨_, rfl⟩
  have h38 := fun (r : List Lnk) (h1 : r.length = n) (h2 : ∀ q, usesL r q = usesL l q) H => by have := h38 r h1 h2 H; rw [h2 p, ← hU] at this; exact this
  rw [← hU] at hus ⊢
  obtain ⟨T, hT⟩ : ∃ T, T = vicL l ts us c (ts.length + 1) l [] [] := ⟨_, rfl⟩
  rw [← hT]
  simp [hr]
  refine ⟨_, _, .inl (by simpa using h36 _), by simp, ?_⟩
  simp [hr]
  refine ⟨_, _, .inl (by simpa using h31 _), by simp, ?_⟩
  simp [hr]
  clear h36 h31
  refine LoopK.introS (tr := [100, 100031]) mixed (by kernel_rfl)
    (fun i : Nat => [(0, .sl 13 (l.map encL) .sh), (1, .sl 12 (ts.map encT) .sh), (2, .sl 1 (p.map encI) .sh), (7, .ptr 0 0), (10, .sl 0 [] .full), (11, if i = 0 then .sl 0 [] .full else .osl 1 0 i none 1), (26, .int .i64 R), (27, .int .i64 i)])
    (fun i => if i = 0 then [cellsC c] else [cellsC c, List.replicate i (.bool false)]) (fun i => i ≤ R) (fun i => R - i) 0 ?_ ?_ ?_
  · simp
  · simp
  intro i h1
  generalize hPQ : LoopPostS _ _ _ _ _ _ _ = PQ
  have hrt : ∀ k, (List.replicate k (AVal.bool false)).all AVal.tree = true := fun k => by simp [AVal.tree]
  by_cases hi : i < R
  case pos =>
    have w1 : IntKind.i64.wrap ((i : Int) + 1) = i + 1 := wrap_in (by omega)
    have s1 : i + 1 ≤ 140737488355328 := by omega
    have hi' : (i : Int) < R := by omega
    by_cases hz : i = 0
    · subst hz
      have w0 : IntKind.i64.wrap 1 = 1 := by decide
      simp [hi, w0]
      rw [← hPQ]
      simp only [LoopPostS]
      refine ⟨1, by omega, by omega, .inl ?_⟩
      simp
    · have hi0 : 0 < i := by omega
      have hL := treeCellsS (σ := swp 1 2) (N := 3) (n := 2) (hrt (i + 1))
      simp [hi, hi', hi0, hz, s1, w1]
      rw [← hPQ]
      simp only [LoopPostS]
      refine ⟨i + 1, by omega, by omega, .inr ⟨1, 2, by simp, by simp, by simp, by simp, by simp, ?_, ?_⟩⟩
      · simp [LeLookS, ren, ren0, swp]
      · simp only [Nat.succ_ne_zero, if_false]
        rw [← List.replicate_succ']
        simp [LeBoxesS, swpH, ren, ren0, swp, LeCellsS]
        simpa using hL
  have hiR : i = R := by omega
  subst hiR
  by_cases hz : i = 0
  · subst hz
    have hts0 : ts = [] := List.length_eq_zero_iff.1 hr
    subst hts0
    have k38 := h38 l hn (fun _ => rfl)
    rw [room_fu] at k38
    have hT2 : T = if (us.filter fun x => !fullP l c.Band x) = [] then ([], 0) else ([], 19) := by
      rw [hT]
      simp only [List.length_nil, vicL, vicF]
      split
      · rfl
      · rw [if_pos (by decide)]
    simp [hi]
    rw [← hPQ]
    simp only [LoopPostS]
    simp
    refine LoopK.intro (tr := [100, 100031]) mixed (by kernel_rfl) (fun _ : Nat => [(0, .sl 13 (l.map encL) .sh), (1, .sl 12 [] .sh), (2, .sl 1 (p.map encI) .sh), (7, .ptr 0 0), (10, .sl 1 [] .sh)]) (fun _ => [cellsC c]) (fun _ => True) (fun i => i) 0 trivial (by simp) ?_
    intro _ _
    by_cases q0 : (us.filter fun x => !fullP l c.Band x) = []
    · rw [if_pos q0] at hT2
      rw [decide_eq_true q0] at k38
      simp
      refine ⟨_, _, .inl (by simpa using k38 _), by simp, ?_⟩
      simp [hT2]
    · rw [if_neg q0] at hT2
      rw [decide_eq_false q0] at k38
      simp
      refine ⟨_, _, .inl (by simpa using k38 _), by simp, ?_⟩
      simp
      refine LoopK.intro (tr := [100, 100031]) mixed (by kernel_rfl) (fun _ : Nat => [(12, .int .i64 (-1)), (39, .int .i64 0), (40, .int .i64 0)]) (fun _ => []) (fun _ => True) (fun i => i) 0 trivial (by simp) ?_
      intro _ _
      simp [hT2]
  have hle := fun (k : Nat) ch => treeCells_le k (bsV_tree i ch)
  have hR0 : 0 < i := by omega
  simp [hi, hz]
  rw [← hPQ]
  simp only [LoopPostS]
  simp [hz]
  clear hPQ
  rw [← bsV_nil]
  refine LoopK.intro (tr := [100, 100031]) mixed (by kernel_rfl) (fun s : VS => [(0, .sl 13 (s.r.map encL) .sh), (1, .sl 12 (ts.map encT) .sh), (2, .sl 1 (p.map encI) .sh), (7, .ptr 0 0), (10, .sl 1 (s.ids.map encI) .own), (11, .osl 1 0 i none 1)]) (fun s => [cellsC c, bsV i s.ch])
    (fun s => (s.r.length = n ∧ (∀ q, usesL s.r q = usesL l q) ∧ s.ids.length = s.ch.length ∧ s.ch.Nodup ∧ ∀ x ∈ s.ch, 0 ≤ x ∧ x < i) ∧ (∀ x ∈ s.r, ∀ k, k < 8 → -1125899906842624 - 32985348833280 * s.ch.length ≤ x.Fr k ∧ x.Fr k ≤ 1125899906842624 + 32985348833280 * s.ch.length) ∧ T = vicL l ts us c (ts.length + 1 - s.ch.length) s.r s.ch s.ids) (fun s => i + 1 - s.ch.length) ⟨l, [], []⟩ ?_ ?_ ?_
  · exact ⟨⟨hn, fun _ => rfl, rfl, List.nodup_nil, by simp⟩, fun x hx k hk => by have := hB x hx k hk; simp; omega, hT⟩
  · simp [hle]
  clear hB hT
  rintro ⟨rm, ch, ids⟩ ⟨⟨v1, v7, v2, v3, v4⟩, v5, v6⟩
  simp only at v1 v2 v3 v4 v5 v6 v7
  have hchl := nodup_len_int v3 v4
  rw [hr, show i + 1 - ch.length = (i - ch.length) + 1 by omega] at v6
  simp only [vicL] at v6
  have k38 := h38 rm v1 v7
  rw [room_fu] at k38
  have h47 := fun t (ht : t ∈ ts) H => (t47 rm n v1 hn2 t (hts t ht).1 p (by omega) c (by rw [v7, ← hU]; exact hus)).up' H (by simp [noid, noid0]) rfl
  simp only [v7, ← hU] at h47
  have hcdef : ∀ (k : Nat) (t : Tun), candP l (us.filter fun x => !fullP rm c.Band x) c ch k t = (!(decide (t.W.Band ≤ 0) || decide (t.W.Hold ≤ c.Setup) || hasB ch k) && (usesL l t.P).any (inF (us.filter fun x => !fullP rm c.Band x))) := fun _ _ => rfl
  have hv : vicF (candP l (us.filter fun x => !fullP rm c.Band x) c ch) ts (-1) 0 ts = -1 ∨ ∃ (j : Nat) (t : Tun), vicF (candP l (us.filter fun x => !fullP rm c.Band x) c ch) ts (-1) 0 ts = j ∧ ts[j]? = some t ∧ candP l (us.filter fun x => !fullP rm c.Band x) c ch j t = true := vicF_spec _ ts ts 0 (-1) (by simp)
  generalize (us.filter fun x => !fullP rm c.Band x) = fu at *
  have hcand : ∀ (j : Nat) (t : Tun), candP l fu c ch j t = true → 0 < t.W.Band ∧ (j : Int) ∉ ch := by
    intro j t h
    unfold candP at h
    simp only [Bool.and_eq_true, Bool.not_eq_true', Bool.or_eq_false_iff, decide_eq_false_iff_not] at h
    refine ⟨by omega, fun hc => ?_⟩
    rw [← hasB_iff] at hc
    rw [hc] at h
    simp at h
  generalize candP l fu c ch = cand at *
  by_cases q0 : fu = []
  · rw [if_pos q0] at v6
    rw [decide_eq_true q0] at k38
    simp
    refine ⟨_, _, .inl (by simpa using k38 _), by simp, ?_⟩
    simp [v6]
  rw [if_neg q0] at v6
  rw [decide_eq_false q0] at k38
  clear h38
  obtain ⟨V, hV⟩ : ∃ V, V = vicF cand ts (-1) 0 ts := ⟨_, rfl⟩
  rw [← hV] at v6 hv
  simp
  refine ⟨_, _, .inl (by simpa using k38 _), by simp, ?_⟩
  simp [hr]
  clear k38
  refine LoopK.intro (tr := [100, 100031]) mixed (by kernel_rfl) (fun s : Nat × Int => [(0, .sl 13 (rm.map encL) .sh), (1, .sl 12 (ts.map encT) .sh), (2, .sl 1 (p.map encI) .sh), (7, .ptr 0 0), (10, .sl 1 (ids.map encI) .own), (11, .osl 1 0 i none 1), (12, .int .i64 s.2), (38, .sl 12 (ts.map encT) .sh), (39, .int .i64 i), (40, .int .i64 s.1)]) (fun _ => [cellsC c, bsV i ch])
    (fun s => s.1 ≤ i ∧ -1 ≤ s.2 ∧ s.2 < i ∧ V = vicF cand ts s.2 s.1 (ts.drop s.1)) (fun s => i - s.1) (0, -1) ?_ ?_ ?_
  · exact ⟨Nat.zero_le _, by simp, by simp; omega, hV⟩
  · simp [hle]
  clear hV
  rintro ⟨k, b⟩ ⟨i1, i2, i3, i4⟩
  simp only at i1 i2 i3 i4
  by_cases hk : k < i
  case neg =>
    rw [List.drop_eq_nil_of_le (by omega)] at i4
    simp only [vicF] at i4
    subst i4
    rcases hv with hv | ⟨j, t, hv, htj, hcj⟩
    · rw [if_pos (by rw [hv]; decide)] at v6
      subst hv
      simp [hk, v6]
    · subst hv
      rw [if_neg (by omega), Int.toNat_natCast] at v6
      have htd : ts.getD j tun0 = t := by rw [List.getD_eq_getElem?_getD, htj]; rfl
      rw [htd] at v6
      obtain ⟨hb0, hjc⟩ := hcand j t hcj
      have htm := List.mem_of_getElem? htj
      obtain ⟨hp30, hb1, hhi⟩ := hts t htm
      have hj : j < i := by omega
      have hnd : (ch ++ [(j : Int)]).Nodup := by
        rw [List.nodup_append]
        refine ⟨v3, by simp, fun a ha b hb e => ?_⟩
        simp at hb
        subst hb
        subst e
        exact hjc ha
      have hrb : ∀ x ∈ ch ++ [(j : Int)], 0 ≤ x ∧ x < i := by
        intro x hx
        rcases List.mem_append.1 hx with hx | hx
        · exact v4 x hx
        · simp at hx; subst hx; omega
      have hcl := nodup_len_int hnd hrb
      simp only [List.length_append, List.length_cons, List.length_nil] at hcl
      have k48 := fun H => (t48 rm n v1 hn2 t t.P.length rfl hp30 ⟨by omega, hb1⟩ hhi (fun x hx k hk => by have := v5 x hx k hk; omega)).up' H (by simp [noid, noid0]) rfl
      rw [v7] at k48
      have hset := bsV_set (R := i) (j := j) ch
      have hlen := bsV_len i ch
      have j0 : ¬ (j : Int) < 0 := by omega
      have j1 : j + 1 ≤ i := by omega
      have s1 : ch.length + 1 ≤ 140737488355328 := by omega
      have s2 : (ch.length + 1) * 8 ≤ 140737488355328 := by omega
      have hw1 := cntI_le
      have huvl : (usesL l t.P).length ≤ 30 := by rw [usesL_len]; omega
      generalize usesL l t.P = uv at *
      simp [hk, j0, j1, hj, hr, htj, gE htj, hlen, hset, v2, s1, s2]
      refine ⟨_, _, .inl (by simpa using k48 _), by simp, ?_⟩
      simp
      refine ⟨⟨chA t.W.Band t.W.Hold.toNat uv rm, ch ++ [(j : Int)], ids ++ [t.ID]⟩, ⟨⟨by rw [chA_len]; exact v1, fun q => by rw [usesL_chA, v7], by simp [v2], hnd, hrb⟩, fun x hx k hk => ?_, ?_⟩, ?_, ?_⟩
      · obtain ⟨i', hi', he⟩ := List.getElem_of_mem hx
        have hg : (chA t.W.Band t.W.Hold.toNat uv rm)[i']? = some x := by rw [List.getElem?_eq_getElem hi', he]
        rw [chA_get, Option.map_eq_some_iff] at hg
        obtain ⟨y, hy, rfl⟩ := hg
        have h5 := v5 y (List.mem_of_getElem? hy) k hk
        have h6 := mul_bd (a := t.W.Band) ⟨by omega, hb1⟩ (c := cntI i' uv) (by have := hw1 i' uv; omega)
        simp only [List.length_append, List.length_cons, List.length_nil]
        simp only [chR]
        split
        · omega
        · omega
      · rw [v6]
        simp only [List.length_append, List.length_cons, List.length_nil]
        congr 1
        omega
      · simp only [List.length_append, List.length_cons, List.length_nil]
        omega
      · simp [hle]
  obtain ⟨t, ht, hd⟩ := get_drop (l := ts) (i := k) (by omega)
  rw [hd] at i4
  simp only [vicF] at i4
  have hmm := List.mem_of_getElem? ht
  have w1 : IntKind.i64.wrap ((k : Int) + 1) = k + 1 := wrap_in (by omega)
  have k47 := h47 t hmm
  have hcd := hcdef k t
  have hbg := bsV_get hk ch
  have hlen := bsV_len i ch
  clear h47 hcdef hd hcand hv v6 v5
  generalize cand k t = cd at *
  generalize hasB ch (k : Int) = b1 at *
  generalize (usesL l t.P).any (inF fu) = b2 at *
  have skip : cd = false → V = vicF cand ts b (k + 1) (ts.drop (k + 1)) := by
    intro e
    rw [e] at i4
    simpa using i4
  cases b1 with
  | true =>
    have := skip (by rw [hcd]; simp)
    simp [hk, hr, ht, gE ht, hbg, gE hbg, hlen, w1]
    exact ⟨k + 1, b, ⟨by omega, i2, i3, this⟩, by omega, by simp [hle]⟩
  | false =>
  rw [Bool.or_false] at hcd
  rw [← hcd] at k47
  simp [hk, hr, ht, gE ht, hbg, gE hbg, hlen]
  refine ⟨_, _, .inl (by simpa [cargs] using k47 _), by simp [cargs], ?_⟩
  clear k47 hcd
  cases cd with
  | false =>
    have := skip rfl
    simp [w1]
    exact ⟨k + 1, b, ⟨by omega, i2, i3, this⟩, by omega, by simp [hle]⟩
  | true =>
  rw [Bool.true_and] at i4
  by_cases g3 : b < 0
  · rw [if_pos (by simp [g3])] at i4
    simp [g3, w1]
    exact ⟨k + 1, (k : Int), ⟨by omega, by omega, by omega, i4⟩, by omega, by simp [hle]⟩
  obtain ⟨j, rfl⟩ : ∃ j : Nat, b = j := ⟨b.toNat, by omega⟩
  have hj : j < i := by omega
  obtain ⟨u, hu⟩ : ∃ u, ts[j]? = some u := ⟨_, List.getElem?_eq_getElem (by omega)⟩
  have hud : ts.getD j tun0 = u := by rw [List.getD_eq_getElem?_getD, hu]; rfl
  rw [Int.toNat_natCast, hud] at i4
  unfold betT at i4
  have g3' : ¬ (j : Int) < 0 := g3
  by_cases g4 : u.W.Hold < t.W.Hold
  · rw [if_pos (by simp [g4])] at i4
    simp [g3', hj, hr, hu, gE hu, g4, w1]
    exact ⟨k + 1, (k : Int), ⟨by omega, by omega, by omega, i4⟩, by omega, by simp [hle]⟩
  by_cases g5 : t.W.Hold = u.W.Hold ∧ u.ID < t.ID
  · obtain ⟨g5, g6⟩ := g5
    rw [if_pos (by simp [g5, g6])] at i4
    simp [g3', hj, hr, hu, gE hu, g4, g5, g6, w1]
    exact ⟨k + 1, (k : Int), ⟨by omega, by omega, by omega, i4⟩, by omega, by simp [hle]⟩
  rw [if_neg (by simp only [Bool.or_eq_true, Bool.and_eq_true, decide_eq_true_eq]; omega)] at i4
  by_cases g6 : t.W.Hold = u.W.Hold
  · have g7 : ¬ u.ID < t.ID := fun h => g5 ⟨g6, h⟩
    simp [g3', hj, hr, hu, gE hu, g4, g6, g7, w1]
    exact ⟨k + 1, (j : Int), ⟨by omega, by omega, by omega, i4⟩, by omega, by simp [hle]⟩
  · simp [g3', hj, hr, hu, gE hu, g4, g6, w1]
    exact ⟨k + 1, (j : Int), ⟨by omega, by omega, by omega, i4⟩, by omega, by simp [hle]⟩
end Go.Proofs.YtpmmnnaaoideeaaGreat
