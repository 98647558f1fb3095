/- The reference's change of links. -/
import Derived.Test.YtpmmnnaaoideeaaT16
import Derived.Test.YtpmmnnaaoideeaaT21
import Derived.Test.YtpmmnnaaoideeaaTL2
set_option linter.unusedSimpArgs false
set_option linter.unusedVariables false
namespace Go.Proofs.Ytpmmnnaaoideeaa
open Go Go.Am Go.Wk

end Go.Proofs.Ytpmmnnaaoideeaa

/- The reference's Reserve and Release, by the program. -/
namespace Go.Proofs.Ytpmmnnaaoideeaa
open Go Go.Am Go.Wk

theorem opA_good {bad : Int → Int → Bool} {v : Int} {h : Nat} (h8 : h ≤ 8) : ∀ (us : List Int) (l : List Lnk), (∀ u ∈ us, 0 ≤ u ∧ u < l.length) → ∀ m, opA bad v h us l = some m →
    ∀ (i : Nat) (x : Lnk) (c : Nat), l[i]? = some x → c < cntI i us → ∀ k, h ≤ k → k < 8 → bad (x.Fr k + v * c) x.Cap = false := by
  intro us
  induction us with
  | nil => intro l _ m _ i x c _ hc; simp [cntI] at hc
  | cons u us ih =>
    intro l hu m hm j y c hy hc k k1 k2
    obtain ⟨u1, u2⟩ := hu u (by simp)
    obtain ⟨i, rfl⟩ : ∃ i : Nat, u = i := ⟨u.toNat, by omega⟩
    obtain ⟨x, hx⟩ : ∃ x, l[i]? = some x := ⟨_, List.getElem?_eq_getElem (by omega)⟩
    have hxd : l.getD i lnk0 = x := by rw [List.getD_eq_getElem?_getD, hx]; rfl
    simp only [opA, Int.toNat_natCast, hxd] at hm
    by_cases hb : ∃ k, 8 - (8 - h) ≤ k ∧ k < 8 ∧ bad (x.Fr k) x.Cap = true
    · rw [opK_none _ _ (by omega) hb] at hm
      cases hm
    · have hg : ∀ k, 8 - (8 - h) ≤ k → k < 8 → bad (x.Fr k) x.Cap = false := fun k k1 k2 => by
        cases hc : bad (x.Fr k) x.Cap with
        | false => rfl
        | true => exact absurd ⟨k, k1, k2, hc⟩ hb
      rw [opK_some _ _ (by omega) hg, show 8 - (8 - h) = h by omega] at hm
      simp only at hm
      have hl := ih (l.set i (chR h v x)) (fun w hw => by rw [List.length_set]; exact hu w (by simp [hw])) m hm
      rw [cntI_cons] at hc
      by_cases e : i = j
      · subst e
        rw [hx] at hy
        injection hy with hy
        subst hy
        rw [if_pos rfl] at hc
        cases c with
        | zero => simpa using hg k (by omega) k2
        | succ c =>
          have := hl i (chR h v x) c (by rw [List.getElem?_set_self (by omega)]) (by omega) k k1 k2
          have e2 : (chR h v x).Fr k = x.Fr k + v := by simp only [chR]; rw [if_pos ⟨k1, k2⟩]
          rw [e2] at this
          rw [← this]
          show bad _ x.Cap = bad _ x.Cap
          congr 1
          rw [Int.natCast_add, Int.mul_add]
          simp
          omega
      · rw [if_neg (by omega)] at hc
        exact hl j y c (by rw [List.getElem?_set_ne e]; exact hy) (by omega) k k1 k2
theorem chR_fr {h : Nat} {v : Int} {x : Lnk} {k : Nat} (k1 : h ≤ k) (k2 : k < 8) : (chR h v x).Fr k = x.Fr k + v := by
  simp only [chR]; rw [if_pos ⟨k1, k2⟩]
theorem mul_last (b : Int) {c n : Nat} (hc : c < n) (hb : 0 ≤ b) : b * (c : Int) + b ≤ b * (n : Int) := by
  have : b * ((c + 1 : Nat) : Int) ≤ b * (n : Int) := Int.mul_le_mul_of_nonneg_left (by omega) hb
  rw [Int.natCast_add, Int.mul_add] at this
  simpa using this
theorem add_yes {b : Int} (hb : 0 ≤ b) {h : Nat} (h8 : h ≤ 8) {us : List Int} {l : List Lnk} (hus : ∀ u ∈ us, 0 ≤ u ∧ u < l.length) (hg : ∀ (i : Nat) (x : Lnk), (chA b h us l)[i]? = some x → 0 < cntI i us → ∀ k, h ≤ k → k < 8 → x.Fr k ≤ x.Cap) : addA b h us l = some (chA b h us l) := by
  rw [addA_op]
  refine opA_ok h8 us l hus fun i x c hx hc k k1 k2 => ?_
  rw [exceedsB_eq hb]
  refine decide_eq_false ?_
  have := hg i _ (by rw [chA_get, hx]; rfl) (by omega) k k1 k2
  rw [chR_fr k1 k2] at this
  have h3 := mul_last b hc hb
  change _ ≤ x.Cap at this
  omega
theorem amtB_false {h b : Int} (g : h < 0 ∨ 7 < h ∨ b < 0 ∨ 1099511627776 < b) : amtB h b = false := by
  unfold amtB
  rw [Bool.eq_false_iff]
  intro e
  simp only [Bool.and_eq_true, decide_eq_true_eq] at e
  omega
theorem amtB_true {h b : Int} (g : ¬ (h < 0 ∨ 7 < h ∨ b < 0 ∨ 1099511627776 < b)) : amtB h b = true := by
  unfold amtB
  simp only [Bool.and_eq_true, decide_eq_true_eq]
  omega
end Go.Proofs.Ytpmmnnaaoideeaa

/- The tunnels that give way, by the program. -/
namespace Go.Proofs.Ytpmmnnaaoideeaa
open Go Go.Am Go.Wk

theorem vicF_spec (cand : Nat → Tun → Bool) (ts : List Tun) : ∀ (r : List Tun) (i : Nat) (b : Int), r = ts.drop i → vicF cand ts b i r = b ∨ ∃ (j : Nat) (t : Tun), vicF cand ts b i r = j ∧ ts[j]? = some t ∧ cand j t = true := by
  intro r
  induction r with
  | nil => intro i b _; exact .inl rfl
  | cons t r ih =>
    intro i b h
    have ht : ts[i]? = some t := by
      have := congrArg (fun l => l[0]?) h
      simpa using this.symm
    have hr : r = ts.drop (i + 1) := by
      have := congrArg List.tail h
      simpa using this
    simp only [vicF]
    rcases ih (i + 1) (if (cand i t && (decide (b < 0) || betT t (ts.getD b.toNat tun0))) = true then (i : Int) else b) hr with e | e
    · rw [e]
      split
      · rename_i g
        simp only [Bool.and_eq_true] at g
        exact .inr ⟨i, t, rfl, ht, g.1⟩
      · exact .inl rfl
    · exact .inr e
def vicL (l : List Lnk) (ts : List Tun) (us : List Int) (c : Con) : Nat → List Lnk → List Int → List Int → List Int × Int
  | 0, _, _, _ => ([], 19)
  | f + 1, r, ch, ids =>
    if (us.filter fun x => !fullP r c.Band x) = [] then (ids, 0)
    else if vicF (candP l (us.filter fun x => !fullP r c.Band x) c ch) ts (-1) 0 ts < 0 then ([], 19)
    else vicL l ts us c f (chA (ts.getD (vicF (candP l (us.filter fun x => !fullP r c.Band x) c ch) ts (-1) 0 ts).toNat tun0).W.Band (ts.getD (vicF (candP l (us.filter fun x => !fullP r c.Band x) c ch) ts (-1) 0 ts).toNat tun0).W.Hold.toNat (usesL l (ts.getD (vicF (candP l (us.filter fun x => !fullP r c.Band x) c ch) ts (-1) 0 ts).toNat tun0).P) r)
      (ch ++ [vicF (candP l (us.filter fun x => !fullP r c.Band x) c ch) ts (-1) 0 ts]) (ids ++ [(ts.getD (vicF (candP l (us.filter fun x => !fullP r c.Band x) c ch) ts (-1) 0 ts).toNat tun0).ID])
def vicN (l : List Lnk) (ts : List Tun) (path : List Int) (c : Con) : List Int × Int :=
  if amtB c.Setup c.Band = false then ([], 5) else if hasB (usesL l path) (-1) = true then ([], 20) else vicL l ts (usesL l path) c (ts.length + 1) l [] []
theorem chA_skip {v : Int} {h : Nat} {us : List Int} {l : List Lnk} : chA v h (-1 :: us) l = chA v h us l := by
  apply List.ext_getElem?
  intro j
  rw [chA_get, chA_get, cntI_cons, if_neg (by omega)]
  rfl
theorem chA_nil {v : Int} {h : Nat} {l : List Lnk} : chA v h [] l = l := by
  apply List.ext_getElem?
  intro j
  rw [chA_get]
  cases l[j]? <;> simp [cntI, chR_zero]
set_option maxHeartbeats 4000000 in
set_option maxRecDepth 10000 in
theorem t43n (H : List (List AVal)) (cs : List AVal) (hf : low H.length (.fn 45 [] cs) = true) (hH : LeBoxes H.length H H) : CFun Try.prog 43 [.sl 1 [] .full, .fn 45 [] cs] H (.sl 1 [] .full) H := by
  have h69 : CFun Try.prog 69 [.sl 1 [] .full, .fn 45 [] cs] H (.int .i64 (-1)) H := by
    refine CFun.intro (tr := []) (fz := []) (n := 19) (rs := [.tmp 4]) Try.func69 rfl (by kernel_rfl) rfl rfl mixed (by kernel_rfl) (by simp) (by simp) ?_
    simp
    refine LoopK.intro (tr := []) mixed (by kernel_rfl) (fun j : Nat => [(0, .sl 1 [] .sh), (7, .int .i64 0), (8, .int .i64 0)]) (fun _ => H) (fun _ => True) (fun j => j) 0 trivial ?_ ?_
    · simp [hH]
    · intro j _
      simp [hH]
  refine CFun.intro (tr := []) (fz := []) (n := 42) (rs := [.tmp 4]) Try.func43 rfl (by kernel_rfl) rfl rfl mixed (by kernel_rfl) (by simp) (by simp) ?_
  simp
  refine ⟨_, _, .inl h69, by simp, ?_⟩
  simp [hH]
end Go.Proofs.Ytpmmnnaaoideeaa

/- tunnel.Victims, by the program. -/
namespace Go.Proofs.Ytpmmnnaaoideeaa
open Go Go.Am Go.Wk

theorem chunkI (l : List Int) (f : Nat) (h : l.length = f) : chunk false (l.map encI) 0 1 f = l.map encI := by
  apply List.ext_getElem?
  intro j
  rw [chunk_get]
  by_cases e : j < f
  · rw [if_pos e]
    have : j < (l.map encI).length := by simp; omega
    rw [List.getElem?_eq_getElem this]
    simp [List.getD_eq_getElem?_getD, show j < l.length by omega, AVal.dis]
  · rw [if_neg e, List.getElem?_eq_none (by simp; omega)]
theorem chR_ge {h : Nat} (h8 : 8 ≤ h) (v : Int) (x : Lnk) : chR h v x = x := by
  have : (fun k => if h ≤ k ∧ k < 8 then x.Fr k + v else x.Fr k) = x.Fr := by
    funext k; rw [if_neg (by omega)]
  unfold chR
  rw [this]
structure VS where
  r : List Lnk
  ch : List Int
  ids : List Int
theorem nodup_len_int {ch : List Int} {n : Nat} (hd : ch.Nodup) (hb : ∀ x ∈ ch, 0 ≤ x ∧ x < n) : ch.length ≤ n := by
  have hl := nodup_length (l := ch.map Int.toNat) (n := n) (by
    unfold List.Nodup at hd ⊢
    rw [List.pairwise_map]
    refine hd.imp_of_mem ?_
    intro a b ha hb' h e
    have := hb a ha
    have := hb b hb'
    omega) (fun x hx => by
    obtain ⟨a, ha, rfl⟩ := List.mem_map.1 hx
    have := hb a ha
    omega)
  simpa using hl
set_option maxHeartbeats 32000000 in
set_option maxRecDepth 10000 in
theorem t18 (l : List Lnk) (n : Nat) (hn : l.length = n) (hn2 : n < 1000) (hB : ∀ x ∈ l, ∀ k, k < 8 → -1125899906842624 ≤ x.Fr k ∧ x.Fr k ≤ 1125899906842624) (ts : List Tun) (r : Nat) (hr : ts.length = r) (hr2 : r ≤ 100)
    (hts : ∀ t ∈ ts, t.P.length ≤ 30 ∧ t.W.Band ≤ 1099511627776 ∧ inI t.W.Hold) (p : List Int) (m : Nat) (hm : p.length = m) (hm2 : m ≤ 1000) (c : Con) :
    CFun Try.prog 18 [.sl 13 (l.map encL) .sh, .sl 12 (ts.map encT) .sh, .sl 1 (p.map encI) .sh, encC c] [] (.tup [.sl 1 ((vicN l ts p c).1.map encI) .sh, .int .i64 (vicN l ts p c).2]) [] := by
  refine CFun.intro (tr := [60, 64, 10000014000006]) (fz := []) (n := 117) (rs := [.tmp 8, .tmp 9]) Try.func18 rfl (by kernel_rfl) rfl rfl mixed (by kernel_rfl) (by simp) (by simp) ?_
  have h41 := fun H => (t41 l n hn (by omega) p m hm (by omega)).up' H rfl rfl
  have h42 := fun H => (c24 (usesL l p) (m - 1) (by rw [usesL_len, hm]) (by omega) (-1)).up' H rfl rfl
  unfold vicN
  by_cases a1 : c.Setup < 0
  · simp [amtB_false (b := c.Band) (.inl a1), a1]
  by_cases a2 : 7 < c.Setup
  · simp [amtB_false (b := c.Band) (.inr (.inl a2)), a1, a2]
  by_cases a3 : c.Band < 0
  · simp [amtB_false (h := c.Setup) (.inr (.inr (.inl a3))), a1, a2, a3]
  by_cases a4 : 1099511627776 < c.Band
  · simp [amtB_false (h := c.Setup) (.inr (.inr (.inr a4))), a1, a2, a3, a4]
  rw [amtB_true (h := c.Setup) (b := c.Band) (by omega), if_neg (by simp)]
  by_cases g2 : hasB (usesL l p) (-1) = true
  · rw [g2] at h42
    rw [if_pos g2]
    simp [a1, a2, a3, a4]
    refine ⟨_, _, .inl (by simpa using h41 _), by simp, ?_⟩
    simp
    refine ⟨_, _, .inl (by simpa using h42 _), by simp, ?_⟩
    simp
  have g2' : hasB (usesL l p) (-1) = false := by simpa using g2
  rw [g2'] at h42
  rw [if_neg g2]
  have hus : ∀ u ∈ usesL l p, 0 ≤ u ∧ u < n := by
    intro u hu
    have h1 := usesL_range l p u hu
    rw [hasB_iff] at g2
    have : u ≠ -1 := fun e => g2 (e ▸ hu)
    omega
  have hul : (usesL l p).length = m - 1 := by rw [usesL_len, hm]
  obtain ⟨us, hU⟩ : ∃ us, us = usesL l p := ⟨_, rfl⟩
  rw [← hU] at h41 h42 hus hul ⊢
  clear hU g2
  by_cases hne : us = []
  · subst hne
    have hv0 : vicL l ts [] c (ts.length + 1) l [] [] = ([], 0) := by simp [vicL]
    rw [hv0]
    have k44 := fun H => t44n.up' H rfl rfl
    by_cases hl : l = []
    · subst hl
      have k34 := fun H => t34n.up' H rfl rfl
      have k43 := t43n [cellsC c, [.sl 13 [] .full]] [.ptr 1 0, .ptr 0 0] (by simp [low, low0]) (by simp)
      simp [a1, a2, a3, a4]
      refine ⟨_, _, .inl (by simpa using h41 _), by simp, ?_⟩
      simp
      refine ⟨_, _, .inl (by simpa using h42 _), by simp, ?_⟩
      simp
      refine ⟨_, _, .inl (by simpa using k34 _), by simp, ?_⟩
      simp
      refine LoopK.intro (tr := [60, 64, 10000014000006]) mixed (by kernel_rfl) (fun _ : Nat => [(7, .ptr 0 0), (10, .sl 1 [] .sh), (11, .ptr 1 0), (13, .sl 1 [] .sh)]) (fun _ => [cellsC c, [.sl 13 [] .full]]) (fun _ => True) (fun i => i) 0 trivial (by simp) ?_
      intro _ _
      simp
      refine ⟨_, _, .inl (by simpa using k44 _), by simp, ?_⟩
      simp
      refine ⟨_, _, .inl (by simpa using k43), by simp, ?_⟩
      simp
    · have k34 : ∀ H, CFun Try.prog 34 [.sl 13 (l.map encL) .sh] H (.osl H.length 0 l.length none 13) (H ++ [rowC cellsL l]) := fun H => (t34r l hl (by omega)).upNew H (encL_enc.rowNoid l) rfl rfl
      have hle := fun k (l : List Lnk) => encL_enc.rowLe k l
      have k43 := t43n [cellsC c, rowC cellsL l, [.osl 1 0 n none 13]] [.ptr 2 0, .ptr 0 0] (by simp [low, low0]) (by simp [hle])
      simp [a1, a2, a3, a4]
      refine ⟨_, _, .inl (by simpa using h41 _), by simp, ?_⟩
      simp
      refine ⟨_, _, .inl (by simpa using h42 _), by simp, ?_⟩
      simp
      refine ⟨_, _, .inl (by simpa using k34 _), by simp, ?_⟩
      simp
      refine LoopK.intro (tr := [60, 64, 10000014000006]) mixed (by kernel_rfl) (fun _ : Nat => [(7, .ptr 0 0), (10, .sl 1 [] .sh), (11, .ptr 2 0), (13, .sl 1 [] .sh)]) (fun _ => [cellsC c, rowC cellsL l, [.osl 1 0 n none 13]]) (fun _ => True) (fun i => i) 0 trivial (by simp [hle, hn]) ?_
      intro _ _
      simp
      refine ⟨_, _, .inl (by simpa using k44 _), by simp, ?_⟩
      simp
      refine ⟨_, _, .inl (by simpa using k43), by simp, ?_⟩
      simp
  have hl : l ≠ [] := by
    intro e
    obtain ⟨u, us', hu⟩ := List.exists_cons_of_ne_nil hne
    have := hus u (by rw [hu]; simp)
    rw [e] at hn
    simp at hn
    omega
  have hn0 : 0 < n := by rw [← hn]; exact List.length_pos_iff.2 hl
  have k34 : ∀ H, CFun Try.prog 34 [.sl 13 (l.map encL) .sh] H (.osl H.length 0 l.length none 13) (H ++ [rowC cellsL l]) := fun H => (t34r l hl (by omega)).upNew H (encL_enc.rowNoid l) rfl rfl
  have hle := fun k (l : List Lnk) => encL_enc.rowLe k l
  have hrl := encL_enc.rowLen
  have hle2 := fun k us => encI_le k us
  have k44 : ∀ H, CFun Try.prog 44 [.sl 1 (us.map encI) .sh] H (.osl H.length 0 us.length none 1) (H ++ [us.map encI]) := fun H => (t44r us hne (by omega)).upNew H (by rw [List.all_map]; simp [noid0, encI]) rfl rfl
  simp [a1, a2, a3, a4]
  refine ⟨_, _, .inl (by simpa using h41 _), by simp, ?_⟩
  simp
  refine ⟨_, _, .inl (by simpa using h42 _), by simp, ?_⟩
  simp
  refine ⟨_, _, .inl (by simpa using k34 _), by simp, ?_⟩
  simp
  clear h41 h42 k34
  obtain ⟨T, hT⟩ : ∃ T, T = vicL l ts us c (ts.length + 1) l [] [] := ⟨_, rfl⟩
  rw [← hT]
  refine LoopK.intro (tr := [60, 64, 10000014000006]) mixed (by kernel_rfl) (fun s : VS => [(0, .sl 13 (l.map encL) .sh), (1, .sl 12 (ts.map encT) .sh), (7, .ptr 0 0), (10, .sl 1 (us.map encI) .sh), (11, .ptr 2 0), (12, .sl 1 (s.ch.map encI) .own), (13, .sl 1 (s.ids.map encI) .own)]) (fun s => [cellsC c, rowC cellsL s.r, [.osl 1 0 n none 13]])
    (fun s => (s.r.length = n ∧ s.ids.length = s.ch.length ∧ s.ch.Nodup ∧ ∀ x ∈ s.ch, 0 ≤ x ∧ x < r) ∧ (∀ x ∈ s.r, ∀ k, k < 8 → -1125899906842624 - 32985348833280 * s.ch.length ≤ x.Fr k ∧ x.Fr k ≤ 1125899906842624 + 32985348833280 * s.ch.length) ∧ T = vicL l ts us c (ts.length + 1 - s.ch.length) s.r s.ch s.ids) (fun s => r + 1 - s.ch.length) ⟨l, [], []⟩ ?_ ?_ ?_
  · exact ⟨⟨hn, rfl, List.nodup_nil, by simp⟩, fun x hx k hk => by have := hB x hx k hk; simp; omega, hT⟩
  · simp [hle, hn]
  clear hB hT
  rintro ⟨rm, ch, ids⟩ ⟨⟨v1, v2, v3, v4⟩, v5, v6⟩
  simp only at v1 v2 v3 v4 v5 v6
  have hchl := nodup_len_int v3 v4
  rw [hr, show r + 1 - ch.length = (r - ch.length) + 1 by omega] at v6
  simp only [vicL] at v6
  have hdel := t43 c rm n v1 us us.length rfl (by omega) hus
  have hv : vicF (candP l (us.filter fun x => !fullP rm c.Band x) c ch) ts (-1) 0 ts = -1 ∨ ∃ (j : Nat) (t : Tun), vicF (candP l (us.filter fun x => !fullP rm c.Band x) c ch) ts (-1) 0 ts = j ∧ ts[j]? = some t ∧ candP l (us.filter fun x => !fullP rm c.Band x) c ch j t = true := vicF_spec _ ts ts 0 (-1) (by simp)
  have hfl : (us.filter fun x => !fullP rm c.Band x).length ≤ us.length := List.length_filter_le _ _
  have h46 := fun H => (t46 l n hn (by omega) ts r hr (by omega) (fun t ht => by have := (hts t ht).1; omega) (us.filter fun x => !fullP rm c.Band x) _ rfl (by omega) c ch _ rfl (by omega)).up' H (by simp [noid, noid0]) rfl
  generalize (us.filter fun x => !fullP rm c.Band x) = fu at *
  have hcand : ∀ (j : Nat) (t : Tun), candP l fu c ch j t = true → 0 < t.W.Band ∧ (j : Int) ∉ ch := by
    intro j t h
    unfold candP at h
    simp only [Bool.and_eq_true, Bool.not_eq_true', Bool.or_eq_false_iff, decide_eq_false_iff_not] at h
    refine ⟨by omega, fun hc => ?_⟩
    rw [← hasB_iff] at hc
    rw [hc] at h
    simp at h
  generalize candP l fu c ch = cand at *
  obtain ⟨f, hfe⟩ : ∃ f, fu.length = f := ⟨_, rfl⟩
  rw [hfe] at hdel hfl
  simp only [hV] at hdel
  have k44' := k44 [cellsC c, rowC cellsL rm, [.osl 1 0 n none 13]]
  by_cases q0 : fu = []
  · rw [if_pos q0] at v6
    subst q0
    have hf0 : f = 0 := hfe.symm
    subst hf0
    simp
    refine ⟨_, _, .inl (by simpa using k44'), by simp, ?_⟩
    simp
    refine ⟨_, _, .inl (by simpa using hdel), by simp, ?_⟩
    have hu0 : 0 < us.length := List.length_pos_iff.2 hne
    have hc0 : chunk false ([] : List AVal) 0 1 0 = [] := rfl
    simp [v6, hu0, hc0]
  rw [if_neg q0] at v6
  have hf0 : 0 < f := by rw [← hfe]; exact List.length_pos_iff.2 q0
  have hf0' : ¬ f = 0 := by omega
  have k3 : (fu.map encI ++ List.replicate (us.length - f) AVal.undef).take f = fu.map encI := by
    rw [List.take_append_of_le_length (by simp [hfe]), List.take_of_length_le (by simp [hfe])]
  have k4 := chunkI fu f hfe
  have k5 : ∀ x ∈ fu.map encI, x.tree = true := List.all_eq_true.1 (encI_tree fu)
  have hu0 : 0 < us.length := List.length_pos_iff.2 hne
  have k6 : f + (us.length - f) = us.length := by omega
  rcases hv with hv | ⟨j, t, hv, htj, hcj⟩
  · rw [if_pos (by rw [hv]; decide)] at v6
    rw [hv] at h46
    simp
    refine ⟨_, _, .inl (by simpa using k44'), by simp, ?_⟩
    simp
    refine ⟨_, _, .inl (by simpa using hdel), by simp, ?_⟩
    simp [hu0, hfe, hf0, hf0', k3, k4, k6]
    refine ⟨_, _, .inl (by simpa using h46 _), by simp, ?_⟩
    simp [v6]
  rw [hv, if_neg (by omega), Int.toNat_natCast] at v6
  rw [hv] at h46
  have htd : ts.getD j tun0 = t := by rw [List.getD_eq_getElem?_getD, htj]; rfl
  rw [htd] at v6
  obtain ⟨hb0, hjc⟩ := hcand j t hcj
  have htm := List.mem_of_getElem? htj
  obtain ⟨hp30, hb1, hhi⟩ := hts t htm
  have hj : j < r := by rw [← hr]; exact (List.getElem?_eq_some_iff.1 htj).1
  have hnd : (ch ++ [(j : Int)]).Nodup := by
    rw [List.nodup_append]
    refine ⟨v3, by simp, fun a ha b hb e => ?_⟩
    simp at hb
    subst hb
    subst e
    exact hjc ha
  have hrb : ∀ x ∈ ch ++ [(j : Int)], 0 ≤ x ∧ x < r := by
    intro x hx
    rcases List.mem_append.1 hx with hx | hx
    · exact v4 x hx
    · simp at hx; subst hx; omega
  have hcl := nodup_len_int hnd hrb
  simp only [List.length_append, List.length_cons, List.length_nil] at hcl
  have k41 := fun H => (t41 l n hn (by omega) t.P t.P.length rfl (by omega)).up' H rfl rfl
  have hwr := usesL_range l t.P
  have hwl : (usesL l t.P).length ≤ 30 := by rw [usesL_len]; omega
  clear hcand hcj
  generalize usesL l t.P = uv at *
  obtain ⟨w, hw⟩ : ∃ w, uv.length = w := ⟨_, rfl⟩
  rw [hw] at hwl
  obtain ⟨h, hh⟩ : ∃ h : Nat, h = t.W.Hold.toNat := ⟨_, rfl⟩
  rw [← hh] at v6
  have hmx : (if t.W.Hold < 0 then (0 : Int) else t.W.Hold) = (h : Int) := by rw [hh]; split <;> omega
  unfold inI at hhi
  have s1 : ch.length + 1 ≤ 140737488355328 := by omega
  have s2 : (ch.length + 1) * 8 ≤ 140737488355328 := by omega
  have j0 : ¬ (j : Int) < 0 := by omega
  simp
  refine ⟨_, _, .inl (by simpa using k44'), by simp, ?_⟩
  simp
  refine ⟨_, _, .inl (by simpa using hdel), by simp, ?_⟩
  simp [hu0, hfe, hf0, hf0', k3, k4, k6]
  refine ⟨_, _, .inl (by simpa using h46 _), by simp, ?_⟩
  simp [j0, hj, hr, htj, gE htj, v2, s1, s2]
  refine ⟨_, _, .inl (by simpa using k41 _), by simp, ?_⟩
  simp [hw]
  refine LoopK.intro (tr := [60, 64, 10000014000006]) mixed (by kernel_rfl) (fun s : Nat × List Lnk => [(0, .sl 13 (l.map encL) .sh), (1, .sl 12 (ts.map encT) .sh), (7, .ptr 0 0), (10, .sl 1 (us.map encI) .sh), (11, .ptr 2 0), (12, .sl 1 ((ch ++ [(j : Int)]).map encI) .own), (13, .sl 1 ((ids ++ [t.ID]).map encI) .own), (15, .int .i64 j), (78, .sl 1 (uv.map encI) .sh), (79, .int .i64 w), (80, .int .i64 s.1)]) (fun s => [cellsC c, rowC cellsL s.2, [.osl 1 0 n none 13]])
    (fun s => s.1 ≤ w ∧ s.2.length = n ∧ (∀ x ∈ s.2, ∀ k, k < 8 → -1125899906842624 - 32985348833280 * ch.length - 1099511627776 * s.1 ≤ x.Fr k ∧ x.Fr k ≤ 1125899906842624 + 32985348833280 * ch.length + 1099511627776 * s.1) ∧ chA t.W.Band h uv rm = chA t.W.Band h (uv.drop s.1) s.2) (fun s => w - s.1) (0, rm) ?_ ?_ ?_
  · exact ⟨Nat.zero_le _, v1, fun x hx k hk => by have := v5 x hx k hk; simp; omega, rfl⟩
  · simp [hle]
  clear h46 k41 v5 hdel k44 k44'
  rintro ⟨q, cur⟩ ⟨q1, q2, q3, q4⟩
  simp only at q1 q2 q3 q4
  by_cases hq : q < w
  case neg =>
    have : q = w := by omega
    subst this
    rw [List.drop_eq_nil_of_le (by omega), chA_nil] at q4
    rw [q4] at v6
    simp
    refine ⟨⟨cur, ch ++ [(j : Int)], ids ++ [t.ID]⟩, ⟨⟨q2, by simp [v2], hnd, hrb⟩, fun x hx k hk => ?_, ?_⟩, ?_, ?_⟩
    · have := q3 x hx k hk
      simp only [List.length_append, List.length_cons, List.length_nil]
      omega
    · rw [v6]
      simp only [List.length_append, List.length_cons, List.length_nil]
      congr 1
      omega
    · simp only [List.length_append, List.length_cons, List.length_nil]
      omega
    · simp [hle]
  obtain ⟨v, hvq⟩ : ∃ v, uv[q]? = some v := ⟨_, List.getElem?_eq_getElem (by omega)⟩
  obtain ⟨u0, u1⟩ := hwr v (List.mem_of_getElem? hvq)
  have hdd : uv.drop q = v :: uv.drop (q + 1) := by
    obtain ⟨k1, k2⟩ := List.getElem?_eq_some_iff.1 hvq
    rw [List.drop_eq_getElem_cons k1, k2]
  rw [hdd] at q4
  have w1 : IntKind.i64.wrap ((q : Int) + 1) = q + 1 := wrap_in (by omega)
  by_cases hm1 : v = -1
  · subst hm1
    rw [chA_skip] at q4
    simp [hq, hw, hvq, gE hvq, hj, hr, htj, gE htj, hmx]
    refine LoopK.intro (tr := [60, 64, 10000014000006]) mixed (by kernel_rfl) (fun _ : Nat => [(0, .sl 13 (l.map encL) .sh), (1, .sl 12 (ts.map encT) .sh), (7, .ptr 0 0), (10, .sl 1 (us.map encI) .sh), (11, .ptr 2 0), (12, .sl 1 ((ch ++ [(j : Int)]).map encI) .own), (13, .sl 1 ((ids ++ [t.ID]).map encI) .own), (15, .int .i64 j), (17, .int .i64 (-1)), (18, .int .i64 h), (78, .sl 1 (uv.map encI) .sh), (79, .int .i64 w), (80, .int .i64 q)]) (fun _ => [cellsC c, rowC cellsL cur, [.osl 1 0 n none 13]]) (fun _ => True) (fun i => i) 0 trivial (by simp [hle]) ?_
    intro _ _
    simp [w1]
    exact ⟨q + 1, cur, ⟨by omega, q2, fun x hx k hk => by have := q3 x hx k hk; omega, q4⟩, by omega, by simp [hle]⟩
  obtain ⟨i, rfl⟩ : ∃ i : Nat, v = i := ⟨v.toNat, by omega⟩
  have hi : i < n := by omega
  obtain ⟨x, hx⟩ : ∃ x, cur[i]? = some x := ⟨_, List.getElem?_eq_getElem (by omega)⟩
  rw [← chA_cons hx] at q4
  have hxb := q3 x (List.mem_of_getElem? hx)
  have i0 : (0 : Int) ≤ i := by omega
  simp [hq, hw, hvq, gE hvq, hj, hr, htj, gE htj, hmx]
  refine LoopK.intro (tr := [60, 64, 10000014000006]) mixed (by kernel_rfl) (fun s : Nat × Lnk => [(0, .sl 13 (l.map encL) .sh), (1, .sl 12 (ts.map encT) .sh), (7, .ptr 0 0), (10, .sl 1 (us.map encI) .sh), (11, .ptr 2 0), (12, .sl 1 ((ch ++ [(j : Int)]).map encI) .own), (13, .sl 1 ((ids ++ [t.ID]).map encI) .own), (15, .int .i64 j), (17, .int .i64 i), (18, .int .i64 s.1), (78, .sl 1 (uv.map encI) .sh), (79, .int .i64 w), (80, .int .i64 q)]) (fun s => [cellsC c, rowC cellsL (cur.set i s.2), [.osl 1 0 n none 13]])
    (fun s => h ≤ s.1 ∧ (s.1 ≤ 8 ∨ s.1 = h) ∧ (∀ k, k < 8 → -1125899906842624 - 32985348833280 * ch.length - 1099511627776 * ((q + 1 : Nat) : Int) ≤ s.2.Fr k ∧ s.2.Fr k ≤ 1125899906842624 + 32985348833280 * ch.length + 1099511627776 * ((q + 1 : Nat) : Int)) ∧ (∀ k, s.1 ≤ k → s.2.Fr k = x.Fr k) ∧ chR h t.W.Band x = chR s.1 t.W.Band s.2) (fun s => 8 - s.1) (h, x) ?_ ?_ ?_
  · exact ⟨Nat.le_refl _, .inr rfl, fun k hk => by have := hxb k hk; show _ ≤ x.Fr k ∧ x.Fr k ≤ _; constructor <;> omega, fun _ _ => rfl, rfl⟩
  · have hsame : cur.set i x = cur := by
      apply List.ext_getElem?
      intro j'
      rw [List.getElem?_set]
      split
      · rename_i e; subst e; rw [if_pos (by omega), hx]
      · rfl
    simp [hsame, hle]
  rintro ⟨k, z⟩ ⟨p1, p2, p3, p5, p4⟩
  simp only at p1 p2 p3 p4 p5
  have hsl : (cur.set i z).length = n := by rw [List.length_set]; exact q2
  by_cases hk : k < 8
  case neg =>
    have hk' : ¬ (k : Int) < 8 := by omega
    rw [chR_ge (h := k) (by omega)] at p4
    rw [p4] at q4
    simp [i0, hk, hk', w1]
    refine ⟨q + 1, cur.set i z, ⟨by omega, hsl, fun y hy => ?_, q4⟩, by omega, by simp [hle]⟩
    rcases List.mem_or_eq_of_mem_set hy with hy | rfl
    · intro k hk
      have := q3 y hy k hk
      omega
    · exact p3
  have hk' : (k : Int) < 8 := by omega
  have hk7 : k ≤ 7 := by omega
  have hz : (cur.set i z)[i]? = some z := by rw [List.getElem?_set_self (by omega)]
  have hg := rowL_get hz hk
  have hset := rowL_set hz hk (z.Fr k + t.W.Band)
  rw [List.set_set] at hset
  have hrc := hrl (cur.set i z)
  rw [hsl] at hrc
  have hzx := p5 k (Nat.le_refl _)
  have hxk := hxb k hk
  have hv : -1125899906842624 - 32985348833280 * (ch.length : Int) - 1099511627776 * ((q + 1 : Nat) : Int) ≤ z.Fr k + t.W.Band ∧ z.Fr k + t.W.Band ≤ 1125899906842624 + 32985348833280 * (ch.length : Int) + 1099511627776 * ((q + 1 : Nat) : Int) := by
    rw [hzx]
    constructor <;> omega
  have w2 : IntKind.i64.wrap ((k : Int) + 1) = k + 1 := wrap_in (by omega)
  have w3 : IntKind.i64.wrap (z.Fr k + t.W.Band) = z.Fr k + t.W.Band := wrap_in (by omega)
  have b1 : i * 13 + 4 + k < n * 13 := by omega
  have b2 : i * 13 + 4 + k + 1 ≤ n * 13 := by omega
  have hst := chR_step hk t.W.Band z
  simp [i0, hk, hk', hk7, hi, hg, gE hg, hrc, b1, b2, hj, hr, htj, gE htj, w3]
  simp [hset, w2]
  refine ⟨k + 1, setF z k (z.Fr k + t.W.Band), ⟨by omega, by omega, fun j hj => ?_, fun j hj => ?_, by rw [hst]; exact p4⟩, by omega, by simp [hle]⟩
  · show _ ≤ updF z.Fr k (z.Fr k + t.W.Band) j ∧ updF z.Fr k (z.Fr k + t.W.Band) j ≤ _
    unfold updF
    split
    · exact hv
    · exact p3 j hj
  · show updF z.Fr k (z.Fr k + t.W.Band) j = x.Fr j
    unfold updF
    rw [if_neg (by omega)]
    exact p5 j (by omega)
end Go.Proofs.Ytpmmnnaaoideeaa

/- tunnel.Teardown, by the program. -/
namespace Go.Proofs.Ytpmmnnaaoideeaa
open Go Go.Am Go.Wk

def idT (ts : List Tun) (id : Int) : Int := idxL (isID id) ts 0
/-- What Teardown answers. -/
def tdN (l : List Lnk) (ts : List Tun) (id : Int) : List Lnk × List Tun × Int :=
  if idT ts id < 0 then ([], [], 6)
  else
    let x := ts.getD (idT ts id).toNat tun0
    let r := if x.P = [] then (l, 0) else relN l x
    if r.2 ≠ 0 then ([], [], r.2) else (r.1, ts.eraseIdx (idT ts id).toNat, 0)
set_option maxHeartbeats 8000000 in
set_option maxRecDepth 10000 in
theorem t23 (l : List Lnk) (n : Nat) (hn : l.length = n) (hn2 : n < 1000000) (hF : ∀ x ∈ l, okF x) (ts : List Tun) (r : Nat) (hr : ts.length = r) (hr2 : r ≤ 100000) (hs : ∀ t ∈ ts, smT t ∧ t.P.length < 1000000) (id : Int) :
    CFun Try.prog 23 [.sl 13 (l.map encL) .sh, .sl 12 (ts.map encT) .sh, .int .i64 id] [] (.tup [.sl 13 ((tdN l ts id).1.map encL) .sh, .sl 12 ((tdN l ts id).2.1.map encT) .sh, .int .i64 (tdN l ts id).2.2]) [] := by
  refine CFun.intro (tr := []) (fz := []) (n := 45) (rs := [.tmp 6, .tmp 7, .tmp 8]) Try.func23 rfl (by kernel_rfl) rfl rfl mixed (by kernel_rfl) (by simp) (by simp) ?_
  have h51 := t51 ts r hr (by omega) 52 [.int .i64 id] id (by simp) (t52 id)
  have h34 := fun H => (t34d l (by omega)).up' H rfl rfl
  rcases idxL_spec (isID id) ts 0 with ⟨e1, e2⟩ | ⟨i, e1, e2, e3⟩
  · rw [e1] at h51
    have : tdN l ts id = ([], [], 6) := by unfold tdN idT; rw [e1]; rfl
    rw [this]
    simp
    refine ⟨_, _, .inl (by simpa using h51), by simp, ?_⟩
    simp
  · rw [e1, Nat.zero_add] at h51
    have hid : idT ts id = i := by unfold idT; rw [e1, Nat.zero_add]
    have hi : i < r := by rw [← hr]; exact e2
    obtain ⟨x, hx⟩ : ∃ x, ts[i]? = some x := ⟨_, List.getElem?_eq_getElem (by omega)⟩
    have hxm := List.mem_of_getElem? hx
    have htd : tdN l ts id = if (if x.P = [] then (l, 0) else relN l x).2 ≠ 0 then ([], [], (if x.P = [] then (l, 0) else relN l x).2) else ((if x.P = [] then (l, 0) else relN l x).1, ts.eraseIdx i, 0) := by
      unfold tdN
      rw [hid, if_neg (by omega)]
      simp only [Int.toNat_natCast]
      rw [List.getD_eq_getElem?_getD, hx]
      rfl
    have w1 : IntKind.i64.wrap ((i : Int) + 1) = i + 1 := wrap_in (by omega)
    have h54 : CFun Try.prog 54 [.sl 12 (ts.map encT) .sh] [[AVal.int .i64 id]] (.osl 1 0 r none 12) [[AVal.int .i64 id], rowC ceT ts] := (t54r ts r hr (by omega) (by omega) fun t ht => (hs t ht).1).upNew [[AVal.int .i64 id]] (eT.rowNoid ts) (by simp [noid, noid0]) rfl
    have h53 : CFun Try.prog 53 [.osl 1 0 r none 12, .int .i64 i, .int .i64 (i + 1)] [[AVal.int .i64 id], rowC ceT ts] (.sl 12 ((ts.eraseIdx i).map encT) .sh) [[AVal.int .i64 id], []] := (t53 ts i r hr (by omega) hi).at (H := [[AVal.int .i64 id], rowC ceT ts]) (id := 1) rfl (eT.rowNoid ts) rfl (by simp [low]) rfl
    have h15 := fun H => (t15 l n hn hn2 hF x _ rfl (hs x hxm).2).up' H (by simp [noid, noid0]) (by simp [noid, noid0])
    rw [htd]
    by_cases hp : x.P = []
    · simp only [hp, if_true]
      simp [hid]
      refine ⟨_, _, .inl (by simpa using h51), by simp, ?_⟩
      simp
      refine ⟨_, _, .inl (by simpa using h34 _), by simp, ?_⟩
      simp [hr, hi, hx, gE hx, hp, w1]
      refine ⟨_, _, .inl (by simpa using h54), by simp, ?_⟩
      simp
      refine ⟨_, _, .inl (by simpa [w1] using h53), by simp, ?_⟩
      simp
    · simp only [hp, if_false]
      generalize relN l x = q at *
      have hp' : 0 < x.P.length := List.length_pos_iff.2 hp
      simp [hid]
      refine ⟨_, _, .inl (by simpa using h51), by simp, ?_⟩
      simp
      refine ⟨_, _, .inl (by simpa using h34 _), by simp, ?_⟩
      simp [hr, hi, hx, gE hx, hp, hp', w1]
      refine ⟨_, _, .inl (by simpa using h15 _), by simp, ?_⟩
      by_cases hq : q.2 = 0
      · simp [hq]
        refine ⟨_, _, .inl (by simpa using h54), by simp, ?_⟩
        simp
        refine ⟨_, _, .inl (by simpa [w1] using h53), by simp, ?_⟩
        simp
      · simp [hq]
end Go.Proofs.Ytpmmnnaaoideeaa
