/- The law of the tunnels that give way, by the program. -/
import Derived.Test.YtpmmnnaaoideeaaT25
import Derived.Test.YtpmmnnaaoideeaaT41
import Derived.Test.YtpmmnnaaoideeaaAmU
import Derived.Test.YtpmmnnaaoideeaaRows
import Derived.JoinedOf
import Derived.Test.YtpmmnnaaoideeaaTL2
set_option linter.unusedSimpArgs false
set_option linter.unusedVariables false
namespace Go.Proofs.Ytpmmnnaaoideeaa
open Go Go.Am Go.Wk

theorem vicL_len (l : List Lnk) (ts : List Tun) (us : List Int) (c : Con) : ∀ (f : Nat) (r : List Lnk) (ch ids : List Int), (vicL l ts us c f r ch ids).1.length ≤ ids.length + f := by
  intro f
  induction f with
  | zero => intro r ch ids; simp [vicL]
  | succ f ih =>
    intro r ch ids
    simp only [vicL]
    split
    · simp
    split
    · simp
    · refine Nat.le_trans (ih _ _ _) ?_
      simp
      omega
theorem vicN_len (l : List Lnk) (ts : List Tun) (p : List Int) (c : Con) : (vicN l ts p c).1.length ≤ ts.length + 1 := by
  unfold vicN
  split
  · simp
  split
  · simp
  · have := vicL_len l ts (usesL l p) c (ts.length + 1) l [] []
    simpa using this
end Go.Proofs.Ytpmmnnaaoideeaa

/- What gives way: less important, in order, and all needed. No program. -/
namespace Go.Proofs.Ytpmmnnaaoideeaa
open Go Go.Am Go.Wk

theorem vicF_max (cand : Nat → Tun → Bool) (ts : List Tun) : ∀ (r : List Tun) (i : Nat) (b : Int), r = ts.drop i → (-1 ≤ b) →
    (∀ (j : Nat) (t : Tun), j < i → ts[j]? = some t → cand j t = true → 0 ≤ b ∧ t.W.Hold ≤ (ts.getD b.toNat tun0).W.Hold) →
    ∀ (j : Nat) (t : Tun), ts[j]? = some t → cand j t = true → 0 ≤ vicF cand ts b i r ∧ t.W.Hold ≤ (ts.getD (vicF cand ts b i r).toNat tun0).W.Hold := by
  intro r
  induction r with
  | nil =>
    intro i b h _ hm j t hj hc
    have hl : ts.length ≤ i := by
      have := congrArg List.length h
      simp at this
      omega
    exact hm j t (by have := (List.getElem?_eq_some_iff.1 hj).1; omega) hj hc
  | cons t0 r ih =>
    intro i b h hb hm j t hj hc
    have ht : ts[i]? = some t0 := by
      have := congrArg (fun l => l[0]?) h
      simpa using this.symm
    have hr : r = ts.drop (i + 1) := by
      have := congrArg List.tail h
      simpa using this
    have htd : ts.getD i tun0 = t0 := by rw [List.getD_eq_getElem?_getD, ht]; rfl
    simp only [vicF]
    refine ih (i + 1) _ hr (by split <;> omega) (fun j' t' h1 h2 h3 => ?_) j t hj hc
    by_cases g : (cand i t0 && (decide (b < 0) || betT t0 (ts.getD b.toNat tun0))) = true
    · rw [if_pos g]
      refine ⟨by omega, ?_⟩
      rw [Int.toNat_natCast, htd]
      by_cases e : j' = i
      · subst e
        rw [ht] at h2
        injection h2 with h2
        subst h2
        exact Int.le_refl _
      · obtain ⟨k1, k2⟩ := hm j' t' (by omega) h2 h3
        simp only [Bool.and_eq_true, Bool.or_eq_true, decide_eq_true_eq] at g
        rcases g.2 with g | g
        · omega
        · unfold betT at g
          simp only [Bool.or_eq_true, Bool.and_eq_true, decide_eq_true_eq] at g
          omega
    · rw [if_neg g]
      by_cases e : j' = i
      · subst e
        rw [ht] at h2
        injection h2 with h2
        subst h2
        rw [h3, Bool.true_and] at g
        simp only [Bool.or_eq_true, decide_eq_true_eq, not_or] at g
        refine ⟨by omega, ?_⟩
        have g2 := g.2
        unfold betT at g2
        simp only [Bool.or_eq_true, Bool.and_eq_true, decide_eq_true_eq, not_or] at g2
        omega
      · exact hm j' t' (by omega) h2 h3
/-- What the tunnels that were not chosen take. -/
def totX (l : List Lnk) (ch : List Int) : Nat → List Tun → Nat → Nat → Int
  | _, [], _, _ => 0
  | j, t :: ts, i, k => (if (j : Int) ∈ ch then 0 else oneT l t i k) + totX l ch (j + 1) ts i k
theorem totX_nil (l : List Lnk) : ∀ (ts : List Tun) (j i k : Nat), totX l [] j ts i k = totT l ts i k
  | [], _, _, _ => rfl
  | t :: ts, j, i, k => by simp only [totX, totT, totX_nil l ts]; simp
theorem totX_nn {l : List Lnk} {ch : List Int} : ∀ {ts : List Tun}, (∀ t ∈ ts, okA l t) → ∀ j i k, 0 ≤ totX l ch j ts i k
  | [], _, _, _, _ => by simp [totX]
  | t :: ts, h, j, i, k => by
    have h1 := oneT_bd (h t (by simp)) i k
    have h2 := totX_nn (ch := ch) (fun t ht => h t (List.mem_cons_of_mem _ ht)) (j + 1) i k (ts := ts)
    simp only [totX]
    split <;> omega
theorem totX_out {l : List Lnk} {ch : List Int} {v : Int} : ∀ (ts : List Tun) (j i k : Nat), v < j → totX l (ch ++ [v]) j ts i k = totX l ch j ts i k
  | [], _, _, _, _ => rfl
  | t :: ts, j, i, k, h => by
    simp only [totX, totX_out (l := l) (ch := ch) (v := v) ts (j + 1) i k (by omega)]
    congr 1
    have : ((j : Int) ∈ ch ++ [v]) ↔ (j : Int) ∈ ch := by simp; omega
    by_cases e : (j : Int) ∈ ch
    · rw [if_pos e, if_pos (this.2 e)]
    · rw [if_neg e, if_neg (fun h => e (this.1 h))]
theorem totX_add {l : List Lnk} {ch : List Int} {v : Nat} (hv : (v : Int) ∉ ch) : ∀ (ts : List Tun) (j i k : Nat) (t : Tun), j ≤ v → ts[v - j]? = some t → totX l (ch ++ [(v : Int)]) j ts i k = totX l ch j ts i k - oneT l t i k
  | [], _, _, _, _, _, h => by simp at h
  | t0 :: ts, j, i, k, t, hj, h => by
    simp only [totX]
    by_cases e : j = v
    · subst e
      rw [Nat.sub_self] at h
      simp at h
      subst h
      rw [if_pos (by simp), if_neg hv, totX_out (l := l) (ch := ch) (v := (j : Int)) ts (j + 1) i k (by omega)]
      omega
    · have h' : ts[v - (j + 1)]? = some t := by
        rw [show v - j = (v - (j + 1)) + 1 by omega] at h
        simpa using h
      rw [totX_add hv ts (j + 1) i k t (by omega) h']
      have : ((j : Int) ∈ ch ++ [(v : Int)]) ↔ (j : Int) ∈ ch := by simp; omega
      by_cases e2 : (j : Int) ∈ ch
      · rw [if_pos e2, if_pos (this.2 e2)]; omega
      · rw [if_neg e2, if_neg (fun h => e2 (this.1 h))]; omega
/-- Where the loop of the law stands. -/
structure GI (l : List Lnk) (ts : List Tun) (us : List Int) (c : Con) (out : List Int) (r : List Lnk) (ch ids : List Int) (H : Int) : Prop where
  len : r.length = l.length
  us_ : ∀ q, usesL r q = usesL l q
  nd : ch.Nodup
  rg : ∀ x ∈ ch, 0 ≤ x ∧ x < ts.length
  id : ids = ch.map fun x => (ts.getD x.toNat tun0).ID
  fr : ∀ (i : Nat) (x : Lnk), r[i]? = some x → (0 ≤ x.Cap ∧ x.Cap ≤ 1099511627776) ∧ ∀ k, k < 8 → x.Fr k = x.Cap - totX l ch 0 ts i k
  h : ∀ (j : Nat) (t : Tun), ts[j]? = some t → candP l (us.filter fun x => !fullP r c.Band x) c ch j t = true → t.W.Hold ≤ H
  run : ∃ f, ts.length + 1 ≤ f + ch.length ∧ vicL l ts us c f r ch ids = (out, 0)
theorem GI.start {l : List Lnk} {ts : List Tun} {us : List Int} {c : Con} {out : List Int} (hts : ∀ t ∈ ts, okA l t) (hC : ∀ x ∈ l, 0 ≤ x.Cap ∧ x.Cap ≤ 1099511627776) (ha : agreeP l ts) (hv : vicL l ts us c (ts.length + 1) l [] [] = (out, 0)) : GI l ts us c out l [] [] 8 := by
  refine ⟨rfl, fun _ => rfl, List.nodup_nil, by simp, rfl, fun i x hx => ⟨hC x (List.mem_of_getElem? hx), fun k hk => ?_⟩, fun j t ht _ => ?_, ⟨ts.length + 1, by simp, hv⟩⟩
  · rw [totX_nil]; exact ha i x hx k hk
  · have := (hts t (List.mem_of_getElem? ht)).h7; omega
theorem vicL_pre (l : List Lnk) (ts : List Tun) (us : List Int) (c : Con) : ∀ (f : Nat) (r : List Lnk) (ch ids out : List Int), vicL l ts us c f r ch ids = (out, 0) → ∃ z, out = ids ++ z := by
  intro f
  induction f with
  | zero => intro r ch ids out h; simp [vicL] at h
  | succ f ih =>
    intro r ch ids out h
    simp only [vicL] at h
    split at h
    · simp at h; exact ⟨[], by simp [h]⟩
    split at h
    · simp at h
    · obtain ⟨z, hz⟩ := ih _ _ _ _ h
      exact ⟨_, by rw [hz, List.append_assoc]⟩
/-- When all have given way. -/
theorem GI.done {l : List Lnk} {ts : List Tun} {us : List Int} {c : Con} {out : List Int} {r : List Lnk} {ch : List Int} {H : Int} (g : GI l ts us c out r ch out H) : roomB r c.Band us = true := by
  obtain ⟨f, h1, h2⟩ := g.run
  rw [room_fu]
  cases f with
  | zero => simp [vicL] at h2
  | succ f =>
    simp only [vicL] at h2
    by_cases q : (us.filter fun x => !fullP r c.Band x) = []
    · exact decide_eq_true q
    · rw [if_neg q] at h2
      split at h2
      · simp at h2
      · obtain ⟨z, hz⟩ := vicL_pre _ _ _ _ _ _ _ _ _ h2
        have := congrArg List.length hz
        simp at this
theorem GI.next {l : List Lnk} {ts : List Tun} {us : List Int} {c : Con} {out : List Int} {r : List Lnk} {ch ids : List Int} {H : Int} (hts : ∀ t ∈ ts, okA l t) (hasc : ts.Pairwise fun a b => a.ID < b.ID) (hus : ∀ u ∈ us, 0 ≤ u ∧ u < l.length) (g : GI l ts us c out r ch ids H) {x : Int} (hx : out[ids.length]? = some x) :
    ∃ (j : Nat) (t : Tun), ts[j]? = some t ∧ t.ID = x ∧ c.Setup < t.W.Hold ∧ t.W.Hold ≤ H ∧ t.P ≠ [] ∧ roomB r c.Band us = false ∧ relN r t = (chA t.W.Band t.W.Hold.toNat (usesL l t.P) r, 0) ∧ x ∉ ids ∧ GI l ts us c out (chA t.W.Band t.W.Hold.toNat (usesL l t.P) r) (ch ++ [(j : Int)]) (ids ++ [x]) t.W.Hold := by
  obtain ⟨f, h1, h2⟩ := g.run
  cases f with
  | zero => simp [vicL] at h2
  | succ f =>
  simp only [vicL] at h2
  by_cases q : (us.filter fun x => !fullP r c.Band x) = []
  · rw [if_pos q] at h2
    simp at h2
    rw [h2] at hx
    simp at hx
  rw [if_neg q] at h2
  have hroom : roomB r c.Band us = false := by rw [room_fu]; exact decide_eq_false q
  have hsp := vicF_spec (candP l (us.filter fun x => !fullP r c.Band x) c ch) ts ts 0 (-1) (by simp)
  have hmx := vicF_max (candP l (us.filter fun x => !fullP r c.Band x) c ch) ts ts 0 (-1) (by simp) (by omega) (fun j t hj => by omega)
  split at h2
  · simp at h2
  rename_i hv
  rcases hsp with e | ⟨j, t, e, htj, hcj⟩
  · rw [e] at hv; omega
  rw [e] at h2 hmx
  have htd : ts.getD j tun0 = t := by rw [List.getD_eq_getElem?_getD, htj]; rfl
  simp only [Int.toNat_natCast, htd] at h2 hmx
  have htm := List.mem_of_getElem? htj
  have ok := hts t htm
  have hjl := (List.getElem?_eq_some_iff.1 htj).1
  have hc2 := hcj
  unfold candP at hc2
  simp only [Bool.and_eq_true, Bool.not_eq_true', Bool.or_eq_false_iff, decide_eq_false_iff_not] at hc2
  obtain ⟨⟨⟨d1, d2⟩, d3⟩, d4⟩ := hc2
  have hjc : (j : Int) ∉ ch := by
    intro hh
    rw [← hasB_iff] at hh
    rw [hh] at d3
    cases d3
  obtain ⟨z, hz⟩ := vicL_pre _ _ _ _ _ _ _ _ _ h2
  have hxt : t.ID = x := by
    rw [hz, List.append_assoc, List.getElem?_append_right (Nat.le_refl _), Nat.sub_self] at hx
    simpa using hx
  have hP : t.P ≠ [] := by
    intro e
    rw [e] at d4
    simp [usesL] at d4
  have hur := g.us_ t.P
  have hpr : pathE r t = 0 := by
    unfold pathE
    rw [if_neg (by have := ok.h0; have := ok.h7; have := ok.b0; have := ok.b1; omega), hur]
    have : ¬ hasB (usesL l t.P) (-1) = true := by
      rw [hasB_iff]
      intro hm
      have := (ok.us _ hm).1
      omega
    rw [if_neg this]
  have hh8 : t.W.Hold.toNat ≤ 8 := by have := ok.h7; omega
  have hone : ∀ i k, t.W.Hold.toNat ≤ k → oneT l t i k = t.W.Band * (cntI i (usesL l t.P) : Int) := by
    intro i k hk
    unfold oneT takenF
    rw [if_pos (by have := ok.h0; omega)]
  have hone0 : ∀ i k, ¬ t.W.Hold.toNat ≤ k → oneT l t i k = 0 := by
    intro i k hk
    unfold oneT takenF
    rw [if_neg (by have := ok.h0; omega), Int.zero_mul]
  have hfr' : ∀ (i : Nat) (y : Lnk), (chA t.W.Band t.W.Hold.toNat (usesL l t.P) r)[i]? = some y → (0 ≤ y.Cap ∧ y.Cap ≤ 1099511627776) ∧ ∀ k, k < 8 → y.Fr k = y.Cap - totX l (ch ++ [(j : Int)]) 0 ts i k := by
    intro i y hy
    rw [chA_get, Option.map_eq_some_iff] at hy
    obtain ⟨w, hw, rfl⟩ := hy
    obtain ⟨w1, w2⟩ := g.fr i w hw
    refine ⟨w1, fun k hk => ?_⟩
    rw [totX_add hjc ts 0 i k t (Nat.zero_le _) (by simpa using htj)]
    have w3 := w2 k hk
    show (chR _ _ w).Fr k = w.Cap - _
    by_cases e : t.W.Hold.toNat ≤ k
    · rw [chR_fr e hk, hone i k e]; omega
    · have e2 : (chR t.W.Hold.toNat (t.W.Band * (cntI i (usesL l t.P) : Int)) w).Fr k = w.Fr k := by simp only [chR]; rw [if_neg (by omega)]
      rw [e2, hone0 i k e]; omega
  have hrel : relN r t = (chA t.W.Band t.W.Hold.toNat (usesL l t.P) r, 0) := by
    unfold relN
    rw [if_neg (by simpa using hpr), hur, add_yes ok.b0 hh8 (by rw [g.len]; exact ok.us)]
    intro i y hy _ k _ k2
    obtain ⟨w1, w2⟩ := hfr' i y hy
    have := totX_nn (ch := ch ++ [(j : Int)]) hts 0 i k
    rw [w2 k k2]
    omega
  have hids : x ∉ ids := by
    rw [g.id]
    intro hm
    obtain ⟨v, hv, he⟩ := List.mem_map.1 hm
    obtain ⟨v0, v1⟩ := g.rg v hv
    obtain ⟨i, rfl⟩ : ∃ i : Nat, v = i := ⟨v.toNat, by omega⟩
    have hil : i < ts.length := by omega
    have hij : i ≠ j := by rintro rfl; exact hjc hv
    rw [Int.toNat_natCast, List.getD_eq_getElem?_getD, List.getElem?_eq_getElem hil] at he
    simp only [Option.getD_some] at he
    have hjt : ts[j] = t := (List.getElem?_eq_some_iff.1 htj).2
    rw [List.pairwise_iff_getElem] at hasc
    rcases Nat.lt_or_gt_of_ne hij with h | h
    · have := hasc i j hil hjl h
      rw [hjt] at this; omega
    · have := hasc j i hjl hil h
      rw [hjt] at this; omega
  refine ⟨j, t, htj, hxt, by omega, g.h j t htj hcj, hP, hroom, hrel, hids, ?_⟩
  refine ⟨by rw [chA_len]; exact g.len, fun p => by rw [usesL_chA]; exact g.us_ p, ?_, ?_, ?_, hfr', ?_, ⟨f, ?_, ?_⟩⟩
  · rw [List.nodup_append]
    refine ⟨g.nd, by simp, fun a ha b hb e => ?_⟩
    simp at hb
    subst hb
    subst e
    exact hjc ha
  · intro v hv
    rcases List.mem_append.1 hv with hv | hv
    · exact g.rg v hv
    · simp at hv; subst hv; omega
  · rw [List.map_append, ← g.id]
    simp only [List.map_cons, List.map_nil, Int.toNat_natCast, htd, hxt]
  · intro j' t' h3 h4
    refine (hmx j' t' h3 ?_).2
    unfold candP at h4 ⊢
    simp only [Bool.and_eq_true, Bool.not_eq_true', Bool.or_eq_false_iff, decide_eq_false_iff_not, List.any_eq_true] at h4 ⊢
    obtain ⟨⟨⟨e1, e2⟩, e3⟩, u, e4, e5⟩ := h4
    refine ⟨⟨⟨e1, e2⟩, ?_⟩, u, e4, ?_⟩
    · cases hb : hasB ch (j' : Int) with
      | false => rfl
      | true =>
        rw [hasB_iff] at hb
        have : hasB (ch ++ [(j : Int)]) (j' : Int) = true := by rw [hasB_iff]; exact List.mem_append_left _ hb
        rw [this] at e3; cases e3
    · unfold inF at e5 ⊢
      simp only [Bool.and_eq_true, decide_eq_true_eq] at e5 ⊢
      refine ⟨e5.1, ?_⟩
      have e6 := e5.2
      rw [hasB_iff, List.mem_filter] at e6 ⊢
      refine ⟨e6.1, ?_⟩
      have e7 := e6.2
      obtain ⟨u0, u1⟩ := hus u e6.1
      obtain ⟨i, rfl⟩ : ∃ i : Nat, u = i := ⟨u.toNat, by omega⟩
      obtain ⟨w, hw⟩ : ∃ w, r[i]? = some w := ⟨_, List.getElem?_eq_getElem (by rw [g.len]; omega)⟩
      have hw' : (chA t.W.Band t.W.Hold.toNat (usesL l t.P) r)[i]? = some (chR t.W.Hold.toNat (t.W.Band * (cntI i (usesL l t.P) : Int)) w) := by rw [chA_get, hw]; rfl
      unfold fullP at e7 ⊢
      rw [Int.toNat_natCast, List.getD_eq_getElem?_getD, hw'] at e7
      rw [Int.toNat_natCast, List.getD_eq_getElem?_getD, hw]
      simp only [Option.getD_some, Bool.not_eq_true', decide_eq_false_iff_not] at e7 ⊢
      have h0 := Int.mul_nonneg ok.b0 (Int.natCast_nonneg (cntI i (usesL l t.P)))
      rw [chR_fr (by have := ok.h7; omega) (by omega)] at e7
      omega
  · simp only [List.length_append, List.length_cons, List.length_nil]; omega
  · rw [← hxt]; exact h2
end Go.Proofs.Ytpmmnnaaoideeaa

/- After Setup and Teardown links and tunnels agree. No program. -/
namespace Go.Proofs.Ytpmmnnaaoideeaa
open Go Go.Am Go.Wk

theorem tuns_iff {n : Int} {l : List Lnk} : ∀ {ts : List Tun} {p : Option Int}, tunsE n l p ts = 0 ↔ (∀ t ∈ ts, 1 ≤ t.ID ∧ tunE n l t = 0) ∧ (ts.Pairwise fun a b => a.ID < b.ID) ∧ ∀ q, p = some q → ∀ t ∈ ts, q < t.ID := by
  intro ts
  induction ts with
  | nil => intro p; simp [tunsE]
  | cons x ts ih =>
    intro p
    simp only [tunsE]
    by_cases g1 : x.ID < 1
    · rw [if_pos g1]
      refine ⟨fun h => (by cases h), fun h => ?_⟩
      have := (h.1 x (by simp)).1
      omega
    rw [if_neg g1]
    by_cases g2 : prevB p x.ID = true
    · rw [if_pos g2]
      refine ⟨fun h => (by cases h), fun h => ?_⟩
      cases p with
      | none => simp [prevB] at g2
      | some q =>
        have := h.2.2 q rfl x (by simp)
        simp only [prevB, decide_eq_true_eq] at g2
        omega
    rw [if_neg g2]
    by_cases g3 : tunE n l x = 0
    · rw [if_neg (by simpa using g3), ih]
      constructor
      · rintro ⟨h1, h2, h3⟩
        have hx := h3 x.ID rfl
        refine ⟨fun t ht => ?_, List.pairwise_cons.2 ⟨hx, h2⟩, fun q hq t ht => ?_⟩
        · rcases List.mem_cons.1 ht with rfl | ht
          · exact ⟨by omega, g3⟩
          · exact h1 t ht
        · subst hq
          simp only [prevB, decide_eq_true_eq] at g2
          rcases List.mem_cons.1 ht with rfl | ht
          · omega
          · have := hx t ht; omega
      · rintro ⟨h1, h2, h3⟩
        obtain ⟨k1, k2⟩ := List.pairwise_cons.1 h2
        exact ⟨fun t ht => h1 t (List.mem_cons_of_mem _ ht), k2, fun q hq t ht => by injection hq with hq; subst hq; exact k1 t ht⟩
    · rw [if_pos g3]
      exact ⟨fun h => absurd h g3, fun h => (h.1 x (by simp)).2⟩
theorem links_iff {n : Int} : ∀ {l : List Lnk} {p : Option Lnk}, (∀ x ∈ l, linkE n x = 0) → (l.Pairwise fun x y => x.From < y.From ∨ x.From = y.From ∧ x.To < y.To) → (∀ q, p = some q → ∀ y ∈ l, q.From < y.From ∨ q.From = y.From ∧ q.To < y.To) → linksE n p l = 0 := by
  intro l
  induction l with
  | nil => intro p _ _ _; rfl
  | cons x l ih =>
    intro p h1 h2 h3
    obtain ⟨k1, k2⟩ := List.pairwise_cons.1 h2
    simp only [linksE]
    rw [if_neg (by simpa using h1 x (by simp)), if_neg, ih (fun y hy => h1 y (List.mem_cons_of_mem _ hy)) k2 (fun q hq y hy => by injection hq with hq; subst hq; exact k1 y hy)]
    cases p with
    | none => simp [befL]
    | some q =>
      have := h3 q rfl x (by simp)
      simp [befL]
      omega
theorem linkE_of {n : Int} {x y : Lnk} (h : linkE n x = 0) (e1 : y.From = x.From) (e2 : y.To = x.To) (e3 : y.Cost = x.Cost) (e4 : y.Cap = x.Cap) (hb : ∀ k, k < 8 → 0 ≤ y.Fr k ∧ y.Fr k ≤ y.Cap) (hd : ∀ k, k + 1 < 8 → y.Fr (k + 1) ≤ y.Fr k) : linkE n y = 0 := by
  unfold linkE at h ⊢
  rw [e1, e2, e3, e4]
  by_cases g1 : x.From < 0 ∨ n ≤ x.From ∨ x.To < 0 ∨ n ≤ x.To
  · rw [if_pos g1] at h; cases h
  rw [if_neg g1] at h ⊢
  by_cases g2 : x.From = x.To
  · rw [if_pos g2] at h; cases h
  rw [if_neg g2] at h ⊢
  by_cases g3 : x.Cost < 1 ∨ 65535 < x.Cost ∨ x.Cap < 0 ∨ 1099511627776 < x.Cap
  · rw [if_pos g3] at h; cases h
  rw [if_neg g3]
  rw [e4] at hb
  rw [if_neg, if_neg]
  · have q := fun k hk => hd k hk
    have q0 := q 0 (by omega); have q1 := q 1 (by omega); have q2 := q 2 (by omega); have q3 := q 3 (by omega); have q4 := q 4 (by omega); have q5 := q 5 (by omega); have q6 := q 6 (by omega)
    simp only [frs, upF]
    simp only [Nat.zero_add, Nat.reduceAdd] at q0 q1 q2 q3 q4 q5 q6
    rw [if_neg (by omega), if_neg (by omega), if_neg (by omega), if_neg (by omega), if_neg (by omega), if_neg (by omega), if_neg (by omega)]
    decide
  · have q0 := hb 0 (by omega); have q1 := hb 1 (by omega); have q2 := hb 2 (by omega); have q3 := hb 3 (by omega); have q4 := hb 4 (by omega); have q5 := hb 5 (by omega); have q6 := hb 6 (by omega); have q7 := hb 7 (by omega)
    simp [frs, outF]
    omega
theorem linkE_fr {n : Int} {x : Lnk} (h : linkE n x = 0) : ∀ k, k < 8 → 0 ≤ x.Fr k ∧ x.Fr k ≤ x.Cap := by
  unfold linkE at h
  by_cases g1 : x.From < 0 ∨ n ≤ x.From ∨ x.To < 0 ∨ n ≤ x.To
  · rw [if_pos g1] at h; cases h
  rw [if_neg g1] at h
  by_cases g2 : x.From = x.To
  · rw [if_pos g2] at h; cases h
  rw [if_neg g2] at h
  by_cases g3 : x.Cost < 1 ∨ 65535 < x.Cost ∨ x.Cap < 0 ∨ 1099511627776 < x.Cap
  · rw [if_pos g3] at h; cases h
  rw [if_neg g3] at h
  by_cases g4 : (frs x).any (outF x.Cap) = true
  · rw [if_pos g4] at h; cases h
  simp only [frs, List.any_cons, List.any_nil, Bool.or_eq_true, outF, decide_eq_true_eq] at g4
  intro k hk
  match k, hk with
  | 0, _ | 1, _ | 2, _ | 3, _ | 4, _ | 5, _ | 6, _ | 7, _ => refine ⟨?_, ?_⟩ <;> (apply Decidable.byContradiction; intro hc; apply g4; simp; omega)
theorem tunE_us {n : Int} {l m : List Lnk} (h : ∀ p, usesL m p = usesL l p) (t : Tun) : tunE n m t = tunE n l t := by
  unfold tunE pathB
  rw [h]
theorem tunsE_us {n : Int} {l m : List Lnk} (h : ∀ p, usesL m p = usesL l p) : ∀ (ts : List Tun) (p : Option Int), tunsE n m p ts = tunsE n l p ts
  | [], _ => rfl
  | t :: ts, p => by simp only [tunsE, tunE_us h, tunsE_us h ts]
theorem totT_us {l m : List Lnk} (h : ∀ p, usesL m p = usesL l p) (i k : Nat) : ∀ (ts : List Tun), totT m ts i k = totT l ts i k
  | [] => rfl
  | t :: ts => by simp only [totT, oneT, h, totT_us h i k ts]
theorem totT_app (l : List Lnk) (i k : Nat) : ∀ (a b : List Tun), totT l (a ++ b) i k = totT l a i k + totT l b i k
  | [], b => by simp [totT]
  | t :: a, b => by simp only [List.cons_append, totT, totT_app l i k a b]; omega
theorem oneT_mono {l : List Lnk} {t : Tun} (ok : okA l t) (i : Nat) {k j : Nat} (h : k ≤ j) : oneT l t i k ≤ oneT l t i j := by
  unfold oneT
  refine Int.mul_le_mul_of_nonneg_right ?_ (Int.natCast_nonneg _)
  have := ok.b0
  unfold takenF
  split
  · rw [if_pos (by omega)]; exact Int.le_refl _
  · split <;> omega
theorem totT_mono {l : List Lnk} (i : Nat) {k j : Nat} (h : k ≤ j) : ∀ {ts : List Tun}, (∀ t ∈ ts, okA l t) → totT l ts i k ≤ totT l ts i j
  | [], _ => Int.le_refl _
  | t :: ts, ht => by
    have h1 := oneT_mono (ht t (by simp)) i h
    have h2 := totT_mono i h (fun t h => ht t (List.mem_cons_of_mem _ h)) (ts := ts)
    simp only [totT]
    omega
/-- What holds between links and tunnels. -/
structure Inv (n : Int) (l : List Lnk) (ts : List Tun) : Prop where
  ck : checkE n l con0 = 0
  tu : tunsE n l none ts = 0
  ag : agreeP l ts
  pl : ∀ t ∈ ts, t.P.length ≤ 30
theorem Inv.chk {n : Int} {l : List Lnk} {ts : List Tun} (h : Inv n l ts) (hl : ts.length ≤ 2000) : chkT n l ts = 0 := by
  unfold chkT
  rw [if_neg (by simpa using h.ck), if_neg (by omega), if_neg (by simpa using h.tu), if_pos (agreeB_yes h.ag)]
theorem chk_parts {n : Int} {l : List Lnk} {ts : List Tun} (h : chkT n l ts = 0) : checkE n l con0 = 0 ∧ tunsE n l none ts = 0 ∧ agreeP l ts := by
  unfold chkT at h
  by_cases g1 : checkE n l con0 = 0
  case neg => rw [if_pos g1] at h; exact absurd h g1
  rw [if_neg (by simpa using g1)] at h
  by_cases g2 : 2000 < ts.length
  · rw [if_pos g2] at h; cases h
  rw [if_neg g2] at h
  by_cases g3 : tunsE n l none ts = 0
  case neg => rw [if_pos g3] at h; exact absurd h g3
  rw [if_neg (by simpa using g3)] at h
  refine ⟨g1, g3, ?_⟩
  apply Classical.byContradiction
  intro hc
  rw [agreeB_no hc] at h
  simp at h
theorem Inv.of {n : Int} {l : List Lnk} {ts : List Tun} (h : chkT n l ts = 0) (pl : ∀ t ∈ ts, t.P.length ≤ 30) : Inv n l ts :=
  ⟨(chk_parts h).1, (chk_parts h).2.1, (chk_parts h).2.2, pl⟩
theorem Inv.okA {n : Int} {l : List Lnk} {ts : List Tun} (h : Inv n l ts) : ∀ t ∈ ts, okA l t := fun t ht => tunE_ok (tunsE_all h.tu t ht) (h.pl t ht)
/-- Other bandwidths. -/
theorem Inv.step {n : Int} {l : List Lnk} {ts : List Tun} {v : Int} {h : Nat} {us : List Int} (ck : checkE n l con0 = 0) (tu : tunsE n l none ts = 0) (pl : ∀ t ∈ ts, t.P.length ≤ 30)
    (ag : agreeP (chA v h us l) ts) (nn : ∀ x ∈ chA v h us l, ∀ k, k < 8 → 0 ≤ x.Fr k) : Inv n (chA v h us l) ts := by
  have hu := usesL_chA v h us l
  have tu' : tunsE n (chA v h us l) none ts = 0 := by rw [tunsE_us hu]; exact tu
  refine ⟨?_, tu', ag, pl⟩
  obtain ⟨n1, n2, l2, lk, cn⟩ := check_links ck
  obtain ⟨asc, _, lko⟩ := links_asc lk
  have hok : ∀ t ∈ ts, Go.Proofs.Ytpmmnnaaoideeaa.okA (chA v h us l) t := fun t ht => tunE_ok (tunsE_all tu' t ht) (pl t ht)
  have key : (chA v h us l).map (fun x => (x.From, x.To)) = l.map (fun x => (x.From, x.To)) := by
    apply List.ext_getElem?
    intro i
    rw [List.getElem?_map, chA_get, List.getElem?_map]
    cases l[i]? <;> rfl
  have hl : linksE n none (chA v h us l) = 0 := by
    refine links_iff (fun x hx => ?_) ?_ (fun q hq => by cases hq)
    · obtain ⟨i, hi, hie⟩ := List.getElem_of_mem hx
      have hgt : (chA v h us l)[i]? = some x := by rw [List.getElem?_eq_getElem hi, hie]
      have hgt2 := hgt
      rw [chA_get, Option.map_eq_some_iff] at hgt
      obtain ⟨y, hy, hyx⟩ := hgt
      have hagx := ag i x hgt2
      refine linkE_of (lko y (List.mem_of_getElem? hy)) ?_ ?_ ?_ ?_ (fun k hk => ⟨nn x hx k hk, ?_⟩) (fun k hk => ?_)
      · rw [← hyx]; rfl
      · rw [← hyx]; rfl
      · rw [← hyx]; rfl
      · rw [← hyx]; rfl
      · have := (totT_bd hok i k).1
        rw [hagx k hk]; omega
      · have := totT_mono i (show k ≤ k + 1 by omega) hok
        rw [hagx k (by omega), hagx (k + 1) hk]; omega
    · have h1 : (l.map (fun x => (x.From, x.To))).Pairwise (fun a b => a.1 < b.1 ∨ a.1 = b.1 ∧ a.2 < b.2) := List.pairwise_map.2 asc
      rw [← key] at h1
      exact List.pairwise_map.1 h1
  unfold checkE
  rw [if_neg (by omega), if_neg (by rw [chA_len]; omega), if_neg (by simpa using hl)]
  exact cn
theorem oneT_nil (l : List Lnk) {t : Tun} (h : t.P = []) (i k : Nat) : oneT l t i k = 0 := by
  unfold oneT
  rw [h]
  simp [usesL, cntI]
theorem tunE_noP {n : Int} {l : List Lnk} {t : Tun} (h : tunE n l t = 0) : tunE n l (noP t) = 0 := by
  unfold tunE at h ⊢
  by_cases g1 : conE n t.W = 0
  case neg => rw [if_pos g1] at h; exact absurd h g1
  rw [if_neg (by simpa using g1)] at h
  by_cases g2 : endsE n t = 0
  case neg => rw [if_pos g2] at h; exact absurd h g2
  rw [show conE n (noP t).W = conE n t.W from rfl, show endsE n (noP t) = endsE n t from rfl, if_neg (by simpa using g1), if_neg (by simpa using g2), if_neg (by simp [pathB, noP])]
theorem Inv.rel {n : Int} {l : List Lnk} {a b : List Tun} {t : Tun} (h : Inv n l (a ++ t :: b)) (h0 : (relN l t).2 = 0) : Inv n (relN l t).1 (a ++ noP t :: b) := by
  obtain ⟨g1, hus, he, hg⟩ := relN_some h0
  obtain ⟨⟨a1, a2⟩, ⟨a3, a4⟩, _⟩ := pathE_ok g1
  obtain ⟨k1, k2, _⟩ := tuns_iff.1 h.tu
  obtain ⟨n1, n2, l2, lk, cn⟩ := check_links h.ck
  obtain ⟨asc, _, lko⟩ := links_asc lk
  rw [he]
  have hfr : ∀ (i : Nat) (x : Lnk), l[i]? = some x → ∀ k, k < 8 → (chR t.W.Hold.toNat (t.W.Band * (cntI i (usesL l t.P) : Int)) x).Fr k = x.Fr k + oneT l t i k := by
    intro i x hx k hk
    simp only [chR]
    unfold oneT takenF
    by_cases e : t.W.Hold ≤ (k : Int)
    · rw [if_pos ⟨by omega, hk⟩, if_pos e]
    · rw [if_neg (by omega), if_neg e]; simp
  refine Inv.step h.ck (tuns_iff.2 ⟨fun x hx => ?_, ?_, fun q hq => by cases hq⟩) (fun x hx => ?_) (fun i x hx k hk => ?_) (fun x hx k hk => ?_)
  · rcases List.mem_append.1 hx with hx | hx
    · exact k1 x (List.mem_append.2 (.inl hx))
    · rcases List.mem_cons.1 hx with rfl | hx
      · have := k1 t (by simp)
        exact ⟨this.1, tunE_noP this.2⟩
      · exact k1 x (by simp [hx])
  · have h1 : ((a ++ t :: b).map Tun.ID).Pairwise (· < ·) := List.pairwise_map.2 k2
    have h2 : (a ++ noP t :: b).map Tun.ID = (a ++ t :: b).map Tun.ID := by simp [noP]
    rw [← h2] at h1
    exact List.pairwise_map.1 h1
  · rcases List.mem_append.1 hx with hx | hx
    · exact h.pl x (List.mem_append.2 (.inl hx))
    · rcases List.mem_cons.1 hx with rfl | hx
      · simp [noP]
      · exact h.pl x (by simp [hx])
  · rw [chA_get, Option.map_eq_some_iff] at hx
    obtain ⟨y, hy, rfl⟩ := hx
    rw [hfr i y hy k hk, h.ag i y hy k hk, totT_us (usesL_chA _ _ _ _), totT_app, totT_app]
    simp only [totT]
    rw [oneT_nil l (t := noP t) rfl]
    show y.Cap - _ + _ = y.Cap - _
    omega
  · obtain ⟨i, hi, hie⟩ := List.getElem_of_mem hx
    have hgt : (chA t.W.Band t.W.Hold.toNat (usesL l t.P) l)[i]? = some x := by rw [List.getElem?_eq_getElem hi, hie]
    rw [chA_get, Option.map_eq_some_iff] at hgt
    obtain ⟨y, hy, rfl⟩ := hgt
    rw [hfr i y hy k hk]
    have h1 := (linkE_fr (lko y (List.mem_of_getElem? hy)) k hk).1
    have h2 := (oneT_bd (h.okA t (by simp)) i k).1
    omega
theorem Inv.drop {n : Int} {l : List Lnk} {a b : List Tun} {t : Tun} (h : Inv n l (a ++ t :: b)) (hp : t.P = []) : Inv n l (a ++ b) := by
  obtain ⟨k1, k2, _⟩ := tuns_iff.1 h.tu
  have hs : (a ++ b).Sublist (a ++ t :: b) := List.Sublist.append_left (List.sublist_cons_self t b) a
  refine ⟨h.ck, tuns_iff.2 ⟨fun x hx => k1 x (hs.subset hx), k2.sublist hs, fun q hq => by cases hq⟩, fun i x hx k hk => ?_, fun x hx => h.pl x (hs.subset hx)⟩
  rw [h.ag i x hx k hk, totT_app, totT_app]
  simp only [totT]
  rw [oneT_nil l hp]
  omega
theorem Inv.tdN {n : Int} {l : List Lnk} {ts : List Tun} (h : Inv n l ts) (id : Int) (h0 : (tdN l ts id).2.2 = 0) : Inv n (tdN l ts id).1 (tdN l ts id).2.1 := by
  unfold Go.Proofs.Ytpmmnnaaoideeaa.tdN at h0 ⊢
  by_cases g1 : idT ts id < 0
  · rw [if_pos g1] at h0; cases h0
  rw [if_neg g1] at h0 ⊢
  have hr : idT ts id < ts.length ∧ (idT ts id = ((idT ts id).toNat : Int)) := by
    unfold idT at g1 ⊢
    rcases idxL_spec (isID id) ts 0 with ⟨e1, e2⟩ | ⟨i, e1, e2, e3⟩
    · rw [e1] at g1; omega
    · rw [e1]; omega
  obtain ⟨i, hi⟩ : ∃ i, (idT ts id).toNat = i := ⟨_, rfl⟩
  have hil : i < ts.length := by omega
  obtain ⟨x, hx⟩ : ∃ x, ts[i]? = some x := ⟨_, List.getElem?_eq_getElem hil⟩
  have hgd : ts.getD i tun0 = x := by rw [List.getD_eq_getElem?_getD, hx]; rfl
  have hsp : ts = ts.take i ++ x :: ts.drop (i + 1) := by
    have := List.take_append_drop i ts
    rw [List.drop_eq_getElem_cons hil] at this
    rw [List.getElem?_eq_getElem hil] at hx
    injection hx with hx
    rw [hx] at this
    exact this.symm
  rw [hi, hgd] at h0 ⊢
  rw [List.eraseIdx_eq_take_drop_succ]
  generalize ts.take i = a at *
  generalize ts.drop (i + 1) = b at *
  subst hsp
  simp only at h0 ⊢
  by_cases hp : x.P = []
  · rw [if_pos hp] at h0 ⊢
    rw [if_neg (by simp)]
    exact h.drop hp
  · rw [if_neg hp] at h0 ⊢
    by_cases g2 : (relN l x).2 = 0
    · rw [if_neg (by simpa using g2)]
      exact (h.rel g2).drop rfl
    · rw [if_pos g2] at h0; exact absurd h0 g2
theorem Inv.suV {n : Int} (vs : List Int) : ∀ (ts acc : List Tun) (l : List Lnk), Inv n l (acc ++ ts) → (suV vs acc ts l).2.2 = 0 → Inv n (suV vs acc ts l).1 (suV vs acc ts l).2.1 ∧ ∀ p, usesL (suV vs acc ts l).1 p = usesL l p
  | [], acc, l, h, _ => by rw [List.append_nil] at h; exact ⟨h, fun _ => rfl⟩
  | x :: ts, acc, l, h, h0 => by
    simp only [Go.Proofs.Ytpmmnnaaoideeaa.suV] at h0 ⊢
    by_cases g1 : hasB vs x.ID = true
    · rw [if_pos g1] at h0 ⊢
      by_cases g2 : (relN l x).2 = 0
      · rw [if_neg (by simpa using g2)] at h0 ⊢
        have h1 := h.rel g2
        have hu : ∀ p, usesL (relN l x).1 p = usesL l p := by rw [(relN_some g2).2.2.1]; exact usesL_chA _ _ _ _
        have := Inv.suV vs ts (acc ++ [noP x]) (relN l x).1 (by simpa using h1) h0
        exact ⟨this.1, fun p => by rw [this.2 p, hu p]⟩
      · rw [if_pos g2] at h0; exact absurd h0 g2
    · rw [if_neg g1] at h0 ⊢
      exact Inv.suV vs ts (acc ++ [x]) l (by simpa using h) h0
end Go.Proofs.Ytpmmnnaaoideeaa

/- After Setup links and tunnels agree. No program. -/
namespace Go.Proofs.Ytpmmnnaaoideeaa
open Go Go.Am Go.Wk

theorem resN_some {l : List Lnk} {t : Tun} (h0 : (resN l t).2 = 0) : pathE l t = 0 ∧ (∀ u ∈ usesL l t.P, 0 ≤ u ∧ u < l.length) ∧ (resN l t).1 = chA (-t.W.Band) t.W.Hold.toNat (usesL l t.P) l ∧
    ∀ (i : Nat) (x : Lnk) (c : Nat), l[i]? = some x → c < cntI i (usesL l t.P) → ∀ k, t.W.Hold.toNat ≤ k → k < 8 → t.W.Band ≤ x.Fr k + -t.W.Band * c := by
  unfold resN at h0 ⊢
  by_cases g1 : pathE l t = 0
  case neg => rw [if_pos g1] at h0; exact absurd h0 g1
  rw [if_neg (by simpa using g1)] at h0 ⊢
  by_cases g2 : roomB l t.W.Band (usesL l t.P) = false
  · rw [if_pos g2] at h0; simp at h0
  rw [if_neg g2] at h0 ⊢
  obtain ⟨⟨a1, a2⟩, ⟨a3, a4⟩, hus⟩ := pathE_ok g1
  cases hA : takeA t.W.Band t.W.Hold.toNat (usesL l t.P) l with
  | none => rw [hA] at h0; simp at h0
  | some o =>
    simp only
    rw [takeA_op] at hA
    refine ⟨g1, hus, opA_some (by omega) _ _ hus o hA, fun i x c hx hc k k1 k2 => ?_⟩
    have := opA_good (by omega) _ _ hus o hA i x c hx hc k k1 k2
    simp only [decide_eq_false_iff_not] at this
    omega
theorem Inv.res {n : Int} {l : List Lnk} {a b : List Tun} {w : Tun} (h : Inv n l (a ++ b)) (hw : tunE n l w = 0) (hid : 1 ≤ w.ID) (ha : ∀ t ∈ a, t.ID < w.ID) (hb : ∀ t ∈ b, w.ID < t.ID) (pl : w.P.length ≤ 30) (h0 : (resN l w).2 = 0) : Inv n (resN l w).1 (a ++ w :: b) := by
  obtain ⟨g1, hus, he, hg⟩ := resN_some h0
  obtain ⟨⟨a1, a2⟩, ⟨a3, a4⟩, _⟩ := pathE_ok g1
  obtain ⟨k1, k2, _⟩ := tuns_iff.1 h.tu
  obtain ⟨n1, n2, l2, lk, cn⟩ := check_links h.ck
  obtain ⟨asc, _, lko⟩ := links_asc lk
  rw [he]
  have hfr : ∀ (i : Nat) (x : Lnk), l[i]? = some x → ∀ k, k < 8 → (chR w.W.Hold.toNat (-w.W.Band * (cntI i (usesL l w.P) : Int)) x).Fr k = x.Fr k - oneT l w i k := by
    intro i x hx k hk
    simp only [chR]
    unfold oneT takenF
    by_cases e : w.W.Hold ≤ (k : Int)
    · rw [if_pos ⟨by omega, hk⟩, if_pos e, Int.neg_mul]; omega
    · rw [if_neg (by omega), if_neg e]; simp
  refine Inv.step h.ck (tuns_iff.2 ⟨fun x hx => ?_, ?_, fun q hq => by cases hq⟩) (fun x hx => ?_) (fun i x hx k hk => ?_) (fun x hx k hk => ?_)
  · rcases List.mem_append.1 hx with hx | hx
    · exact k1 x (List.mem_append.2 (.inl hx))
    · rcases List.mem_cons.1 hx with rfl | hx
      · exact ⟨hid, hw⟩
      · exact k1 x (by simp [hx])
  · obtain ⟨p1, p2, p3⟩ := List.pairwise_append.1 k2
    refine List.pairwise_append.2 ⟨p1, List.pairwise_cons.2 ⟨hb, p2⟩, fun x hx y hy => ?_⟩
    rcases List.mem_cons.1 hy with rfl | hy
    · exact ha x hx
    · exact p3 x hx y hy
  · rcases List.mem_append.1 hx with hx | hx
    · exact h.pl x (List.mem_append.2 (.inl hx))
    · rcases List.mem_cons.1 hx with rfl | hx
      · exact pl
      · exact h.pl x (by simp [hx])
  · rw [chA_get, Option.map_eq_some_iff] at hx
    obtain ⟨y, hy, rfl⟩ := hx
    rw [hfr i y hy k hk, h.ag i y hy k hk, totT_us (usesL_chA _ _ _ _), totT_app, totT_app]
    simp only [totT]
    show y.Cap - _ - _ = y.Cap - _
    omega
  · obtain ⟨i, hi, hie⟩ := List.getElem_of_mem hx
    have hgt : (chA (-w.W.Band) w.W.Hold.toNat (usesL l w.P) l)[i]? = some x := by rw [List.getElem?_eq_getElem hi, hie]
    rw [chA_get, Option.map_eq_some_iff] at hgt
    obtain ⟨y, hy, rfl⟩ := hgt
    have h1 := (linkE_fr (lko y (List.mem_of_getElem? hy)) k hk).1
    simp only [chR]
    split
    · rename_i hk2
      rcases Nat.eq_zero_or_pos (cntI i (usesL l w.P)) with e | e
      · rw [e]; simpa using h1
      · obtain ⟨c, hcc⟩ : ∃ c, cntI i (usesL l w.P) = c + 1 := ⟨cntI i (usesL l w.P) - 1, by omega⟩
        have := hg i y c hy (by omega) k hk2.1 hk2.2
        rw [hcc, Int.natCast_add, Int.mul_add]
        simp only [Int.natCast_one, Int.mul_one]
        omega
    · exact h1
theorem posT_split {q : Int} {ts : List Tun} (hasc : ts.Pairwise fun a b => a.ID < b.ID) (hne : ts.any (isID q) = false) : (∀ t ∈ ts.take (posT q ts), t.ID < q) ∧ ∀ t ∈ ts.drop (posT q ts), q < t.ID := by
  induction ts with
  | nil => simp
  | cons x ts ih =>
    obtain ⟨k1, k2⟩ := List.pairwise_cons.1 hasc
    simp only [List.any_cons, Bool.or_eq_false_iff, isID, decide_eq_false_iff_not] at hne
    by_cases hx : x.ID < q
    · have e : posT q (x :: ts) = posT q ts + 1 := by
        unfold posT
        rw [List.takeWhile_cons_of_pos (by simpa using hx), List.length_cons]
      obtain ⟨i1, i2⟩ := ih k2 hne.2
      rw [e, List.take_succ_cons, List.drop_succ_cons]
      refine ⟨fun t ht => ?_, i2⟩
      rcases List.mem_cons.1 ht with rfl | ht
      · exact hx
      · exact i1 t ht
    · have e : posT q (x :: ts) = 0 := by
        unfold posT
        rw [List.takeWhile_cons_of_neg (by simpa using hx)]
        rfl
      rw [e]
      refine ⟨by simp, fun t ht => ?_⟩
      rw [List.drop_zero] at ht
      rcases List.mem_cons.1 ht with rfl | ht
      · omega
      · have := k1 t ht; omega
theorem any_ids {ts os : List Tun} (h : os.map Tun.ID = ts.map Tun.ID) (q : Int) : os.any (isID q) = ts.any (isID q) := by
  have h1 : ∀ l : List Tun, l.any (isID q) = (l.map Tun.ID).any (fun i => decide (i = q)) := by
    intro l; rw [List.any_map]; rfl
  rw [h1, h1, h]
theorem suV_lnk (vs : List Int) : ∀ (ts acc : List Tun) (l : List Lnk), (suV vs acc ts l).2.2 = 0 → (suV vs acc ts l).1.length = l.length
  | [], acc, l, _ => rfl
  | x :: ts, acc, l, h => by
    simp only [suV] at h ⊢
    split at h
    · rename_i g1
      rw [if_pos g1]
      split at h
      · rename_i g2; exact absurd h g2
      · rename_i g2
        rw [if_neg g2, suV_lnk vs ts _ _ h, (relN_some (Decidable.not_not.1 g2)).2.2.1, chA_len]
    · rename_i g1
      rw [if_neg g1]
      exact suV_lnk vs ts _ _ h
theorem want_parts {n : Int} {ts : List Tun} {w : Tun} (h : wantE n ts w = 0) : 1 ≤ w.ID ∧ ts.any (isID w.ID) = false ∧ conE n w.W = 0 ∧ endsE n w = 0 := by
  unfold wantE at h
  by_cases g1 : w.ID < 1
  · rw [if_pos g1] at h; cases h
  rw [if_neg g1] at h
  by_cases g2 : ts.any (isID w.ID) = true
  · rw [if_pos g2] at h; cases h
  rw [if_neg g2] at h
  by_cases g3 : conE n w.W = 0
  case neg => rw [if_pos g3] at h; exact absurd h g3
  rw [if_neg (by simpa using g3)] at h
  exact ⟨by omega, by simpa using g2, g3, h⟩
theorem ends_out {n : Int} {w : Tun} (h : endsE n w = 0) : outN n w.From = false ∧ outN n w.To = false := by
  unfold endsE at h
  by_cases g1 : w.From < 0 ∨ n ≤ w.From ∨ w.To < 0 ∨ n ≤ w.To
  · rw [if_pos g1] at h; cases h
  simp [outN]
  omega
/-- What Setup leaves. -/
theorem suN_law {N : Nat} {l : List Lnk} {ts : List Tun} {w : Tun} (hi : Inv N l ts) (hN : N ≤ 30) (h0 : (suN N l ts w).2.2.2 = 0) :
    Inv N (suN N l ts w).1 (suN N l ts w).2.1 ∧ (suN N l ts w).1.length = l.length ∧ (suN N l ts w).2.1.length = ts.length + 1 ∧ ∀ t ∈ (suN N l ts w).2.1, t.ID = w.ID ∨ ∃ u ∈ ts, t.ID = u.ID := by
  unfold suN at h0 ⊢
  by_cases g1 : chkT N l ts = 0
  case neg => rw [if_pos g1] at h0; exact absurd h0 g1
  rw [if_neg (by simpa using g1)] at h0 ⊢
  by_cases g2 : wantE N ts w = 0
  case neg => rw [if_pos g2] at h0; exact absurd h0 g2
  rw [if_neg (by simpa using g2)] at h0 ⊢
  by_cases g3 : (routeN N l w.From w.To w.W).2.2 = 0
  case neg => rw [if_pos g3] at h0; exact absurd h0 g3
  rw [if_neg (by simpa using g3)] at h0 ⊢
  generalize hp : (routeN N l w.From w.To w.W).1 = p at *
  by_cases g4 : (vicN l ts p w.W).2 = 0
  case neg => rw [if_pos g4] at h0; exact absurd h0 g4
  rw [if_neg (by simpa using g4)] at h0 ⊢
  generalize (vicN l ts p w.W).1 = vs at *
  unfold su2 at h0 ⊢
  by_cases g5 : (suV vs [] ts l).2.2 = 0
  case neg => rw [if_pos g5] at h0; exact absurd h0 g5
  rw [if_neg (by simpa using g5)] at h0 ⊢
  obtain ⟨w1, w2, w3, w4⟩ := want_parts g2
  obtain ⟨o1, o2⟩ := ends_out w4
  have hck := (checkE_con hi.ck w.W).1
  rw [w3] at hck
  obtain ⟨p1, p2, p3, p4, p5, p6⟩ := routeN_path hck o1 o2 g3
  rw [hp] at p1 p2 p3 p4 p5 p6
  obtain ⟨i1, i2⟩ := Inv.suV vs ts [] l (by simpa using hi) g5
  have hids := suV_len vs ts [] l g5
  have hln := suV_lnk vs ts [] l g5
  rw [List.map_nil, List.nil_append] at hids
  generalize suV vs [] ts l = T at *
  by_cases g6 : (resN T.1 (wP w p)).2 = 0
  case neg => rw [if_pos g6] at h0; exact absurd h0 g6
  rw [if_neg (by simpa using g6)]
  simp only
  have hw : tunE N T.1 (wP w p) = 0 := by
    rw [tunE_us i2]
    unfold tunE
    rw [show (wP w p).W = w.W from rfl, show endsE N (wP w p) = endsE N w from rfl, if_neg (by simpa using w3), if_neg (by simpa using w4), if_neg]
    have hpb : ∀ t : Tun, t.P ≠ [] → t.P.getD 0 0 = t.From → t.P.getD (t.P.length - 1) 0 = t.To → repB t.P = false → hasB (usesL l t.P) (-1) = false → pathB l t = false := by
      intro t q1 q2 q3 q4 q5
      unfold pathB
      rw [if_neg (by simpa using q1), q2, q3, q4, q5]
      simp
    rw [hpb (wP w p) p1 p2 p3 p4 p5]
    simp
  have hasc := (tuns_iff.1 i1.tu).2.1
  obtain ⟨s1, s2⟩ := posT_split (q := w.ID) hasc (by rw [any_ids hids]; exact w2)
  have hpl := posT_le w.ID T.2.1
  have hres := Inv.res (n := N) (l := T.1) (a := T.2.1.take (posT w.ID T.2.1)) (b := T.2.1.drop (posT w.ID T.2.1)) (w := wP w p) (by rw [List.take_append_drop]; exact i1) hw w1 s1 s2 (by simp only [wP]; omega) g6
  have hlen : T.2.1.length = ts.length := by
    have := congrArg List.length hids
    simpa using this
  refine ⟨hres, ?_, ?_, fun t ht => ?_⟩
  · rw [(resN_some g6).2.2.1, chA_len, hln]
  · rw [insL_len hpl, hlen]
  · unfold insL at ht
    have : t = wP w p ∨ t ∈ T.2.1 := by
      rcases List.mem_append.1 ht with ht | ht
      · exact .inr (List.mem_of_mem_take ht)
      · rcases List.mem_cons.1 ht with ht | ht
        · exact .inl ht
        · exact .inr (List.mem_of_mem_drop ht)
    rcases this with rfl | ht
    · exact .inl rfl
    · right
      have : t.ID ∈ ts.map Tun.ID := by rw [← hids]; exact List.mem_map_of_mem ht
      obtain ⟨u, hu, e⟩ := List.mem_map.1 this
      exact ⟨u, hu, e.symm⟩
end Go.Proofs.Ytpmmnnaaoideeaa

/- What links, constraints and tunnels bring as arguments. -/
namespace Go.Proofs.Ytpmmnnaaoideeaa
open Go Go.Am

theorem Rds_int {k : IntKind} {ts : List CTy} {cs : List AVal} (h : Rds (.int k :: ts) cs) : ∃ n r, cs = .int k n :: r ∧ Rds ts r ∧ (Lit.int k n).wf = true := by
  simp only [Rds, Rd] at h
  obtain ⟨x, r, rfl, ⟨n, rfl, hn⟩, h2⟩ := h
  exact ⟨n, r, rfl, h2, hn⟩
theorem Rds_nil {cs : List AVal} (h : Rds [] cs) : cs = [] := h

/-- A list of values, each of which encodes something. -/
theorem decAll {α : Type} {enc : α → AVal} : ∀ (xs : List AVal), (∀ y ∈ xs, ∃ a, y = enc a) → ∃ l : List α, xs = l.map enc := by
  intro xs
  induction xs with
  | nil => intro _; exact ⟨[], rfl⟩
  | cons x xs ih =>
    intro h
    obtain ⟨a, rfl⟩ := h x (by simp)
    obtain ⟨l, rfl⟩ := ih fun y hy => h y (by simp [hy])
    exact ⟨a :: l, rfl⟩
theorem Rds_sl {α : Type} {enc : α → AVal} {ag : Bool} {by_ : Nat} {e ts : List CTy} {cs : List AVal} (h : Rds (.sl ag by_ e :: ts) cs) (hd : ∀ y cs, (if ag = true then y = .agg cs else cs = [y]) → Rds e cs → ∃ a, y = enc a) :
    ∃ (l : List α) (r : List AVal), cs = .sl e.length (l.map enc) .sh :: r ∧ Rds ts r ∧ l.length * by_ ≤ reachBytes := by
  simp only [Rds, Rd] at h
  obtain ⟨x, r, rfl, ⟨xs, rfl, hl, hx⟩, h2⟩ := h
  obtain ⟨l, rfl⟩ := decAll (enc := enc) xs fun y hy => by
    obtain ⟨cs, h1, h2⟩ := hx y hy
    exact hd y cs h1 h2
  exact ⟨l, r, rfl, h2, by simpa using hl⟩

theorem wf_i64 {n : Int} (h : (Lit.int .i64 n).wf = true) : inI n := by
  simpa [Lit.wf, IntKind.min, IntKind.max, IntKind.signed, IntKind.bits, inI] using h
theorem own : ownKnob Try.prog.godebug = none := by kernel_rfl
def csL : List CTy := [.int .i64, .int .i64, .int .i64, .int .i64, .int .i64, .int .i64, .int .i64, .int .i64, .int .i64, .int .i64, .int .i64, .int .i64, .int .u32]
def tyLs : Bool × List CTy := (false, [.sl true 104 csL])
def tyI : Bool × List CTy := (false, [.int .i64])
theorem rd_i {x : AVal} (h : RdA tyI x) : ∃ n : Int, x = .int .i64 n ∧ inI n := by
  obtain ⟨cs, h1, h2⟩ := h
  obtain ⟨n, r, rfl, h3, w⟩ := Rds_int h2
  obtain rfl := Rds_nil h3
  simp [tyI] at h1
  exact ⟨n, h1.symm, wf_i64 w⟩
theorem reach_eq : reachBytes = 140737488351232 := by decide
theorem rdL_elem {y : AVal} {cs : List AVal} (h1 : if true = true then y = .agg cs else cs = [y]) (h : Rds csL cs) : ∃ a : Lnk, okF a ∧ y = encL a := by
  obtain ⟨a1, r, rfl, h, w1⟩ := Rds_int h
  obtain ⟨a2, r, rfl, h, w2⟩ := Rds_int h
  obtain ⟨a3, r, rfl, h, w3⟩ := Rds_int h
  obtain ⟨a4, r, rfl, h, w4⟩ := Rds_int h
  obtain ⟨f0, r, rfl, h, v0⟩ := Rds_int h
  obtain ⟨f1, r, rfl, h, v1⟩ := Rds_int h
  obtain ⟨f2, r, rfl, h, v2⟩ := Rds_int h
  obtain ⟨f3, r, rfl, h, v3⟩ := Rds_int h
  obtain ⟨f4, r, rfl, h, v4⟩ := Rds_int h
  obtain ⟨f5, r, rfl, h, v5⟩ := Rds_int h
  obtain ⟨f6, r, rfl, h, v6⟩ := Rds_int h
  obtain ⟨f7, r, rfl, h, v7⟩ := Rds_int h
  obtain ⟨a5, r, rfl, h, _⟩ := Rds_int h
  obtain rfl := Rds_nil h
  refine ⟨⟨a1, a2, a3, a4, fun i => [f0, f1, f2, f3, f4, f5, f6, f7].getD i 0, a5⟩, ⟨fun k hk => ?_, wf_i64 w4⟩, by simpa [cellsL, frC, frs] using h1⟩
  match k, hk with
  | 0, _ => exact wf_i64 v0
  | 1, _ => exact wf_i64 v1
  | 2, _ => exact wf_i64 v2
  | 3, _ => exact wf_i64 v3
  | 4, _ => exact wf_i64 v4
  | 5, _ => exact wf_i64 v5
  | 6, _ => exact wf_i64 v6
  | 7, _ => exact wf_i64 v7
theorem decAllP {α : Type} {enc : α → AVal} {P : α → Prop} : ∀ (xs : List AVal), (∀ y ∈ xs, ∃ a, P a ∧ y = enc a) → ∃ l : List α, xs = l.map enc ∧ ∀ a ∈ l, P a := by
  intro xs
  induction xs with
  | nil => intro _; exact ⟨[], rfl, by simp⟩
  | cons x xs ih =>
    intro h
    obtain ⟨a, ha, rfl⟩ := h x (by simp)
    obtain ⟨l, rfl, hl⟩ := ih fun y hy => h y (by simp [hy])
    exact ⟨a :: l, rfl, fun b hb => by
      rcases List.mem_cons.1 hb with rfl | hb
      · exact ha
      · exact hl b hb⟩
theorem rd_Ls {x : AVal} (h : RdA tyLs x) : ∃ l : List Lnk, x = .sl 13 (l.map encL) .sh ∧ l.length < 9223372036854775807 ∧ ∀ a ∈ l, okF a := by
  obtain ⟨cs, h1, h2⟩ := h
  simp only [tyLs, Rds, Rd] at h2
  obtain ⟨y, r, rfl, ⟨xs, rfl, hl, hx⟩, rfl⟩ := h2
  simp [tyLs] at h1
  subst h1
  obtain ⟨l, rfl, hok⟩ := decAllP (enc := encL) (P := okF) xs fun y hy => by
    obtain ⟨cs, h1, h2⟩ := hx y hy
    exact rdL_elem h1 h2
  have := reach_eq
  simp only [List.length_map] at hl
  exact ⟨l, rfl, by omega, hok⟩
theorem dec_i {y : AVal} {cs : List AVal} (h1 : if false = true then y = .agg cs else cs = [y]) (h : Rds [.int .i64] cs) : ∃ a, y = encI a := by
  obtain ⟨a1, r, rfl, h, _⟩ := Rds_int h
  obtain rfl := Rds_nil h
  simp at h1
  exact ⟨a1, h1.symm⟩
def csT : List CTy := [.int .i64, .int .i64, .int .i64, .int .i64, .int .i64, .int .i64, .int .u32, .int .u32, .int .i64, .sl false 8 [.int .i64], .sl false 8 [.int .i64], .sl false 8 [.int .i64]]
def okT (t : Tun) : Prop := (inI t.ID ∧ inI t.From ∧ inI t.To) ∧ (inI t.W.Band ∧ inI t.W.Setup ∧ inI t.W.Hold) ∧ t.P.length < 9223372036854775807 ∧ t.W.Avoid.length < 9223372036854775807 ∧ t.W.Thru.length < 9223372036854775807
theorem rdT_elem {cs : List AVal} (h : Rds csT cs) : ∃ a : Tun, okT a ∧ cs = cellsT a := by
  obtain ⟨a1, r, rfl, h, w1⟩ := Rds_int h
  obtain ⟨a2, r, rfl, h, w2⟩ := Rds_int h
  obtain ⟨a3, r, rfl, h, w3⟩ := Rds_int h
  obtain ⟨b1, r, rfl, h, w4⟩ := Rds_int h
  obtain ⟨b2, r, rfl, h, w5⟩ := Rds_int h
  obtain ⟨b3, r, rfl, h, w6⟩ := Rds_int h
  obtain ⟨b4, r, rfl, h, _⟩ := Rds_int h
  obtain ⟨b5, r, rfl, h, _⟩ := Rds_int h
  obtain ⟨b6, r, rfl, h, _⟩ := Rds_int h
  obtain ⟨l1, r, rfl, h, z1⟩ := Rds_sl (enc := encI) h (fun y cs h1 h => dec_i h1 h)
  obtain ⟨l2, r, rfl, h, z2⟩ := Rds_sl (enc := encI) h (fun y cs h1 h => dec_i h1 h)
  obtain ⟨l3, r, rfl, h, z3⟩ := Rds_sl (enc := encI) h (fun y cs h1 h => dec_i h1 h)
  obtain rfl := Rds_nil h
  have := reach_eq
  refine ⟨⟨a1, a2, a3, ⟨b1, b2, b3, b4, b5, b6, l1, l2⟩, l3⟩, ⟨⟨wf_i64 w1, wf_i64 w2, wf_i64 w3⟩, ⟨wf_i64 w4, wf_i64 w5, wf_i64 w6⟩, ?_, ?_, ?_⟩, rfl⟩ <;> simp only <;> omega
end Go.Proofs.Ytpmmnnaaoideeaa
