/- The law of the tunnels that give way, in order and all needed, by the program. -/
import Derived.Test.YtpmmnnaaoideeaaGreatGT30
import Derived.Test.YtpmmnnaaoideeaaGreatGT6
set_option linter.unusedSimpArgs false
set_option linter.unusedVariables false
namespace Go.Proofs.YtpmmnnaaoideeaaGreat
open Go Go.Am Go.Wk

set_option maxHeartbeats 4000000 in
set_option maxRecDepth 10000 in
theorem c39 (l : List Lnk) (n : Nat) (hn : l.length = n) (hlen : n < 9223372036854775807) (a b : Int) : CFun Tryz.prog 35 [.sl 13 (l.map encL) .sh, .int .i64 a, .int .i64 b] [] (.tup [encL (findL l a b).1, .bool (findL l a b).2]) [] := by
  refine CFun.intro (tr := []) (fz := []) (n := 29) (rs := [.cell 6 59, .tmp 7]) Tryz.func35 rfl (by kernel_rfl) rfl rfl mixed (by kernel_rfl) (by simp) (by simp) ?_
  generalize hu : findL l a b = u
  unfold findL at hu
  simp
  refine LoopK.intro (tr := []) mixed (by kernel_rfl) (fun i : Nat => [(1, .int .i64 a), (2, .int .i64 b), (6, .ptr 0 0), (10, .sl 13 (l.map encL) .sh), (11, .int .i64 n), (12, .int .i64 i)]) (fun _ => [zL]) (fun i => i ≤ n ∧ l.find? (isL a b) = (l.drop i).find? (isL a b)) (fun i => n - i) 0 ?_ ?_ ?_
  · simp
  · simp [hn]
  · rintro i ⟨h1, h2⟩
    by_cases hi : i < n
    · obtain ⟨x, hx, hd⟩ := get_drop (l := l) (i := i) (by omega)
      rw [hd] at h2
      have w1 : IntKind.i64.wrap ((i : Int) + 1) = i + 1 := wrap_in (by omega)
      clear hd
      by_cases a1 : x.From = a
      · by_cases a2 : x.To = b
        · have e : isL a b x = true := by simp [isL, a1, a2]
          rw [List.find?_cons_of_pos e] at h2
          rw [h2] at hu
          subst hu
          simp [hi, hn, hx, gE hx, a1, a2]
        · have e : isL a b x = false := by simp [isL, a1, a2]
          rw [List.find?_cons_of_neg (by simp [e])] at h2
          simp [hi, hn, hx, gE hx, a1, a2, w1]
          exact ⟨i + 1, ⟨by omega, h2⟩, by omega, by simp⟩
      · have e : isL a b x = false := by simp [isL, a1]
        rw [List.find?_cons_of_neg (by simp [e])] at h2
        simp [hi, hn, hx, gE hx, a1, w1]
        exact ⟨i + 1, ⟨by omega, h2⟩, by omega, by simp⟩
    · have : i = n := by omega
      subst this
      rw [List.drop_eq_nil_of_le (by omega)] at h2
      rw [h2] at hu
      subst hu
      simp [hn, e0]
theorem findI_findL (l : List Lnk) (a b : Int) (h : 0 ≤ findI l a b) : ∃ x, l[(findI l a b).toNat]? = some x ∧ findL l a b = (x, true) := by
  have key : ∀ (l : List Lnk) (i : Nat), 0 ≤ idxL (isL a b) l i → ∃ (j : Nat) (x : Lnk), idxL (isL a b) l i = ((i + j : Nat) : Int) ∧ l[j]? = some x ∧ l.find? (isL a b) = some x := by
    intro l
    induction l with
    | nil => intro i h; simp [idxL] at h
    | cons y l ih =>
      intro i h
      simp only [idxL] at h ⊢
      by_cases g : isL a b y = true
      · rw [if_pos g]
        exact ⟨0, y, by simp, rfl, by rw [List.find?_cons_of_pos g]⟩
      · rw [if_neg g] at h ⊢
        obtain ⟨j, x, h1, h2, h3⟩ := ih (i + 1) h
        exact ⟨j + 1, x, by rw [h1]; omega, by simpa using h2, by rw [List.find?_cons_of_neg g]; exact h3⟩
  obtain ⟨j, x, h1, h2, h3⟩ := key l 0 h
  unfold findI findL
  rw [h1, h3]
  refine ⟨x, ?_, rfl⟩
  simpa using h2
set_option maxHeartbeats 4000000 in
set_option maxRecDepth 10000 in
theorem tIx (ts : List Tun) (n : Nat) (hn : ts.length = n) (hn2 : n < 1000000) (hasc : ts.Pairwise fun a b => a.ID < b.ID) (j : Nat) (t : Tun) (hj : ts[j]? = some t) : CFun Tryz.prog 9 [.sl 12 (ts.map encT) .sh, .int .i64 t.ID] [] (.int .i64 j) [] := by
  refine CFun.intro (tr := []) (fz := []) (n := 20) (rs := [.tmp 4]) Tryz.func9 rfl (by kernel_rfl) rfl rfl mixed (by kernel_rfl) (by simp) (by simp) ?_
  have hjl := (List.getElem?_eq_some_iff.1 hj).1
  simp [hn]
  refine LoopK.intro (tr := []) mixed (by kernel_rfl) (fun i : Nat => [(1, .int .i64 t.ID), (7, .sl 12 (ts.map encT) .sh), (8, .int .i64 n), (9, .int .i64 i)]) (fun _ => []) (fun i => i ≤ j) (fun i => n - i) 0 ?_ ?_ ?_
  · omega
  · simp
  · intro i h1
    have hi : i < n := by omega
    have w1 : IntKind.i64.wrap ((i : Int) + 1) = i + 1 := wrap_in (by omega)
    by_cases e : i = j
    · subst e
      simp [hi, hn, hj, gE hj]
    · obtain ⟨u, hu⟩ : ∃ u, ts[i]? = some u := ⟨_, List.getElem?_eq_getElem (by omega)⟩
      have hne : ¬ u.ID = t.ID := by
        have := List.pairwise_iff_getElem.1 hasc i j (by omega) hjl (by omega)
        rw [(List.getElem?_eq_some_iff.1 hu).2, (List.getElem?_eq_some_iff.1 hj).2] at this
        omega
      simp [hi, hn, hu, gE hu, hne, w1]
      exact ⟨i + 1, by omega, by omega, by simp⟩
set_option maxHeartbeats 8000000 in
set_option maxRecDepth 10000 in
theorem tRm (l : List Lnk) (n : Nat) (hn : l.length = n) (hn2 : n < 1000000) (p : List Int) (m : Nat) (hm : p.length = m) (hm2 : m < 1000000) (b : Int) (hus : ∀ u ∈ usesL l p, 0 ≤ u ∧ u < n) : CFun Tryz.prog 10 [.sl 13 (l.map encL) .sh, .sl 1 (p.map encI) .sh, .int .i64 b] [] (.bool (roomB l b (usesL l p))) [] := by
  refine CFun.intro (tr := [900001000016]) (fz := []) (n := 39) (rs := [.tmp 6]) Tryz.func10 rfl (by kernel_rfl) rfl rfl mixed (by kernel_rfl) (by simp) (by simp) ?_
  have h := fun a b H => (c39 l n hn (by omega) a b).up' H (by simp [noid, noid0]) (by simp [noid, noid0])
  obtain ⟨T, hT⟩ : ∃ T, T = roomB l b (usesL l p) := ⟨_, rfl⟩
  rw [← hT]
  simp
  refine LoopK.intro (tr := [900001000016]) mixed (by kernel_rfl) (fun i : Nat => [(0, .sl 13 (l.map encL) .sh), (1, .sl 1 (p.map encI) .sh), (2, .int .i64 b), (7, .int .i64 (i + 1))]) (fun _ => [])
    (fun i => i ≤ m ∧ (∀ u ∈ usesL l (p.drop i), 0 ≤ u ∧ u < n) ∧ T = roomB l b (usesL l (p.drop i))) (fun i => m - i) 0 ?_ ?_ ?_
  · exact ⟨Nat.zero_le _, hus, hT⟩
  · simp
  · rintro i ⟨h1, h3, h2⟩
    by_cases hi : i + 1 < m
    · obtain ⟨x, hx⟩ : ∃ x, p[i]? = some x := ⟨_, List.getElem?_eq_getElem (by omega)⟩
      obtain ⟨y, hy⟩ : ∃ y, p[i + 1]? = some y := ⟨_, List.getElem?_eq_getElem (by omega)⟩
      rw [usesL_drop hx hy] at h2 h3
      have hf := h x y
      have hu0 := (h3 (findI l x y) (by simp)).1
      obtain ⟨z, hz, hfl⟩ := findI_findL l x y hu0
      rw [hfl] at hf
      have hzd : l.getD (findI l x y).toNat lnk0 = z := by rw [List.getD_eq_getElem?_getD, hz]; rfl
      have h7 := cellsL_fr z (i := 7) (by omega)
      have w3 : IntKind.i64.wrap ((i : Int) + 1 + 1) = (i : Int) + 1 + 1 := wrap_in (by omega)
      have w4 : IntKind.i64.wrap (i : Int) = i := wrap_in (by omega)
      have hi' : (i : Int) + 1 < m := by omega
      have hi2 : i < m := by omega
      have hnn : ((i : Int) + 1).toNat = i + 1 := by omega
      have hr : roomB l b (findI l x y :: usesL l (p.drop (i + 1))) = (decide (b ≤ z.Fr 7) && roomB l b (usesL l (p.drop (i + 1)))) := by
        unfold roomB
        rw [List.all_cons, hzd]
      rw [hr] at h2
      simp [hi, hi', hi2, hm, hx, gE hx, hy, gE hy, w4, hnn]
      refine ⟨_, by simpa [cargs] using hf [], by simp [noid, noid0, cargs], ?_⟩
      by_cases g : z.Fr 7 < b
      · have : T = false := by rw [h2, decide_eq_false (by omega)]; rfl
        simp [h7, g, this]
      · have : T = roomB l b (usesL l (p.drop (i + 1))) := by rw [h2, decide_eq_true (by omega)]; rfl
        simp [h7, g, w3]
        exact ⟨i + 1, ⟨by omega, fun u hu => h3 u (by simp [hu]), this⟩, by omega, by simp⟩
    · have hi' : ¬ (i : Int) + 1 < m := by omega
      rw [usesL_short (by rw [List.length_drop]; omega)] at h2
      have : T = true := by rw [h2]; rfl
      simp [hi, hi', hm, this]
theorem vicN_ids {l : List Lnk} {ts : List Tun} {p : List Int} {c : Con} (h : (vicN l ts p c).2 ≠ 0) : (vicN l ts p c).1 = [] := by
  have key : ∀ (f : Nat) (r : List Lnk) (ch ids : List Int), (vicL l ts (usesL l p) c f r ch ids).2 ≠ 0 → (vicL l ts (usesL l p) c f r ch ids).1 = [] := by
    intro f
    induction f with
    | zero => intro r ch ids _; rfl
    | succ f ih =>
      intro r ch ids h
      simp only [vicL] at h ⊢
      split
      · rename_i g; rw [if_pos g] at h; exact absurd rfl h
      · rename_i g
        rw [if_neg g] at h
        split
        · rfl
        · rename_i g2
          rw [if_neg g2] at h
          exact ih _ _ _ h
  unfold vicN at h ⊢
  split
  · rfl
  · rename_i g
    rw [if_neg g] at h
    split
    · rfl
    · rename_i g2
      rw [if_neg g2] at h
      exact key _ _ _ _ h
structure GS where
  r : List Lnk
  ch : List Int
  k : Nat
  H : Int
set_option maxHeartbeats 16000000 in
set_option maxRecDepth 10000 in
theorem t3 (n : Int) (l : List Lnk) (k : Nat) (hk : l.length = k) (ts : List Tun) (R : Nat) (hr : ts.length = R) (hr2 : R < 9223372036854775807) (hts : ∀ t ∈ ts, okT t) (p : List Int) (m : Nat) (hm : p.length = m) (c : Con) :
    CFun Tryz.prog 3 [.int .i64 n, .sl 13 (l.map encL) .sh, .sl 12 (ts.map encT) .sh, .sl 1 (p.map encI) .sh, encC c] [] (.bool true) [] := by
  refine CFun.intro (tr := []) (fz := []) (n := 133) (rs := [.tmp 10]) Tryz.func3 rfl (by kernel_rfl) rfl rfl mixed (by kernel_rfl) (by simp) (by simp) ?_
  have h9 := fun H => t9.up' H rfl rfl
  obtain ⟨b, h8, hb⟩ := t8L n l k hk ts R hr hr2
  have h8 := fun H => h8.up' H rfl rfl
  cases b with
  | true =>
    simp
    refine ⟨_, _, .inl (by simpa using h8 _), by simp, ?_⟩
    simp
    refine ⟨_, _, .inl (by simpa using h9 _), by simp, ?_⟩
    simp
  | false =>
  obtain ⟨c1, c2, c3, c4⟩ := hb rfl
  by_cases b2 : 30 < m
  · have b2' : (30 : Int) < m := by omega
    simp [hm]
    refine ⟨_, _, .inl (by simpa using h8 _), by simp, ?_⟩
    simp [hm, b2, b2']
    refine ⟨_, _, .inl (by simpa using h9 _), by simp, ?_⟩
    simp
  have b2' : ¬ (30 : Int) < m := by omega
  have hokn : ∀ t ∈ ts, okTn t ∧ t.P.length ≤ 30 := fun t ht => ⟨⟨by have := (c4 t ht).1; omega, (hts t ht).2.2.2.1, by have := (c4 t ht).2; omega⟩, (c4 t ht).1⟩
  have h11 := fun H => (t11 n l k hk (by omega) ts R hr (by omega) hokn).up' H rfl rfl
  by_cases g1 : chkT n l ts = 0
  case neg =>
    simp [hm]
    refine ⟨_, _, .inl (by simpa using h8 _), by simp, ?_⟩
    simp [hm, b2, b2']
    refine ⟨_, _, .inl (by simpa using h11 _), by simp, ?_⟩
    simp [g1]
    refine ⟨_, _, .inl (by simpa using h9 _), by simp, ?_⟩
    simp
  rw [g1] at h11
  unfold chkT at g1
  by_cases e1 : checkE n l con0 = 0
  case neg => rw [if_pos e1] at g1; exact absurd g1 e1
  rw [if_neg (by simpa using e1), if_neg (by omega)] at g1
  by_cases e2 : tunsE n l none ts = 0
  case neg => rw [if_pos e2] at g1; exact absurd g1 e2
  rw [if_neg (by simpa using e2)] at g1
  have e3 : agreeP l ts := by
    cases Classical.em (agreeP l ts) with
    | inl h => exact h
    | inr h => rw [agreeB_no h] at g1; simp at g1
  have hC := check_cap e1
  have hokA : ∀ t ∈ ts, okA l t := fun t ht => tunE_ok (tunsE_all e2 t ht) (c4 t ht).1
  have hasc := (tuns_asc e2).1
  have hB : ∀ x ∈ l, ∀ k, k < 8 → -1125899906842624 ≤ x.Fr k ∧ x.Fr k ≤ 1125899906842624 := by
    intro x hx k hk
    obtain ⟨i, hi, he⟩ := List.getElem_of_mem hx
    have h1 := e3 i x (by rw [List.getElem?_eq_getElem hi, he]) k hk
    have h2 := totT_bd hokA i k
    have h3 := hC x hx
    omega
  have hall : ∀ t ∈ ts, t.P.length ≤ 30 ∧ t.W.Band ≤ 1099511627776 ∧ inI t.W.Hold := fun t ht => ⟨(c4 t ht).1, (hokA t ht).b1, (hts t ht).2.1.2.2⟩
  have h18 := fun H => (t18 l k hk (by omega) hB ts R hr (by omega) hall p m hm (by omega) c).up' H (by simp [noid, noid0]) (by simp [noid, noid0])
  by_cases e4 : (vicN l ts p c).2 = 0
  case neg =>
    have hV := vicN_ids e4
    rw [hV] at h18
    generalize (vicN l ts p c).2 = e at *
    simp [hm]
    refine ⟨_, _, .inl (by simpa using h8 _), by simp, ?_⟩
    simp [hm, b2, b2']
    refine ⟨_, _, .inl (by simpa using h11 _), by simp, ?_⟩
    simp
    refine ⟨_, _, .inl (by simpa using h18 _), by simp, ?_⟩
    simp [e4]
    refine ⟨_, _, .inl (by simpa using h9 _), by simp, ?_⟩
    simp
  have hvl := vicN_len l ts p c
  obtain ⟨out, ho⟩ : ∃ out, out = (vicN l ts p c).1 := ⟨_, rfl⟩
  rw [← ho] at hvl
  have hrun : vicL l ts (usesL l p) c (ts.length + 1) l [] [] = (out, 0) ∧ ∀ u ∈ usesL l p, 0 ≤ u ∧ u < l.length := by
    unfold vicN at e4 ho
    by_cases a1 : amtB c.Setup c.Band = false
    · rw [if_pos a1] at e4; simp at e4
    rw [if_neg a1] at e4 ho
    by_cases a2 : hasB (usesL l p) (-1) = true
    · rw [if_pos a2] at e4; simp at e4
    rw [if_neg a2] at e4 ho
    refine ⟨?_, fun u hu => ?_⟩
    · rw [ho, ← e4]
    · have h1 := usesL_range l p u hu
      rw [hasB_iff] at a2
      have : u ≠ -1 := fun e => a2 (e ▸ hu)
      omega
  rw [e4, ← ho] at h18
  obtain ⟨hrun, hus⟩ := hrun
  have hgi := GI.start hokA hC e3 hrun
  clear hrun
  obtain ⟨w, hw⟩ : ∃ w, out.length = w := ⟨_, rfl⟩
  have hrm := fun (r : List Lnk) (h1 : r.length = l.length) (h2 : ∀ q, usesL r q = usesL l q) H => (tRm r k (by rw [h1, hk]) (by omega) p m hm (by omega) c.Band (by rw [h2, ← hk]; exact hus)).up' H rfl rfl
  simp [hm]
  refine ⟨_, _, .inl (by simpa using h8 _), by simp, ?_⟩
  simp [hm, b2, b2']
  refine ⟨_, _, .inl (by simpa using h11 _), by simp, ?_⟩
  simp
  refine ⟨_, _, .inl (by simpa using h18 _), by simp, ?_⟩
  simp [hw]
  clear h8 h11 h18
  refine LoopK.intro (tr := []) mixed (by kernel_rfl) (fun s : GS => [(1, .sl 13 (s.r.map encL) .sh), (2, .sl 12 (ts.map encT) .sh), (3, .sl 1 (p.map encI) .sh), (9, .ptr 0 0), (11, .sl 1 (out.map encI) .sh), (13, .int .i64 s.H), (52, .sl 1 (out.map encI) .sh), (53, .int .i64 w), (54, .int .i64 s.k)]) (fun _ => [cellsC c])
    (fun s => s.k ≤ w ∧ GI l ts (usesL l p) c out s.r s.ch (out.take s.k) s.H) (fun s => w - s.k) ⟨l, [], 0, 8⟩ ?_ ?_ ?_
  · exact ⟨Nat.zero_le _, by simpa using hgi⟩
  · simp
  clear hgi
  rintro ⟨r, ch, q, H⟩ ⟨q1, g⟩
  simp only at q1 g
  have krm := hrm r g.len g.us_
  rw [g.us_ p] at krm
  by_cases hq : q < w
  case neg =>
    rw [show out.take q = out from List.take_of_length_le (by omega)] at g
    rw [g.done] at krm
    simp [hq]
    refine ⟨_, _, .inl (by simpa using h9 _), by simp, ?_⟩
    simp
    refine ⟨_, _, .inl (by simpa using krm _), by simp, ?_⟩
    simp
  obtain ⟨x, hx⟩ : ∃ x, out[q]? = some x := ⟨_, List.getElem?_eq_getElem (by omega)⟩
  have hlq : (out.take q).length = q := by rw [List.length_take]; omega
  obtain ⟨j, t, htj, hid, d1, d2, d3, d4, d5, d6, g'⟩ := g.next hokA hasc hus (x := x) (by rw [hlq]; exact hx)
  subst hid
  have htm := List.mem_of_getElem? htj
  have hjl := (List.getElem?_eq_some_iff.1 htj).1
  have hj : j < R := by omega
  rw [d4] at krm
  have kix := fun H => (tIx ts R hr (by omega) hasc j t htj).up' H rfl rfl
  have hBr : ∀ y ∈ r, ∀ k, k < 8 → -1125899906842624 ≤ y.Fr k ∧ y.Fr k ≤ 1125899906842624 := by
    intro y hy k hk
    obtain ⟨i, hi, he⟩ := List.getElem_of_mem hy
    obtain ⟨h1, h2⟩ := g.fr i y (by rw [List.getElem?_eq_getElem hi, he])
    have h3 := totX_nn (ch := ch) hokA 0 i k
    have h4 := h2 k hk
    have h5 : totX l ch 0 ts i k ≤ totT l ts i k := by
      have : ∀ (ts : List Tun), (∀ t ∈ ts, okA l t) → ∀ j, totX l ch j ts i k ≤ totT l ts i k := by
        intro ts
        induction ts with
        | nil => intro _ j; exact Int.le_refl _
        | cons t ts ih =>
          intro h j
          have h1 := oneT_bd (h t (by simp)) i k
          have h2 := ih (fun t ht => h t (List.mem_cons_of_mem _ ht)) (j + 1)
          simp only [totX, totT]
          split <;> omega
      exact this ts hokA 0
    have h6 := totT_bd hokA i k
    omega
  have hrl : r.length = k := by rw [g.len, hk]
  have k16 := fun H => (t16 r k hrl (by omega) hBr t t.P.length rfl (by have := (c4 t htm).1; omega) ⟨(hts t htm).2.1.2.2, (hts t htm).2.1.1⟩).up' H (by simp [noid, noid0]) (by simp [noid, noid0])
  rw [d5] at k16
  have k12 := fun H => (c25 (out.take q) q (by rw [hlq]) (by omega) t.ID).up' H rfl rfl
  have hno : hasB (out.take q) t.ID = false := by
    cases hb : hasB (out.take q) t.ID with
    | false => rfl
    | true => rw [hasB_iff] at hb; exact absurd hb d6
  rw [hno] at k12
  have w1 : IntKind.i64.wrap ((q : Int) + 1) = q + 1 := wrap_in (by omega)
  have d1' : ¬ t.W.Hold ≤ c.Setup := by omega
  have d2' : ¬ H < t.W.Hold := by omega
  have d3' : ¬ t.P.length = 0 := fun e => d3 (List.length_eq_zero_iff.1 e)
  have j0 : ¬ (j : Int) < 0 := by omega
  have hqo : q ≤ w := by omega
  simp [hq, hw, hx, gE hx]
  refine ⟨_, _, .inl (by simpa using kix _), by simp, ?_⟩
  simp [j0, hj, hr, htj, gE htj, d1', d2', d3, d3']
  refine ⟨_, _, .inl (by simpa using krm _), by simp, ?_⟩
  simp [hj, hr, htj, gE htj]
  refine ⟨_, _, .inl (by simpa using k16 _), by simp, ?_⟩
  simp [hqo, hw]
  refine ⟨_, _, .inl (by simpa [cargs] using k12 _), by simp [cargs], ?_⟩
  simp [w1]
  refine ⟨⟨chA t.W.Band t.W.Hold.toNat (usesL l t.P) r, ch ++ [(j : Int)], q + 1, t.W.Hold⟩, ⟨by show q + 1 ≤ w; omega, ?_⟩, by show w - (q + 1) < w - q; omega, by simp⟩
  rw [List.take_add_one, hx]
  exact g'
end Go.Proofs.YtpmmnnaaoideeaaGreat
