/- tunnel.agree, by the program. -/
import Derived.Test.YtpmmnnaaoideeaaT14
import Derived.Test.YtpmmnnaaoideeaaTC43
set_option linter.unusedSimpArgs false
set_option linter.unusedVariables false
namespace Go.Proofs.Ytpmmnnaaoideeaa
open Go Go.Am Go.Wk

theorem eAr : Enc arC 8 := ⟨by decide, fun _ => rfl, fun _ => rfl, fun _ => rfl⟩
/-- What a tunnel takes of a link at a level. -/
def oneT (l : List Lnk) (t : Tun) (i k : Nat) : Int := takenF t.W.Hold t.W.Band k * (cntI i (usesL l t.P) : Int)
def totT (l : List Lnk) : List Tun → Nat → Nat → Int
  | [], _, _ => 0
  | t :: ts, i, k => oneT l t i k + totT l ts i k
theorem totT_snoc (l : List Lnk) : ∀ (ts : List Tun) (t : Tun) (i k : Nat), totT l (ts ++ [t]) i k = totT l ts i k + oneT l t i k
  | [], t, i, k => by simp [totT]
  | x :: ts, t, i, k => by simp only [List.cons_append, totT, totT_snoc l ts t i k]; omega
structure okA (l : List Lnk) (t : Tun) : Prop where
  h0 : 0 ≤ t.W.Hold
  h7 : t.W.Hold ≤ 7
  b0 : 0 ≤ t.W.Band
  b1 : t.W.Band ≤ 1099511627776
  us : ∀ u ∈ usesL l t.P, 0 ≤ u ∧ u < l.length
  p : t.P.length ≤ 30
theorem cntI_le (i : Nat) (us : List Int) : cntI i us ≤ us.length := List.countP_le_length
theorem taken_bd {l : List Lnk} {t : Tun} (ok : okA l t) (k : Nat) : 0 ≤ takenF t.W.Hold t.W.Band k ∧ takenF t.W.Hold t.W.Band k ≤ 1099511627776 := by
  have := ok.b0; have := ok.b1
  unfold takenF; split <;> omega
theorem mul_bd {a : Int} (h : 0 ≤ a ∧ a ≤ 1099511627776) {c : Nat} (hc : c ≤ 30) : 0 ≤ a * (c : Int) ∧ a * (c : Int) ≤ 32985348833280 := by
  refine ⟨Int.mul_nonneg h.1 (Int.natCast_nonneg c), ?_⟩
  have : a * (c : Int) ≤ 1099511627776 * 30 := Int.mul_le_mul h.2 (by omega) (Int.natCast_nonneg c) (by omega)
  omega
theorem oneT_bd {l : List Lnk} {t : Tun} (ok : okA l t) (i k : Nat) : 0 ≤ oneT l t i k ∧ oneT l t i k ≤ 32985348833280 := by
  refine mul_bd (taken_bd ok k) ?_
  have h1 := cntI_le i (usesL l t.P)
  rw [usesL_len] at h1
  have := ok.p
  omega
theorem totT_bd {l : List Lnk} : ∀ {ts : List Tun}, (∀ t ∈ ts, okA l t) → ∀ i k, 0 ≤ totT l ts i k ∧ totT l ts i k ≤ 32985348833280 * ts.length
  | [], _, i, k => by simp [totT]
  | t :: ts, h, i, k => by
    have h1 := oneT_bd (h t (by simp)) i k
    have h2 := totT_bd (fun t ht => h t (List.mem_cons_of_mem _ ht)) i k (ts := ts)
    simp only [totT, List.length_cons]
    omega
theorem cntI_take {us : List Int} {q : Nat} {v : Int} (hv : us[q]? = some v) (i : Nat) : cntI i (us.take (q + 1)) = cntI i (us.take q) + if v = (i : Int) then 1 else 0 := by
  rw [List.take_add_one, hv]
  unfold cntI
  rw [List.countP_append]
  simp only [Option.toList_some, List.countP_cons, List.countP_nil, decide_eq_true_eq]
  omega
theorem rowA_get {S : List (Nat → Int)} {i : Nat} {f : Nat → Int} (h : S[i]? = some f) {k : Nat} (hk : k < 8) : (rowC arC S)[i * 8 + k]? = some (.int .i64 (f k)) := by
  have h1 := (eAr.rowAt h []).1
  rw [List.append_nil] at h1
  have h2 : (((rowC arC S).drop (i * 8)).take 8)[k]? = some (.int .i64 (f k)) := by rw [h1]; exact arC_get f hk
  rw [List.getElem?_take_of_lt (by omega), List.getElem?_drop] at h2
  exact h2
theorem rowA_set {S : List (Nat → Int)} {i : Nat} {f : Nat → Int} (h : S[i]? = some f) {k : Nat} (hk : k < 8) (v : Int) : (rowC arC S).set (i * 8 + k) (.int .i64 v) = rowC arC (S.set i (updF f k v)) := by
  induction S generalizing i with
  | nil => simp at h
  | cons y S ih =>
    cases i with
    | zero =>
      simp at h
      subst h
      rw [rowC_cons, Nat.zero_mul, Nat.zero_add, List.set_append_left _ _ (by simp; omega), arC_set _ hk, List.set_cons_zero, rowC_cons]
    | succ i =>
      rw [rowC_cons, List.set_append_right _ _ (by simp; omega), arC_len, List.set_cons_succ, rowC_cons]
      rw [show (i + 1) * 8 + k - 8 = i * 8 + k by omega, ih (by simpa using h)]
def gk (f u : Nat → Int) (k : Nat) : Nat → Int := fun j => if j < k then f j + u j else f j
theorem gk_zero (f u : Nat → Int) : gk f u 0 = f := by funext j; simp [gk]
theorem gk_at (f u : Nat → Int) (k : Nat) : gk f u k k = f k := by simp [gk]
theorem gk_upd (f u : Nat → Int) (k : Nat) : updF (gk f u k) k (f k + u k) = gk f u (k + 1) := by
  funext j
  unfold updF gk
  by_cases e : j = k
  · subst e; rw [if_pos rfl, if_pos (by omega)]
  · rw [if_neg e]
    by_cases e2 : j < k
    · rw [if_pos e2, if_pos (by omega)]
    · rw [if_neg e2, if_neg (by omega)]
/-- Every link has free what the tunnels leave. -/
def agreeP (l : List Lnk) (ts : List Tun) : Prop := ∀ (i : Nat) (x : Lnk), l[i]? = some x → ∀ k, k < 8 → x.Fr k = x.Cap - totT l ts i k
noncomputable def agreeB (l : List Lnk) (ts : List Tun) : Bool := @decide (agreeP l ts) (Classical.propDecidable _)
theorem agreeB_yes {l : List Lnk} {ts : List Tun} (h : agreeP l ts) : agreeB l ts = true := by unfold agreeB; simp [h]
theorem agreeB_no {l : List Lnk} {ts : List Tun} (h : ¬ agreeP l ts) : agreeB l ts = false := by unfold agreeB; simp [h]
set_option maxHeartbeats 16000000 in
set_option maxRecDepth 10000 in
theorem t28 (l : List Lnk) (n : Nat) (hn : l.length = n) (hn2 : n < 1000) (hC : ∀ x ∈ l, 0 ≤ x.Cap ∧ x.Cap ≤ 1099511627776) (ts : List Tun) (r : Nat) (hr : ts.length = r) (hr2 : r < 1000) (hts : ∀ t ∈ ts, okA l t) :
    CFun Try.prog 28 [.sl 13 (l.map encL) .sh, .sl 12 (ts.map encT) .sh] [] (.bool (agreeB l ts)) [] := by
  refine CFun.intro (tr := [100017]) (fz := []) (n := 80) (rs := [.tmp 4]) Try.func28 rfl (by kernel_rfl) rfl rfl mixed (by kernel_rfl) (by simp) (by simp) ?_
  have h35 := fun t (ht : t ∈ ts) H => (t35 t.W (hts t ht).h0 (by have := (hts t ht).h0; have := (hts t ht).h7; unfold inI; omega)).up' H (by simp [noid, noid0]) (by simp [noid, noid0])
  have h41 := fun t (ht : t ∈ ts) H => (t41 l n hn (by omega) t.P t.P.length rfl (by have := (hts t ht).p; omega)).up' H rfl rfl
  by_cases hne : l = []
  · have hB : agreeB l ts = true := agreeB_yes (by intro i x hx; rw [hne] at hx; simp at hx)
    rw [hB]
    have hus0 : ∀ t ∈ ts, usesL l t.P = [] := by
      intro t ht
      have := (hts t ht).us
      cases hu : usesL l t.P with
      | nil => rfl
      | cons u us =>
        rw [hu] at this
        have := this u (by simp)
        rw [hne] at this
        simp at this
        omega
    have hn0 : n = 0 := by rw [← hn, hne]; rfl
    subst hne
    simp [hr]
    refine LoopK.intro (tr := [100017]) mixed (by kernel_rfl) (fun j : Nat => [(0, .sl 13 [] .sh), (18, .sl 12 (ts.map encT) .sh), (19, .int .i64 r), (20, .int .i64 j)]) (fun _ => []) (fun j => j ≤ r) (fun j => r - j) 0 (by omega) (by simp) ?_
    intro j j1
    by_cases hj : j < r
    · obtain ⟨t, ht⟩ : ∃ t, ts[j]? = some t := ⟨_, List.getElem?_eq_getElem (by omega)⟩
      have hm := List.mem_of_getElem? ht
      have k35 := h35 t hm
      have k41 := h41 t hm
      rw [hus0 t hm] at k41
      have w1 : IntKind.i64.wrap ((j : Int) + 1) = j + 1 := wrap_in (by omega)
      simp [hj, hr, ht, gE ht]
      refine ⟨_, _, .inl (by simpa using k35 _), by simp, ?_⟩
      simp
      refine ⟨_, _, .inl (by simpa using k41 _), by simp, ?_⟩
      simp
      refine LoopK.intro (tr := [100017]) mixed (by kernel_rfl) (fun _ : Nat => [(0, .sl 13 [] .sh), (18, .sl 12 (ts.map encT) .sh), (19, .int .i64 r), (20, .int .i64 j), (31, .int .i64 0), (32, .int .i64 0)]) (fun _ => []) (fun _ => True) (fun i => i) 0 trivial (by simp) ?_
      intro _ _
      simp [w1]
      exact ⟨j + 1, by omega, by omega, by simp⟩
    · simp [hj]
      refine LoopK.intro (tr := [100017]) mixed (by kernel_rfl) (fun _ : Nat => [(55, .int .i64 0), (56, .int .i64 0)]) (fun _ => []) (fun _ => True) (fun i => i) 0 trivial (by simp) ?_
      intro _ _
      simp
  have hn0 : 0 < n := by rw [← hn]; exact List.length_pos_iff.2 hne
  have s1 : 64 * n ≤ 281474976710656 := by omega
  have s2 : (n : Int) ≤ 9223372036854775807 := by omega
  have s0 : (List.replicate n [AVal.int .i64 0, .int .i64 0, .int .i64 0, .int .i64 0, .int .i64 0, .int .i64 0, .int .i64 0, .int .i64 0]).flatten = rowC arC (List.replicate n zF) := by
    simp [rowC, List.flatMap_replicate, arC_zero]
  have hle := fun k (S : List (Nat → Int)) => eAr.rowLe k S
  have hrl := eAr.rowLen
  simp [hn, hr, s1, s2, hn0]
  rw [s0]
  refine LoopK.intro (tr := [100017]) mixed (by kernel_rfl) (fun s : Nat × List (Nat → Int) => [(0, .sl 13 (l.map encL) .sh), (5, .osl 0 0 n (some n) 8), (18, .sl 12 (ts.map encT) .sh), (19, .int .i64 r), (20, .int .i64 s.1)]) (fun s => [rowC arC s.2])
    (fun s => s.1 ≤ r ∧ s.2.length = n ∧ ∀ (i : Nat) (f : Nat → Int), s.2[i]? = some f → ∀ k, k < 8 → f k = totT l (ts.take s.1) i k) (fun s => r - s.1) (0, List.replicate n zF) ?_ ?_ ?_
  · refine ⟨Nat.zero_le _, by simp, fun i f hf k hk => ?_⟩
    have := List.mem_of_getElem? hf
    rw [List.mem_replicate] at this
    rw [this.2]
    simp [zF, totT]
  · simp [hle]
  rintro ⟨j, S⟩ ⟨j1, j2, j3⟩
  simp only at j1 j2 j3
  by_cases hj : j < r
  case pos =>
    obtain ⟨t, ht⟩ : ∃ t, ts[j]? = some t := ⟨_, List.getElem?_eq_getElem (by omega)⟩
    have hm := List.mem_of_getElem? ht
    have k35 := h35 t hm
    have k41 := h41 t hm
    have okt := hts t hm
    have w1 : IntKind.i64.wrap ((j : Int) + 1) = j + 1 := wrap_in (by omega)
    have hsn : ts.take (j + 1) = ts.take j ++ [t] := by rw [List.take_add_one, ht]; rfl
    have hone := fun i k => show oneT l t i k = takenF t.W.Hold t.W.Band k * (cntI i (usesL l t.P) : Int) from rfl
    have hus := okt.us
    have hul : (usesL l t.P).length ≤ 30 := by rw [usesL_len]; have := okt.p; omega
    have htb := taken_bd okt
    generalize usesL l t.P = us at *
    generalize takenF t.W.Hold t.W.Band = tk at *
    obtain ⟨u, hu⟩ : ∃ u, us.length = u := ⟨_, rfl⟩
    rw [hu] at hul
    simp [hj, hr, ht, gE ht]
    refine ⟨_, _, .inl (by simpa using k35 _), by simp, ?_⟩
    simp
    refine ⟨_, _, .inl (by simpa using k41 _), by simp, ?_⟩
    simp [hu]
    refine LoopK.intro (tr := [100017]) mixed (by kernel_rfl) (fun s : Nat × List (Nat → Int) => [(0, .sl 13 (l.map encL) .sh), (5, .osl 0 0 n (some n) 8), (8, .ptr 2 0), (18, .sl 12 (ts.map encT) .sh), (19, .int .i64 r), (20, .int .i64 j), (30, .sl 1 (us.map encI) .sh), (31, .int .i64 u), (32, .int .i64 s.1)]) (fun s => [rowC arC s.2, [], arC tk])
      (fun s => s.1 ≤ u ∧ s.2.length = n ∧ ∀ (i : Nat) (f : Nat → Int), s.2[i]? = some f → ∀ k, k < 8 → f k = totT l (ts.take j) i k + tk k * (cntI i (us.take s.1) : Int)) (fun s => u - s.1) (0, S) ?_ ?_ ?_
    · refine ⟨Nat.zero_le _, j2, fun i f hf k hk => ?_⟩
      rw [j3 i f hf k hk]
      simp [cntI]
    · simp [hle]
    rintro ⟨q, S'⟩ ⟨q1, q2, q3⟩
    simp only at q1 q2 q3
    by_cases hq : q < u
    case neg =>
      have : q = u := by omega
      subst this
      simp [hq, w1]
      refine ⟨j + 1, S', ⟨by omega, q2, fun i f hf k hk => ?_⟩, by omega, by simp [hle]⟩
      rw [q3 i f hf k hk, hsn, totT_snoc, hone, show us.take q = us from List.take_of_length_le (by omega)]
    obtain ⟨v, hv⟩ : ∃ v, us[q]? = some v := ⟨_, List.getElem?_eq_getElem (by omega)⟩
    obtain ⟨v0, v1⟩ := hus v (List.mem_of_getElem? hv)
    obtain ⟨i, rfl⟩ : ∃ i : Nat, v = i := ⟨v.toNat, by omega⟩
    have hi : i < n := by omega
    obtain ⟨f, hf⟩ : ∃ f, S'[i]? = some f := ⟨_, List.getElem?_eq_getElem (by omega)⟩
    have w2 : IntKind.i64.wrap ((q : Int) + 1) = q + 1 := wrap_in (by omega)
    have hct := fun i' => cntI_take hv i'
    simp [hq, hu, hv, gE hv]
    refine LoopK.intro (tr := [100017]) mixed (by kernel_rfl) (fun k : Nat => [(0, .sl 13 (l.map encL) .sh), (5, .osl 0 0 n (some n) 8), (8, .ptr 2 0), (10, .int .i64 i), (18, .sl 12 (ts.map encT) .sh), (19, .int .i64 r), (20, .int .i64 j), (30, .sl 1 (us.map encI) .sh), (31, .int .i64 u), (32, .int .i64 q), (36, .int .i64 k)]) (fun k => [rowC arC (S'.set i (gk f tk k)), [], arC tk])
      (fun k => k ≤ 8) (fun k => 8 - k) 0 ?_ ?_ ?_
    · omega
    · have hsame : S'.set i (gk f tk 0) = S' := by
        rw [gk_zero]
        apply List.ext_getElem?
        intro j'
        rw [List.getElem?_set]
        split
        · rename_i e; subst e; rw [if_pos (by omega), hf]
        · rfl
      simp [hsame, hle]
    intro k k1
    by_cases hk : k < 8
    case neg =>
      have : k = 8 := by omega
      subst this
      simp [w2]
      refine ⟨q + 1, S'.set i (gk f tk 8), ⟨by omega, by rw [List.length_set]; exact q2, fun i' f' hf' k hk => ?_⟩, by omega, by simp [hle]⟩
      rw [List.getElem?_set] at hf'
      rw [hct i']
      by_cases e : i = i'
      · subst e
        rw [if_pos rfl, if_pos (by omega)] at hf'
        injection hf' with hf'
        subst hf'
        have := q3 i f hf k hk
        rw [if_pos rfl]
        simp only [gk, if_pos hk, this]
        rw [Int.natCast_add, Int.mul_add]
        simp
        omega
      · rw [if_neg e] at hf'
        rw [if_neg (by omega), Nat.add_zero]
        exact q3 i' f' hf' k hk
    have hk' : (k : Int) < 8 := by omega
    have hk7 : k ≤ 7 := by omega
    have hz : (S'.set i (gk f tk k))[i]? = some (gk f tk k) := by rw [List.getElem?_set_self (by omega)]
    have hg := rowA_get hz hk
    rw [gk_at] at hg
    have hset := rowA_set hz hk (f k + tk k)
    rw [List.set_set, gk_upd] at hset
    have hrc := hrl (S'.set i (gk f tk k))
    rw [List.length_set, q2] at hrc
    have ha := arC_get tk hk
    have hfk := q3 i f hf k hk
    have hb1 := totT_bd (l := l) (ts := ts.take j) (fun t ht => hts t (List.mem_of_mem_take ht)) i k
    have hlt : (ts.take j).length ≤ 1000 := by rw [List.length_take]; omega
    have hb2 := mul_bd (htb k) (c := cntI i (us.take q)) (by have := cntI_le i (us.take q); rw [List.length_take] at this; omega)
    have hb3 := htb k
    have w3 : IntKind.i64.wrap (f k + tk k) = f k + tk k := wrap_in (by omega)
    have w4 : IntKind.i64.wrap ((k : Int) + 1) = k + 1 := wrap_in (by omega)
    have b1 : i * 8 + k < n * 8 := by omega
    have b2 : i * 8 + k + 1 ≤ n * 8 := by omega
    simp [hk, hk', hk7, hi, hg, gE hg, ha, gE ha, hrc, b1, b2, w3]
    simp [hset, w4]
    exact ⟨k + 1, by omega, by omega, by simp [hle]⟩
  have : j = r := by omega
  subst this
  rw [List.take_of_length_le (by omega)] at j3
  simp [hn]
  refine LoopK.intro (tr := [100017]) mixed (by kernel_rfl) (fun i : Nat => [(5, .osl 0 0 n (some n) 8), (54, .sl 13 (l.map encL) .sh), (55, .int .i64 n), (56, .int .i64 i)]) (fun _ => [rowC arC S])
    (fun i => i ≤ n ∧ ∀ (i' : Nat) (x : Lnk), i' < i → l[i']? = some x → ∀ k, k < 8 → x.Fr k = x.Cap - totT l ts i' k) (fun i => n - i) 0 ?_ ?_ ?_
  · exact ⟨by omega, fun i' x hi' => by omega⟩
  · simp [hle]
  rintro i ⟨i1, i2⟩
  by_cases hi : i < n
  case neg =>
    have hB : agreeB l ts = true := agreeB_yes fun i' x hx => i2 i' x (by have := (List.getElem?_eq_some_iff.1 hx).1; omega) hx
    simp [hi, hB]
  obtain ⟨x, hx⟩ : ∃ x, l[i]? = some x := ⟨_, List.getElem?_eq_getElem (by omega)⟩
  obtain ⟨f, hf⟩ : ∃ f, S[i]? = some f := ⟨_, List.getElem?_eq_getElem (by omega)⟩
  have w1 : IntKind.i64.wrap ((i : Int) + 1) = i + 1 := wrap_in (by omega)
  have hcx := hC x (List.mem_of_getElem? hx)
  simp [hi, hn, hx, gE hx]
  refine LoopK.intro (tr := [100017]) mixed (by kernel_rfl) (fun k : Nat => [(5, .osl 0 0 n (some n) 8), (12, .int .i64 i), (13, .ptr 1 0), (54, .sl 13 (l.map encL) .sh), (55, .int .i64 n), (56, .int .i64 i), (61, .int .i64 k)]) (fun _ => [rowC arC S, cellsL x])
    (fun k => k ≤ 8 ∧ ∀ k', k' < k → x.Fr k' = x.Cap - totT l ts i k') (fun k => 8 - k) 0 ?_ ?_ ?_
  · exact ⟨by omega, fun k' hk' => by omega⟩
  · simp [hle]
  rintro k ⟨k1, k2⟩
  by_cases hk : k < 8
  case neg =>
    have : k = 8 := by omega
    subst this
    simp [w1]
    refine ⟨i + 1, ⟨by omega, fun i' y hi' hy => ?_⟩, by omega, by simp [hle]⟩
    by_cases e : i' = i
    · subst e
      rw [hx] at hy
      injection hy with hy
      subst hy
      exact k2
    · exact i2 i' y (by omega) hy
  have hk' : (k : Int) < 8 := by omega
  have hk7 : k ≤ 7 := by omega
  have hg := rowA_get hf hk
  have hgx := cellsL_fr x hk
  have hrc := hrl S
  rw [j2] at hrc
  have hfk := j3 i f hf k hk
  have hb1 := totT_bd (l := l) (ts := ts) hts i k
  have w3 : IntKind.i64.wrap (x.Cap - f k) = x.Cap - f k := wrap_in (by omega)
  have w4 : IntKind.i64.wrap ((k : Int) + 1) = k + 1 := wrap_in (by omega)
  have b1 : i * 8 + k < n * 8 := by omega
  have b3 : 4 + k < 13 := by omega
  by_cases g : x.Fr k = x.Cap - f k
  · simp [hk, hk', hk7, hi, hg, gE hg, hgx, gE hgx, hrc, b1, b3, w3, g, w4]
    refine ⟨k + 1, ⟨by omega, fun k' hk' => ?_⟩, by omega, by simp [hle]⟩
    by_cases e : k' = k
    · subst e; omega
    · exact k2 k' (by omega)
  · have hB : agreeB l ts = false := agreeB_no fun h => g (by rw [h i x hx k hk, hfk])
    simp [hk, hk', hk7, hi, hg, gE hg, hgx, gE hgx, hrc, b1, b3, w3, g, hB]
end Go.Proofs.Ytpmmnnaaoideeaa

/- The reference's agree, by the program. -/
namespace Go.Proofs.Ytpmmnnaaoideeaa
open Go Go.Am Go.Wk

set_option maxHeartbeats 16000000 in
set_option maxRecDepth 10000 in
theorem t32 (l : List Lnk) (n : Nat) (hn : l.length = n) (hn2 : n < 1000) (hC : ∀ x ∈ l, 0 ≤ x.Cap ∧ x.Cap ≤ 1099511627776) (ts : List Tun) (r : Nat) (hr : ts.length = r) (hr2 : r < 1000) (hts : ∀ t ∈ ts, okA l t) :
    CFun Try.prog 32 [.sl 13 (l.map encL) .sh, .sl 12 (ts.map encT) .sh] [] (.bool (agreeB l ts)) [] := by
  refine CFun.intro (tr := []) (fz := []) (n := 54) (rs := [.tmp 4]) Try.func32 rfl (by kernel_rfl) rfl rfl mixed (by kernel_rfl) (by simp) (by simp) ?_
  have h39 := fun t (ht : t ∈ ts) i H => (t39 l n hn (by omega) t.P t.P.length rfl (by have := (hts t ht).p; omega) i).up' H rfl rfl
  simp [hn]
  refine LoopK.intro (tr := []) mixed (by kernel_rfl) (fun i : Nat => [(0, .sl 13 (l.map encL) .sh), (1, .sl 12 (ts.map encT) .sh), (11, .sl 13 (l.map encL) .sh), (12, .int .i64 n), (13, .int .i64 i)]) (fun _ => [])
    (fun i => i ≤ n ∧ ∀ (i' : Nat) (x : Lnk), i' < i → l[i']? = some x → ∀ k, k < 8 → x.Fr k = x.Cap - totT l ts i' k) (fun i => n - i) 0 ?_ ?_ ?_
  · exact ⟨by omega, fun i' x hi' => by omega⟩
  · simp
  rintro i ⟨i1, i2⟩
  by_cases hi : i < n
  case neg =>
    have hB : agreeB l ts = true := agreeB_yes fun i' x hx => i2 i' x (by have := (List.getElem?_eq_some_iff.1 hx).1; omega) hx
    simp [hi, hB]
  obtain ⟨x, hx⟩ : ∃ x, l[i]? = some x := ⟨_, List.getElem?_eq_getElem (by omega)⟩
  have w1 : IntKind.i64.wrap ((i : Int) + 1) = i + 1 := wrap_in (by omega)
  have hcx := hC x (List.mem_of_getElem? hx)
  simp [hi, hn, hx, gE hx]
  refine LoopK.intro (tr := []) mixed (by kernel_rfl) (fun k : Nat => [(0, .sl 13 (l.map encL) .sh), (1, .sl 12 (ts.map encT) .sh), (5, .int .i64 i), (6, .ptr 0 0), (7, .int .i64 k), (11, .sl 13 (l.map encL) .sh), (12, .int .i64 n), (13, .int .i64 i)]) (fun _ => [cellsL x])
    (fun k => k ≤ 8 ∧ ∀ k', k' < k → x.Fr k' = x.Cap - totT l ts i k') (fun k => 8 - k) 0 ?_ ?_ ?_
  · exact ⟨by omega, fun k' hk' => by omega⟩
  · simp
  rintro k ⟨k1, k2⟩
  by_cases hk : k < 8
  case neg =>
    have : k = 8 := by omega
    subst this
    simp [w1]
    refine ⟨i + 1, ⟨by omega, fun i' y hi' hy => ?_⟩, by omega, by simp⟩
    by_cases e : i' = i
    · subst e
      rw [hx] at hy
      injection hy with hy
      subst hy
      exact k2
    · exact i2 i' y (by omega) hy
  have hk' : (k : Int) < 8 := by omega
  have hk7 : k ≤ 7 := by omega
  have hgx := cellsL_fr x hk
  have w4 : IntKind.i64.wrap ((k : Int) + 1) = k + 1 := wrap_in (by omega)
  have b3 : 4 + k < 13 := by omega
  simp [hk, hk', hk7, hr]
  refine LoopK.intro (tr := []) mixed (by kernel_rfl) (fun j : Nat => [(0, .sl 13 (l.map encL) .sh), (1, .sl 12 (ts.map encT) .sh), (5, .int .i64 i), (6, .ptr 0 0), (7, .int .i64 k), (8, .int .i64 (x.Cap - totT l (ts.take j) i k)), (11, .sl 13 (l.map encL) .sh), (12, .int .i64 n), (13, .int .i64 i), (24, .sl 12 (ts.map encT) .sh), (25, .int .i64 r), (26, .int .i64 j)]) (fun _ => [cellsL x])
    (fun j => j ≤ r) (fun j => r - j) 0 (by omega) ?_ ?_
  · simp [totT]
  intro j j1
  by_cases hj : j < r
  case neg =>
    have : j = r := by omega
    subst this
    have he : ts.take j = ts := List.take_of_length_le (by omega)
    rw [he]
    by_cases g : x.Cap - totT l ts i k = x.Fr k
    · simp [hk, hk', hk7, hgx, gE hgx, b3, g, w4]
      refine ⟨k + 1, ⟨by omega, fun k' hk' => ?_⟩, by omega, by simp⟩
      by_cases e : k' = k
      · subst e; omega
      · exact k2 k' (by omega)
    · have hB : agreeB l ts = false := agreeB_no fun h => g (h i x hx k hk).symm
      simp [hk, hk', hk7, hgx, gE hgx, b3, g, hB]
  obtain ⟨t, ht⟩ : ∃ t, ts[j]? = some t := ⟨_, List.getElem?_eq_getElem (by omega)⟩
  have hm := List.mem_of_getElem? ht
  have k39 := h39 t hm i
  have okt := hts t hm
  have w2 : IntKind.i64.wrap ((j : Int) + 1) = j + 1 := wrap_in (by omega)
  have hsn : totT l (ts.take (j + 1)) i k = totT l (ts.take j) i k + oneT l t i k := by rw [show ts.take (j + 1) = ts.take j ++ [t] by rw [List.take_add_one, ht]; rfl, totT_snoc]
  have hb1 := totT_bd (l := l) (ts := ts.take j) (fun t ht => hts t (List.mem_of_mem_take ht)) i k
  have hlt : (ts.take j).length ≤ 1000 := by rw [List.length_take]; omega
  have hb2 := oneT_bd okt i k
  have hone : oneT l t i k = takenF t.W.Hold t.W.Band k * (cntI i (usesL l t.P) : Int) := rfl
  by_cases g : t.W.Hold ≤ k
  · have e1 : takenF t.W.Hold t.W.Band k = t.W.Band := by unfold takenF; rw [if_pos g]
    rw [e1, Int.mul_comm] at hone
    generalize cntI i (usesL l t.P) = ct at *
    have w5 : IntKind.i64.wrap ((ct : Int) * t.W.Band) = (ct : Int) * t.W.Band := wrap_in (by rw [← hone]; omega)
    have w6 : IntKind.i64.wrap (x.Cap - totT l (ts.take j) i k - (ct : Int) * t.W.Band) = x.Cap - totT l (ts.take j) i k - (ct : Int) * t.W.Band := wrap_in (by rw [← hone]; omega)
    simp [hj, hr, ht, gE ht, g]
    refine ⟨_, _, .inl (by simpa [cargs] using k39 _), by simp [cargs], ?_⟩
    simp [w2, w5, w6]
    refine ⟨j + 1, by omega, by omega, ?_⟩
    rw [hsn, hone]
    simp [Int.sub_sub]
  · have e1 : takenF t.W.Hold t.W.Band k = 0 := by unfold takenF; rw [if_neg g]
    rw [e1, Int.zero_mul] at hone
    simp [hj, hr, ht, gE ht, g, w2]
    refine ⟨j + 1, by omega, by omega, ?_⟩
    rw [hsn, hone, Int.add_zero]
    simp
end Go.Proofs.Ytpmmnnaaoideeaa

/- Check of tunnels, by the program. -/
namespace Go.Proofs.Ytpmmnnaaoideeaa
open Go Go.Am Go.Wk

def prevB (p : Option Int) (x : Int) : Bool := match p with | some q => decide (x ≤ q) | none => false
def tunsE (n : Int) (l : List Lnk) : Option Int → List Tun → Int
  | _, [] => 0
  | p, t :: ts => if t.ID < 1 then 5 else if prevB p t.ID = true then 16
    else if tunE n l t ≠ 0 then tunE n l t else tunsE n l (some t.ID) ts
noncomputable def chkT (n : Int) (l : List Lnk) (ts : List Tun) : Int :=
  if checkE n l con0 ≠ 0 then checkE n l con0 else if 2000 < ts.length then 4 else if tunsE n l none ts ≠ 0 then tunsE n l none ts else if agreeB l ts = true then 0 else 14
theorem tunsE_all {n : Int} {l : List Lnk} : ∀ {ts : List Tun} {p : Option Int}, tunsE n l p ts = 0 → ∀ t ∈ ts, tunE n l t = 0 := by
  intro ts
  induction ts with
  | nil => intro p _ t ht; simp at ht
  | cons x ts ih =>
    intro p h t ht
    simp only [tunsE] at h
    split at h
    · cases h
    split at h
    · cases h
    split at h
    · rename_i g; exact absurd h g
    · rename_i g
      rcases List.mem_cons.1 ht with rfl | ht
      · exact Decidable.not_not.1 g
      · exact ih h t ht
theorem tunE_ok {n : Int} {l : List Lnk} {t : Tun} (h : tunE n l t = 0) (hp : t.P.length ≤ 30) : okA l t := by
  unfold tunE at h
  by_cases g1 : conE n t.W = 0
  case neg => rw [if_pos g1] at h; exact absurd h g1
  rw [if_neg (by simpa using g1)] at h
  by_cases g2 : endsE n t = 0
  case neg => rw [if_pos g2] at h; exact absurd h g2
  rw [if_neg (by simpa using g2)] at h
  have g3 : pathB l t = false := by
    cases hb : pathB l t with
    | false => rfl
    | true => rw [hb] at h; simp at h
  unfold conE at g1
  by_cases q1 : t.W.Band < 0 ∨ 1099511627776 < t.W.Band ∨ t.W.Setup < 0 ∨ 7 < t.W.Setup ∨ t.W.Hold < 0 ∨ 7 < t.W.Hold ∨ t.W.Hops < 0
  · rw [if_pos q1] at g1; cases g1
  refine ⟨by omega, by omega, by omega, by omega, fun u hu => ?_, hp⟩
  have h1 := usesL_range l t.P u hu
  unfold pathB at g3
  by_cases q2 : t.P.length = 0
  · have : t.P = [] := List.length_eq_zero_iff.1 q2
    rw [this] at hu
    simp [usesL] at hu
  rw [if_neg q2] at g3
  simp only [Bool.or_eq_false_iff] at g3
  have h2 : ¬ hasB (usesL l t.P) (-1) = true := by rw [g3.2]; simp
  rw [hasB_iff] at h2
  have : u ≠ -1 := fun e => h2 (e ▸ hu)
  omega
theorem linkE_cap {n : Int} {x : Lnk} (h : linkE n x = 0) : 0 ≤ x.Cap ∧ x.Cap ≤ 1099511627776 := by
  unfold linkE at h
  by_cases g1 : x.From < 0 ∨ n ≤ x.From ∨ x.To < 0 ∨ n ≤ x.To
  · rw [if_pos g1] at h; cases h
  rw [if_neg g1] at h
  by_cases g2 : x.From = x.To
  · rw [if_pos g2] at h; cases h
  rw [if_neg g2] at h
  by_cases g3 : x.Cost < 1 ∨ 65535 < x.Cost ∨ x.Cap < 0 ∨ 1099511627776 < x.Cap
  · rw [if_pos g3] at h; cases h
  omega
theorem check_cap {n : Int} {l : List Lnk} {c : Con} (h : checkE n l c = 0) : ∀ x ∈ l, 0 ≤ x.Cap ∧ x.Cap ≤ 1099511627776 := by
  obtain ⟨n1, n2, l2, lk, cn⟩ := check_links h
  obtain ⟨asc, _, lko⟩ := links_asc lk
  exact fun x hx => linkE_cap (lko x hx)
def prevT (ts : List Tun) : Nat → Option Int
  | 0 => none
  | i + 1 => ts[i]?.map Tun.ID
set_option maxHeartbeats 16000000 in
set_option maxRecDepth 10000 in
theorem t10 (n : Int) (l : List Lnk) (k : Nat) (hk : l.length = k) (hk2 : k < 1000) (ts : List Tun) (r : Nat) (hr : ts.length = r) (hr2 : r < 1000) (hts : ∀ t ∈ ts, okTn t ∧ t.P.length ≤ 30) :
    CFun Try.prog 10 [.int .i64 n, .sl 13 (l.map encL) .sh, .sl 12 (ts.map encT) .sh] [] (.int .i64 (chkT n l ts)) [] := by
  refine CFun.intro (tr := []) (fz := []) (n := 56) (rs := [.tmp 6]) Try.func10 rfl (by kernel_rfl) rfl rfl mixed (by kernel_rfl) (by simp) (by simp) ?_
  have h26 := fun H => ((c12 l k hk (by omega) con0 n 0 0 rfl rfl (by decide) (by decide)).up' H (by simp [noid, noid0, con0]) rfl).wk [.int .i64 n, .sl 13 (l.map encL) .sh, .agg [.int .i64 0, .int .i64 0, .int .i64 0, .int .u32 0, .int .u32 0, .int .i64 0, .sl 0 [] .full, .sl 0 [] .full]] (by simp [noid, noid0]) ⟨LeS_refl _, LeS_refl _, by simp [con0, LeS, LeC], trivial⟩
  unfold chkT
  by_cases g1 : checkE n l con0 = 0
  case neg =>
    rw [if_pos g1]
    have g1' : ¬ checkE n l con0 = 0 := g1
    generalize checkE n l con0 = e at *
    simp
    refine ⟨_, _, .inl (by simpa using h26 _), by simp, ?_⟩
    simp [g1']
  rw [if_neg (by simpa using g1), if_neg (by omega)]
  rw [g1] at h26
  have hC := check_cap g1
  have hag := fun (hall : ∀ t ∈ ts, tunE n l t = 0) H => (t28 l k hk hk2 hC ts r hr hr2 (fun t ht => tunE_ok (hall t ht) (hts t ht).2)).up' H rfl rfl
  have h27 := fun t (ht : t ∈ ts) H => (t27 n l k hk (by omega) g1 t (hts t ht).1).up' H (by simp [noid, noid0]) rfl
  obtain ⟨T, hT⟩ : ∃ T, T = tunsE n l none ts := ⟨_, rfl⟩
  have hall : T = 0 → ∀ t ∈ ts, tunE n l t = 0 := fun h => tunsE_all (by rw [← hT]; exact h)
  rw [← hT]
  have hr' : ¬ (2000 : Int) < r := by omega
  have hr'' : ¬ 2000 < r := by omega
  simp
  refine ⟨_, _, .inl (by simpa using h26 _), by simp, ?_⟩
  simp [hr, hr', hr'']
  clear h26
  refine LoopK.intro (tr := []) mixed (by kernel_rfl) (fun i : Nat => [(0, .int .i64 n), (1, .sl 13 (l.map encL) .sh), (2, .sl 12 (ts.map encT) .sh), (21, .sl 12 (ts.map encT) .sh), (22, .int .i64 r), (23, .int .i64 i)]) (fun _ => [])
    (fun i => i ≤ r ∧ T = tunsE n l (prevT ts i) (ts.drop i)) (fun i => r - i) 0 ?_ ?_ ?_
  · exact ⟨by omega, hT⟩
  · simp
  rintro i ⟨i1, i2⟩
  by_cases hi : i < r
  case neg =>
    rw [List.drop_eq_nil_of_le (by omega)] at i2
    simp only [tunsE] at i2
    have hg := hag (hall i2)
    subst i2
    generalize agreeB l ts = b at *
    simp [hi]
    refine ⟨_, _, .inl (by simpa using hg _), by simp, ?_⟩
    cases b <;> simp
  obtain ⟨t, ht, hd⟩ := get_drop (l := ts) (i := i) (by omega)
  rw [hd] at i2
  simp only [tunsE] at i2
  have hm := List.mem_of_getElem? ht
  have w1 : IntKind.i64.wrap ((i : Int) + 1) = i + 1 := wrap_in (by omega)
  have hp1 : prevT ts (i + 1) = some t.ID := by simp [prevT, ht]
  clear hT hall hag hd
  have k27 := h27 t hm
  clear h27
  generalize tunE n l t = e at *
  by_cases a1 : t.ID < 1
  · rw [if_pos a1] at i2
    subst i2
    simp [hi, hr, ht, gE ht, a1]
  rw [if_neg a1] at i2
  cases i with
  | zero =>
    simp only [prevT, prevB, Bool.false_eq_true, if_false] at i2
    have w1 : IntKind.i64.wrap 1 = 1 := wrap_in (by omega)
    simp [hi, hr, ht, gE ht, a1]
    refine ⟨_, _, .inl (by simpa using k27 _), by simp, ?_⟩
    by_cases g2 : e = 0
    case neg =>
      have i2 : T = e := by rw [i2, if_pos g2]
      subst i2
      simp [g2]
    subst g2
    simp only [ne_eq, not_true_eq_false, if_false] at i2
    simp [w1]
    exact ⟨1, ⟨by omega, by rw [hp1]; exact i2⟩, by omega, by simp⟩
  | succ i =>
    obtain ⟨y, hy⟩ : ∃ y, ts[i]? = some y := ⟨_, List.getElem?_eq_getElem (by omega)⟩
    have hpy : prevT ts (i + 1) = some y.ID := by simp [prevT, hy]
    simp only [hpy, prevB] at i2
    have b3' : (0 : Int) < (i : Int) + 1 := by omega
    have b5 : i < r := by omega
    have w2 : IntKind.i64.wrap ((i : Int) + 1 - 1) = i := by rw [Int.add_sub_cancel]; exact wrap_in (by omega)
    have w4 : IntKind.i64.wrap (i : Int) = i := wrap_in (by omega)
    have hn1 : ((i : Int) + 1).toNat = i + 1 := by omega
    have w1 : IntKind.i64.wrap ((i : Int) + 1 + 1) = (i : Int) + 1 + 1 := wrap_in (by omega)
    have hi' : (i : Int) + 1 < r := by omega
    have hi0 : (0 : Int) ≤ (i : Int) + 1 := by omega
    by_cases a2 : t.ID ≤ y.ID
    · rw [if_pos (by simpa using a2)] at i2
      subst i2
      simp [hi, hi', hi0, hr, ht, gE ht, hy, gE hy, a1, a2, b3', b5, w2, w4, hn1]
    rw [if_neg (by simpa using a2)] at i2
    simp [hi, hi', hi0, hr, ht, gE ht, hy, gE hy, a1, a2, b3', b5, w2, w4, hn1]
    refine ⟨_, _, .inl (by simpa using k27 _), by simp, ?_⟩
    by_cases g2 : e = 0
    case neg =>
      have i2 : T = e := by rw [i2, if_pos g2]
      subst i2
      simp [g2]
    subst g2
    simp only [ne_eq, not_true_eq_false, if_false] at i2
    simp [w1]
    exact ⟨i + 1 + 1, ⟨by omega, by rw [hp1]; exact i2⟩, by omega, by simp⟩
end Go.Proofs.Ytpmmnnaaoideeaa

/- The reference's Check of tunnels, by the program. -/
namespace Go.Proofs.Ytpmmnnaaoideeaa
open Go Go.Am Go.Wk

set_option maxHeartbeats 16000000 in
set_option maxRecDepth 10000 in
theorem t11 (n : Int) (l : List Lnk) (k : Nat) (hk : l.length = k) (hk2 : k < 1000) (ts : List Tun) (r : Nat) (hr : ts.length = r) (hr2 : r < 1000) (hts : ∀ t ∈ ts, okTn t ∧ t.P.length ≤ 30) :
    CFun Try.prog 11 [.int .i64 n, .sl 13 (l.map encL) .sh, .sl 12 (ts.map encT) .sh] [] (.int .i64 (chkT n l ts)) [] := by
  refine CFun.intro (tr := []) (fz := []) (n := 102) (rs := [.tmp 6]) Try.func11 rfl (by kernel_rfl) rfl rfl mixed (by kernel_rfl) (by simp) (by simp) ?_
  have h26 := fun H => ((c13 l k hk (by omega) con0 n 0 0 rfl rfl (by decide) (by decide)).up' H (by simp [noid, noid0, con0]) rfl).wk [.int .i64 n, .sl 13 (l.map encL) .sh, .agg [.int .i64 0, .int .i64 0, .int .i64 0, .int .u32 0, .int .u32 0, .int .i64 0, .sl 0 [] .full, .sl 0 [] .full]] (by simp [noid, noid0]) ⟨LeS_refl _, LeS_refl _, by simp [con0, LeS, LeC], trivial⟩
  unfold chkT
  by_cases g1 : checkE n l con0 = 0
  case neg =>
    rw [if_pos g1]
    have g1' : ¬ checkE n l con0 = 0 := g1
    generalize checkE n l con0 = e at *
    simp
    refine ⟨_, _, .inl (by simpa using h26 _), by simp, ?_⟩
    simp [g1']
  rw [if_neg (by simpa using g1), if_neg (by omega)]
  rw [g1] at h26
  have hC := check_cap g1
  have hag := fun (hall : ∀ t ∈ ts, tunE n l t = 0) H => (t32 l k hk hk2 hC ts r hr hr2 (fun t ht => tunE_ok (hall t ht) (hts t ht).2)).up' H rfl rfl
  have h21 := fun t (ht : t ∈ ts) H => (c13 l k hk (by omega) t.W n _ _ rfl rfl (hts t ht).1.a (hts t ht).1.h).up' H (by simp [noid, noid0]) rfl
  have hcc := fun t : Tun => (checkE_con g1 t.W).1
  simp only [hcc] at h21
  have h29 := fun t H => (t29 n t).up' H (by simp [noid, noid0]) rfl
  have h30 := fun t (ht : t ∈ ts) H => (c35 t.P t.P.length rfl (by have := (hts t ht).2; omega)).up' H rfl rfl
  have h31 := fun t (ht : t ∈ ts) H => (t31 l k hk (by omega) t.P t.P.length rfl (by have := (hts t ht).2; omega)).up' H rfl rfl
  obtain ⟨T, hT⟩ : ∃ T, T = tunsE n l none ts := ⟨_, rfl⟩
  have hall : T = 0 → ∀ t ∈ ts, tunE n l t = 0 := fun h => tunsE_all (by rw [← hT]; exact h)
  rw [← hT]
  have hr' : ¬ (2000 : Int) < r := by omega
  have hr'' : ¬ 2000 < r := by omega
  simp
  refine ⟨_, _, .inl (by simpa using h26 _), by simp, ?_⟩
  simp [hr, hr', hr'']
  clear h26
  refine LoopK.intro (tr := []) mixed (by kernel_rfl) (fun i : Nat => [(0, .int .i64 n), (1, .sl 13 (l.map encL) .sh), (2, .sl 12 (ts.map encT) .sh), (23, .sl 12 (ts.map encT) .sh), (24, .int .i64 r), (25, .int .i64 i)]) (fun _ => [])
    (fun i => i ≤ r ∧ T = tunsE n l (prevT ts i) (ts.drop i)) (fun i => r - i) 0 ?_ ?_ ?_
  · exact ⟨by omega, hT⟩
  · simp
  rintro i ⟨i1, i2⟩
  by_cases hi : i < r
  case neg =>
    rw [List.drop_eq_nil_of_le (by omega)] at i2
    simp only [tunsE] at i2
    have hg := hag (hall i2)
    subst i2
    generalize agreeB l ts = b at *
    simp [hi]
    refine ⟨_, _, .inl (by simpa using hg _), by simp, ?_⟩
    cases b <;> simp
  obtain ⟨t, ht, hd⟩ := get_drop (l := ts) (i := i) (by omega)
  rw [hd] at i2
  simp only [tunsE] at i2
  have hm := List.mem_of_getElem? ht
  have w1 : IntKind.i64.wrap ((i : Int) + 1) = i + 1 := wrap_in (by omega)
  have hp1 : prevT ts (i + 1) = some t.ID := by simp [prevT, ht]
  clear hT hall hag hd
  have k21 := h21 t hm
  have k29 := h29 t
  have k30 := h30 t hm
  have k31 := h31 t hm
  clear h21 h29 h30 h31
  obtain ⟨m, hmm⟩ : ∃ m, t.P.length = m := ⟨_, rfl⟩
  have hm30 : m ≤ 30 := by have := (hts t hm).2; omega
  unfold tunE pathB at i2
  rw [hmm] at i2
  generalize conE n t.W = e1 at *
  generalize endsE n t = e2 at *
  generalize hasB (usesL l t.P) (-1) = b4 at *
  generalize repB t.P = b3 at *
  by_cases a1 : t.ID < 1
  · rw [if_pos a1] at i2
    subst i2
    simp [hi, hr, ht, gE ht, a1]
  rw [if_neg a1] at i2
  cases i with
  | zero =>
    simp only [prevT, prevB, Bool.false_eq_true, if_false] at i2
    have w1 : IntKind.i64.wrap 1 = 1 := wrap_in (by omega)
    simp [hi, hr, ht, gE ht, a1]
    refine ⟨_, _, .inl (by simpa using k21 _), by simp, ?_⟩
    by_cases g2 : e1 = 0
    case neg =>
      have i2 : T = e1 := by rw [i2, if_pos g2, if_pos g2]
      subst i2
      simp [g2]
    subst g2
    simp only [ne_eq, not_true_eq_false, if_false] at i2
    simp
    refine ⟨_, _, .inl (by simpa using k29 _), by simp, ?_⟩
    by_cases g3 : e2 = 0
    case neg =>
      have i2 : T = e2 := by rw [i2, if_pos g3, if_pos g3]
      subst i2
      simp [g3]
    subst g3
    simp only [not_true_eq_false, if_false] at i2
    by_cases g4 : m = 0
    · rw [if_pos g4] at i2
      simp only [Bool.false_eq_true, if_false] at i2
      simp [hmm, g4, w1]
      exact ⟨1, ⟨by omega, by rw [hp1]; exact i2⟩, by omega, by simp⟩
    rw [if_neg g4] at i2
    obtain ⟨x, hx⟩ : ∃ x, t.P[0]? = some x := ⟨_, List.getElem?_eq_getElem (by omega)⟩
    obtain ⟨y2, hy2⟩ : ∃ y, t.P[m - 1]? = some y := ⟨_, List.getElem?_eq_getElem (by omega)⟩
    have e5 : t.P.getD 0 0 = x := by rw [List.getD_eq_getElem?_getD, hx]; rfl
    have e6 : t.P.getD (m - 1) 0 = y2 := by rw [List.getD_eq_getElem?_getD, hy2]; rfl
    rw [e5, e6] at i2
    have hm1 : 0 < m := by omega
    have hm2 : m - 1 < m := by omega
    have hm1' : (0 : Int) < m := by omega
    have w5 : IntKind.i64.wrap ((m : Int) - 1) = ((m - 1 : Nat) : Int) := by
      rw [show ((m - 1 : Nat) : Int) = (m : Int) - 1 by omega]; exact wrap_in (by omega)
    by_cases g5 : x = t.From
    case neg =>
      have i2 : T = 20 := by rw [i2]; simp [g5]
      subst i2
      simp [hmm, g4, hm1, hm1', hx, gE hx, g5]
    by_cases g6 : y2 = t.To
    case neg =>
      have i2 : T = 20 := by rw [i2]; simp [g6]
      subst i2
      simp [hmm, g4, hm1, hm1', hm2, w5, hx, gE hx, hy2, gE hy2, g5, g6]
    simp [hmm, g4, hm1, hm1', hm2, w5, hx, gE hx, hy2, gE hy2, g5, g6]
    refine ⟨_, _, .inl (by simpa [cargs] using k30 _), by simp [cargs], ?_⟩
    cases b3 with
    | true =>
      have i2 : T = 20 := by rw [i2]; simp
      subst i2
      simp
    | false =>
      simp [hmm, g4, hm1, hm1', hm2, w5, hx, gE hx, hy2, gE hy2, g5, g6]
      refine ⟨_, _, .inl (by simpa [cargs] using k31 _), by simp [cargs], ?_⟩
      cases b4 with
      | true =>
        have i2 : T = 20 := by rw [i2]; simp
        subst i2
        simp
      | false =>
        have i2 : T = tunsE n l (some t.ID) (ts.drop (1)) := by rw [i2]; simp [g5, g6]
        simp [w1]
        exact ⟨1, ⟨by omega, by rw [hp1]; exact i2⟩, by omega, by simp⟩
  | succ i =>
    obtain ⟨y, hy⟩ : ∃ y, ts[i]? = some y := ⟨_, List.getElem?_eq_getElem (by omega)⟩
    have hpy : prevT ts (i + 1) = some y.ID := by simp [prevT, hy]
    simp only [hpy, prevB] at i2
    have b3' : (0 : Int) < (i : Int) + 1 := by omega
    have b5 : i < r := by omega
    have w2 : IntKind.i64.wrap ((i : Int) + 1 - 1) = i := by rw [Int.add_sub_cancel]; exact wrap_in (by omega)
    have w4 : IntKind.i64.wrap (i : Int) = i := wrap_in (by omega)
    have hn1 : ((i : Int) + 1).toNat = i + 1 := by omega
    have w1 : IntKind.i64.wrap ((i : Int) + 1 + 1) = (i : Int) + 1 + 1 := wrap_in (by omega)
    have hi' : (i : Int) + 1 < r := by omega
    have hi0 : (0 : Int) ≤ (i : Int) + 1 := by omega
    by_cases a2 : t.ID ≤ y.ID
    · rw [if_pos (by simpa using a2)] at i2
      subst i2
      simp [hi, hi', hi0, hr, ht, gE ht, hy, gE hy, a1, a2, b3', b5, w2, w4, hn1]
    rw [if_neg (by simpa using a2)] at i2
    simp [hi, hi', hi0, hr, ht, gE ht, hy, gE hy, a1, a2, b3', b5, w2, w4, hn1]
    refine ⟨_, _, .inl (by simpa using k21 _), by simp, ?_⟩
    by_cases g2 : e1 = 0
    case neg =>
      have i2 : T = e1 := by rw [i2, if_pos g2, if_pos g2]
      subst i2
      simp [g2]
    subst g2
    simp only [ne_eq, not_true_eq_false, if_false] at i2
    simp
    refine ⟨_, _, .inl (by simpa using k29 _), by simp, ?_⟩
    by_cases g3 : e2 = 0
    case neg =>
      have i2 : T = e2 := by rw [i2, if_pos g3, if_pos g3]
      subst i2
      simp [g3]
    subst g3
    simp only [not_true_eq_false, if_false] at i2
    by_cases g4 : m = 0
    · rw [if_pos g4] at i2
      simp only [Bool.false_eq_true, if_false] at i2
      simp [hmm, g4, w1]
      exact ⟨i + 1 + 1, ⟨by omega, by rw [hp1]; exact i2⟩, by omega, by simp⟩
    rw [if_neg g4] at i2
    obtain ⟨x, hx⟩ : ∃ x, t.P[0]? = some x := ⟨_, List.getElem?_eq_getElem (by omega)⟩
    obtain ⟨y2, hy2⟩ : ∃ y, t.P[m - 1]? = some y := ⟨_, List.getElem?_eq_getElem (by omega)⟩
    have e5 : t.P.getD 0 0 = x := by rw [List.getD_eq_getElem?_getD, hx]; rfl
    have e6 : t.P.getD (m - 1) 0 = y2 := by rw [List.getD_eq_getElem?_getD, hy2]; rfl
    rw [e5, e6] at i2
    have hm1 : 0 < m := by omega
    have hm2 : m - 1 < m := by omega
    have hm1' : (0 : Int) < m := by omega
    have w5 : IntKind.i64.wrap ((m : Int) - 1) = ((m - 1 : Nat) : Int) := by
      rw [show ((m - 1 : Nat) : Int) = (m : Int) - 1 by omega]; exact wrap_in (by omega)
    by_cases g5 : x = t.From
    case neg =>
      have i2 : T = 20 := by rw [i2]; simp [g5]
      subst i2
      simp [hmm, g4, hm1, hm1', hx, gE hx, g5]
    by_cases g6 : y2 = t.To
    case neg =>
      have i2 : T = 20 := by rw [i2]; simp [g6]
      subst i2
      simp [hmm, g4, hm1, hm1', hm2, w5, hx, gE hx, hy2, gE hy2, g5, g6]
    simp [hmm, g4, hm1, hm1', hm2, w5, hx, gE hx, hy2, gE hy2, g5, g6]
    refine ⟨_, _, .inl (by simpa [cargs] using k30 _), by simp [cargs], ?_⟩
    cases b3 with
    | true =>
      have i2 : T = 20 := by rw [i2]; simp
      subst i2
      simp
    | false =>
      simp [hmm, g4, hm1, hm1', hm2, w5, hx, gE hx, hy2, gE hy2, g5, g6]
      refine ⟨_, _, .inl (by simpa [cargs] using k31 _), by simp [cargs], ?_⟩
      cases b4 with
      | true =>
        have i2 : T = 20 := by rw [i2]; simp
        subst i2
        simp
      | false =>
        have i2 : T = tunsE n l (some t.ID) (ts.drop (i + 1 + 1)) := by rw [i2]; simp [g5, g6]
        simp [w1]
        exact ⟨i + 1 + 1, ⟨by omega, by rw [hp1]; exact i2⟩, by omega, by simp⟩
set_option maxHeartbeats 8000000 in
set_option maxRecDepth 10000 in
theorem t8L (n : Int) (l : List Lnk) (k : Nat) (hk : l.length = k) (ts : List Tun) (r : Nat) (hr : ts.length = r) (hr2 : r < 9223372036854775807) :
    ∃ b, CFun Try.prog 8 [.int .i64 n, .sl 13 (l.map encL) .sh, .sl 12 (ts.map encT) .sh] [] (.bool b) [] ∧ (b = false → n ≤ 9 ∧ k ≤ 40 ∧ r ≤ 12 ∧ ∀ t ∈ ts, t.P.length ≤ 30 ∧ t.W.Thru.length ≤ 3) := by
  obtain ⟨b, hb⟩ : ∃ b : Bool, b = (decide (9 < n) || decide (40 < k) || decide (12 < r) || ts.any fun t => decide (30 < t.P.length) || decide (3 < t.W.Thru.length)) := ⟨_, rfl⟩
  refine ⟨b, ?_, fun h => ?_⟩
  case refine_2 =>
    rw [h] at hb
    have hb := hb.symm
    simp only [Bool.or_eq_false_iff, decide_eq_false_iff_not, List.any_eq_false, Bool.or_eq_true, decide_eq_true_eq, not_or] at hb
    obtain ⟨⟨⟨h1, h2⟩, h3⟩, h4⟩ := hb
    exact ⟨by omega, by omega, by omega, fun t ht => by have := h4 t ht; omega⟩
  refine CFun.intro (tr := []) (fz := []) (n := 39) (rs := [.tmp 6]) Try.func8 rfl (by kernel_rfl) rfl rfl mixed (by kernel_rfl) (by simp) (by simp) ?_
  by_cases b1 : 9 < n
  · simp [b1] at hb
    subst hb
    simp [b1]
  by_cases b2 : 40 < k
  · have b2' : (40 : Int) < k := by omega
    simp [b2] at hb
    subst hb
    simp [hk, b1, b2, b2']
  have b2' : ¬ (40 : Int) < k := by omega
  by_cases b3 : 12 < r
  · have b3' : (12 : Int) < r := by omega
    simp [b3] at hb
    subst hb
    simp [hk, hr, b1, b2, b2', b3, b3']
  have b3' : ¬ (12 : Int) < r := by omega
  simp only [decide_eq_false b1, decide_eq_false b2, decide_eq_false b3, Bool.false_or] at hb
  simp [hk, hr, b1, b2, b2', b3, b3']
  refine LoopK.intro (tr := []) mixed (by kernel_rfl) (fun i : Nat => [(21, .sl 12 (ts.map encT) .sh), (22, .int .i64 r), (23, .int .i64 i)]) (fun _ => [])
    (fun i => i ≤ r ∧ b = (ts.drop i).any fun t => decide (30 < t.P.length) || decide (3 < t.W.Thru.length)) (fun i => r - i) 0 ?_ ?_ ?_
  · exact ⟨by omega, hb⟩
  · simp
  rintro i ⟨i1, i2⟩
  by_cases hi : i < r
  case neg =>
    rw [List.drop_eq_nil_of_le (by omega)] at i2
    simp at i2
    simp [hi, i2]
  obtain ⟨t, ht, hd⟩ := get_drop (l := ts) (i := i) (by omega)
  rw [hd, List.any_cons] at i2
  have w1 : IntKind.i64.wrap ((i : Int) + 1) = i + 1 := wrap_in (by omega)
  clear hd hb
  by_cases c1 : 30 < t.P.length
  · have c1' : (30 : Int) < t.P.length := by omega
    simp [c1] at i2
    subst i2
    simp [hi, hr, ht, gE ht, c1, c1']
  have c1' : ¬ (30 : Int) < t.P.length := by omega
  by_cases c2 : 3 < t.W.Thru.length
  · have c2' : (3 : Int) < t.W.Thru.length := by omega
    simp [c2] at i2
    subst i2
    simp [hi, hr, ht, gE ht, c1, c1', c2, c2']
  have c2' : ¬ (3 : Int) < t.W.Thru.length := by omega
  simp only [decide_eq_false c1, decide_eq_false c2, Bool.false_or] at i2
  simp [hi, hr, ht, gE ht, c1, c1', c2, c2', w1]
  exact ⟨i + 1, ⟨by omega, i2⟩, by omega, by simp⟩
set_option maxHeartbeats 8000000 in
set_option maxRecDepth 10000 in
theorem t3 (n : Int) (l : List Lnk) (k : Nat) (hk : l.length = k) (ts : List Tun) (r : Nat) (hr : ts.length = r) (hr2 : r < 9223372036854775807) (hts : ∀ t ∈ ts, t.W.Avoid.length < 9223372036854775807) :
    CFun Try.prog 3 [.int .i64 n, .sl 13 (l.map encL) .sh, .sl 12 (ts.map encT) .sh] [] (.bool true) [] := by
  refine CFun.intro (tr := []) (fz := []) (n := 24) (rs := [.tmp 6]) Try.func3 rfl (by kernel_rfl) rfl rfl mixed (by kernel_rfl) (by simp) (by simp) ?_
  have h9 := fun H => t9.up' H rfl rfl
  obtain ⟨b, h8, hb⟩ := t8L n l k hk ts r hr hr2
  have h8 := fun H => h8.up' H rfl rfl
  cases b with
  | true =>
    simp
    refine ⟨_, _, .inl (by simpa using h8 _), by simp, ?_⟩
    simp
    refine ⟨_, _, .inl (by simpa using h9 _), by simp, ?_⟩
    simp
  | false =>
    obtain ⟨c1, c2, c3, c4⟩ := hb rfl
    have hok : ∀ t ∈ ts, okTn t ∧ t.P.length ≤ 30 := fun t ht => ⟨⟨by have := (c4 t ht).1; omega, hts t ht, by have := (c4 t ht).2; omega⟩, (c4 t ht).1⟩
    have h10 := fun H => (t10 n l k hk (by omega) ts r hr (by omega) hok).up' H rfl rfl
    have h11 := fun H => (t11 n l k hk (by omega) ts r hr (by omega) hok).up' H rfl rfl
    generalize chkT n l ts = e at *
    simp
    refine ⟨_, _, .inl (by simpa using h8 _), by simp, ?_⟩
    simp
    refine ⟨_, _, .inl (by simpa using h9 _), by simp, ?_⟩
    simp
    refine ⟨_, _, .inl (by simpa using h10 _), by simp, ?_⟩
    simp
    refine ⟨_, _, .inl (by simpa using h11 _), by simp, ?_⟩
    simp
end Go.Proofs.Ytpmmnnaaoideeaa

/- Rows of numbers: clone, find and delete under the closure of Victims. -/
namespace Go.Proofs.Ytpmmnnaaoideeaa
open Go Go.Am Go.Wk

theorem encI_tree (us : List Int) : (us.map encI).all AVal.tree = true := by
  rw [List.all_map]; simp [AVal.tree, encI]
theorem encI_le (k : Nat) (us : List Int) : LeCells k (us.map encI) (us.map encI) := treeCells_le k (encI_tree us)
set_option maxHeartbeats 4000000 in
set_option maxRecDepth 10000 in
-- slices.Clone, as a row
theorem t44r (us : List Int) (hne : us ≠ []) (s1 : us.length ≤ 1000000) : CFun Try.prog 44 [.sl 1 (us.map encI) .sh] [] (.osl 0 0 us.length none 1) [us.map encI] := by
  refine CFun.intro (tr := [100007]) (fz := []) (n := 8) (rs := [.tmp 2]) Try.func44 rfl (by kernel_rfl) rfl rfl mixed (by kernel_rfl) (by simp) (by simp) ?_
  have s2 : us.length ≤ 140737488355328 := by omega
  have s6 : us.length * 8 ≤ 140737488355328 := by omega
  have s3 : 0 < us.length := List.length_pos_iff.2 hne
  have s4 : (us.map encI).isEmpty = false := by cases us <;> simp_all
  have s5 : (us.map encI).flatMap AVal.cells = us.map encI := by
    clear s2 s6 s3 s4 hne s1
    induction us with
    | nil => rfl
    | cons x us ih => simp only [List.map_cons, List.flatMap_cons, ih]; rfl
  have s7 : (us.map encI).map AVal.dis = us.map encI := by simp [AVal.dis]
  simp [hne, s1, s2, s3, s4, s6]
  first | (rw [s5, s7]; exact encI_le 1 us) | (simpa using encI_le 1 us)
set_option maxHeartbeats 4000000 in
set_option maxRecDepth 10000 in
theorem t44n : CFun Try.prog 44 [.sl 1 [] .sh] [] (.sl 1 [] .full) [] := by
  refine CFun.intro (tr := [100007]) (fz := []) (n := 8) (rs := [.tmp 2]) Try.func44 rfl (by kernel_rfl) rfl rfl mixed (by kernel_rfl) (by simp) (by simp) ?_
  simp
theorem eI : Enc (fun x : Int => [AVal.int .i64 x]) 1 := ⟨by decide, fun _ => rfl, fun _ => rfl, fun _ => rfl⟩
theorem rowI (l : List Int) : rowC (fun x : Int => [AVal.int .i64 x]) l = l.map encI := by
  induction l with
  | nil => rfl
  | cons x l ih => rw [rowC_cons, ih]; rfl
/-- The variables of Victims around its deletion. -/
def hV (c : Con) (r : List Lnk) (n : Nat) (us : List AVal) : List (List AVal) := [cellsC c, rowC cellsL r, [.osl 1 0 n none 13], us]
def fullP (r : List Lnk) (b : Int) (i : Int) : Bool := decide (b ≤ (r.getD i.toNat lnk0).Fr 7)
set_option maxHeartbeats 4000000 in
set_option maxRecDepth 10000 in
-- the closure of Victims
theorem t45 (c : Con) (r : List Lnk) (n : Nat) (hn : r.length = n) (us : List Int) (i : Int) (h0 : 0 ≤ i) (h1 : i < n) : CFun Try.prog 45 [.int .i64 i, .ptr 2 0, .ptr 0 0] (hV c r n (us.map encI)) (.bool (fullP r c.Band i)) (hV c r n (us.map encI)) := by
  refine CFun.intro (tr := []) (fz := []) (n := 14) (rs := [.tmp 4]) Try.func45 rfl (by kernel_rfl) rfl rfl mixed (by kernel_rfl) (by simp) (by simp) ?_
  obtain ⟨j, rfl⟩ : ∃ j : Nat, i = j := ⟨i.toNat, by omega⟩
  have hj : j < n := by omega
  obtain ⟨x, hx⟩ : ∃ x, r[j]? = some x := ⟨_, List.getElem?_eq_getElem (by omega)⟩
  have hg := rowL_get hx (k := 7) (by omega)
  have hrl := encL_enc.rowLen r
  rw [hn] at hrl
  have b1 : j * 13 + 4 + 7 < n * 13 := by omega
  have e : fullP r c.Band j = decide (c.Band ≤ x.Fr 7) := by
    unfold fullP
    rw [Int.toNat_natCast, List.getD_eq_getElem?_getD, hx]
    rfl
  have hle := fun k => encL_enc.rowLe k r
  have hle2 := fun k => encI_le k us
  rw [e]
  simp only [hV]
  simp [hj, hg, gE hg, hrl, b1, hle, hle2]
set_option maxHeartbeats 4000000 in
set_option maxRecDepth 10000 in
-- slices.IndexFunc
theorem t69 (c : Con) (r : List Lnk) (n : Nat) (hn : r.length = n) (us : List Int) (m : Nat) (hm : us.length = m) (hm2 : m < 1000000) (hus : ∀ u ∈ us, 0 ≤ u ∧ u < n) :
    CFun Try.prog 69 [.osl 3 0 m none 1, .fn 45 [] [.ptr 2 0, .ptr 0 0]] (hV c r n (us.map encI)) (.int .i64 (idxL (fullP r c.Band) us 0)) (hV c r n (us.map encI)) := by
  refine CFun.intro (tr := []) (fz := []) (n := 19) (rs := [.tmp 4]) Try.func69 rfl (by kernel_rfl) rfl rfl mixed (by kernel_rfl) (by simp) (by simp) ?_
  have hc := fun u (hu : u ∈ us) => t45 c r n hn us u (hus u hu).1 (hus u hu).2
  have hle := fun k => encL_enc.rowLe k r
  have hle2 := fun k => encI_le k us
  simp only [hV] at *
  simp
  refine LoopK.intro (tr := []) mixed (by kernel_rfl) (fun i : Nat => [(0, .osl 3 0 m none 1), (1, .fn 45 [] [.ptr 2 0, .ptr 0 0]), (7, .int .i64 m), (8, .int .i64 i)]) (fun _ => hV c r n (us.map encI)) (fun i => i ≤ m ∧ idxL (fullP r c.Band) us 0 = idxL (fullP r c.Band) (us.drop i) i) (fun i => m - i) 0 ?_ ?_ ?_
  · simp
  · simp [hV, hle, hle2]
  · rintro i ⟨h1, h2⟩
    by_cases hi : i < m
    · obtain ⟨x, hx, hd⟩ := get_drop (l := us) (i := i) (by omega)
      rw [hd] at h2
      simp only [idxL] at h2
      have w1 : IntKind.i64.wrap ((i : Int) + 1) = i + 1 := wrap_in (by omega)
      clear hd
      have hcx := hc x (List.mem_of_getElem? hx)
      generalize fullP r c.Band x = b at hcx h2
      simp only [hV]
      simp [hi, hm, hx, gE hx]
      refine ⟨_, _, .inl (by simpa [cargs] using hcx), by simp, ?_⟩
      cases b with
      | true => simp at h2; simp [h2, hle, hle2]
      | false =>
        simp at h2
        simp [w1]
        exact ⟨i + 1, ⟨by omega, h2⟩, by omega, by simp [hle, hle2]⟩
    · have : i = m := by omega
      subst this
      rw [List.drop_eq_nil_of_le (by omega)] at h2
      simp only [hV]
      simp [h2, idxL, hle, hle2]
set_option maxHeartbeats 8000000 in
set_option maxRecDepth 10000 in
-- slices.DeleteFunc
theorem t43 (c : Con) (r : List Lnk) (n : Nat) (hn : r.length = n) (us : List Int) (m : Nat) (hm : us.length = m) (hm2 : m < 1000000) (hus : ∀ u ∈ us, 0 ≤ u ∧ u < n) :
    CFun Try.prog 43 [.osl 3 0 m none 1, .fn 45 [] [.ptr 2 0, .ptr 0 0]] (hV c r n (us.map encI)) (.osl 3 0 (us.filter fun x => !fullP r c.Band x).length none 1) (hV c r n ((us.filter fun x => !fullP r c.Band x).map encI ++ List.replicate (m - (us.filter fun x => !fullP r c.Band x).length) AVal.undef)) := by
  refine CFun.intro (tr := []) (fz := []) (n := 42) (rs := [.tmp 4]) Try.func43 rfl (by kernel_rfl) rfl rfl mixed (by kernel_rfl) (by simp) (by simp) ?_
  have hidx := t69 c r n hn us m hm hm2 hus
  have hle := fun k => encL_enc.rowLe k r
  have hle2 := fun k us => encI_le k us
  have hc := fun (cur : List Int) u (hu : u ∈ us) => t45 c r n hn cur u (hus u hu).1 (hus u hu).2
  generalize hp : fullP r c.Band = p at *
  simp only [hV] at *
  simp
  refine ⟨_, _, .inl (by simpa using hidx), by simp, ?_⟩
  rcases idxL_spec p us 0 with ⟨e1, e2⟩ | ⟨i, e1, e2, e3⟩
  · simp [e1, e2, hm, hle, hle2]
  · have w0 : IntKind.i64.wrap ((i : Int) + 1) = i + 1 := wrap_in (by omega)
    have hne : ¬ ((i : Int) = -1) := by omega
    rw [Nat.zero_add] at e1
    simp [e1, w0, hne]
    refine LoopK.intro (tr := []) mixed (by kernel_rfl) (fun q : Nat × Nat × List Int => [(0, .osl 3 0 m none 1), (1, .fn 45 [] [.ptr 2 0, .ptr 0 0]), (5, .int .i64 q.1), (6, .int .i64 q.2.1)]) (fun q => hV c r n (q.2.2.map encI))
      (fun q => q.1 < q.2.1 ∧ q.2.1 ≤ m ∧ q.2.2.length = m ∧ q.2.2.take q.1 = (us.take q.2.1).filter (fun x => !p x) ∧ q.2.2.drop q.2.1 = us.drop q.2.1) (fun q => m - q.2.1) (i, i + 1, us) ?_ ?_ ?_
    · exact ⟨by simp, by simp; omega, hm, e3.symm, rfl⟩
    · simp [hV, hle, hle2]
    · rintro ⟨a, b, cur⟩ ⟨h1, h2, h3, h4, h5⟩
      simp only at h1 h2 h3 h4 h5
      have hal : a < cur.length := by omega
      by_cases hb : b < m
      · obtain ⟨x, hx, hd⟩ := get_drop (l := us) (i := b) (by omega)
        obtain ⟨y, hy, he⟩ := get_drop (l := cur) (i := b) (by omega)
        rw [hd, he, List.cons.injEq] at h5
        obtain ⟨rfl, h5⟩ := h5
        have hcall := hc cur y (List.mem_of_getElem? hx)
        have w1 : IntKind.i64.wrap ((b : Int) + 1) = b + 1 := wrap_in (by omega)
        have w2 : IntKind.i64.wrap ((a : Int) + 1) = a + 1 := wrap_in (by omega)
        have htk : (us.take (b + 1)).filter (fun x => !p x) = (us.take b).filter (fun x => !p x) ++ [y].filter (fun x => !p x) := by
          rw [List.take_add_one, hx]; simp
        have hle3 : ∀ k, LeCells k ((cur.map encI).set a (.int .i64 y)) ((cur.map encI).set a (.int .i64 y)) := fun k => by
          have := encI_le k (cur.set a y)
          rw [List.map_set] at this
          exact this
        have han : a < m := by omega
        have han1 : a + 1 ≤ m := by omega
        clear hd he
        simp only [hV]
        cases hpx : p y with
        | true =>
          rw [hpx] at hcall
          simp [hb, h3, hy, gE hy]
          refine ⟨_, _, .inl (by simpa [cargs] using hcall), by simp, ?_⟩
          simp [w1]
          refine ⟨a, b + 1, cur, ⟨by omega, by omega, h3, by rw [htk]; simp [hpx, h4], h5⟩, by omega, ?_⟩
          simp [hle, hle2]
        | false =>
          rw [hpx] at hcall
          have hset' : (cur.set a y).take (a + 1) = (us.take (b + 1)).filter (fun x => !p x) := by
            rw [htk, ← h4, List.take_add_one, List.take_set_of_le (by omega)]
            simp [hal, hpx]
          simp [hb, h3, hy, gE hy]
          refine ⟨_, _, .inl (by simpa [cargs] using hcall), by simp, ?_⟩
          simp [han, han1, h3, w1, w2]
          refine ⟨a + 1, b + 1, cur.set a y, ⟨by omega, by omega, by simpa using h3, hset', ?_⟩, by omega, ?_⟩
          · rw [List.drop_set_of_lt (by omega)]; exact h5
          · simp [hle, hle2, hle3]
      · have : b = m := by omega
        subst this
        rw [show us.take b = us from List.take_of_length_le (by omega)] at h4
        have hla : (us.filter fun x => !p x).length = a := by rw [← h4, List.length_take]; omega
        have ham : a ≤ b := by omega
        have hrow := eI.strike cur a (by omega) ((b - a) * 1) (by rw [h3]) (List.replicate (b - a) .undef) (by simp)
        simp only [Nat.mul_one, rowI] at hrow
        rw [h4] at hrow
        have hab : ¬ b - a = 0 := by omega
        have hfit : a + (b - a) ≤ b := by omega
        have hun : ∀ k, LeCells k ((us.filter fun x => !p x).map encI ++ List.replicate (b - a) AVal.undef) ((us.filter fun x => !p x).map encI ++ List.replicate (b - a) AVal.undef) := fun k => by
          have := eI.roomLe k (b - a) (us.filter fun x => !p x)
          rw [rowI] at this
          exact this
        simp only [hV]
        simp [hb, ham, hla, h3, hab, hfit, hrow, hle, hle2, hun, -setR]
end Go.Proofs.Ytpmmnnaaoideeaa
