/- The routes that are found, as tunnels see them. No program. -/
import Derived.Test.YtpmmnnaaoideeaaT3
import Derived.Test.YtpmmnnaaoideeaaT45
import Derived.Test.YtpmmnnaaoideeaaT41
import Derived.Test.YtpmmnnaaoideeaaT16
set_option linter.unusedSimpArgs false
set_option linter.unusedVariables false
namespace Go.Proofs.Ytpmmnnaaoideeaa
open Go Go.Am Go.Wk

theorem findI_ne {l : List Lnk} {a b : Int} (h : (findL l a b).2 = true) : findI l a b ≠ -1 := by
  have h1 : l.any (isL a b) = true := by
    unfold findL at h
    cases hf : l.find? (isL a b) with
    | none => rw [hf] at h; cases h
    | some z => exact List.any_eq_true.2 ⟨z, List.mem_of_find?_eq_some hf, List.find?_some hf⟩
  rw [idxL_any _ _ 0] at h1
  unfold findI
  simp only [decide_eq_true_eq] at h1
  omega
theorem goR_uses {l : List Lnk} {c : Con} : ∀ (xs : List Int) (a : Int) (k : Nat), goR l c (some a) k xs = true → ∀ u ∈ usesL l (a :: xs), u ≠ -1
  | [], a, k, _, u, hu => by simp [usesL] at hu
  | x :: xs, a, k, h, u, hu => by
    simp only [goR] at h
    split at h
    · cases h
    split at h
    · cases h
    rename_i h1 h2
    simp only [Bool.not_eq_true, Bool.not_eq_false', Bool.and_eq_true] at h2
    simp only [usesL, List.mem_cons] at hu
    rcases hu with rfl | hu
    · exact findI_ne h2.1
    · exact goR_uses xs x _ h u hu
/-- What Route returns is a path. -/
theorem routeN_path {N : Nat} {l : List Lnk} {fr to : Int} {c : Con} (g1 : checkE N l c = 0) (h1 : outN N fr = false) (h2 : outN N to = false) (h0 : (routeN N l fr to c).2.2 = 0) :
    (routeN N l fr to c).1 ≠ [] ∧ (routeN N l fr to c).1.getD 0 0 = fr ∧ (routeN N l fr to c).1.getD ((routeN N l fr to c).1.length - 1) 0 = to ∧ repB (routeN N l fr to c).1 = false ∧ hasB (usesL l (routeN N l fr to c).1) (-1) = false ∧ (routeN N l fr to c).1.length ≤ N := by
  have h3 : hasB c.Avoid fr = false := by
    cases h : hasB c.Avoid fr with
    | false => rfl
    | true =>
      exfalso
      unfold routeN at h0
      rw [if_neg (by simpa using g1), if_neg (by simp [h1, h2]), if_pos h] at h0
      cases h0
  obtain ⟨n1, n2, l2, lk, cn⟩ := check_links g1
  obtain ⟨asc, _, lko⟩ := links_asc lk
  have hls : ∀ x ∈ l, okLk N x := fun x hx => (link_ok (lko x hx)).1
  rcases routeN_cases g1 h1 h2 h3 with ⟨e, _⟩ | ⟨ys, d, hb, e⟩
  · rw [e] at h0; cases h0
  · by_cases hr : repB (ndS N fr ys) = true
    · rw [e, if_pos hr] at h0; cases h0
    rw [e, if_neg hr]
    simp only
    obtain ⟨f1, f2⟩ := out_false h1
    obtain ⟨f3, f4⟩ := out_false h2
    have hN : 0 < N := by omega
    have hz1 : stT N to c / N = c.Thru.length := by
      unfold stT
      rw [Nat.mul_comm, Nat.mul_add_div hN, Nat.div_eq_of_lt f4, Nat.add_zero]
    have hz2 : stT N to c % N = to.toNat := by
      unfold stT
      rw [Nat.mul_comm, Nat.mul_add_mod, Nat.mod_eq_of_lt f4]
    have hs2 : stF N fr c % N = fr.toNat := by
      unfold stF entN
      first | (rw [Nat.mul_comm, Nat.mul_add_mod, Nat.mod_eq_of_lt f2]) | (rw [Nat.add_mul_mod_self_right, Nat.mod_eq_of_lt f2]) | skip
    obtain ⟨w1, w2, w3⟩ := walk_goR hls asc hb.w hz1
    rw [hs2, ← f1] at w1 w3
    rw [hz2, ← f3] at w3
    have hX : ndS N fr ys = fr :: ndI (ys.map (· % N)) := by
      unfold ndS ndI
      rw [List.map_map]
      rfl
    rw [hX] at hr ⊢
    have hb0 : ∀ x ∈ ndI (ys.map (· % N)), 0 ≤ x ∧ x < N := by
      intro x hx
      unfold ndI at hx
      rw [List.map_map] at hx
      obtain ⟨y, _, rfl⟩ := List.mem_map.1 hx
      have := Nat.mod_lt y hN
      simp only [Function.comp_apply]
      omega
    generalize ndI (ys.map (· % N)) = X at *
    have hr' : repB (fr :: X) = false := by simpa using hr
    refine ⟨by simp, rfl, ?_, hr', ?_, ?_⟩
    · have := endN_last fr X
      rw [List.getD_eq_getElem?_getD, List.length_cons, Nat.add_sub_cancel, this, w3]; rfl
    · cases hh : hasB (usesL l (fr :: X)) (-1) with
      | false => rfl
      | true => exact absurd rfl (goR_uses X fr _ w1 _ ((hasB_iff _ _).1 hh))
    · have hnd : (fr :: X).Nodup := by
        rw [repB_iff] at hr
        exact Decidable.not_not.1 hr
      refine nodup_len_int hnd fun x hx => ?_
      rcases List.mem_cons.1 hx with rfl | hx
      · omega
      · exact hb0 x hx
end Go.Proofs.Ytpmmnnaaoideeaa

/- tunnel.Setup: what it answers. -/
namespace Go.Proofs.Ytpmmnnaaoideeaa
open Go Go.Am Go.Wk

set_option maxHeartbeats 4000000 in
set_option maxRecDepth 10000 in
-- tunnel.clone of nothing
theorem t54n : CFun Try.prog 54 [.sl 12 [] .sh] [] (.sl 12 [] .full) [] := by
  refine CFun.intro (tr := []) (fz := []) (n := 34) (rs := [.tmp 2]) Try.func54 rfl (by kernel_rfl) rfl rfl mixed (by kernel_rfl) (by simp) (by simp) ?_
  simp
  refine LoopK.intro (tr := []) mixed (by kernel_rfl) (fun _ : Nat => [(3, .sl 12 [] .full), (6, .sl 12 [] .sh), (7, .int .i64 0), (8, .int .i64 0)]) (fun _ => []) (fun _ => True) (fun i => i) 0 trivial (by simp) ?_
  intro _ _
  simp
def noP (x : Tun) : Tun := { x with P := [] }
/-- The victims give way. -/
def suV (vs : List Int) : List Tun → List Tun → List Lnk → List Lnk × List Tun × Int
  | acc, [], l => (l, acc, 0)
  | acc, x :: ts, l => if hasB vs x.ID = true then (if (relN l x).2 ≠ 0 then ([], [], (relN l x).2) else suV vs (acc ++ [noP x]) ts (relN l x).1) else suV vs (acc ++ [x]) ts l
def wP (w : Tun) (p : List Int) : Tun := { w with P := p }
/-- Setup, behind the checks. -/
def su2 (l : List Lnk) (ts : List Tun) (w : Tun) (p vs : List Int) : List Lnk × List Tun × List Int × Int :=
  if (suV vs [] ts l).2.2 ≠ 0 then ([], [], [], (suV vs [] ts l).2.2)
  else if (resN (suV vs [] ts l).1 (wP w p)).2 ≠ 0 then ([], [], [], (resN (suV vs [] ts l).1 (wP w p)).2)
  else ((resN (suV vs [] ts l).1 (wP w p)).1, insL (suV vs [] ts l).2.1 (posT w.ID (suV vs [] ts l).2.1) (wP w p), vs, 0)
noncomputable def suN (n : Int) (l : List Lnk) (ts : List Tun) (w : Tun) : List Lnk × List Tun × List Int × Int :=
  if chkT n l ts ≠ 0 then ([], [], [], chkT n l ts)
  else if wantE n ts w ≠ 0 then ([], [], [], wantE n ts w)
  else if (routeN n l w.From w.To w.W).2.2 ≠ 0 then ([], [], [], (routeN n l w.From w.To w.W).2.2)
  else if (vicN l ts (routeN n l w.From w.To w.W).1 w.W).2 ≠ 0 then ([], [], [], (vicN l ts (routeN n l w.From w.To w.W).1 w.W).2)
  else su2 l ts w (routeN n l w.From w.To w.W).1 (vicN l ts (routeN n l w.From w.To w.W).1 w.W).1
@[simp] def encSu (q : List Lnk × List Tun × List Int × Int) : AVal := .tup [.sl 13 (q.1.map encL) .sh, .sl 12 (q.2.1.map encT) .sh, .sl 1 (q.2.2.1.map encI) .sh, .int .i64 q.2.2.2]
theorem suV_len (vs : List Int) : ∀ (ts acc : List Tun) (l : List Lnk), (suV vs acc ts l).2.2 = 0 → (suV vs acc ts l).2.1.map Tun.ID = acc.map Tun.ID ++ ts.map Tun.ID
  | [], acc, l, _ => by simp [suV]
  | x :: ts, acc, l, h => by
    simp only [suV] at h ⊢
    split at h
    · rename_i g1
      rw [if_pos g1]
      split at h
      · rename_i g2; exact absurd h g2
      · rename_i g2
        rw [if_neg g2, suV_len vs ts _ _ h]
        simp [noP]
    · rename_i g1
      rw [if_neg g1, suV_len vs ts _ _ h]
      simp
theorem relN_some {l : List Lnk} {t : Tun} (h0 : (relN l t).2 = 0) : pathE l t = 0 ∧ (∀ u ∈ usesL l t.P, 0 ≤ u ∧ u < l.length) ∧ (relN l t).1 = chA t.W.Band t.W.Hold.toNat (usesL l t.P) l ∧
    ∀ (i : Nat) (x : Lnk) (c : Nat), l[i]? = some x → c < cntI i (usesL l t.P) → ∀ k, t.W.Hold.toNat ≤ k → k < 8 → x.Fr k + t.W.Band * c + t.W.Band ≤ x.Cap := by
  unfold relN at h0 ⊢
  by_cases g1 : pathE l t = 0
  case neg => rw [if_pos g1] at h0; exact absurd h0 g1
  rw [if_neg (by simpa using g1)] at h0 ⊢
  obtain ⟨⟨a1, a2⟩, ⟨a3, a4⟩, hus⟩ := pathE_ok g1
  cases hA : addA t.W.Band t.W.Hold.toNat (usesL l t.P) l with
  | none => rw [hA] at h0; simp at h0
  | some o =>
    simp only
    rw [addA_op] at hA
    refine ⟨g1, hus, opA_some (by omega) _ _ hus o hA, fun i x c hx hc k k1 k2 => ?_⟩
    have := opA_good (by omega) _ _ hus o hA i x c hx hc k k1 k2
    simp only [exceedsB_eq a3, decide_eq_false_iff_not] at this
    omega
theorem relN_okF {l : List Lnk} (hF : ∀ x ∈ l, okF x) {t : Tun} (h0 : (relN l t).2 = 0) : (relN l t).1.length = l.length ∧ ∀ x ∈ (relN l t).1, okF x := by
  obtain ⟨g1, hus, he, hg⟩ := relN_some h0
  obtain ⟨⟨a1, a2⟩, ⟨a3, a4⟩, _⟩ := pathE_ok g1
  rw [he]
  refine ⟨chA_len _ _ _ _, fun x hx => ?_⟩
  obtain ⟨i, hi, hie⟩ := List.getElem_of_mem hx
  have hgt : (chA t.W.Band t.W.Hold.toNat (usesL l t.P) l)[i]? = some x := by rw [List.getElem?_eq_getElem hi, hie]
  rw [chA_get, Option.map_eq_some_iff] at hgt
  obtain ⟨y, hy, rfl⟩ := hgt
  have hyF := hF y (List.mem_of_getElem? hy)
  refine ⟨fun k hk => ?_, hyF.2⟩
  have hb := hyF.1 k hk
  have hc := hyF.2
  simp only [chR]
  split
  · rename_i hk2
    rcases Nat.eq_zero_or_pos (cntI i (usesL l t.P)) with e | e
    · rw [e]; simpa using hb
    · obtain ⟨c, hcc⟩ : ∃ c, cntI i (usesL l t.P) = c + 1 := ⟨cntI i (usesL l t.P) - 1, by omega⟩
      have := hg i y c hy (by omega) k hk2.1 hk2.2
      have h2 := Int.mul_nonneg a3 (Int.natCast_nonneg c)
      rw [hcc, Int.natCast_add, Int.mul_add]
      unfold inI at *
      simp only [Int.natCast_one, Int.mul_one]
      omega
  · exact hb
theorem suV_okF (vs : List Int) : ∀ (ts acc : List Tun) (l : List Lnk), (∀ x ∈ l, okF x) → (suV vs acc ts l).2.2 = 0 → (suV vs acc ts l).1.length = l.length ∧ ∀ x ∈ (suV vs acc ts l).1, okF x
  | [], acc, l, hF, _ => ⟨rfl, hF⟩
  | x :: ts, acc, l, hF, h => by
    simp only [suV] at h ⊢
    split at h
    · rename_i g1
      rw [if_pos g1]
      split at h
      · rename_i g2; exact absurd h g2
      · rename_i g2
        rw [if_neg g2]
        have k := relN_okF hF (Decidable.not_not.1 g2)
        have := suV_okF vs ts (acc ++ [noP x]) _ k.2 h
        exact ⟨by rw [this.1, k.1], this.2⟩
    · rename_i g1
      rw [if_neg g1]
      exact suV_okF vs ts _ _ hF h
theorem rowT_nil (N : Nat) (acc rest : List Tun) (x : Tun) : LeCells N ((rowC ceT (acc ++ x :: rest)).set (acc.length * 12 + 11) (.sl 0 [] .full)) (rowC ceT (acc ++ noP x :: rest)) := by
  have hl := eT.rowLen acc
  rw [rowC_app, rowC_cons, rowC_app, rowC_cons, List.set_append_right _ _ (by rw [hl]; omega), hl, show acc.length * 12 + 11 - acc.length * 12 = 11 by omega, List.set_append_left _ _ (show 11 < 12 by omega)]
  refine LeCells_app (eT.rowLe N acc) rfl (LeCells_app ?_ (by simp [ceT, noP]) (eT.rowLe N rest))
  simp [ceT, noP]
theorem lend57 {H : List (List AVal)} {id : Nat} {ts : List Tun} {n : Nat} (hid : H[id]? = some (rowC ceT ts)) (hn : ts.length = n) (h0 : 0 < n) (hn2 : n < 1000000) (hasc : ts.Pairwise fun a b => a.ID < b.ID) (hidr : ∀ t ∈ ts, 0 ≤ t.ID ∧ t.ID ≤ 9223372036854775807) (q : Int) (hq : 0 ≤ q ∧ q ≤ 9223372036854775807) :
    CFun Try.prog 57 [.osl id 0 n none 12, .int .i64 q, .fn 58 [] []] H (.tup [.int .i64 (posT q ts), .bool (ts.any (isID q))]) H := by
  have h := t57 ts n hn hn2 hasc hidr q hq
  have hrl := eT.rowLen ts
  have hne : rowC ceT ts ≠ [] := by
    intro e
    rw [e] at hrl
    simp at hrl
    omega
  have hch := eT.chunk ts n hn
  have e : frzV id (rowC ceT ts) true false (.osl id 0 n none 12) = .sl 12 (ts.map encT) .sh := by
    simp [frzV, frz1, hch, hrl, hn]
    exact fun _ _ => rfl
  exact CFun.lend (args := [.osl id 0 n none 12, .int .i64 q, .fn 58 [] []]) (id := id) (cs := rowC ceT ts) (cs0 := rowC ceT ts) (ag := true) (x := .tup [.int .i64 (posT q ts), .bool (ts.any (isID q))]) (f := 57) (P := Try.prog) (by simp only [List.map_cons, List.map_nil, e]; exact h) hid hne (fun _ _ h => h) (Nat.le_refl _) (eT.rowTree ts) (by simp only [List.map_cons, List.map_nil, e]; rfl) rfl
end Go.Proofs.Ytpmmnnaaoideeaa

/- tunnel.Setup, by the program: behind its checks. -/
namespace Go.Proofs.Ytpmmnnaaoideeaa
open Go Go.Am Go.Wk

theorem posT_le (q : Int) (ts : List Tun) : posT q ts ≤ ts.length := by
  unfold posT
  exact (List.takeWhile_sublist _).length_le
theorem asc_of {ts os : List Tun} (h : os.map Tun.ID = ts.map Tun.ID) (ha : ts.Pairwise fun a b => a.ID < b.ID) : os.Pairwise fun a b => a.ID < b.ID := by
  have h1 : (ts.map Tun.ID).Pairwise (· < ·) := List.pairwise_map.2 ha
  rw [← h] at h1
  exact List.pairwise_map.1 h1
theorem ids_of {ts os : List Tun} (h : os.map Tun.ID = ts.map Tun.ID) {p : Int → Prop} (ha : ∀ t ∈ ts, p t.ID) : ∀ t ∈ os, p t.ID := by
  intro t ht
  have : t.ID ∈ ts.map Tun.ID := by rw [← h]; exact List.mem_map_of_mem ht
  obtain ⟨u, hu, e⟩ := List.mem_map.1 this
  rw [← e]; exact ha u hu
set_option maxHeartbeats 16000000 in
set_option maxRecDepth 10000 in
theorem t24 (n : Int) (l : List Lnk) (k : Nat) (hk : l.length = k) (hk2 : k < 1000) (hF : ∀ x ∈ l, okF x) (ts : List Tun) (r : Nat) (hr : ts.length = r) (hr2 : r ≤ 100) (hts : ∀ t ∈ ts, (okTn t ∧ t.P.length ≤ 30) ∧ smT t ∧ inI t.ID) (w : Tun) (oa : w.W.Avoid.length < 9223372036854775807) (oh : w.W.Thru.length < 9223372036854775807) (hwI : inI w.ID)
    (hv1 : chkT n l ts = 0 → wantE n ts w = 0 → (routeN n l w.From w.To w.W).2.2 = 0 → (∀ x ∈ l, ∀ k, k < 8 → -1125899906842624 ≤ x.Fr k ∧ x.Fr k ≤ 1125899906842624) ∧ (∀ t ∈ ts, t.P.length ≤ 30 ∧ t.W.Band ≤ 1099511627776 ∧ inI t.W.Hold) ∧ (routeN n l w.From w.To w.W).1.length ≤ 1000 ∧ ts.Pairwise (fun a b => a.ID < b.ID) ∧ (∀ t ∈ ts, 1 ≤ t.ID) ∧ 1 ≤ w.ID ∧ smT (wP w (routeN n l w.From w.To w.W).1))
    (hv2 : chkT n l ts = 0 → checkE n l con0 = 0) (hv3 : (vicN l ts (routeN n l w.From w.To w.W).1 w.W).1.length ≤ 1000) :
    CFun Try.prog 24 [.int .i64 n, .sl 13 (l.map encL) .sh, .sl 12 (ts.map encT) .sh, encT w] [] (encSu (suN n l ts w)) [] := by
  refine CFun.intro (tr := []) (fz := [(9, 1, true), (9, 2, true)]) (n := 122) (rs := [.tmp 8, .tmp 9, .tmp 10, .tmp 11]) Try.func24 rfl (by kernel_rfl) rfl rfl mixed (by kernel_rfl) (by simp) (by simp) ?_
  have h10 := fun H => (t10 n l k hk hk2 ts r hr (by omega) fun t ht => (hts t ht).1).up' H (by simp [noid, noid0]) rfl
  have h34 := fun H => (t34d l (by omega)).up' H rfl rfl
  by_cases g1 : chkT n l ts = 0
  case neg =>
    have e : suN n l ts w = ([], [], [], chkT n l ts) := by unfold suN; rw [if_pos g1]
    rw [e]
    generalize chkT n l ts = q at *
    simp
    refine ⟨_, _, .inl (by simpa using h10 _), by simp, ?_⟩
    simp [g1]
  have h55 := fun H => (t55 n l (hv2 g1) ts r hr (by omega) w oa oh).up' H (by simp [noid, noid0]) rfl
  by_cases g2 : wantE n ts w = 0
  case neg =>
    have e : suN n l ts w = ([], [], [], wantE n ts w) := by unfold suN; rw [if_neg (by simpa using g1), if_pos g2]
    rw [e]
    rw [g1] at h10
    generalize wantE n ts w = q at *
    simp
    refine ⟨_, _, .inl (by simpa using h10 _), by simp, ?_⟩
    simp
    refine ⟨_, _, .inl (by simpa using h55 _), by simp, ?_⟩
    simp [g2]
  have h56 := fun H => (c15 l k hk (by omega) w.W _ _ rfl rfl oa oh n w.From w.To).up' H (by simp [noid, noid0]) rfl
  rw [g1] at h10
  rw [g2] at h55
  by_cases g3 : (routeN n l w.From w.To w.W).2.2 = 0
  case neg =>
    have e : suN n l ts w = ([], [], [], (routeN n l w.From w.To w.W).2.2) := by unfold suN; rw [if_neg (by simpa using g1), if_neg (by simpa using g2), if_pos g3]
    rw [e]
    generalize routeN n l w.From w.To w.W = q at *
    simp
    refine ⟨_, _, .inl (by simpa using h10 _), by simp, ?_⟩
    simp
    refine ⟨_, _, .inl (by simpa using h55 _), by simp, ?_⟩
    simp
    refine ⟨_, _, .inl (by simpa using h56 _), by simp, ?_⟩
    simp [g3]
  obtain ⟨v1, v2, v3, v4, v5, v6, v7⟩ := hv1 g1 g2 g3
  have es : suN n l ts w = if (vicN l ts (routeN n l w.From w.To w.W).1 w.W).2 ≠ 0 then ([], [], [], (vicN l ts (routeN n l w.From w.To w.W).1 w.W).2) else su2 l ts w (routeN n l w.From w.To w.W).1 (vicN l ts (routeN n l w.From w.To w.W).1 w.W).1 := by
    unfold suN
    rw [if_neg (by simpa using g1), if_neg (by simpa using g2), if_neg (by simpa using g3)]
  have h18 := fun H => (t18 l k hk hk2 v1 ts r hr hr2 v2 (routeN n l w.From w.To w.W).1 _ rfl v3 w.W).up' H (by simp [noid, noid0]) (by simp [noid, noid0])
  rw [es]
  clear es hv1 hv2
  generalize hR : routeN n l w.From w.To w.W = R at *
  obtain ⟨p, d, e⟩ := R
  simp only at g3 h18 v3 v7 hv3 ⊢
  subst g3
  by_cases g4 : (vicN l ts p w.W).2 = 0
  case neg =>
    rw [if_pos g4]
    generalize vicN l ts p w.W = q at *
    simp
    refine ⟨_, _, .inl (by simpa using h10 _), by simp, ?_⟩
    simp
    refine ⟨_, _, .inl (by simpa using h55 _), by simp, ?_⟩
    simp
    refine ⟨_, _, .inl (by simpa using h56 _), by simp, ?_⟩
    simp
    refine ⟨_, _, .inl (by simpa using h18 _), by simp, ?_⟩
    simp [g4]
  rw [if_neg (by simpa using g4)]
  generalize hV : vicN l ts p w.W = V at *
  obtain ⟨vs, e⟩ := V
  simp only at g4 hv3 ⊢
  subst g4
  have h54w := fun H => ((t54d [wP w p] 1 rfl (by omega) (by simpa using v7)).up' H rfl rfl).wk [.sl 12 [encT (wP w p)] .full] (by simp) (by simp)
  have hsu := suV_okF vs ts [] l hF
  have hsi := suV_len vs ts [] l
  unfold su2
  simp
  refine ⟨_, _, .inl (by simpa using h10 _), by simp, ?_⟩
  simp
  refine ⟨_, _, .inl (by simpa using h55 _), by simp, ?_⟩
  simp
  refine ⟨_, _, .inl (by simpa using h56 _), by simp, ?_⟩
  simp
  refine ⟨_, _, .inl (by simpa using h18 _), by simp, ?_⟩
  simp
  refine ⟨_, _, .inl (by simpa using h34 _), by simp, ?_⟩
  obtain ⟨T, hT⟩ : ∃ T, T = suV vs [] ts l := ⟨_, rfl⟩
  rw [← hT] at hsu hsi ⊢
  have h13 := fun (ls : List Lnk) (hl : ls.length = k) (hlF : ∀ x ∈ ls, okF x) H => (t13 ls k hl (by omega) hlF (wP w p) _ rfl (by simp only [wP]; omega)).up' H (by simp [noid, noid0]) (by simp [noid, noid0])
  have h42 := fun x H => (c24 vs _ rfl (by omega) x).up' H rfl rfl
  rcases Nat.eq_zero_or_pos r with hr0 | hr0
  · have ht0 : ts = [] := List.length_eq_zero_iff.1 (by omega)
    subst ht0
    subst hr0
    have hT0 : T = (l, [], 0) := hT
    subst hT0
    simp
    refine ⟨_, _, .inl (by simpa using t54n.up' [cellsT w] rfl rfl), by simp, ?_⟩
    simp
    refine LoopK.intro (tr := []) mixed (by kernel_rfl) (fun _ : Nat => [(7, .ptr 0 0), (14, .sl 1 (p.map encI) .sh), (17, .sl 1 (vs.map encI) .sh), (18, .sl 13 (l.map encL) .sh), (19, .sl 12 [] .full), (70, .sl 12 [] .sh), (71, .int .i64 0), (72, .int .i64 0)]) (fun _ => [cellsT w]) (fun _ => True) (fun i => i) 0 trivial (by simp) ?_
    intro _ _
    have k13 := h13 l hk hF
    generalize hq : resN l (wP w p) = q at *
    have k57 := fun H => ((t57 [] 0 rfl (by omega) List.Pairwise.nil (by simp) w.ID ⟨by omega, by unfold inI at hwI; omega⟩).up' H rfl rfl).wk [.sl 12 [] .full, .int .i64 w.ID, .fn 58 [] []] (by simp) (by simp)
    have hp0 : posT w.ID [] = 0 := rfl
    rw [hp0] at k57
    have k59 : CFun Try.prog 59 [.sl 12 [] .full, .int .i64 0, .sl 12 [.agg (ceT (wP w p))] .sh] [cellsT (wP w p)] (.osl 1 0 1 none 12) [cellsT (wP w p), rowC ceT [wP w p]] := (it_ins0 (wP w p)).upNew [cellsT (wP w p)] (eT.rowNoid _) (by simp [noid, noid0]) rfl
    have hch := eT.chunk [wP w p] 1 rfl
    have hrt := eT.rowTree [wP w p]
    have hrl := eT.rowLen [wP w p]
    simp
    refine ⟨_, _, .inl (by simpa [wP] using k13 _), by simp, ?_⟩
    by_cases g5 : q.2 = 0
    · simp [g5]
      refine ⟨_, _, .inl (by simpa using k57 _), by simp, ?_⟩
      simp
      refine ⟨_, _, .inl (by simpa [wP] using h54w _), by simp, ?_⟩
      simp
      refine ⟨_, _, .inl (by simpa [wP, ceT] using k59), by simp, ?_⟩
      simp [rowC_one, ceT, insL, wP]
      simpa [rowC_one, ceT, wP] using hch
    · simp [g5]
  · have h54 : CFun Try.prog 54 [.sl 12 (ts.map encT) .sh] [cellsT w] (.osl 1 0 r none 12) [cellsT w, rowC ceT ts] := (t54r ts r hr hr0 (by omega) fun t ht => (hts t ht).2.1).upNew [cellsT w] (eT.rowNoid ts) (by simp [noid, noid0]) rfl
    simp
    refine ⟨_, _, .inl (by simpa using h54), by simp, ?_⟩
    simp
    refine LoopK.intro (tr := []) mixed (by kernel_rfl) (fun s : Nat × List Lnk × List Tun => [(7, .ptr 0 0), (14, .sl 1 (p.map encI) .sh), (17, .sl 1 (vs.map encI) .sh), (18, .sl 13 (s.2.1.map encL) .sh), (19, .osl 1 0 r none 12), (70, .osl 1 0 r none 12), (71, .int .i64 r), (72, .int .i64 s.1)]) (fun s => [cellsT w, rowC ceT (s.2.2 ++ ts.drop s.1)])
      (fun s => s.1 ≤ r ∧ s.2.2.length = s.1 ∧ s.2.1.length = k ∧ (∀ x ∈ s.2.1, okF x) ∧ T = suV vs s.2.2 (ts.drop s.1) s.2.1) (fun s => r - s.1) (0, l, []) ?_ ?_ ?_
    · exact ⟨Nat.zero_le _, rfl, hk, hF, hT⟩
    · have hle := eT.rowLe 2 ts
      simp [hle]
    rintro ⟨i, ls, acc⟩ ⟨i1, i2, i3, i4, i5⟩
    simp only at i1 i2 i3 i4 i5 ⊢
    have hle := fun N z => eT.rowLe N z
    by_cases hi : i < r
    · obtain ⟨x, hx, hd⟩ := get_drop (l := ts) (i := i) (by omega)
      rw [hd] at i5 ⊢
      have hxm := List.mem_of_getElem? hx
      have hxa : (acc ++ x :: ts.drop (i + 1))[i]? = some x := by rw [List.getElem?_append_right (by omega), i2, Nat.sub_self]; rfl
      have hload := eT.load0 hxa
      have k15 := fun H => (t15 ls k i3 (by omega) i4 x _ rfl (by have := (hts x hxm).1.2; omega)).up' H (by simp [noid, noid0]) (by simp [noid, noid0])
      have k42 := h42 x.ID
      have w1 : IntKind.i64.wrap ((i : Int) + 1) = i + 1 := wrap_in (by omega)
      have hil : i * 12 + 11 < (rowC ceT (acc ++ x :: ts.drop (i + 1))).length := by rw [eT.rowLen]; simp; omega
      have hil2 : i * 12 + 11 + 1 ≤ (rowC ceT (acc ++ x :: ts.drop (i + 1))).length := hil
      have hnil := fun N => rowT_nil N acc (ts.drop (i + 1)) x
      rw [i2] at hnil
      simp only [suV] at i5
      simp [hi, hload, -aload, ceT]
      refine ⟨_, _, .inl (by simpa [cargs] using k42 _), by simp, ?_⟩
      by_cases g5 : hasB vs x.ID = true
      · rw [if_pos g5] at i5
        generalize hq : relN ls x = q at *
        simp [g5]
        refine ⟨_, _, .inl (by simpa using k15 _), by simp, ?_⟩
        by_cases g6 : q.2 = 0
        · rw [if_neg (by simpa using g6)] at i5
          have hrk := relN_okF i4 (t := x) (by rw [hq]; exact g6)
          rw [hq] at hrk
          simp [g6, hi, hil2, w1]
          refine ⟨i + 1, q.1, acc ++ [noP x], ⟨by omega, by simp [i2], by rw [hrk.1, i3], hrk.2, i5⟩, by omega, ?_⟩
          simp
          exact hnil 2
        · rw [if_pos g6] at i5
          subst i5
          simp [g6]
      · rw [if_neg g5] at i5
        have g5' : hasB vs x.ID = false := by simpa using g5
        simp [g5', w1]
        refine ⟨i + 1, ls, acc ++ [x], ⟨by omega, by simp [i2], i3, i4, i5⟩, by omega, ?_⟩
        simp
        exact hle 2 _
    · have : i = r := by omega
      subst this
      rw [List.drop_eq_nil_of_le (by omega)] at i5 ⊢
      rw [List.append_nil]
      simp only [suV] at i5
      subst i5
      have k13 := h13 ls i3 i4
      generalize hq : resN ls (wP w p) = q at *
      have hid := hsi rfl
      rw [List.map_nil, List.nil_append] at hid
      have k57 := lend57 (H := [cellsT (wP w p), rowC ceT acc]) (id := 1) (ts := acc) (n := i) rfl i2 hr0 (by omega) (asc_of hid v4) (ids_of hid (p := fun a => 0 ≤ a ∧ a ≤ 9223372036854775807) fun t ht => by
        have h1 := v5 t ht
        have h2 := (hts t ht).2.2
        unfold inI at h2
        omega) w.ID ⟨by omega, by unfold inI at hwI; omega⟩
      have hpl : posT w.ID acc ≤ i := by have := posT_le w.ID acc; omega
      have k59 : CFun Try.prog 59 [.osl 1 0 i none 12, .int .i64 (posT w.ID acc), .sl 12 [.agg (ceT (wP w p))] .sh] [cellsT (wP w p), rowC ceT acc] (.osl 2 0 (i + 1) none 12) [cellsT (wP w p), [], rowC ceT (insL acc (posT w.ID acc) (wP w p))] :=
        (it_insR acc (posT w.ID acc) i i2 (by omega) hpl hr0 (wP w p)).atNew (H := [cellsT (wP w p), rowC ceT acc]) (id := 1) rfl (eT.rowNoid _) rfl (eT.rowNoid _) (by simp [low]) rfl
      have hil : (insL acc (posT w.ID acc) (wP w p)).length = i + 1 := by rw [insL_len (by omega), i2]
      have hch := eT.chunk _ (i + 1) hil
      have hrt := eT.rowTree (insL acc (posT w.ID acc) (wP w p))
      have hrl := eT.rowLen (insL acc (posT w.ID acc) (wP w p))
      rw [hil] at hrl
      generalize insL acc (posT w.ID acc) (wP w p) = z at *
      simp
      refine ⟨_, _, .inl (by simpa [wP] using k13 _), by simp, ?_⟩
      by_cases g5 : q.2 = 0
      · simp [g5]
        refine ⟨_, _, .inl (by simpa [wP] using k57), by simp, ?_⟩
        simp
        refine ⟨_, _, .inl (by simpa [wP] using h54w _), by simp, ?_⟩
        simp
        refine ⟨_, _, .inl (by simpa [wP, ceT] using k59), by simp, ?_⟩
        have htk : (rowC ceT z).take ((i + 1) * 12) = rowC ceT z := List.take_of_length_le (by omega)
        have hpos : 0 < (rowC ceT z).length := by omega
        simp [hrl, hrt, htk, hch, hpos, -List.all_eq_true]
        exact fun _ _ => rfl
      · simp [g5]
end Go.Proofs.Ytpmmnnaaoideeaa

/- The reference's freed and helps, by the program. -/
namespace Go.Proofs.Ytpmmnnaaoideeaa
open Go Go.Am Go.Wk

end Go.Proofs.Ytpmmnnaaoideeaa

/- The reference's Victims, by the program. -/
namespace Go.Proofs.Ytpmmnnaaoideeaa
open Go Go.Am Go.Wk

theorem room_fu (r : List Lnk) (b : Int) (us : List Int) : roomB r b us = decide ((us.filter fun x => !fullP r b x) = []) := by
  rw [Bool.eq_iff_iff, decide_eq_true_eq, List.filter_eq_nil_iff]
  unfold roomB
  rw [List.all_eq_true]
  constructor
  · intro h u hu; have := h u hu; unfold fullP; simp at this ⊢; omega
  · intro h u hu; have := h u hu; unfold fullP at this; simp at this ⊢; omega
end Go.Proofs.Ytpmmnnaaoideeaa
