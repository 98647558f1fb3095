/- The reference's agree, by the program. -/
import Derived.Test.YtpmmnnaaoideeaaGreatGT25
import Derived.Test.YtpmmnnaaoideeaaGreatGT12
set_option linter.unusedSimpArgs false
set_option linter.unusedVariables false
namespace Go.Proofs.YtpmmnnaaoideeaaGreat
open Go Go.Am Go.Wk

set_option maxHeartbeats 16000000 in
set_option maxRecDepth 10000 in
theorem t32 (l : List Lnk) (n : Nat) (hn : l.length = n) (hn2 : n < 1000) (hC : ∀ x ∈ l, 0 ≤ x.Cap ∧ x.Cap ≤ 1099511627776) (ts : List Tun) (r : Nat) (hr : ts.length = r) (hr2 : r < 1000) (hts : ∀ t ∈ ts, okA l t) :
    CFun Tryz.prog 25 [.sl 13 (l.map encL) .sh, .sl 12 (ts.map encT) .sh] [] (.bool (agreeB l ts)) [] := by
  refine CFun.intro (tr := []) (fz := []) (n := 54) (rs := [.tmp 4]) Tryz.func25 rfl (by kernel_rfl) rfl rfl mixed (by kernel_rfl) (by simp) (by simp) ?_
  have h39 := fun t (ht : t ∈ ts) i H => (t39 l n hn (by omega) t.P t.P.length rfl (by have := (hts t ht).p; omega) i).up' H rfl rfl
  simp [hn]
  refine LoopK.intro (tr := []) mixed (by kernel_rfl) (fun i : Nat => [(0, .sl 13 (l.map encL) .sh), (1, .sl 12 (ts.map encT) .sh), (11, .sl 13 (l.map encL) .sh), (12, .int .i64 n), (13, .int .i64 i)]) (fun _ => [])
    (fun i => i ≤ n ∧ ∀ (i' : Nat) (x : Lnk), i' < i → l[i']? = some x → ∀ k, k < 8 → x.Fr k = x.Cap - totT l ts i' k) (fun i => n - i) 0 ?_ ?_ ?_
  · exact ⟨by omega, fun i' x hi' => by omega⟩
  · simp
  rintro i ⟨i1, i2⟩
  by_cases hi : i < n
  case neg =>
    have hB : agreeB l ts = true := agreeB_yes fun i' x hx => i2 i' x (by have := (List.getElem?_eq_some_iff.1 hx).1; omega) hx
    simp [hi, hB]
  obtain ⟨x, hx⟩ : ∃ x, l[i]? = some x := ⟨_, List.getElem?_eq_getElem (by omega)⟩
  have w1 : IntKind.i64.wrap ((i : Int) + 1) = i + 1 := wrap_in (by omega)
  have hcx := hC x (List.mem_of_getElem? hx)
  simp [hi, hn, hx, gE hx]
  refine LoopK.intro (tr := []) mixed (by kernel_rfl) (fun k : Nat => [(0, .sl 13 (l.map encL) .sh), (1, .sl 12 (ts.map encT) .sh), (5, .int .i64 i), (6, .ptr 0 0), (7, .int .i64 k), (11, .sl 13 (l.map encL) .sh), (12, .int .i64 n), (13, .int .i64 i)]) (fun _ => [cellsL x])
    (fun k => k ≤ 8 ∧ ∀ k', k' < k → x.Fr k' = x.Cap - totT l ts i k') (fun k => 8 - k) 0 ?_ ?_ ?_
  · exact ⟨by omega, fun k' hk' => by omega⟩
  · simp
  rintro k ⟨k1, k2⟩
  by_cases hk : k < 8
  case neg =>
    have : k = 8 := by omega
    subst this
    simp [w1]
    refine ⟨i + 1, ⟨by omega, fun i' y hi' hy => ?_⟩, by omega, by simp⟩
    by_cases e : i' = i
    · subst e
      rw [hx] at hy
      injection hy with hy
      subst hy
      exact k2
    · exact i2 i' y (by omega) hy
  have hk' : (k : Int) < 8 := by omega
  have hk7 : k ≤ 7 := by omega
  have hgx := cellsL_fr x hk
  have w4 : IntKind.i64.wrap ((k : Int) + 1) = k + 1 := wrap_in (by omega)
  have b3 : 4 + k < 13 := by omega
  simp [hk, hk', hk7, hr]
  refine LoopK.intro (tr := []) mixed (by kernel_rfl) (fun j : Nat => [(0, .sl 13 (l.map encL) .sh), (1, .sl 12 (ts.map encT) .sh), (5, .int .i64 i), (6, .ptr 0 0), (7, .int .i64 k), (8, .int .i64 (x.Cap - totT l (ts.take j) i k)), (11, .sl 13 (l.map encL) .sh), (12, .int .i64 n), (13, .int .i64 i), (24, .sl 12 (ts.map encT) .sh), (25, .int .i64 r), (26, .int .i64 j)]) (fun _ => [cellsL x])
    (fun j => j ≤ r) (fun j => r - j) 0 (by omega) ?_ ?_
  · simp [totT]
  intro j j1
  by_cases hj : j < r
  case neg =>
    have : j = r := by omega
    subst this
    have he : ts.take j = ts := List.take_of_length_le (by omega)
    rw [he]
    by_cases g : x.Cap - totT l ts i k = x.Fr k
    · simp [hk, hk', hk7, hgx, gE hgx, b3, g, w4]
      refine ⟨k + 1, ⟨by omega, fun k' hk' => ?_⟩, by omega, by simp⟩
      by_cases e : k' = k
      · subst e; omega
      · exact k2 k' (by omega)
    · have hB : agreeB l ts = false := agreeB_no fun h => g (h i x hx k hk).symm
      simp [hk, hk', hk7, hgx, gE hgx, b3, g, hB]
  obtain ⟨t, ht⟩ : ∃ t, ts[j]? = some t := ⟨_, List.getElem?_eq_getElem (by omega)⟩
  have hm := List.mem_of_getElem? ht
  have k39 := h39 t hm i
  have okt := hts t hm
  have w2 : IntKind.i64.wrap ((j : Int) + 1) = j + 1 := wrap_in (by omega)
  have hsn : totT l (ts.take (j + 1)) i k = totT l (ts.take j) i k + oneT l t i k := by rw [show ts.take (j + 1) = ts.take j ++ [t] by rw [List.take_add_one, ht]; rfl, totT_snoc]
  have hb1 := totT_bd (l := l) (ts := ts.take j) (fun t ht => hts t (List.mem_of_mem_take ht)) i k
  have hlt : (ts.take j).length ≤ 1000 := by rw [List.length_take]; omega
  have hb2 := oneT_bd okt i k
  have hone : oneT l t i k = takenF t.W.Hold t.W.Band k * (cntI i (usesL l t.P) : Int) := rfl
  by_cases g : t.W.Hold ≤ k
  · have e1 : takenF t.W.Hold t.W.Band k = t.W.Band := by unfold takenF; rw [if_pos g]
    rw [e1, Int.mul_comm] at hone
    generalize cntI i (usesL l t.P) = ct at *
    have w5 : IntKind.i64.wrap ((ct : Int) * t.W.Band) = (ct : Int) * t.W.Band := wrap_in (by rw [← hone]; omega)
    have w6 : IntKind.i64.wrap (x.Cap - totT l (ts.take j) i k - (ct : Int) * t.W.Band) = x.Cap - totT l (ts.take j) i k - (ct : Int) * t.W.Band := wrap_in (by rw [← hone]; omega)
    simp [hj, hr, ht, gE ht, g]
    refine ⟨_, _, .inl (by simpa [cargs] using k39 _), by simp [cargs], ?_⟩
    simp [w2, w5, w6]
    refine ⟨j + 1, by omega, by omega, ?_⟩
    rw [hsn, hone]
    simp [Int.sub_sub]
  · have e1 : takenF t.W.Hold t.W.Band k = 0 := by unfold takenF; rw [if_neg g]
    rw [e1, Int.zero_mul] at hone
    simp [hj, hr, ht, gE ht, g, w2]
    refine ⟨j + 1, by omega, by omega, ?_⟩
    rw [hsn, hone, Int.add_zero]
    simp
end Go.Proofs.YtpmmnnaaoideeaaGreat

/- The law of giving back, by the program. -/
namespace Go.Proofs.YtpmmnnaaoideeaaGreat
open Go Go.Am Go.Wk

end Go.Proofs.YtpmmnnaaoideeaaGreat

/- Check of tunnels, by the program. -/
namespace Go.Proofs.YtpmmnnaaoideeaaGreat
open Go Go.Am Go.Wk

def prevB (p : Option Int) (x : Int) : Bool := match p with | some q => decide (x ≤ q) | none => false
def tunsE (n : Int) (l : List Lnk) : Option Int → List Tun → Int
  | _, [] => 0
  | p, t :: ts => if t.ID < 1 then 5 else if prevB p t.ID = true then 16
    else if tunE n l t ≠ 0 then tunE n l t else tunsE n l (some t.ID) ts
noncomputable def chkT (n : Int) (l : List Lnk) (ts : List Tun) : Int :=
  if checkE n l con0 ≠ 0 then checkE n l con0 else if 2000 < ts.length then 4 else if tunsE n l none ts ≠ 0 then tunsE n l none ts else if agreeB l ts = true then 0 else 14
theorem tunsE_all {n : Int} {l : List Lnk} : ∀ {ts : List Tun} {p : Option Int}, tunsE n l p ts = 0 → ∀ t ∈ ts, tunE n l t = 0 := by
  intro ts
  induction ts with
  | nil => intro p _ t ht; simp at ht
  | cons x ts ih =>
    intro p h t ht
    simp only [tunsE] at h
    split at h
    · cases h
    split at h
    · cases h
    split at h
    · rename_i g; exact absurd h g
    · rename_i g
      rcases List.mem_cons.1 ht with rfl | ht
      · exact Decidable.not_not.1 g
      · exact ih h t ht
theorem tunE_ok {n : Int} {l : List Lnk} {t : Tun} (h : tunE n l t = 0) (hp : t.P.length ≤ 30) : okA l t := by
  unfold tunE at h
  by_cases g1 : conE n t.W = 0
  case neg => rw [if_pos g1] at h; exact absurd h g1
  rw [if_neg (by simpa using g1)] at h
  by_cases g2 : endsE n t = 0
  case neg => rw [if_pos g2] at h; exact absurd h g2
  rw [if_neg (by simpa using g2)] at h
  have g3 : pathB l t = false := by
    cases hb : pathB l t with
    | false => rfl
    | true => rw [hb] at h; simp at h
  unfold conE at g1
  by_cases q1 : t.W.Band < 0 ∨ 1099511627776 < t.W.Band ∨ t.W.Setup < 0 ∨ 7 < t.W.Setup ∨ t.W.Hold < 0 ∨ 7 < t.W.Hold ∨ t.W.Hops < 0
  · rw [if_pos q1] at g1; cases g1
  refine ⟨by omega, by omega, by omega, by omega, fun u hu => ?_, hp⟩
  have h1 := usesL_range l t.P u hu
  unfold pathB at g3
  by_cases q2 : t.P.length = 0
  · have : t.P = [] := List.length_eq_zero_iff.1 q2
    rw [this] at hu
    simp [usesL] at hu
  rw [if_neg q2] at g3
  simp only [Bool.or_eq_false_iff] at g3
  have h2 : ¬ hasB (usesL l t.P) (-1) = true := by rw [g3.2]; simp
  rw [hasB_iff] at h2
  have : u ≠ -1 := fun e => h2 (e ▸ hu)
  omega
theorem linkE_cap {n : Int} {x : Lnk} (h : linkE n x = 0) : 0 ≤ x.Cap ∧ x.Cap ≤ 1099511627776 := by
  unfold linkE at h
  by_cases g1 : x.From < 0 ∨ n ≤ x.From ∨ x.To < 0 ∨ n ≤ x.To
  · rw [if_pos g1] at h; cases h
  rw [if_neg g1] at h
  by_cases g2 : x.From = x.To
  · rw [if_pos g2] at h; cases h
  rw [if_neg g2] at h
  by_cases g3 : x.Cost < 1 ∨ 65535 < x.Cost ∨ x.Cap < 0 ∨ 1099511627776 < x.Cap
  · rw [if_pos g3] at h; cases h
  omega
theorem check_cap {n : Int} {l : List Lnk} {c : Con} (h : checkE n l c = 0) : ∀ x ∈ l, 0 ≤ x.Cap ∧ x.Cap ≤ 1099511627776 := by
  obtain ⟨n1, n2, l2, lk, cn⟩ := check_links h
  obtain ⟨asc, _, lko⟩ := links_asc lk
  exact fun x hx => linkE_cap (lko x hx)
def prevT (ts : List Tun) : Nat → Option Int
  | 0 => none
  | i + 1 => ts[i]?.map Tun.ID
set_option maxHeartbeats 16000000 in
set_option maxRecDepth 10000 in
theorem t10 (n : Int) (l : List Lnk) (k : Nat) (hk : l.length = k) (hk2 : k < 1000) (ts : List Tun) (r : Nat) (hr : ts.length = r) (hr2 : r < 1000) (hts : ∀ t ∈ ts, okTn t ∧ t.P.length ≤ 30) :
    CFun Tryz.prog 40 [.int .i64 n, .sl 13 (l.map encL) .sh, .sl 12 (ts.map encT) .sh] [] (.int .i64 (chkT n l ts)) [] := by
  refine CFun.intro (tr := []) (fz := []) (n := 56) (rs := [.tmp 6]) Tryz.func40 rfl (by kernel_rfl) rfl rfl mixed (by kernel_rfl) (by simp) (by simp) ?_
  have h26 := fun H => ((c12 l k hk (by omega) con0 n 0 0 rfl rfl (by decide) (by decide)).up' H (by simp [noid, noid0, con0]) rfl).wk [.int .i64 n, .sl 13 (l.map encL) .sh, .agg [.int .i64 0, .int .i64 0, .int .i64 0, .int .u32 0, .int .u32 0, .int .i64 0, .sl 0 [] .full, .sl 0 [] .full]] (by simp [noid, noid0]) ⟨LeS_refl _, LeS_refl _, by simp [con0, LeS, LeC], trivial⟩
  unfold chkT
  by_cases g1 : checkE n l con0 = 0
  case neg =>
    rw [if_pos g1]
    have g1' : ¬ checkE n l con0 = 0 := g1
    generalize checkE n l con0 = e at *
    simp
    refine ⟨_, _, .inl (by simpa using h26 _), by simp, ?_⟩
    simp [g1']
  rw [if_neg (by simpa using g1), if_neg (by omega)]
  rw [g1] at h26
  have hC := check_cap g1
  have hag := fun (hall : ∀ t ∈ ts, tunE n l t = 0) H => (t28 l k hk hk2 hC ts r hr hr2 (fun t ht => tunE_ok (hall t ht) (hts t ht).2)).up' H rfl rfl
  have h27 := fun t (ht : t ∈ ts) H => (t27 n l k hk (by omega) g1 t (hts t ht).1).up' H (by simp [noid, noid0]) rfl
  obtain ⟨T, hT⟩ : ∃ T, T = tunsE n l none ts := ⟨_, rfl⟩
  have hall : T = 0 → ∀ t ∈ ts, tunE n l t = 0 := fun h => tunsE_all (by rw [← hT]; exact h)
  rw [← hT]
  have hr' : ¬ (2000 : Int) < r := by omega
  have hr'' : ¬ 2000 < r := by omega
  simp
  refine ⟨_, _, .inl (by simpa using h26 _), by simp, ?_⟩
  simp [hr, hr', hr'']
  clear h26
  refine LoopK.intro (tr := []) mixed (by kernel_rfl) (fun i : Nat => [(0, .int .i64 n), (1, .sl 13 (l.map encL) .sh), (2, .sl 12 (ts.map encT) .sh), (21, .sl 12 (ts.map encT) .sh), (22, .int .i64 r), (23, .int .i64 i)]) (fun _ => [])
    (fun i => i ≤ r ∧ T = tunsE n l (prevT ts i) (ts.drop i)) (fun i => r - i) 0 ?_ ?_ ?_
  · exact ⟨by omega, hT⟩
  · simp
  rintro i ⟨i1, i2⟩
  by_cases hi : i < r
  case neg =>
    rw [List.drop_eq_nil_of_le (by omega)] at i2
    simp only [tunsE] at i2
    have hg := hag (hall i2)
    subst i2
    generalize agreeB l ts = b at *
    simp [hi]
    refine ⟨_, _, .inl (by simpa using hg _), by simp, ?_⟩
    cases b <;> simp
  obtain ⟨t, ht, hd⟩ := get_drop (l := ts) (i := i) (by omega)
  rw [hd] at i2
  simp only [tunsE] at i2
  have hm := List.mem_of_getElem? ht
  have w1 : IntKind.i64.wrap ((i : Int) + 1) = i + 1 := wrap_in (by omega)
  have hp1 : prevT ts (i + 1) = some t.ID := by simp [prevT, ht]
  clear hT hall hag hd
  have k27 := h27 t hm
  clear h27
  generalize tunE n l t = e at *
  by_cases a1 : t.ID < 1
  · rw [if_pos a1] at i2
    subst i2
    simp [hi, hr, ht, gE ht, a1]
  rw [if_neg a1] at i2
  cases i with
  | zero =>
    simp only [prevT, prevB, Bool.false_eq_true, if_false] at i2
    have w1 : IntKind.i64.wrap 1 = 1 := wrap_in (by omega)
    simp [hi, hr, ht, gE ht, a1]
    refine ⟨_, _, .inl (by simpa using k27 _), by simp, ?_⟩
    by_cases g2 : e = 0
    case neg =>
      have i2 : T = e := by rw [i2, if_pos g2]
      subst i2
      simp [g2]
    subst g2
    simp only [ne_eq, not_true_eq_false, if_false] at i2
    simp [w1]
    exact ⟨1, ⟨by omega, by rw [hp1]; exact i2⟩, by omega, by simp⟩
  | succ i =>
    obtain ⟨y, hy⟩ : ∃ y, ts[i]? = some y := ⟨_, List.getElem?_eq_getElem (by omega)⟩
    have hpy : prevT ts (i + 1) = some y.ID := by simp [prevT, hy]
    simp only [hpy, prevB] at i2
    have b3' : (0 : Int) < (i : Int) + 1 := by omega
    have b5 : i < r := by omega
    have w2 : IntKind.i64.wrap ((i : Int) + 1 - 1) = i := by rw [Int.add_sub_cancel]; exact wrap_in (by omega)
    have w4 : IntKind.i64.wrap (i : Int) = i := wrap_in (by omega)
    have hn1 : ((i : Int) + 1).toNat = i + 1 := by omega
    have w1 : IntKind.i64.wrap ((i : Int) + 1 + 1) = (i : Int) + 1 + 1 := wrap_in (by omega)
    have hi' : (i : Int) + 1 < r := by omega
    have hi0 : (0 : Int) ≤ (i : Int) + 1 := by omega
    by_cases a2 : t.ID ≤ y.ID
    · rw [if_pos (by simpa using a2)] at i2
      subst i2
      simp [hi, hi', hi0, hr, ht, gE ht, hy, gE hy, a1, a2, b3', b5, w2, w4, hn1]
    rw [if_neg (by simpa using a2)] at i2
    simp [hi, hi', hi0, hr, ht, gE ht, hy, gE hy, a1, a2, b3', b5, w2, w4, hn1]
    refine ⟨_, _, .inl (by simpa using k27 _), by simp, ?_⟩
    by_cases g2 : e = 0
    case neg =>
      have i2 : T = e := by rw [i2, if_pos g2]
      subst i2
      simp [g2]
    subst g2
    simp only [ne_eq, not_true_eq_false, if_false] at i2
    simp [w1]
    exact ⟨i + 1 + 1, ⟨by omega, by rw [hp1]; exact i2⟩, by omega, by simp⟩
end Go.Proofs.YtpmmnnaaoideeaaGreat

/- The reference's Check of tunnels, by the program. -/
namespace Go.Proofs.YtpmmnnaaoideeaaGreat
open Go Go.Am Go.Wk

set_option maxHeartbeats 16000000 in
set_option maxRecDepth 10000 in
theorem t11 (n : Int) (l : List Lnk) (k : Nat) (hk : l.length = k) (hk2 : k < 1000) (ts : List Tun) (r : Nat) (hr : ts.length = r) (hr2 : r < 1000) (hts : ∀ t ∈ ts, okTn t ∧ t.P.length ≤ 30) :
    CFun Tryz.prog 6 [.int .i64 n, .sl 13 (l.map encL) .sh, .sl 12 (ts.map encT) .sh] [] (.int .i64 (chkT n l ts)) [] := by
  refine CFun.intro (tr := []) (fz := []) (n := 102) (rs := [.tmp 6]) Tryz.func6 rfl (by kernel_rfl) rfl rfl mixed (by kernel_rfl) (by simp) (by simp) ?_
  have h26 := fun H => ((c13 l k hk (by omega) con0 n 0 0 rfl rfl (by decide) (by decide)).up' H (by simp [noid, noid0, con0]) rfl).wk [.int .i64 n, .sl 13 (l.map encL) .sh, .agg [.int .i64 0, .int .i64 0, .int .i64 0, .int .u32 0, .int .u32 0, .int .i64 0, .sl 0 [] .full, .sl 0 [] .full]] (by simp [noid, noid0]) ⟨LeS_refl _, LeS_refl _, by simp [con0, LeS, LeC], trivial⟩
  unfold chkT
  by_cases g1 : checkE n l con0 = 0
  case neg =>
    rw [if_pos g1]
    have g1' : ¬ checkE n l con0 = 0 := g1
    generalize checkE n l con0 = e at *
    simp
    refine ⟨_, _, .inl (by simpa using h26 _), by simp, ?_⟩
    simp [g1']
  rw [if_neg (by simpa using g1), if_neg (by omega)]
  rw [g1] at h26
  have hC := check_cap g1
  have hag := fun (hall : ∀ t ∈ ts, tunE n l t = 0) H => (t32 l k hk hk2 hC ts r hr hr2 (fun t ht => tunE_ok (hall t ht) (hts t ht).2)).up' H rfl rfl
  have h21 := fun t (ht : t ∈ ts) H => (c13 l k hk (by omega) t.W n _ _ rfl rfl (hts t ht).1.a (hts t ht).1.h).up' H (by simp [noid, noid0]) rfl
  have hcc := fun t : Tun => (checkE_con g1 t.W).1
  simp only [hcc] at h21
  have h29 := fun t H => (t29 n t).up' H (by simp [noid, noid0]) rfl
  have h30 := fun t (ht : t ∈ ts) H => (c35 t.P t.P.length rfl (by have := (hts t ht).2; omega)).up' H rfl rfl
  have h31 := fun t (ht : t ∈ ts) H => (t31 l k hk (by omega) t.P t.P.length rfl (by have := (hts t ht).2; omega)).up' H rfl rfl
  obtain ⟨T, hT⟩ : ∃ T, T = tunsE n l none ts := ⟨_, rfl⟩
  have hall : T = 0 → ∀ t ∈ ts, tunE n l t = 0 := fun h => tunsE_all (by rw [← hT]; exact h)
  rw [← hT]
  have hr' : ¬ (2000 : Int) < r := by omega
  have hr'' : ¬ 2000 < r := by omega
  simp
  refine ⟨_, _, .inl (by simpa using h26 _), by simp, ?_⟩
  simp [hr, hr', hr'']
  clear h26
  refine LoopK.intro (tr := []) mixed (by kernel_rfl) (fun i : Nat => [(0, .int .i64 n), (1, .sl 13 (l.map encL) .sh), (2, .sl 12 (ts.map encT) .sh), (23, .sl 12 (ts.map encT) .sh), (24, .int .i64 r), (25, .int .i64 i)]) (fun _ => [])
    (fun i => i ≤ r ∧ T = tunsE n l (prevT ts i) (ts.drop i)) (fun i => r - i) 0 ?_ ?_ ?_
  · exact ⟨by omega, hT⟩
  · simp
  rintro i ⟨i1, i2⟩
  by_cases hi : i < r
  case neg =>
    rw [List.drop_eq_nil_of_le (by omega)] at i2
    simp only [tunsE] at i2
    have hg := hag (hall i2)
    subst i2
    generalize agreeB l ts = b at *
    simp [hi]
    refine ⟨_, _, .inl (by simpa using hg _), by simp, ?_⟩
    cases b <;> simp
  obtain ⟨t, ht, hd⟩ := get_drop (l := ts) (i := i) (by omega)
  rw [hd] at i2
  simp only [tunsE] at i2
  have hm := List.mem_of_getElem? ht
  have w1 : IntKind.i64.wrap ((i : Int) + 1) = i + 1 := wrap_in (by omega)
  have hp1 : prevT ts (i + 1) = some t.ID := by simp [prevT, ht]
  clear hT hall hag hd
  have k21 := h21 t hm
  have k29 := h29 t
  have k30 := h30 t hm
  have k31 := h31 t hm
  clear h21 h29 h30 h31
  obtain ⟨m, hmm⟩ : ∃ m, t.P.length = m := ⟨_, rfl⟩
  have hm30 : m ≤ 30 := by have := (hts t hm).2; omega
  unfold tunE pathB at i2
  rw [hmm] at i2
  generalize conE n t.W = e1 at *
  generalize endsE n t = e2 at *
  generalize hasB (usesL l t.P) (-1) = b4 at *
  generalize repB t.P = b3 at *
  by_cases a1 : t.ID < 1
  · rw [if_pos a1] at i2
    subst i2
    simp [hi, hr, ht, gE ht, a1]
  rw [if_neg a1] at i2
  cases i with
  | zero =>
    simp only [prevT, prevB, Bool.false_eq_true, if_false] at i2
    have w1 : IntKind.i64.wrap 1 = 1 := wrap_in (by omega)
    simp [hi, hr, ht, gE ht, a1]
    refine ⟨_, _, .inl (by simpa using k21 _), by simp, ?_⟩
    by_cases g2 : e1 = 0
    case neg =>
      have i2 : T = e1 := by rw [i2, if_pos g2, if_pos g2]
      subst i2
      simp [g2]
    subst g2
    simp only [ne_eq, not_true_eq_false, if_false] at i2
    simp
    refine ⟨_, _, .inl (by simpa using k29 _), by simp, ?_⟩
    by_cases g3 : e2 = 0
    case neg =>
      have i2 : T = e2 := by rw [i2, if_pos g3, if_pos g3]
      subst i2
      simp [g3]
    subst g3
    simp only [not_true_eq_false, if_false] at i2
    by_cases g4 : m = 0
    · rw [if_pos g4] at i2
      simp only [Bool.false_eq_true, if_false] at i2
      simp [hmm, g4, w1]
      exact ⟨1, ⟨by omega, by rw [hp1]; exact i2⟩, by omega, by simp⟩
    rw [if_neg g4] at i2
    obtain ⟨x, hx⟩ : ∃ x, t.P[0]? = some x := ⟨_, List.getElem?_eq_getElem (by omega)⟩
    obtain ⟨y2, hy2⟩ : ∃ y, t.P[m - 1]? = some y := ⟨_, List.getElem?_eq_getElem (by omega)⟩
    have e5 : t.P.getD 0 0 = x := by rw [List.getD_eq_getElem?_getD, hx]; rfl
    have e6 : t.P.getD (m - 1) 0 = y2 := by rw [List.getD_eq_getElem?_getD, hy2]; rfl
    rw [e5, e6] at i2
    have hm1 : 0 < m := by omega
    have hm2 : m - 1 < m := by omega
    have hm1' : (0 : Int) < m := by omega
    have w5 : IntKind.i64.wrap ((m : Int) - 1) = ((m - 1 : Nat) : Int) := by
      rw [show ((m - 1 : Nat) : Int) = (m : Int) - 1 by omega]; exact wrap_in (by omega)
    by_cases g5 : x = t.From
    case neg =>
      have i2 : T = 20 := by rw [i2]; simp [g5]
      subst i2
      simp [hmm, g4, hm1, hm1', hx, gE hx, g5]
    by_cases g6 : y2 = t.To
    case neg =>
      have i2 : T = 20 := by rw [i2]; simp [g6]
      subst i2
      simp [hmm, g4, hm1, hm1', hm2, w5, hx, gE hx, hy2, gE hy2, g5, g6]
    simp [hmm, g4, hm1, hm1', hm2, w5, hx, gE hx, hy2, gE hy2, g5, g6]
    refine ⟨_, _, .inl (by simpa [cargs] using k30 _), by simp [cargs], ?_⟩
    cases b3 with
    | true =>
      have i2 : T = 20 := by rw [i2]; simp
      subst i2
      simp
    | false =>
      simp [hmm, g4, hm1, hm1', hm2, w5, hx, gE hx, hy2, gE hy2, g5, g6]
      refine ⟨_, _, .inl (by simpa [cargs] using k31 _), by simp [cargs], ?_⟩
      cases b4 with
      | true =>
        have i2 : T = 20 := by rw [i2]; simp
        subst i2
        simp
      | false =>
        have i2 : T = tunsE n l (some t.ID) (ts.drop (1)) := by rw [i2]; simp [g5, g6]
        simp [w1]
        exact ⟨1, ⟨by omega, by rw [hp1]; exact i2⟩, by omega, by simp⟩
  | succ i =>
    obtain ⟨y, hy⟩ : ∃ y, ts[i]? = some y := ⟨_, List.getElem?_eq_getElem (by omega)⟩
    have hpy : prevT ts (i + 1) = some y.ID := by simp [prevT, hy]
    simp only [hpy, prevB] at i2
    have b3' : (0 : Int) < (i : Int) + 1 := by omega
    have b5 : i < r := by omega
    have w2 : IntKind.i64.wrap ((i : Int) + 1 - 1) = i := by rw [Int.add_sub_cancel]; exact wrap_in (by omega)
    have w4 : IntKind.i64.wrap (i : Int) = i := wrap_in (by omega)
    have hn1 : ((i : Int) + 1).toNat = i + 1 := by omega
    have w1 : IntKind.i64.wrap ((i : Int) + 1 + 1) = (i : Int) + 1 + 1 := wrap_in (by omega)
    have hi' : (i : Int) + 1 < r := by omega
    have hi0 : (0 : Int) ≤ (i : Int) + 1 := by omega
    by_cases a2 : t.ID ≤ y.ID
    · rw [if_pos (by simpa using a2)] at i2
      subst i2
      simp [hi, hi', hi0, hr, ht, gE ht, hy, gE hy, a1, a2, b3', b5, w2, w4, hn1]
    rw [if_neg (by simpa using a2)] at i2
    simp [hi, hi', hi0, hr, ht, gE ht, hy, gE hy, a1, a2, b3', b5, w2, w4, hn1]
    refine ⟨_, _, .inl (by simpa using k21 _), by simp, ?_⟩
    by_cases g2 : e1 = 0
    case neg =>
      have i2 : T = e1 := by rw [i2, if_pos g2, if_pos g2]
      subst i2
      simp [g2]
    subst g2
    simp only [ne_eq, not_true_eq_false, if_false] at i2
    simp
    refine ⟨_, _, .inl (by simpa using k29 _), by simp, ?_⟩
    by_cases g3 : e2 = 0
    case neg =>
      have i2 : T = e2 := by rw [i2, if_pos g3, if_pos g3]
      subst i2
      simp [g3]
    subst g3
    simp only [not_true_eq_false, if_false] at i2
    by_cases g4 : m = 0
    · rw [if_pos g4] at i2
      simp only [Bool.false_eq_true, if_false] at i2
      simp [hmm, g4, w1]
      exact ⟨i + 1 + 1, ⟨by omega, by rw [hp1]; exact i2⟩, by omega, by simp⟩
    rw [if_neg g4] at i2
    obtain ⟨x, hx⟩ : ∃ x, t.P[0]? = some x := ⟨_, List.getElem?_eq_getElem (by omega)⟩
    obtain ⟨y2, hy2⟩ : ∃ y, t.P[m - 1]? = some y := ⟨_, List.getElem?_eq_getElem (by omega)⟩
    have e5 : t.P.getD 0 0 = x := by rw [List.getD_eq_getElem?_getD, hx]; rfl
    have e6 : t.P.getD (m - 1) 0 = y2 := by rw [List.getD_eq_getElem?_getD, hy2]; rfl
    rw [e5, e6] at i2
    have hm1 : 0 < m := by omega
    have hm2 : m - 1 < m := by omega
    have hm1' : (0 : Int) < m := by omega
    have w5 : IntKind.i64.wrap ((m : Int) - 1) = ((m - 1 : Nat) : Int) := by
      rw [show ((m - 1 : Nat) : Int) = (m : Int) - 1 by omega]; exact wrap_in (by omega)
    by_cases g5 : x = t.From
    case neg =>
      have i2 : T = 20 := by rw [i2]; simp [g5]
      subst i2
      simp [hmm, g4, hm1, hm1', hx, gE hx, g5]
    by_cases g6 : y2 = t.To
    case neg =>
      have i2 : T = 20 := by rw [i2]; simp [g6]
      subst i2
      simp [hmm, g4, hm1, hm1', hm2, w5, hx, gE hx, hy2, gE hy2, g5, g6]
    simp [hmm, g4, hm1, hm1', hm2, w5, hx, gE hx, hy2, gE hy2, g5, g6]
    refine ⟨_, _, .inl (by simpa [cargs] using k30 _), by simp [cargs], ?_⟩
    cases b3 with
    | true =>
      have i2 : T = 20 := by rw [i2]; simp
      subst i2
      simp
    | false =>
      simp [hmm, g4, hm1, hm1', hm2, w5, hx, gE hx, hy2, gE hy2, g5, g6]
      refine ⟨_, _, .inl (by simpa [cargs] using k31 _), by simp [cargs], ?_⟩
      cases b4 with
      | true =>
        have i2 : T = 20 := by rw [i2]; simp
        subst i2
        simp
      | false =>
        have i2 : T = tunsE n l (some t.ID) (ts.drop (i + 1 + 1)) := by rw [i2]; simp [g5, g6]
        simp [w1]
        exact ⟨i + 1 + 1, ⟨by omega, by rw [hp1]; exact i2⟩, by omega, by simp⟩
set_option maxHeartbeats 8000000 in
set_option maxRecDepth 10000 in
theorem t8L (n : Int) (l : List Lnk) (k : Nat) (hk : l.length = k) (ts : List Tun) (r : Nat) (hr : ts.length = r) (hr2 : r < 9223372036854775807) :
    ∃ b, CFun Tryz.prog 5 [.int .i64 n, .sl 13 (l.map encL) .sh, .sl 12 (ts.map encT) .sh] [] (.bool b) [] ∧ (b = false → n ≤ 9 ∧ k ≤ 40 ∧ r ≤ 12 ∧ ∀ t ∈ ts, t.P.length ≤ 30 ∧ t.W.Thru.length ≤ 3) := by
  obtain ⟨b, hb⟩ : ∃ b : Bool, b = (decide (9 < n) || decide (40 < k) || decide (12 < r) || ts.any fun t => decide (30 < t.P.length) || decide (3 < t.W.Thru.length)) := ⟨_, rfl⟩
  refine ⟨b, ?_, fun h => ?_⟩
  case refine_2 =>
    rw [h] at hb
    have hb := hb.symm
    simp only [Bool.or_eq_false_iff, decide_eq_false_iff_not, List.any_eq_false, Bool.or_eq_true, decide_eq_true_eq, not_or] at hb
    obtain ⟨⟨⟨h1, h2⟩, h3⟩, h4⟩ := hb
    exact ⟨by omega, by omega, by omega, fun t ht => by have := h4 t ht; omega⟩
  refine CFun.intro (tr := []) (fz := []) (n := 39) (rs := [.tmp 6]) Tryz.func5 rfl (by kernel_rfl) rfl rfl mixed (by kernel_rfl) (by simp) (by simp) ?_
  by_cases b1 : 9 < n
  · simp [b1] at hb
    subst hb
    simp [b1]
  by_cases b2 : 40 < k
  · have b2' : (40 : Int) < k := by omega
    simp [b2] at hb
    subst hb
    simp [hk, b1, b2, b2']
  have b2' : ¬ (40 : Int) < k := by omega
  by_cases b3 : 12 < r
  · have b3' : (12 : Int) < r := by omega
    simp [b3] at hb
    subst hb
    simp [hk, hr, b1, b2, b2', b3, b3']
  have b3' : ¬ (12 : Int) < r := by omega
  simp only [decide_eq_false b1, decide_eq_false b2, decide_eq_false b3, Bool.false_or] at hb
  simp [hk, hr, b1, b2, b2', b3, b3']
  refine LoopK.intro (tr := []) mixed (by kernel_rfl) (fun i : Nat => [(21, .sl 12 (ts.map encT) .sh), (22, .int .i64 r), (23, .int .i64 i)]) (fun _ => [])
    (fun i => i ≤ r ∧ b = (ts.drop i).any fun t => decide (30 < t.P.length) || decide (3 < t.W.Thru.length)) (fun i => r - i) 0 ?_ ?_ ?_
  · exact ⟨by omega, hb⟩
  · simp
  rintro i ⟨i1, i2⟩
  by_cases hi : i < r
  case neg =>
    rw [List.drop_eq_nil_of_le (by omega)] at i2
    simp at i2
    simp [hi, i2]
  obtain ⟨t, ht, hd⟩ := get_drop (l := ts) (i := i) (by omega)
  rw [hd, List.any_cons] at i2
  have w1 : IntKind.i64.wrap ((i : Int) + 1) = i + 1 := wrap_in (by omega)
  clear hd hb
  by_cases c1 : 30 < t.P.length
  · have c1' : (30 : Int) < t.P.length := by omega
    simp [c1] at i2
    subst i2
    simp [hi, hr, ht, gE ht, c1, c1']
  have c1' : ¬ (30 : Int) < t.P.length := by omega
  by_cases c2 : 3 < t.W.Thru.length
  · have c2' : (3 : Int) < t.W.Thru.length := by omega
    simp [c2] at i2
    subst i2
    simp [hi, hr, ht, gE ht, c1, c1', c2, c2']
  have c2' : ¬ (3 : Int) < t.W.Thru.length := by omega
  simp only [decide_eq_false c1, decide_eq_false c2, Bool.false_or] at i2
  simp [hi, hr, ht, gE ht, c1, c1', c2, c2', w1]
  exact ⟨i + 1, ⟨by omega, i2⟩, by omega, by simp⟩
end Go.Proofs.YtpmmnnaaoideeaaGreat

/- The law of the tunnels that give way, by the program. -/
namespace Go.Proofs.YtpmmnnaaoideeaaGreat
open Go Go.Am Go.Wk

theorem vicL_len (l : List Lnk) (ts : List Tun) (us : List Int) (c : Con) : ∀ (f : Nat) (r : List Lnk) (ch ids : List Int), (vicL l ts us c f r ch ids).1.length ≤ ids.length + f := by
  intro f
  induction f with
  | zero => intro r ch ids; simp [vicL]
  | succ f ih =>
    intro r ch ids
    simp only [vicL]
    split
    · simp
    split
    · simp
    · refine Nat.le_trans (ih _ _ _) ?_
      simp
      omega
theorem vicN_len (l : List Lnk) (ts : List Tun) (p : List Int) (c : Con) : (vicN l ts p c).1.length ≤ ts.length + 1 := by
  unfold vicN
  split
  · simp
  split
  · simp
  · have := vicL_len l ts (usesL l p) c (ts.length + 1) l [] []
    simpa using this
end Go.Proofs.YtpmmnnaaoideeaaGreat

/- What gives way: less important, in order, and all needed. No program. -/
namespace Go.Proofs.YtpmmnnaaoideeaaGreat
open Go Go.Am Go.Wk

theorem vicF_max (cand : Nat → Tun → Bool) (ts : List Tun) : ∀ (r : List Tun) (i : Nat) (b : Int), r = ts.drop i → (-1 ≤ b) →
    (∀ (j : Nat) (t : Tun), j < i → ts[j]? = some t → cand j t = true → 0 ≤ b ∧ t.W.Hold ≤ (ts.getD b.toNat tun0).W.Hold) →
    ∀ (j : Nat) (t : Tun), ts[j]? = some t → cand j t = true → 0 ≤ vicF cand ts b i r ∧ t.W.Hold ≤ (ts.getD (vicF cand ts b i r).toNat tun0).W.Hold := by
  intro r
  induction r with
  | nil =>
    intro i b h _ hm j t hj hc
    have hl : ts.length ≤ i := by
      have := congrArg List.length h
      simp at this
      omega
    exact hm j t (by have := (List.getElem?_eq_some_iff.1 hj).1; omega) hj hc
  | cons t0 r ih =>
    intro i b h hb hm j t hj hc
    have ht : ts[i]? = some t0 := by
      have := congrArg (fun l => l[0]?) h
      simpa using this.symm
    have hr : r = ts.drop (i + 1) := by
      have := congrArg List.tail h
      simpa using this
    have htd : ts.getD i tun0 = t0 := by rw [List.getD_eq_getElem?_getD, ht]; rfl
    simp only [vicF]
    refine ih (i + 1) _ hr (by split <;> omega) (fun j' t' h1 h2 h3 => ?_) j t hj hc
    by_cases g : (cand i t0 && (decide (b < 0) || betT t0 (ts.getD b.toNat tun0))) = true
    · rw [if_pos g]
      refine ⟨by omega, ?_⟩
      rw [Int.toNat_natCast, htd]
      by_cases e : j' = i
      · subst e
        rw [ht] at h2
        injection h2 with h2
        subst h2
        exact Int.le_refl _
      · obtain ⟨k1, k2⟩ := hm j' t' (by omega) h2 h3
        simp only [Bool.and_eq_true, Bool.or_eq_true, decide_eq_true_eq] at g
        rcases g.2 with g | g
        · omega
        · unfold betT at g
          simp only [Bool.or_eq_true, Bool.and_eq_true, decide_eq_true_eq] at g
          omega
    · rw [if_neg g]
      by_cases e : j' = i
      · subst e
        rw [ht] at h2
        injection h2 with h2
        subst h2
        rw [h3, Bool.true_and] at g
        simp only [Bool.or_eq_true, decide_eq_true_eq, not_or] at g
        refine ⟨by omega, ?_⟩
        have g2 := g.2
        unfold betT at g2
        simp only [Bool.or_eq_true, Bool.and_eq_true, decide_eq_true_eq, not_or] at g2
        omega
      · exact hm j' t' (by omega) h2 h3
/-- What the tunnels that were not chosen take. -/
def totX (l : List Lnk) (ch : List Int) : Nat → List Tun → Nat → Nat → Int
  | _, [], _, _ => 0
  | j, t :: ts, i, k => (if (j : Int) ∈ ch then 0 else oneT l t i k) + totX l ch (j + 1) ts i k
theorem totX_nil (l : List Lnk) : ∀ (ts : List Tun) (j i k : Nat), totX l [] j ts i k = totT l ts i k
  | [], _, _, _ => rfl
  | t :: ts, j, i, k => by simp only [totX, totT, totX_nil l ts]; simp
theorem totX_nn {l : List Lnk} {ch : List Int} : ∀ {ts : List Tun}, (∀ t ∈ ts, okA l t) → ∀ j i k, 0 ≤ totX l ch j ts i k
  | [], _, _, _, _ => by simp [totX]
  | t :: ts, h, j, i, k => by
    have h1 := oneT_bd (h t (by simp)) i k
    have h2 := totX_nn (ch := ch) (fun t ht => h t (List.mem_cons_of_mem _ ht)) (j + 1) i k (ts := ts)
    simp only [totX]
    split <;> omega
theorem totX_out {l : List Lnk} {ch : List Int} {v : Int} : ∀ (ts : List Tun) (j i k : Nat), v < j → totX l (ch ++ [v]) j ts i k = totX l ch j ts i k
  | [], _, _, _, _ => rfl
  | t :: ts, j, i, k, h => by
    simp only [totX, totX_out (l := l) (ch := ch) (v := v) ts (j + 1) i k (by omega)]
    congr 1
    have : ((j : Int) ∈ ch ++ [v]) ↔ (j : Int) ∈ ch := by simp; omega
    by_cases e : (j : Int) ∈ ch
    · rw [if_pos e, if_pos (this.2 e)]
    · rw [if_neg e, if_neg (fun h => e (this.1 h))]
theorem totX_add {l : List Lnk} {ch : List Int} {v : Nat} (hv : (v : Int) ∉ ch) : ∀ (ts : List Tun) (j i k : Nat) (t : Tun), j ≤ v → ts[v - j]? = some t → totX l (ch ++ [(v : Int)]) j ts i k = totX l ch j ts i k - oneT l t i k
  | [], _, _, _, _, _, h => by simp at h
  | t0 :: ts, j, i, k, t, hj, h => by
    simp only [totX]
    by_cases e : j = v
    · subst e
      rw [Nat.sub_self] at h
      simp at h
      subst h
      rw [if_pos (by simp), if_neg hv, totX_out (l := l) (ch := ch) (v := (j : Int)) ts (j + 1) i k (by omega)]
      omega
    · have h' : ts[v - (j + 1)]? = some t := by
        rw [show v - j = (v - (j + 1)) + 1 by omega] at h
        simpa using h
      rw [totX_add hv ts (j + 1) i k t (by omega) h']
      have : ((j : Int) ∈ ch ++ [(v : Int)]) ↔ (j : Int) ∈ ch := by simp; omega
      by_cases e2 : (j : Int) ∈ ch
      · rw [if_pos e2, if_pos (this.2 e2)]; omega
      · rw [if_neg e2, if_neg (fun h => e2 (this.1 h))]; omega
theorem tuns_asc {n : Int} {l : List Lnk} : ∀ {ts : List Tun} {p : Option Int}, tunsE n l p ts = 0 → (ts.Pairwise fun a b => a.ID < b.ID) ∧ ∀ q, p = some q → ∀ t ∈ ts, q < t.ID := by
  intro ts
  induction ts with
  | nil => intro p _; exact ⟨List.Pairwise.nil, by simp⟩
  | cons x ts ih =>
    intro p h
    simp only [tunsE] at h
    split at h
    · cases h
    split at h
    · cases h
    rename_i g1 g2
    split at h
    · rename_i g3; exact absurd h g3
    obtain ⟨h1, h2⟩ := ih h
    have hx := h2 x.ID rfl
    refine ⟨List.pairwise_cons.2 ⟨hx, h1⟩, fun q hq t ht => ?_⟩
    subst hq
    simp only [prevB, decide_eq_true_eq] at g2
    rcases List.mem_cons.1 ht with rfl | ht
    · omega
    · have := hx t ht; omega
/-- Where the loop of the law stands. -/
structure GI (l : List Lnk) (ts : List Tun) (us : List Int) (c : Con) (out : List Int) (r : List Lnk) (ch ids : List Int) (H : Int) : Prop where
  len : r.length = l.length
  us_ : ∀ q, usesL r q = usesL l q
  nd : ch.Nodup
  rg : ∀ x ∈ ch, 0 ≤ x ∧ x < ts.length
  id : ids = ch.map fun x => (ts.getD x.toNat tun0).ID
  fr : ∀ (i : Nat) (x : Lnk), r[i]? = some x → (0 ≤ x.Cap ∧ x.Cap ≤ 1099511627776) ∧ ∀ k, k < 8 → x.Fr k = x.Cap - totX l ch 0 ts i k
  h : ∀ (j : Nat) (t : Tun), ts[j]? = some t → candP l (us.filter fun x => !fullP r c.Band x) c ch j t = true → t.W.Hold ≤ H
  run : ∃ f, ts.length + 1 ≤ f + ch.length ∧ vicL l ts us c f r ch ids = (out, 0)
theorem GI.start {l : List Lnk} {ts : List Tun} {us : List Int} {c : Con} {out : List Int} (hts : ∀ t ∈ ts, okA l t) (hC : ∀ x ∈ l, 0 ≤ x.Cap ∧ x.Cap ≤ 1099511627776) (ha : agreeP l ts) (hv : vicL l ts us c (ts.length + 1) l [] [] = (out, 0)) : GI l ts us c out l [] [] 8 := by
  refine ⟨rfl, fun _ => rfl, List.nodup_nil, by simp, rfl, fun i x hx => ⟨hC x (List.mem_of_getElem? hx), fun k hk => ?_⟩, fun j t ht _ => ?_, ⟨ts.length + 1, by simp, hv⟩⟩
  · rw [totX_nil]; exact ha i x hx k hk
  · have := (hts t (List.mem_of_getElem? ht)).h7; omega
theorem vicL_pre (l : List Lnk) (ts : List Tun) (us : List Int) (c : Con) : ∀ (f : Nat) (r : List Lnk) (ch ids out : List Int), vicL l ts us c f r ch ids = (out, 0) → ∃ z, out = ids ++ z := by
  intro f
  induction f with
  | zero => intro r ch ids out h; simp [vicL] at h
  | succ f ih =>
    intro r ch ids out h
    simp only [vicL] at h
    split at h
    · simp at h; exact ⟨[], by simp [h]⟩
    split at h
    · simp at h
    · obtain ⟨z, hz⟩ := ih _ _ _ _ h
      exact ⟨_, by rw [hz, List.append_assoc]⟩
/-- When all have given way. -/
theorem GI.done {l : List Lnk} {ts : List Tun} {us : List Int} {c : Con} {out : List Int} {r : List Lnk} {ch : List Int} {H : Int} (g : GI l ts us c out r ch out H) : roomB r c.Band us = true := by
  obtain ⟨f, h1, h2⟩ := g.run
  rw [room_fu]
  cases f with
  | zero => simp [vicL] at h2
  | succ f =>
    simp only [vicL] at h2
    by_cases q : (us.filter fun x => !fullP r c.Band x) = []
    · exact decide_eq_true q
    · rw [if_neg q] at h2
      split at h2
      · simp at h2
      · obtain ⟨z, hz⟩ := vicL_pre _ _ _ _ _ _ _ _ _ h2
        have := congrArg List.length hz
        simp at this
theorem GI.next {l : List Lnk} {ts : List Tun} {us : List Int} {c : Con} {out : List Int} {r : List Lnk} {ch ids : List Int} {H : Int} (hts : ∀ t ∈ ts, okA l t) (hasc : ts.Pairwise fun a b => a.ID < b.ID) (hus : ∀ u ∈ us, 0 ≤ u ∧ u < l.length) (g : GI l ts us c out r ch ids H) {x : Int} (hx : out[ids.length]? = some x) :
    ∃ (j : Nat) (t : Tun), ts[j]? = some t ∧ t.ID = x ∧ c.Setup < t.W.Hold ∧ t.W.Hold ≤ H ∧ t.P ≠ [] ∧ roomB r c.Band us = false ∧ relN r t = (chA t.W.Band t.W.Hold.toNat (usesL l t.P) r, 0) ∧ x ∉ ids ∧ GI l ts us c out (chA t.W.Band t.W.Hold.toNat (usesL l t.P) r) (ch ++ [(j : Int)]) (ids ++ [x]) t.W.Hold := by
  obtain ⟨f, h1, h2⟩ := g.run
  cases f with
  | zero => simp [vicL] at h2
  | succ f =>
  simp only [vicL] at h2
  by_cases q : (us.filter fun x => !fullP r c.Band x) = []
  · rw [if_pos q] at h2
    simp at h2
    rw [h2] at hx
    simp at hx
  rw [if_neg q] at h2
  have hroom : roomB r c.Band us = false := by rw [room_fu]; exact decide_eq_false q
  have hsp := vicF_spec (candP l (us.filter fun x => !fullP r c.Band x) c ch) ts ts 0 (-1) (by simp)
  have hmx := vicF_max (candP l (us.filter fun x => !fullP r c.Band x) c ch) ts ts 0 (-1) (by simp) (by omega) (fun j t hj => by omega)
  split at h2
  · simp at h2
  rename_i hv
  rcases hsp with e | ⟨j, t, e, htj, hcj⟩
  · rw [e] at hv; omega
  rw [e] at h2 hmx
  have htd : ts.getD j tun0 = t := by rw [List.getD_eq_getElem?_getD, htj]; rfl
  simp only [Int.toNat_natCast, htd] at h2 hmx
  have htm := List.mem_of_getElem? htj
  have ok := hts t htm
  have hjl := (List.getElem?_eq_some_iff.1 htj).1
  have hc2 := hcj
  unfold candP at hc2
  simp only [Bool.and_eq_true, Bool.not_eq_true', Bool.or_eq_false_iff, decide_eq_false_iff_not] at hc2
  obtain ⟨⟨⟨d1, d2⟩, d3⟩, d4⟩ := hc2
  have hjc : (j : Int) ∉ ch := by
    intro hh
    rw [← hasB_iff] at hh
    rw [hh] at d3
    cases d3
  obtain ⟨z, hz⟩ := vicL_pre _ _ _ _ _ _ _ _ _ h2
  have hxt : t.ID = x := by
    rw [hz, List.append_assoc, List.getElem?_append_right (Nat.le_refl _), Nat.sub_self] at hx
    simpa using hx
  have hP : t.P ≠ [] := by
    intro e
    rw [e] at d4
    simp [usesL] at d4
  have hur := g.us_ t.P
  have hpr : pathE r t = 0 := by
    unfold pathE
    rw [if_neg (by have := ok.h0; have := ok.h7; have := ok.b0; have := ok.b1; omega), hur]
    have : ¬ hasB (usesL l t.P) (-1) = true := by
      rw [hasB_iff]
      intro hm
      have := (ok.us _ hm).1
      omega
    rw [if_neg this]
  have hh8 : t.W.Hold.toNat ≤ 8 := by have := ok.h7; omega
  have hone : ∀ i k, t.W.Hold.toNat ≤ k → oneT l t i k = t.W.Band * (cntI i (usesL l t.P) : Int) := by
    intro i k hk
    unfold oneT takenF
    rw [if_pos (by have := ok.h0; omega)]
  have hone0 : ∀ i k, ¬ t.W.Hold.toNat ≤ k → oneT l t i k = 0 := by
    intro i k hk
    unfold oneT takenF
    rw [if_neg (by have := ok.h0; omega), Int.zero_mul]
  have hfr' : ∀ (i : Nat) (y : Lnk), (chA t.W.Band t.W.Hold.toNat (usesL l t.P) r)[i]? = some y → (0 ≤ y.Cap ∧ y.Cap ≤ 1099511627776) ∧ ∀ k, k < 8 → y.Fr k = y.Cap - totX l (ch ++ [(j : Int)]) 0 ts i k := by
    intro i y hy
    rw [chA_get, Option.map_eq_some_iff] at hy
    obtain ⟨w, hw, rfl⟩ := hy
    obtain ⟨w1, w2⟩ := g.fr i w hw
    refine ⟨w1, fun k hk => ?_⟩
    rw [totX_add hjc ts 0 i k t (Nat.zero_le _) (by simpa using htj)]
    have w3 := w2 k hk
    show (chR _ _ w).Fr k = w.Cap - _
    by_cases e : t.W.Hold.toNat ≤ k
    · rw [chR_fr e hk, hone i k e]; omega
    · have e2 : (chR t.W.Hold.toNat (t.W.Band * (cntI i (usesL l t.P) : Int)) w).Fr k = w.Fr k := by simp only [chR]; rw [if_neg (by omega)]
      rw [e2, hone0 i k e]; omega
  have hrel : relN r t = (chA t.W.Band t.W.Hold.toNat (usesL l t.P) r, 0) := by
    unfold relN
    rw [if_neg (by simpa using hpr), hur, add_yes ok.b0 hh8 (by rw [g.len]; exact ok.us)]
    intro i y hy _ k _ k2
    obtain ⟨w1, w2⟩ := hfr' i y hy
    have := totX_nn (ch := ch ++ [(j : Int)]) hts 0 i k
    rw [w2 k k2]
    omega
  have hids : x ∉ ids := by
    rw [g.id]
    intro hm
    obtain ⟨v, hv, he⟩ := List.mem_map.1 hm
    obtain ⟨v0, v1⟩ := g.rg v hv
    obtain ⟨i, rfl⟩ : ∃ i : Nat, v = i := ⟨v.toNat, by omega⟩
    have hil : i < ts.length := by omega
    have hij : i ≠ j := by rintro rfl; exact hjc hv
    rw [Int.toNat_natCast, List.getD_eq_getElem?_getD, List.getElem?_eq_getElem hil] at he
    simp only [Option.getD_some] at he
    have hjt : ts[j] = t := (List.getElem?_eq_some_iff.1 htj).2
    rw [List.pairwise_iff_getElem] at hasc
    rcases Nat.lt_or_gt_of_ne hij with h | h
    · have := hasc i j hil hjl h
      rw [hjt] at this; omega
    · have := hasc j i hjl hil h
      rw [hjt] at this; omega
  refine ⟨j, t, htj, hxt, by omega, g.h j t htj hcj, hP, hroom, hrel, hids, ?_⟩
  refine ⟨by rw [chA_len]; exact g.len, fun p => by rw [usesL_chA]; exact g.us_ p, ?_, ?_, ?_, hfr', ?_, ⟨f, ?_, ?_⟩⟩
  · rw [List.nodup_append]
    refine ⟨g.nd, by simp, fun a ha b hb e => ?_⟩
    simp at hb
    subst hb
    subst e
    exact hjc ha
  · intro v hv
    rcases List.mem_append.1 hv with hv | hv
    · exact g.rg v hv
    · simp at hv; subst hv; omega
  · rw [List.map_append, ← g.id]
    simp only [List.map_cons, List.map_nil, Int.toNat_natCast, htd, hxt]
  · intro j' t' h3 h4
    refine (hmx j' t' h3 ?_).2
    unfold candP at h4 ⊢
    simp only [Bool.and_eq_true, Bool.not_eq_true', Bool.or_eq_false_iff, decide_eq_false_iff_not, List.any_eq_true] at h4 ⊢
    obtain ⟨⟨⟨e1, e2⟩, e3⟩, u, e4, e5⟩ := h4
    refine ⟨⟨⟨e1, e2⟩, ?_⟩, u, e4, ?_⟩
    · cases hb : hasB ch (j' : Int) with
      | false => rfl
      | true =>
        rw [hasB_iff] at hb
        have : hasB (ch ++ [(j : Int)]) (j' : Int) = true := by rw [hasB_iff]; exact List.mem_append_left _ hb
        rw [this] at e3; cases e3
    · unfold inF at e5 ⊢
      simp only [Bool.and_eq_true, decide_eq_true_eq] at e5 ⊢
      refine ⟨e5.1, ?_⟩
      have e6 := e5.2
      rw [hasB_iff, List.mem_filter] at e6 ⊢
      refine ⟨e6.1, ?_⟩
      have e7 := e6.2
      obtain ⟨u0, u1⟩ := hus u e6.1
      obtain ⟨i, rfl⟩ : ∃ i : Nat, u = i := ⟨u.toNat, by omega⟩
      obtain ⟨w, hw⟩ : ∃ w, r[i]? = some w := ⟨_, List.getElem?_eq_getElem (by rw [g.len]; omega)⟩
      have hw' : (chA t.W.Band t.W.Hold.toNat (usesL l t.P) r)[i]? = some (chR t.W.Hold.toNat (t.W.Band * (cntI i (usesL l t.P) : Int)) w) := by rw [chA_get, hw]; rfl
      unfold fullP at e7 ⊢
      rw [Int.toNat_natCast, List.getD_eq_getElem?_getD, hw'] at e7
      rw [Int.toNat_natCast, List.getD_eq_getElem?_getD, hw]
      simp only [Option.getD_some, Bool.not_eq_true', decide_eq_false_iff_not] at e7 ⊢
      have h0 := Int.mul_nonneg ok.b0 (Int.natCast_nonneg (cntI i (usesL l t.P)))
      rw [chR_fr (by have := ok.h7; omega) (by omega)] at e7
      omega
  · simp only [List.length_append, List.length_cons, List.length_nil]; omega
  · rw [← hxt]; exact h2
end Go.Proofs.YtpmmnnaaoideeaaGreat
