/- Sums that may overflow; the same links; the law of giving back. -/
import Derived.Test.YtpmmnnaaoideeaaGreatGT6
import Derived.Test.YtpmmnnaaoideeaaGreatGTL2
set_option linter.unusedSimpArgs false
set_option linter.unusedVariables false
namespace Go.Proofs.YtpmmnnaaoideeaaGreat
open Go Go.Am Go.Wk

@[simp] theorem tq45 : feq Tryz.prog 59 = some [true, true, true, true, true, true, true, true, true, true, true, true, true] := by kernel_rfl
def outB (f : Int) : Bool := decide (1125899906842624 < f) || decide (f < -1125899906842624)
def bigK (f : Nat → Int) : Nat → Bool
  | 0 => false
  | n + 1 => if outB (f (8 - (n + 1))) = true then true else bigK f n
def bigL (x : Lnk) : Bool := bigK x.Fr 8
theorem bigK_false {f : Nat → Int} : ∀ n, n ≤ 8 → bigK f n = false → ∀ k, 8 - n ≤ k → k < 8 → -1125899906842624 ≤ f k ∧ f k ≤ 1125899906842624
  | 0, _, _, k, h1, h2 => by omega
  | n + 1, hn, h, k, h1, h2 => by
    simp only [bigK] at h
    split at h
    · cases h
    rename_i g
    by_cases e : k = 8 - (n + 1)
    · subst e
      simp only [outB, Bool.or_eq_true, decide_eq_true_eq] at g
      omega
    · exact bigK_false n (by omega) h k (by omega) h2
theorem big_false {l : List Lnk} (h : l.any bigL = false) : ∀ x ∈ l, ∀ k, k < 8 → -1125899906842624 ≤ x.Fr k ∧ x.Fr k ≤ 1125899906842624 := by
  rw [List.any_eq_false] at h
  intro x hx k hk
  exact bigK_false 8 (Nat.le_refl _) (by simpa [bigL] using h x hx) k (by omega) hk
set_option maxHeartbeats 8000000 in
set_option maxRecDepth 10000 in
theorem t12 (l : List Lnk) (n : Nat) (hn : l.length = n) (hn2 : n < 1000000) : CFun Tryz.prog 13 [.sl 13 (l.map encL) .sh] [] (.bool (l.any bigL)) [] := by
  refine CFun.intro (tr := []) (fz := []) (n := 26) (rs := [.tmp 2]) Tryz.func13 rfl (by kernel_rfl) rfl rfl mixed (by kernel_rfl) (by simp) (by simp) ?_
  obtain ⟨T, hT⟩ : ∃ T, T = l.any bigL := ⟨_, rfl⟩
  rw [← hT]
  simp
  refine LoopK.intro (tr := []) mixed (by kernel_rfl) (fun i : Nat => [(7, .sl 13 (l.map encL) .sh), (8, .int .i64 n), (9, .int .i64 i)]) (fun _ => []) (fun i => i ≤ n ∧ T = (l.drop i).any bigL) (fun i => n - i) 0 ?_ ?_ ?_
  · simp [hT]
  · simp [hn]
  · rintro i ⟨h1, h2⟩
    by_cases hi : i < n
    · obtain ⟨x, hx, hd⟩ := get_drop (l := l) (i := i) (by omega)
      rw [hd, List.any_cons] at h2
      have w1 : IntKind.i64.wrap ((i : Int) + 1) = i + 1 := wrap_in (by omega)
      clear hd hT
      simp [hi, hn, hx, gE hx]
      refine LoopK.intro (tr := []) mixed (by kernel_rfl) (fun k : Nat => [(7, .sl 13 (l.map encL) .sh), (8, .int .i64 n), (9, .int .i64 i), (14, .agg (frC x)), (15, .int .i64 k)]) (fun _ => []) (fun k => k ≤ 8 ∧ bigL x = bigK x.Fr (8 - k)) (fun k => 8 - k) 0 ?_ ?_ ?_
      · exact ⟨by omega, rfl⟩
      · simp
      · rintro k ⟨k1, k2⟩
        by_cases hk : k < 8
        · obtain ⟨f, hf⟩ : ∃ f, 8 - k = f + 1 := ⟨7 - k, by omega⟩
          have hkk : 8 - (f + 1) = k := by omega
          rw [hf] at k2
          simp only [bigK, hkk] at k2
          have hg := frC_get x hk
          have w2 : IntKind.i64.wrap ((k : Int) + 1) = k + 1 := wrap_in (by omega)
          have hk' : (k : Int) < 8 := by omega
          have hk7 : k ≤ 7 := by omega
          unfold outB at k2
          by_cases g1 : 1125899906842624 < x.Fr k
          · have : bigL x = true := by rw [k2, if_pos (by simp [g1])]
            rw [this] at h2
            simp [hk, hk', hk7, hg, gE hg, g1, h2]
          by_cases g2 : x.Fr k < -1125899906842624
          · have : bigL x = true := by rw [k2, if_pos (by simp [g2])]
            rw [this] at h2
            simp [hk, hk', hk7, hg, gE hg, g1, g2, h2]
          rw [if_neg (by simp; omega)] at k2
          simp [hk, hk', hk7, hg, gE hg, g1, g2, w2]
          exact ⟨k + 1, ⟨by omega, by rw [k2, show 8 - (k + 1) = f by omega]⟩, by omega, by simp⟩
        · have : k = 8 := by omega
          subst this
          rw [k2] at h2
          simp [bigK] at h2
          simp [w1]
          exact ⟨i + 1, ⟨by omega, by simpa using h2⟩, by omega, by simp⟩
    · have : i = n := by omega
      subst this
      rw [List.drop_eq_nil_of_le (by omega)] at h2
      simp [hn, h2]
theorem eqL (x : Lnk) : acmp [true, true, true, true, true, true, true, true, true, true, true, true, true] (cellsL x) (cellsL x) = some true := by
  simp [cellsL, frC, frs, acmp]
set_option maxHeartbeats 8000000 in
set_option maxRecDepth 10000 in
theorem t17 (l : List Lnk) (n : Nat) (hn : l.length = n) (hn2 : n < 9223372036854775807) : CFun Tryz.prog 16 [.sl 13 (l.map encL) .sh, .sl 13 (l.map encL) .sh] [] (.bool true) [] := by
  refine CFun.intro (tr := []) (fz := []) (n := 26) (rs := [.tmp 4]) Tryz.func16 rfl (by kernel_rfl) rfl rfl mixed (by kernel_rfl) (by simp) (by simp) ?_
  simp [hn]
  refine LoopK.intro (tr := []) mixed (by kernel_rfl) (fun i : Nat => [(1, .sl 13 (l.map encL) .sh), (12, .sl 13 (l.map encL) .sh), (13, .int .i64 n), (14, .int .i64 i)]) (fun _ => []) (fun i => i ≤ n) (fun i => n - i) 0 ?_ ?_ ?_
  · simp
  · simp
  · intro i h1
    by_cases hi : i < n
    · obtain ⟨x, hx⟩ : ∃ x, l[i]? = some x := ⟨_, List.getElem?_eq_getElem (by omega)⟩
      have w1 : IntKind.i64.wrap ((i : Int) + 1) = i + 1 := wrap_in (by omega)
      have he := eqL x
      simp [hi, hn, hx, gE hx, he, w1]
      exact ⟨i + 1, by omega, by omega, by simp⟩
    · have : i = n := by omega
      subst this
      simp [hn]
end Go.Proofs.YtpmmnnaaoideeaaGreat

/- The reference's links of a path. -/
namespace Go.Proofs.YtpmmnnaaoideeaaGreat
open Go Go.Am Go.Wk

set_option maxHeartbeats 4000000 in
set_option maxRecDepth 10000 in
-- routingref47.find
theorem t66 (l : List Lnk) (n : Nat) (hn : l.length = n) (hn2 : n < 9223372036854775807) (a b : Int) : CFun Tryz.prog 57 [.sl 13 (l.map encL) .sh, .int .i64 a, .int .i64 b] [] (.int .i64 (findI l a b)) [] := by
  refine CFun.intro (tr := []) (fz := []) (n := 28) (rs := [.tmp 6]) Tryz.func57 rfl (by kernel_rfl) rfl rfl mixed (by kernel_rfl) (by simp) (by simp) ?_
  obtain ⟨T, hT⟩ : ∃ T, T = findI l a b := ⟨_, rfl⟩
  rw [← hT]
  simp
  refine LoopK.intro (tr := []) mixed (by kernel_rfl) (fun i : Nat => [(1, .int .i64 a), (2, .int .i64 b), (9, .sl 13 (l.map encL) .sh), (10, .int .i64 n), (11, .int .i64 i)]) (fun _ => []) (fun i => i ≤ n ∧ T = idxL (isL a b) (l.drop i) i) (fun i => n - i) 0 ?_ ?_ ?_
  · exact ⟨by omega, hT⟩
  · simp [hn]
  · rintro i ⟨h1, h2⟩
    by_cases hi : i < n
    · obtain ⟨x, hx, hd⟩ := get_drop (l := l) (i := i) (by omega)
      rw [hd] at h2
      simp only [idxL] at h2
      have w1 : IntKind.i64.wrap ((i : Int) + 1) = i + 1 := wrap_in (by omega)
      clear hd
      by_cases g1 : x.From = a
      · by_cases g2 : x.To = b
        · simp [isL, g1, g2] at h2
          simp [hi, hn, hx, gE hx, g1, g2, h2]
        · simp [isL, g1, g2] at h2
          simp [hi, hn, hx, gE hx, g1, g2, w1]
          exact ⟨i + 1, ⟨by omega, h2⟩, by omega, by simp⟩
      · simp [isL, g1] at h2
        simp [hi, hn, hx, gE hx, g1, w1]
        exact ⟨i + 1, ⟨by omega, h2⟩, by omega, by simp⟩
    · have : i = n := by omega
      subst this
      rw [List.drop_eq_nil_of_le (by omega)] at h2
      simp [idxL] at h2
      simp [hn, h2]
theorem lend66 {H : List (List AVal)} {id : Nat} {l : List Lnk} {n : Nat} (hid : H[id]? = some (rowC cellsL l)) (hn : l.length = n) (h0 : 0 < n) (hn2 : n < 9223372036854775807) (a b : Int) :
    CFun Tryz.prog 57 [.osl id 0 n none 13, .int .i64 a, .int .i64 b] H (.int .i64 (findI l a b)) H := by
  have h := t66 l n hn hn2 a b
  have hrl := encL_enc.rowLen l
  have hne : rowC cellsL l ≠ [] := by
    intro e
    rw [e] at hrl
    simp at hrl
    omega
  have hch := encL_enc.chunk l n hn
  have e : frzV id (rowC cellsL l) true false (.osl id 0 n none 13) = .sl 13 (l.map encL) .sh := by
    simp [frzV, frz1, hch, hrl, hn]
  have := CFun.lend (args := [.osl id 0 n none 13, .int .i64 a, .int .i64 b]) (id := id) (cs := rowC cellsL l) (cs0 := rowC cellsL l) (ag := true) (x := .int .i64 (findI l a b)) (f := 57) (P := Tryz.prog) (by simp only [List.map_cons, List.map_nil, e]; exact h) hid hne (fun _ _ h => h) (Nat.le_refl _) (encL_enc.rowTree l) (by simp only [List.map_cons, List.map_nil, e]; rfl) rfl
  exact this
set_option maxHeartbeats 4000000 in
set_option maxRecDepth 10000 in
-- routingref47.joined
theorem t31 (l : List Lnk) (k : Nat) (hk : l.length = k) (hk2 : k < 9223372036854775807) (p : List Int) (m : Nat) (hm : p.length = m) (hm2 : m < 1000000) : CFun Tryz.prog 24 [.sl 13 (l.map encL) .sh, .sl 1 (p.map encI) .sh] [] (.bool (!hasB (usesL l p) (-1))) [] := by
  refine CFun.intro (tr := []) (fz := []) (n := 24) (rs := [.tmp 4]) Tryz.func24 rfl (by kernel_rfl) rfl rfl mixed (by kernel_rfl) (by simp) (by simp) ?_
  have h := fun a b H => (t66 l k hk hk2 a b).up' H rfl rfl
  obtain ⟨T, hT⟩ : ∃ T, T = !hasB (usesL l p) (-1) := ⟨_, rfl⟩
  rw [← hT]
  simp
  refine LoopK.intro (tr := []) mixed (by kernel_rfl) (fun i : Nat => [(0, .sl 13 (l.map encL) .sh), (1, .sl 1 (p.map encI) .sh), (5, .int .i64 (i + 1))]) (fun _ => [])
    (fun i => i ≤ m ∧ T = !hasB (usesL l (p.drop i)) (-1)) (fun i => m - i) 0 ?_ ?_ ?_
  · simp [hT]
  · simp
  · rintro i ⟨h1, h2⟩
    by_cases hi : i + 1 < m
    · obtain ⟨x, hx⟩ : ∃ x, p[i]? = some x := ⟨_, List.getElem?_eq_getElem (by omega)⟩
      obtain ⟨y, hy⟩ : ∃ y, p[i + 1]? = some y := ⟨_, List.getElem?_eq_getElem (by omega)⟩
      rw [usesL_drop hx hy] at h2
      have hf := h x y
      have hr := findI_range l x y
      generalize findI l x y = f at *
      have w3 : IntKind.i64.wrap ((i : Int) + 1 + 1) = (i : Int) + 1 + 1 := wrap_in (by omega)
      have w4 : IntKind.i64.wrap (i : Int) = i := wrap_in (by omega)
      have hi' : (i : Int) + 1 < m := by omega
      have hi2 : i < m := by omega
      have hn : ((i : Int) + 1).toNat = i + 1 := by omega
      by_cases g : f < 0
      · have : f = -1 := by omega
        have : T = false := by rw [h2, this]; simp [hasB, isI]
        simp [hi, hi', hi2, hm, hx, gE hx, hy, gE hy, w4, hn]
        refine ⟨_, _, .inl (by simpa [cargs] using hf _), by simp [cargs], ?_⟩
        simp [g, this]
      · have : T = !hasB (usesL l (p.drop (i + 1))) (-1) := by
          have e : ¬ f = -1 := by omega
          rw [h2]; simp [hasB, isI, e]
        simp [hi, hi', hi2, hm, hx, gE hx, hy, gE hy, w4, hn]
        refine ⟨_, _, .inl (by simpa [cargs] using hf _), by simp [cargs], ?_⟩
        simp [g, w3]
        exact ⟨i + 1, ⟨by omega, this⟩, by omega, by simp⟩
    · have hi' : ¬ (i : Int) + 1 < m := by omega
      rw [usesL_short (by rw [List.length_drop]; omega)] at h2
      have : T = true := by rw [h2]; rfl
      simp [hi, hi', hm, this]
set_option maxHeartbeats 4000000 in
set_option maxRecDepth 10000 in
-- routingref47.uses
theorem t39 (l : List Lnk) (k : Nat) (hk : l.length = k) (hk2 : k < 9223372036854775807) (p : List Int) (m : Nat) (hm : p.length = m) (hm2 : m < 1000000) (j : Nat) : CFun Tryz.prog 38 [.sl 13 (l.map encL) .sh, .sl 1 (p.map encI) .sh, .int .i64 j] [] (.int .i64 (cntI j (usesL l p))) [] := by
  refine CFun.intro (tr := []) (fz := []) (n := 31) (rs := [.tmp 6]) Tryz.func38 rfl (by kernel_rfl) rfl rfl mixed (by kernel_rfl) (by simp) (by simp) ?_
  have h := fun a b H => (t66 l k hk hk2 a b).up' H rfl rfl
  obtain ⟨T, hT⟩ : ∃ T, T = cntI j (usesL l p) := ⟨_, rfl⟩
  rw [← hT]
  simp
  refine LoopK.intro (tr := []) mixed (by kernel_rfl) (fun s : Nat × Nat => [(0, .sl 13 (l.map encL) .sh), (1, .sl 1 (p.map encI) .sh), (2, .int .i64 j), (7, .int .i64 s.2), (8, .int .i64 (s.1 + 1))]) (fun _ => [])
    (fun s => s.1 ≤ m ∧ s.2 ≤ s.1 ∧ T = s.2 + cntI j (usesL l (p.drop s.1))) (fun s => m - s.1) (0, 0) ?_ ?_ ?_
  · simp [hT]
  · simp
  · rintro ⟨i, c⟩ ⟨h1, h0, h2⟩
    simp only at h1 h0 h2
    by_cases hi : i + 1 < m
    · obtain ⟨x, hx⟩ : ∃ x, p[i]? = some x := ⟨_, List.getElem?_eq_getElem (by omega)⟩
      obtain ⟨y, hy⟩ : ∃ y, p[i + 1]? = some y := ⟨_, List.getElem?_eq_getElem (by omega)⟩
      rw [usesL_drop hx hy, cntI_cons] at h2
      have hf := h x y
      generalize findI l x y = f at *
      have w3 : IntKind.i64.wrap ((i : Int) + 1 + 1) = (i : Int) + 1 + 1 := wrap_in (by omega)
      have w4 : IntKind.i64.wrap (i : Int) = i := wrap_in (by omega)
      have w5 : IntKind.i64.wrap ((c : Int) + 1) = (c : Int) + 1 := wrap_in (by omega)
      have hi' : (i : Int) + 1 < m := by omega
      have hi2 : i < m := by omega
      have hn : ((i : Int) + 1).toNat = i + 1 := by omega
      by_cases g : f = (j : Int)
      · rw [if_pos g] at h2
        simp [hi, hi', hi2, hm, hx, gE hx, hy, gE hy, w4, hn]
        refine ⟨_, _, .inl (by simpa [cargs] using hf _), by simp [cargs], ?_⟩
        simp [g, w3, w5]
        exact ⟨i + 1, c + 1, ⟨by omega, by omega, by omega⟩, by omega, by simp⟩
      · rw [if_neg g] at h2
        simp [hi, hi', hi2, hm, hx, gE hx, hy, gE hy, w4, hn]
        refine ⟨_, _, .inl (by simpa [cargs] using hf _), by simp [cargs], ?_⟩
        simp [g, w3]
        exact ⟨i + 1, c, ⟨by omega, by omega, by omega⟩, by omega, by simp⟩
    · have hi' : ¬ (i : Int) + 1 < m := by omega
      rw [usesL_short (by rw [List.length_drop]; omega)] at h2
      simp [cntI] at h2
      simp [hi, hi', hm, h2]
def amtB (h b : Int) : Bool := decide (0 ≤ h) && decide (h ≤ 7) && decide (0 ≤ b) && decide (b ≤ 1099511627776)
set_option maxHeartbeats 4000000 in
set_option maxRecDepth 10000 in
theorem t36 (h b : Int) : CFun Tryz.prog 36 [.int .i64 h, .int .i64 b] [] (.bool (amtB h b)) [] := by
  refine CFun.intro (tr := []) (fz := []) (n := 19) (rs := [.tmp 4]) Tryz.func36 rfl (by kernel_rfl) rfl rfl mixed (by kernel_rfl) (by simp) (by simp) ?_
  unfold amtB
  by_cases g1 : 0 ≤ h
  · by_cases g2 : h ≤ 7
    · by_cases g3 : 0 ≤ b
      · by_cases g4 : b ≤ 1099511627776 <;> simp [g1, g2, g3, g4]
      · simp [g1, g2, g3]
    · simp [g1, g2]
  · simp [g1]
end Go.Proofs.YtpmmnnaaoideeaaGreat

/- Rows of numbers: clone, find and delete under the closure of Victims. -/
namespace Go.Proofs.YtpmmnnaaoideeaaGreat
open Go Go.Am Go.Wk

theorem encI_tree (us : List Int) : (us.map encI).all AVal.tree = true := by
  rw [List.all_map]; simp [AVal.tree, encI]
theorem encI_le (k : Nat) (us : List Int) : LeCells k (us.map encI) (us.map encI) := treeCells_le k (encI_tree us)
set_option maxHeartbeats 4000000 in
set_option maxRecDepth 10000 in
-- slices.Clone, as a row
theorem t44r (us : List Int) (hne : us ≠ []) (s1 : us.length ≤ 1000000) : CFun Tryz.prog 32 [.sl 1 (us.map encI) .sh] [] (.osl 0 0 us.length none 1) [us.map encI] := by
  refine CFun.intro (tr := [100007]) (fz := []) (n := 8) (rs := [.tmp 2]) Tryz.func32 rfl (by kernel_rfl) rfl rfl mixed (by kernel_rfl) (by simp) (by simp) ?_
  have s2 : us.length ≤ 140737488355328 := by omega
  have s6 : us.length * 8 ≤ 140737488355328 := by omega
  have s3 : 0 < us.length := List.length_pos_iff.2 hne
  have s4 : (us.map encI).isEmpty = false := by cases us <;> simp_all
  have s5 : (us.map encI).flatMap AVal.cells = us.map encI := by
    clear s2 s6 s3 s4 hne s1
    induction us with
    | nil => rfl
    | cons x us ih => simp only [List.map_cons, List.flatMap_cons, ih]; rfl
  have s7 : (us.map encI).map AVal.dis = us.map encI := by simp [AVal.dis]
  simp [hne, s1, s2, s3, s4, s6]
  first | (rw [s5, s7]; exact encI_le 1 us) | (simpa using encI_le 1 us)
set_option maxHeartbeats 4000000 in
set_option maxRecDepth 10000 in
theorem t44n : CFun Tryz.prog 32 [.sl 1 [] .sh] [] (.sl 1 [] .full) [] := by
  refine CFun.intro (tr := [100007]) (fz := []) (n := 8) (rs := [.tmp 2]) Tryz.func32 rfl (by kernel_rfl) rfl rfl mixed (by kernel_rfl) (by simp) (by simp) ?_
  simp
theorem eI : Enc (fun x : Int => [AVal.int .i64 x]) 1 := ⟨by decide, fun _ => rfl, fun _ => rfl, fun _ => rfl⟩
theorem rowI (l : List Int) : rowC (fun x : Int => [AVal.int .i64 x]) l = l.map encI := by
  induction l with
  | nil => rfl
  | cons x l ih => rw [rowC_cons, ih]; rfl
/-- The variables of Victims around its deletion. -/
def hV (c : Con) (r : List Lnk) (n : Nat) (us : List AVal) : List (List AVal) := [cellsC c, rowC cellsL r, [.osl 1 0 n none 13], us]
def fullP (r : List Lnk) (b : Int) (i : Int) : Bool := decide (b ≤ (r.getD i.toNat lnk0).Fr 7)
set_option maxHeartbeats 4000000 in
set_option maxRecDepth 10000 in
-- the closure of Victims
theorem t45 (c : Con) (r : List Lnk) (n : Nat) (hn : r.length = n) (us : List Int) (i : Int) (h0 : 0 ≤ i) (h1 : i < n) : CFun Tryz.prog 33 [.int .i64 i, .ptr 2 0, .ptr 0 0] (hV c r n (us.map encI)) (.bool (fullP r c.Band i)) (hV c r n (us.map encI)) := by
  refine CFun.intro (tr := []) (fz := []) (n := 14) (rs := [.tmp 4]) Tryz.func33 rfl (by kernel_rfl) rfl rfl mixed (by kernel_rfl) (by simp) (by simp) ?_
  obtain ⟨j, rfl⟩ : ∃ j : Nat, i = j := ⟨i.toNat, by omega⟩
  have hj : j < n := by omega
  obtain ⟨x, hx⟩ : ∃ x, r[j]? = some x := ⟨_, List.getElem?_eq_getElem (by omega)⟩
  have hg := rowL_get hx (k := 7) (by omega)
  have hrl := encL_enc.rowLen r
  rw [hn] at hrl
  have b1 : j * 13 + 4 + 7 < n * 13 := by omega
  have e : fullP r c.Band j = decide (c.Band ≤ x.Fr 7) := by
    unfold fullP
    rw [Int.toNat_natCast, List.getD_eq_getElem?_getD, hx]
    rfl
  have hle := fun k => encL_enc.rowLe k r
  have hle2 := fun k => encI_le k us
  rw [e]
  simp only [hV]
  simp [hj, hg, gE hg, hrl, b1, hle, hle2]
set_option maxHeartbeats 4000000 in
set_option maxRecDepth 10000 in
-- slices.IndexFunc
theorem t69 (c : Con) (r : List Lnk) (n : Nat) (hn : r.length = n) (us : List Int) (m : Nat) (hm : us.length = m) (hm2 : m < 1000000) (hus : ∀ u ∈ us, 0 ≤ u ∧ u < n) :
    CFun Tryz.prog 60 [.osl 3 0 m none 1, .fn 33 [] [.ptr 2 0, .ptr 0 0]] (hV c r n (us.map encI)) (.int .i64 (idxL (fullP r c.Band) us 0)) (hV c r n (us.map encI)) := by
  refine CFun.intro (tr := []) (fz := []) (n := 19) (rs := [.tmp 4]) Tryz.func60 rfl (by kernel_rfl) rfl rfl mixed (by kernel_rfl) (by simp) (by simp) ?_
  have hc := fun u (hu : u ∈ us) => t45 c r n hn us u (hus u hu).1 (hus u hu).2
  have hle := fun k => encL_enc.rowLe k r
  have hle2 := fun k => encI_le k us
  simp only [hV] at *
  simp
  refine LoopK.intro (tr := []) mixed (by kernel_rfl) (fun i : Nat => [(0, .osl 3 0 m none 1), (1, .fn 33 [] [.ptr 2 0, .ptr 0 0]), (7, .int .i64 m), (8, .int .i64 i)]) (fun _ => hV c r n (us.map encI)) (fun i => i ≤ m ∧ idxL (fullP r c.Band) us 0 = idxL (fullP r c.Band) (us.drop i) i) (fun i => m - i) 0 ?_ ?_ ?_
  · simp
  · simp [hV, hle, hle2]
  · rintro i ⟨h1, h2⟩
    by_cases hi : i < m
    · obtain ⟨x, hx, hd⟩ := get_drop (l := us) (i := i) (by omega)
      rw [hd] at h2
      simp only [idxL] at h2
      have w1 : IntKind.i64.wrap ((i : Int) + 1) = i + 1 := wrap_in (by omega)
      clear hd
      have hcx := hc x (List.mem_of_getElem? hx)
      generalize fullP r c.Band x = b at hcx h2
      simp only [hV]
      simp [hi, hm, hx, gE hx]
      refine ⟨_, _, .inl (by simpa [cargs] using hcx), by simp, ?_⟩
      cases b with
      | true => simp at h2; simp [h2, hle, hle2]
      | false =>
        simp at h2
        simp [w1]
        exact ⟨i + 1, ⟨by omega, h2⟩, by omega, by simp [hle, hle2]⟩
    · have : i = m := by omega
      subst this
      rw [List.drop_eq_nil_of_le (by omega)] at h2
      simp only [hV]
      simp [h2, idxL, hle, hle2]
set_option maxHeartbeats 8000000 in
set_option maxRecDepth 10000 in
-- slices.DeleteFunc
theorem t43 (c : Con) (r : List Lnk) (n : Nat) (hn : r.length = n) (us : List Int) (m : Nat) (hm : us.length = m) (hm2 : m < 1000000) (hus : ∀ u ∈ us, 0 ≤ u ∧ u < n) :
    CFun Tryz.prog 31 [.osl 3 0 m none 1, .fn 33 [] [.ptr 2 0, .ptr 0 0]] (hV c r n (us.map encI)) (.osl 3 0 (us.filter fun x => !fullP r c.Band x).length none 1) (hV c r n ((us.filter fun x => !fullP r c.Band x).map encI ++ List.replicate (m - (us.filter fun x => !fullP r c.Band x).length) AVal.undef)) := by
  refine CFun.intro (tr := []) (fz := []) (n := 42) (rs := [.tmp 4]) Tryz.func31 rfl (by kernel_rfl) rfl rfl mixed (by kernel_rfl) (by simp) (by simp) ?_
  have hidx := t69 c r n hn us m hm hm2 hus
  have hle := fun k => encL_enc.rowLe k r
  have hle2 := fun k us => encI_le k us
  have hc := fun (cur : List Int) u (hu : u ∈ us) => t45 c r n hn cur u (hus u hu).1 (hus u hu).2
  generalize hp : fullP r c.Band = p at *
  simp only [hV] at *
  simp
  refine ⟨_, _, .inl (by simpa using hidx), by simp, ?_⟩
  rcases idxL_spec p us 0 with ⟨e1, e2⟩ | ⟨i, e1, e2, e3⟩
  · simp [e1, e2, hm, hle, hle2]
  · have w0 : IntKind.i64.wrap ((i : Int) + 1) = i + 1 := wrap_in (by omega)
    have hne : ¬ ((i : Int) = -1) := by omega
    rw [Nat.zero_add] at e1
    simp [e1, w0, hne]
    refine LoopK.intro (tr := []) mixed (by kernel_rfl) (fun q : Nat × Nat × List Int => [(0, .osl 3 0 m none 1), (1, .fn 33 [] [.ptr 2 0, .ptr 0 0]), (5, .int .i64 q.1), (6, .int .i64 q.2.1)]) (fun q => hV c r n (q.2.2.map encI))
      (fun q => q.1 < q.2.1 ∧ q.2.1 ≤ m ∧ q.2.2.length = m ∧ q.2.2.take q.1 = (us.take q.2.1).filter (fun x => !p x) ∧ q.2.2.drop q.2.1 = us.drop q.2.1) (fun q => m - q.2.1) (i, i + 1, us) ?_ ?_ ?_
    · exact ⟨by simp, by simp; omega, hm, e3.symm, rfl⟩
    · simp [hV, hle, hle2]
    · rintro ⟨a, b, cur⟩ ⟨h1, h2, h3, h4, h5⟩
      simp only at h1 h2 h3 h4 h5
      have hal : a < cur.length := by omega
      by_cases hb : b < m
      · obtain ⟨x, hx, hd⟩ := get_drop (l := us) (i := b) (by omega)
        obtain ⟨y, hy, he⟩ := get_drop (l := cur) (i := b) (by omega)
        rw [hd, he, List.cons.injEq] at h5
        obtain ⟨rfl, h5⟩ := h5
        have hcall := hc cur y (List.mem_of_getElem? hx)
        have w1 : IntKind.i64.wrap ((b : Int) + 1) = b + 1 := wrap_in (by omega)
        have w2 : IntKind.i64.wrap ((a : Int) + 1) = a + 1 := wrap_in (by omega)
        have htk : (us.take (b + 1)).filter (fun x => !p x) = (us.take b).filter (fun x => !p x) ++ [y].filter (fun x => !p x) := by
          rw [List.take_add_one, hx]; simp
        have hle3 : ∀ k, LeCells k ((cur.map encI).set a (.int .i64 y)) ((cur.map encI).set a (.int .i64 y)) := fun k => by
          have := encI_le k (cur.set a y)
          rw [List.map_set] at this
          exact this
        have han : a < m := by omega
        have han1 : a + 1 ≤ m := by omega
        clear hd he
        simp only [hV]
        cases hpx : p y with
        | true =>
          rw [hpx] at hcall
          simp [hb, h3, hy, gE hy]
          refine ⟨_, _, .inl (by simpa [cargs] using hcall), by simp, ?_⟩
          simp [w1]
          refine ⟨a, b + 1, cur, ⟨by omega, by omega, h3, by rw [htk]; simp [hpx, h4], h5⟩, by omega, ?_⟩
          simp [hle, hle2]
        | false =>
          rw [hpx] at hcall
          have hset' : (cur.set a y).take (a + 1) = (us.take (b + 1)).filter (fun x => !p x) := by
            rw [htk, ← h4, List.take_add_one, List.take_set_of_le (by omega)]
            simp [hal, hpx]
          simp [hb, h3, hy, gE hy]
          refine ⟨_, _, .inl (by simpa [cargs] using hcall), by simp, ?_⟩
          simp [han, han1, h3, w1, w2]
          refine ⟨a + 1, b + 1, cur.set a y, ⟨by omega, by omega, by simpa using h3, hset', ?_⟩, by omega, ?_⟩
          · rw [List.drop_set_of_lt (by omega)]; exact h5
          · simp [hle, hle2, hle3]
      · have : b = m := by omega
        subst this
        rw [show us.take b = us from List.take_of_length_le (by omega)] at h4
        have hla : (us.filter fun x => !p x).length = a := by rw [← h4, List.length_take]; omega
        have ham : a ≤ b := by omega
        have hrow := eI.strike cur a (by omega) ((b - a) * 1) (by rw [h3]) (List.replicate (b - a) .undef) (by simp)
        simp only [Nat.mul_one, rowI] at hrow
        rw [h4] at hrow
        have hab : ¬ b - a = 0 := by omega
        have hfit : a + (b - a) ≤ b := by omega
        have hun : ∀ k, LeCells k ((us.filter fun x => !p x).map encI ++ List.replicate (b - a) AVal.undef) ((us.filter fun x => !p x).map encI ++ List.replicate (b - a) AVal.undef) := fun k => by
          have := eI.roomLe k (b - a) (us.filter fun x => !p x)
          rw [rowI] at this
          exact this
        simp only [hV]
        simp [hb, ham, hla, h3, hab, hfit, hrow, hle, hle2, hun, -setR]
end Go.Proofs.YtpmmnnaaoideeaaGreat

/- The next tunnel to give way, by the program. -/
namespace Go.Proofs.YtpmmnnaaoideeaaGreat
open Go Go.Am Go.Wk

def tun0 : Tun := ⟨0, 0, 0, ⟨0, 0, 0, 0, 0, 0, [], []⟩, []⟩
def betT (t u : Tun) : Bool := decide (u.W.Hold < t.W.Hold) || decide (t.W.Hold = u.W.Hold) && decide (u.ID < t.ID)
def vicF (cand : Nat → Tun → Bool) (ts : List Tun) : Int → Nat → List Tun → Int
  | b, _, [] => b
  | b, i, t :: r => vicF cand ts (if (cand i t && (decide (b < 0) || betT t (ts.getD b.toNat tun0))) = true then (i : Int) else b) (i + 1) r
def inF (fu : List Int) (k : Int) : Bool := decide (0 ≤ k) && hasB fu k
def candP (l : List Lnk) (fu : List Int) (c : Con) (ch : List Int) (i : Nat) (t : Tun) : Bool := !(decide (t.W.Band ≤ 0) || decide (t.W.Hold ≤ c.Setup) || hasB ch i) && (usesL l t.P).any (inF fu)
set_option maxHeartbeats 4000000 in
set_option maxRecDepth 10000 in
theorem t71 (fu : List Int) (m : Nat) (hm : fu.length = m) (hm2 : m < 1000000) (k : Int) : CFun Tryz.prog 62 [.int .i64 k, .ptr 0 0] [[.sl 1 (fu.map encI) .sh]] (.bool (inF fu k)) [[.sl 1 (fu.map encI) .sh]] := by
  refine CFun.intro (tr := []) (fz := []) (n := 11) (rs := [.tmp 3]) Tryz.func62 rfl (by kernel_rfl) rfl rfl mixed (by kernel_rfl) (by simp) (by simp) ?_
  have h := fun H => (c24 fu m hm (by omega) k).up' H rfl rfl
  unfold inF
  by_cases g : 0 ≤ k
  · simp [g]
    refine ⟨_, _, .inl (by simpa using h _), by simp, ?_⟩
    simp
  · simp [g]
set_option maxHeartbeats 4000000 in
set_option maxRecDepth 10000 in
theorem t69b (us : List Int) (n : Nat) (hn : us.length = n) (hn2 : n < 1000000) (fu : List Int) (m : Nat) (hm : fu.length = m) (hm2 : m < 1000000) :
    CFun Tryz.prog 60 [.sl 1 (us.map encI) .sh, .fn 62 [] [.ptr 0 0]] [[.sl 1 (fu.map encI) .sh]] (.int .i64 (idxL (inF fu) us 0)) [[.sl 1 (fu.map encI) .sh]] := by
  refine CFun.intro (tr := []) (fz := []) (n := 19) (rs := [.tmp 4]) Tryz.func60 rfl (by kernel_rfl) rfl rfl mixed (by kernel_rfl) (by simp) (by simp) ?_
  have h := t71 fu m hm hm2
  simp
  refine LoopK.intro (tr := []) mixed (by kernel_rfl) (fun j : Nat => [(0, .sl 1 (us.map encI) .sh), (1, .fn 62 [] [.ptr 0 0]), (7, .int .i64 n), (8, .int .i64 j)]) (fun _ => [[.sl 1 (fu.map encI) .sh]]) (fun j => j ≤ n ∧ idxL (inF fu) us 0 = idxL (inF fu) (us.drop j) j) (fun j => n - j) 0 ?_ ?_ ?_
  · simp
  · simp [hn]
  · rintro j ⟨h1, h2⟩
    by_cases hj : j < n
    · obtain ⟨y, hy, hd⟩ := get_drop (l := us) (i := j) (by omega)
      rw [hd] at h2
      simp only [idxL] at h2
      have w1 : IntKind.i64.wrap ((j : Int) + 1) = j + 1 := wrap_in (by omega)
      clear hd
      have hyc := h y
      generalize inF fu y = b at hyc h2
      simp [hj, hn, hy, gE hy]
      refine ⟨_, _, .inl (by simpa using hyc), by simp, ?_⟩
      cases b with
      | true => simp at h2; simp [h2]
      | false =>
        simp at h2
        simp [w1]
        exact ⟨j + 1, ⟨by omega, h2⟩, by omega, by simp⟩
    · have : j = n := by omega
      subst this
      rw [List.drop_eq_nil_of_le (by omega)] at h2
      simp [hn, h2, idxL]
set_option maxHeartbeats 4000000 in
set_option maxRecDepth 10000 in
theorem t70b (us : List Int) (n : Nat) (hn : us.length = n) (hn2 : n < 1000000) (fu : List Int) (m : Nat) (hm : fu.length = m) (hm2 : m < 1000000) :
    CFun Tryz.prog 61 [.sl 1 (us.map encI) .sh, .fn 62 [] [.ptr 0 0]] [[.sl 1 (fu.map encI) .sh]] (.bool (us.any (inF fu))) [[.sl 1 (fu.map encI) .sh]] := by
  refine CFun.intro (tr := []) (fz := []) (n := 9) (rs := [.tmp 4]) Tryz.func61 rfl (by kernel_rfl) rfl rfl mixed (by kernel_rfl) (by simp) (by simp) ?_
  have h := t69b us n hn hn2 fu m hm hm2
  rw [show us.any (inF fu) = decide (0 ≤ idxL (inF fu) us 0) from idxL_any _ _ _]
  generalize idxL (inF fu) us 0 = q at h
  simp
  refine ⟨_, _, .inl (by simpa using h), by simp, ?_⟩
  simp
set_option maxHeartbeats 16000000 in
set_option maxRecDepth 10000 in
-- tunnel.victim
theorem t46 (l : List Lnk) (n : Nat) (hn : l.length = n) (hn2 : n < 1000000) (ts : List Tun) (r : Nat) (hr : ts.length = r) (hr2 : r < 1000000) (hts : ∀ t ∈ ts, t.P.length < 1000000) (fu : List Int) (m : Nat) (hm : fu.length = m) (hm2 : m < 1000000) (c : Con) (ch : List Int) (q : Nat) (hq : ch.length = q) (hq2 : q < 1000000) :
    CFun Tryz.prog 34 [.sl 13 (l.map encL) .sh, .sl 12 (ts.map encT) .sh, .sl 1 (fu.map encI) .sh, encC c, .sl 1 (ch.map encI) .sh] [] (.int .i64 (vicF (candP l fu c ch) ts (-1) 0 ts)) [] := by
  refine CFun.intro (tr := []) (fz := []) (n := 84) (rs := [.tmp 10]) Tryz.func34 rfl (by kernel_rfl) rfl rfl mixed (by kernel_rfl) (by simp) (by simp) ?_
  have h41 := fun t (ht : t ∈ ts) H => (t41 l n hn (by omega) t.P t.P.length rfl (hts t ht)).up' H rfl rfl
  have h42 := fun (i : Nat) H => (c24 ch q hq (by omega) (i : Int)).up' H rfl rfl
  have h70 := fun t (ht : t ∈ ts) H (hH : H[0]? = some [.sl 1 (fu.map encI) .sh]) => (t70b (usesL l t.P) (t.P.length - 1) (usesL_len l t.P) (by have := hts t ht; omega) fu m hm hm2).at (H := H) (id := 0) hH rfl rfl rfl rfl
  obtain ⟨T, hT⟩ : ∃ T, T = vicF (candP l fu c ch) ts (-1) 0 ts := ⟨_, rfl⟩
  rw [← hT]
  simp [hr]
  refine LoopK.intro (tr := []) mixed (by kernel_rfl) (fun s : Nat × Int => [(0, .sl 13 (l.map encL) .sh), (1, .sl 12 (ts.map encT) .sh), (4, .sl 1 (ch.map encI) .sh), (7, .ptr 0 0), (8, .ptr 1 0), (11, .int .i64 s.2), (14, .sl 12 (ts.map encT) .sh), (15, .int .i64 r), (16, .int .i64 s.1)]) (fun _ => [[.sl 1 (fu.map encI) .sh], cellsC c])
    (fun s => s.1 ≤ r ∧ -1 ≤ s.2 ∧ s.2 < r ∧ T = vicF (candP l fu c ch) ts s.2 s.1 (ts.drop s.1)) (fun s => r - s.1) (0, -1) ?_ ?_ ?_
  · exact ⟨Nat.zero_le _, by simp, by simp; omega, hT⟩
  · simp
  rintro ⟨i, b⟩ ⟨i1, i2, i3, i4⟩
  simp only at i1 i2 i3 i4
  by_cases hi : i < r
  case neg =>
    rw [List.drop_eq_nil_of_le (by omega)] at i4
    simp only [vicF] at i4
    simp [hi, i4]
  obtain ⟨t, ht, hd⟩ := get_drop (l := ts) (i := i) (by omega)
  rw [hd] at i4
  simp only [vicF] at i4
  have hmm := List.mem_of_getElem? ht
  have w1 : IntKind.i64.wrap ((i : Int) + 1) = i + 1 := wrap_in (by omega)
  have k41 := h41 t hmm
  have k70 := h70 t hmm
  have k42 := h42 i
  clear h41 h42 h70 hd hT
  have hcp : candP l fu c ch i t = (!(decide (t.W.Band ≤ 0) || decide (t.W.Hold ≤ c.Setup) || hasB ch i) && (usesL l t.P).any (inF fu)) := rfl
  generalize candP l fu c ch i t = cd at *
  generalize hasB ch (i : Int) = b1 at *
  generalize usesL l t.P = us at *
  generalize us.any (inF fu) = b2 at *
  have skip : cd = false → T = vicF (candP l fu c ch) ts b (i + 1) (ts.drop (i + 1)) := by
    intro e
    rw [e] at i4
    simpa using i4
  by_cases g1 : t.W.Band ≤ 0
  · have := skip (by rw [hcp]; simp [g1])
    simp [hi, hr, ht, gE ht, g1, w1]
    exact ⟨i + 1, b, ⟨by omega, i2, i3, this⟩, by omega, by simp⟩
  by_cases g2 : t.W.Hold ≤ c.Setup
  · have := skip (by rw [hcp]; simp [g2])
    simp [hi, hr, ht, gE ht, g1, g2, w1]
    exact ⟨i + 1, b, ⟨by omega, i2, i3, this⟩, by omega, by simp⟩
  cases b1 with
  | true =>
    have := skip (by rw [hcp]; simp)
    simp [hi, hr, ht, gE ht, g1, g2]
    refine ⟨_, _, .inl (by simpa [cargs] using k42 _), by simp [cargs], ?_⟩
    simp [w1]
    exact ⟨i + 1, b, ⟨by omega, i2, i3, this⟩, by omega, by simp⟩
  | false =>
  cases b2 with
  | false =>
    have := skip (by rw [hcp]; simp)
    simp [hi, hr, ht, gE ht, g1, g2]
    refine ⟨_, _, .inl (by simpa [cargs] using k42 _), by simp [cargs], ?_⟩
    simp
    refine ⟨_, _, .inl (by simpa using k41 _), by simp, ?_⟩
    simp
    refine ⟨_, _, .inl (by simpa [ren, ren0] using k70 _ rfl), by simp, ?_⟩
    simp [w1]
    exact ⟨i + 1, b, ⟨by omega, i2, i3, this⟩, by omega, by simp⟩
  | true =>
  have hcd : cd = true := by rw [hcp]; simp [g1, g2]
  rw [hcd, Bool.true_and] at i4
  by_cases g3 : b < 0
  · rw [if_pos (by simp [g3])] at i4
    simp [hi, hr, ht, gE ht, g1, g2]
    refine ⟨_, _, .inl (by simpa [cargs] using k42 _), by simp [cargs], ?_⟩
    simp
    refine ⟨_, _, .inl (by simpa using k41 _), by simp, ?_⟩
    simp
    refine ⟨_, _, .inl (by simpa [ren, ren0] using k70 _ rfl), by simp, ?_⟩
    simp [g3, w1]
    exact ⟨i + 1, (i : Int), ⟨by omega, by omega, by omega, i4⟩, by omega, by simp⟩
  obtain ⟨j, rfl⟩ : ∃ j : Nat, b = j := ⟨b.toNat, by omega⟩
  have hj : j < r := by omega
  obtain ⟨u, hu⟩ : ∃ u, ts[j]? = some u := ⟨_, List.getElem?_eq_getElem (by omega)⟩
  have hud : ts.getD j tun0 = u := by rw [List.getD_eq_getElem?_getD, hu]; rfl
  rw [Int.toNat_natCast, hud] at i4
  unfold betT at i4
  have g3' : ¬ (j : Int) < 0 := g3
  by_cases g4 : u.W.Hold < t.W.Hold
  · rw [if_pos (by simp [g4])] at i4
    simp [hi, hr, ht, gE ht, g1, g2]
    refine ⟨_, _, .inl (by simpa [cargs] using k42 _), by simp [cargs], ?_⟩
    simp
    refine ⟨_, _, .inl (by simpa using k41 _), by simp, ?_⟩
    simp
    refine ⟨_, _, .inl (by simpa [ren, ren0] using k70 _ rfl), by simp, ?_⟩
    simp [g3', hj, hr, hu, gE hu, g4, w1]
    exact ⟨i + 1, (i : Int), ⟨by omega, by omega, by omega, i4⟩, by omega, by simp⟩
  by_cases g5 : t.W.Hold = u.W.Hold ∧ u.ID < t.ID
  · obtain ⟨g5, g6⟩ := g5
    rw [if_pos (by simp [g5, g6])] at i4
    simp [hi, hr, ht, gE ht, g1, g2]
    refine ⟨_, _, .inl (by simpa [cargs] using k42 _), by simp [cargs], ?_⟩
    simp
    refine ⟨_, _, .inl (by simpa using k41 _), by simp, ?_⟩
    simp
    refine ⟨_, _, .inl (by simpa [ren, ren0] using k70 _ rfl), by simp, ?_⟩
    simp [g3', hj, hr, hu, gE hu, g4, g5, g6, w1]
    exact ⟨i + 1, (i : Int), ⟨by omega, by omega, by omega, i4⟩, by omega, by simp⟩
  rw [if_neg (by simp only [Bool.or_eq_true, Bool.and_eq_true, decide_eq_true_eq]; omega)] at i4
  by_cases g6 : t.W.Hold = u.W.Hold
  · have g7 : ¬ u.ID < t.ID := fun h => g5 ⟨g6, h⟩
    simp [hi, hr, ht, gE ht, g1, g2]
    refine ⟨_, _, .inl (by simpa [cargs] using k42 _), by simp [cargs], ?_⟩
    simp
    refine ⟨_, _, .inl (by simpa using k41 _), by simp, ?_⟩
    simp
    refine ⟨_, _, .inl (by simpa [ren, ren0] using k70 _ rfl), by simp, ?_⟩
    simp [g3', hj, hr, hu, gE hu, g4, g6, g7, w1]
    exact ⟨i + 1, (j : Int), ⟨by omega, by omega, by omega, i4⟩, by omega, by simp⟩
  · simp [hi, hr, ht, gE ht, g1, g2]
    refine ⟨_, _, .inl (by simpa [cargs] using k42 _), by simp [cargs], ?_⟩
    simp
    refine ⟨_, _, .inl (by simpa using k41 _), by simp, ?_⟩
    simp
    refine ⟨_, _, .inl (by simpa [ren, ren0] using k70 _ rfl), by simp, ?_⟩
    simp [g3', hj, hr, hu, gE hu, g4, g6, w1]
    exact ⟨i + 1, (j : Int), ⟨by omega, by omega, by omega, i4⟩, by omega, by simp⟩
end Go.Proofs.YtpmmnnaaoideeaaGreat

/- The reference's change of links. -/
namespace Go.Proofs.YtpmmnnaaoideeaaGreat
open Go Go.Am Go.Wk

theorem cntI_pos {i : Nat} {us : List Int} : 0 < cntI i us ↔ (i : Int) ∈ us := by
  unfold cntI
  rw [List.countP_pos_iff]
  constructor
  · rintro ⟨a, ha, hb⟩
    have : a = (i : Int) := by simpa using hb
    rw [← this]; exact ha
  · intro h; exact ⟨_, h, by simp⟩
set_option maxHeartbeats 4000000 in
set_option maxRecDepth 10000 in
-- routingref47.short
theorem t38 (l : List Lnk) (n : Nat) (hn : l.length = n) (hn2 : n < 1000000) (p : List Int) (m : Nat) (hm : p.length = m) (hm2 : m < 1000000) (b : Int) (hus : ∀ u ∈ usesL l p, 0 ≤ u ∧ u < l.length) :
    CFun Tryz.prog 81 [.sl 13 (l.map encL) .sh, .sl 1 (p.map encI) .sh, .int .i64 b] [] (.bool (!roomB l b (usesL l p))) [] := by
  refine CFun.intro (tr := []) (fz := []) (n := 29) (rs := [.tmp 6]) Tryz.func81 rfl (by kernel_rfl) rfl rfl mixed (by kernel_rfl) (by simp) (by simp) ?_
  have h := fun j H => (t39 l n hn (by omega) p m hm hm2 j).up' H rfl rfl
  generalize usesL l p = us at *
  obtain ⟨T, hT⟩ : ∃ T, T = roomB l b us := ⟨_, rfl⟩
  rw [← hT]
  simp
  refine LoopK.intro (tr := []) mixed (by kernel_rfl) (fun i : Nat => [(0, .sl 13 (l.map encL) .sh), (1, .sl 1 (p.map encI) .sh), (2, .int .i64 b), (9, .sl 13 (l.map encL) .sh), (10, .int .i64 n), (11, .int .i64 i)]) (fun _ => [])
    (fun i => i ≤ n ∧ ∀ (j : Nat) (x : Lnk), j < i → l[j]? = some x → 0 < cntI j us → b ≤ x.Fr 7) (fun i => n - i) 0 ?_ ?_ ?_
  · exact ⟨by omega, fun j x hj => by omega⟩
  · simp [hn]
  · rintro i ⟨h1, h2⟩
    by_cases hi : i < n
    · obtain ⟨x, hx⟩ : ∃ x, l[i]? = some x := ⟨_, List.getElem?_eq_getElem (by omega)⟩
      have w1 : IntKind.i64.wrap ((i : Int) + 1) = i + 1 := wrap_in (by omega)
      have h7 := cellsL_fr x (i := 7) (by omega)
      have hc := h i
      have go : (0 < cntI i us → b ≤ x.Fr 7) → ∀ (j : Nat) (y : Lnk), j < i + 1 → l[j]? = some y → 0 < cntI j us → b ≤ y.Fr 7 := by
        intro hx' j y hj hy hcj
        by_cases e : j = i
        · subst e
          rw [hx] at hy
          injection hy with hy
          subst hy
          exact hx' hcj
        · exact h2 j y (by omega) hy hcj
      have no : 0 < cntI i us → x.Fr 7 < b → T = false := by
        intro k1 k2
        obtain ⟨j, hj, he⟩ := List.getElem_of_mem (cntI_pos.1 k1)
        rw [hT]
        exact roomB_no (j := j) (by rw [List.getElem?_eq_getElem hj, he]) hx k2
      generalize cntI i us = ct at *
      simp [hi, hn, hx, gE hx]
      refine ⟨_, _, .inl (by simpa using hc _), by simp, ?_⟩
      by_cases g1 : 0 < ct
      · have g1' : (0 : Int) < ct := by omega
        by_cases g2 : x.Fr 7 < b
        · have := no g1 g2
          simp [g1, g1', h7, g2, this]
        · simp [g1, g1', h7, g2, w1]
          exact ⟨i + 1, ⟨by omega, go fun _ => by omega⟩, by omega, by simp⟩
      · have g1' : ¬ (0 : Int) < ct := by omega
        simp [g1, g1', w1]
        exact ⟨i + 1, ⟨by omega, go fun h => absurd h g1⟩, by omega, by simp⟩
    · have : i = n := by omega
      subst this
      have : T = true := by
        rw [hT]
        refine roomB_yes (fun j k x hj hx => h2 k x (by rw [← hn]; exact (List.getElem?_eq_some_iff.1 hx).1) hx (cntI_pos.2 (List.mem_of_getElem? hj))) hus
      simp [hn, this]
theorem idxL_map {α : Type} (p : α → Bool) : ∀ (l : List α) (i : Nat), idxL p l i = idxL id (l.map p) i
  | [], _ => rfl
  | x :: l, i => by simp only [List.map_cons, idxL, idxL_map p l, id]
theorem findI_set {l : List Lnk} {i : Nat} {x y : Lnk} (hx : l[i]? = some x) (h1 : y.From = x.From) (h2 : y.To = x.To) (a b : Int) : findI (l.set i y) a b = findI l a b := by
  unfold findI
  rw [idxL_map, idxL_map (isL a b) l]
  suffices hs : (l.set i y).map (isL a b) = l.map (isL a b) by rw [hs]
  rw [List.map_set]
  apply List.ext_getElem?
  intro j
  rw [List.getElem?_set]
  split
  · rename_i e
    subst e
    have hlt := (List.getElem?_eq_some_iff.1 hx).1
    rw [if_pos (by simpa using hlt), List.getElem?_map, hx]
    simp only [Option.map_some, isL, h1, h2]
  · rfl
theorem setF_same (x : Lnk) (k : Nat) (v : Int) : (setF x k v).From = x.From ∧ (setF x k v).To = x.To := ⟨rfl, rfl⟩
set_option maxHeartbeats 16000000 in
set_option maxRecDepth 10000 in
-- routingref47.change
theorem t37 (l : List Lnk) (n : Nat) (hn : l.length = n) (hn2 : n < 1000000) (p : List Int) (m : Nat) (hm : p.length = m) (hm2 : m ≤ 60) (h : Nat) (h8 : h ≤ 8) (b : Int) (hb : -1099511627776 ≤ b ∧ b ≤ 1099511627776) (hus : ∀ u ∈ usesL l p, 0 ≤ u ∧ u < l.length) (hF : ∀ x ∈ l, ∀ k, k < 8 → -1125899906842624 ≤ x.Fr k ∧ x.Fr k ≤ 1125899906842624) :
    CFun Tryz.prog 37 [.sl 13 (l.map encL) .sh, .sl 1 (p.map encI) .sh, .int .i64 h, .int .i64 b] [] (.sl 13 ((chA (-b) h (usesL l p) l).map encL) .sh) [] := by
  refine CFun.intro (tr := [100015]) (fz := [(8, 0, true)]) (n := 51) (rs := [.tmp 8]) Tryz.func37 rfl (by kernel_rfl) rfl rfl mixed (by kernel_rfl) (by simp) (by simp) ?_
  by_cases hne : l = []
  · have : m ≤ 1 := by
      rcases Nat.lt_or_ge 1 m with g | g
      · have hul := usesL_len l p
        have : (usesL l p) ≠ [] := by
          intro e
          rw [e] at hul
          simp at hul
          omega
        obtain ⟨u, us, hu⟩ := List.exists_cons_of_ne_nil this
        have := hus u (by rw [hu]; simp)
        rw [hne] at this
        simp at this
        omega
      · exact g
    have he : (chA (-b) h (usesL l p) l) = [] := by rw [hne]; rfl
    rw [he]
    subst hne
    have g1 : ¬ (1 : Int) < m := by omega
    simp
    refine LoopK.intro (tr := [100015]) mixed (by kernel_rfl) (fun _ : Nat => [(1, .sl 1 (p.map encI) .sh), (9, .sl 13 [] .sh), (10, .int .i64 1)]) (fun _ => []) (fun _ => True) (fun i => i) 0 trivial (by simp) ?_
    intro _ _
    simp [hm, g1]
  have s1 : l.length * 104 ≤ 140737488355328 := by omega
  have s2 : l.length ≤ 140737488355328 := by omega
  have s3 : 0 < l.length := List.length_pos_iff.2 hne
  have s4 : (l.map encL).isEmpty = false := by cases l <;> simp_all
  have s5 : (l.map encL).flatMap AVal.cells = rowC cellsL l := rowC_map (ce := cellsL) l
  have s6 : (rowC cellsL l).map AVal.dis = rowC cellsL l := encL_enc.rowDis l
  have hle := fun k (l : List Lnk) => encL_enc.rowLe k l
  have hrl := encL_enc.rowLen
  obtain ⟨us, hU⟩ : ∃ us, us = usesL l p := ⟨_, rfl⟩
  rw [← hU] at hus ⊢
  have hul : us.length = m - 1 := by rw [hU, usesL_len, hm]
  simp [hne, s1, s2, s3, s4]
  rw [s5, s6]
  refine LoopK.intro (tr := [100015]) mixed (by kernel_rfl) (fun s : Nat × List Lnk => [(1, .sl 1 (p.map encI) .sh), (2, .int .i64 h), (3, .int .i64 b), (9, .osl 0 0 n none 13), (10, .int .i64 (s.1 + 1))]) (fun s => [rowC cellsL s.2])
    (fun s => s.1 ≤ m ∧ s.2.length = n ∧ (∀ x ∈ s.2, ∀ k, k < 8 → -1125899906842624 - 1099511627776 * s.1 ≤ x.Fr k ∧ x.Fr k ≤ 1125899906842624 + 1099511627776 * s.1) ∧ (∀ a c, findI s.2 a c = findI l a c) ∧ chA (-b) h us l = chA (-b) h (us.drop s.1) s.2) (fun s => m - s.1) (0, l) ?_ ?_ ?_
  · exact ⟨Nat.zero_le _, hn, fun x hx k hk => by have := hF x hx k hk; omega, fun _ _ => rfl, rfl⟩
  · simp [hle, hn]
  clear hF
  rintro ⟨q, cur⟩ ⟨q1, q2, q3, q5, q4⟩
  simp only at q1 q2 q3 q4 q5
  by_cases hq : q + 1 < m
  case neg =>
    have hq' : ¬ (q : Int) + 1 < m := by omega
    rw [List.drop_eq_nil_of_le (by omega)] at q4
    have hcz : chA (-b) h [] cur = cur := by
      apply List.ext_getElem?
      intro j
      rw [chA_get]
      cases cur[j]? <;> simp [cntI, chR_zero]
    rw [hcz] at q4
    rw [q4]
    have k4 := encL_enc.chunk cur n q2
    have k3 : ∀ x ∈ rowC cellsL cur, x.tree = true := by simpa using encL_enc.rowTree cur
    have hn0 : 0 < n := by omega
    have hrc := hrl cur
    rw [q2] at hrc
    have k2 : (rowC cellsL cur).take (n * 13) = rowC cellsL cur := List.take_of_length_le (by omega)
    simp [hq, hq', hm, hrc, k2, k4, hn0]
    rw [if_pos k3]
    simp
  obtain ⟨x0, hx0⟩ : ∃ x, p[q]? = some x := ⟨_, List.getElem?_eq_getElem (by omega)⟩
  obtain ⟨y0, hy0⟩ : ∃ y, p[q + 1]? = some y := ⟨_, List.getElem?_eq_getElem (by omega)⟩
  obtain ⟨u, hu⟩ : ∃ u, us[q]? = some u := ⟨_, List.getElem?_eq_getElem (by omega)⟩
  have hdd : us.drop q = u :: us.drop (q + 1) := by
    obtain ⟨k1, k2⟩ := List.getElem?_eq_some_iff.1 hu
    rw [List.drop_eq_getElem_cons k1, k2]
  have hu2 : u = findI l x0 y0 := by
    have e : ∀ (p : List Int) (q : Nat), (usesL l p).drop q = usesL l (p.drop q) := by
      intro p
      induction p with
      | nil => intro q; simp [usesL]
      | cons a p ih =>
        intro q
        cases p with
        | nil =>
          cases q with
          | zero => rfl
          | succ q => simp [usesL]
        | cons c p =>
          cases q with
          | zero => rfl
          | succ q => simp only [usesL, List.drop_succ_cons]; exact ih q
    have h1 := e p q
    rw [← hU, hdd, usesL_drop hx0 hy0] at h1
    injection h1
  obtain ⟨u0, u1⟩ := hus u (List.mem_of_getElem? hu)
  obtain ⟨i, hi0⟩ : ∃ i : Nat, u = i := ⟨u.toNat, by omega⟩
  have hi : i < n := by omega
  obtain ⟨x, hx⟩ : ∃ x, cur[i]? = some x := ⟨_, List.getElem?_eq_getElem (by omega)⟩
  have hlend := lend66 (H := [rowC cellsL cur]) (id := 0) rfl q2 (by omega) (by omega) x0 y0
  rw [q5, ← hu2, hi0] at hlend
  rw [hi0] at hdd
  rw [hdd, ← chA_cons hx] at q4
  have w1 : IntKind.i64.wrap ((q : Int) + 1 + 1) = (q : Int) + 1 + 1 := wrap_in (by omega)
  have w4 : IntKind.i64.wrap (q : Int) = q := wrap_in (by omega)
  have hq' : (q : Int) + 1 < m := by omega
  have hq2 : q < m := by omega
  have hqn : ((q : Int) + 1).toNat = q + 1 := by omega
  simp [hq, hq', hq2, hm, hx0, gE hx0, hy0, gE hy0, w4, hqn]
  refine ⟨_, _, .inl (by simpa [cargs] using hlend), by simp [cargs], ?_⟩
  simp
  have hxb := q3 x (List.mem_of_getElem? hx)
  refine LoopK.intro (tr := [100015]) mixed (by kernel_rfl) (fun s : Nat × Lnk => [(1, .sl 1 (p.map encI) .sh), (2, .int .i64 h), (3, .int .i64 b), (9, .osl 0 0 n none 13), (10, .int .i64 (q + 1)), (11, .int .i64 i), (12, .int .i64 s.1)]) (fun s => [rowC cellsL (cur.set i s.2)])
    (fun s => h ≤ s.1 ∧ s.1 ≤ 8 ∧ (∀ k, k < 8 → -1125899906842624 - 1099511627776 * ((q + 1 : Nat) : Int) ≤ s.2.Fr k ∧ s.2.Fr k ≤ 1125899906842624 + 1099511627776 * ((q + 1 : Nat) : Int)) ∧ (∀ k, s.1 ≤ k → s.2.Fr k = x.Fr k) ∧ (s.2.From = x.From ∧ s.2.To = x.To) ∧ chR h (-b) x = chR s.1 (-b) s.2) (fun s => 8 - s.1) (h, x) ?_ ?_ ?_
  · exact ⟨Nat.le_refl _, h8, fun k hk => by have := hxb k hk; show _ ≤ x.Fr k ∧ x.Fr k ≤ _; constructor <;> omega, fun _ _ => rfl, ⟨rfl, rfl⟩, rfl⟩
  · have hsame : cur.set i x = cur := by
      apply List.ext_getElem?
      intro j'
      rw [List.getElem?_set]
      split
      · rename_i e; subst e; rw [if_pos (by omega), hx]
      · rfl
    simp [hsame, hle]
  rintro ⟨k, z⟩ ⟨k1, k2, k3, k5, k6, k4⟩
  simp only at k1 k2 k3 k4 k5 k6
  have hsl : (cur.set i z).length = n := by rw [List.length_set]; exact q2
  by_cases hk : k < 8
  case neg =>
    have : k = 8 := by omega
    subst this
    rw [chR_eight] at k4
    rw [k4] at q4
    simp [w1]
    refine ⟨q + 1, cur.set i z, ⟨by omega, hsl, fun v hv => ?_, fun a c => ?_, q4⟩, by omega, by simp [hle]⟩
    · rcases List.mem_or_eq_of_mem_set hv with hv | rfl
      · intro k hk
        have := q3 v hv k hk
        omega
      · exact k3
    · rw [findI_set hx k6.1 k6.2, q5]
  have hk' : (k : Int) < 8 := by omega
  have hk7 : k ≤ 7 := by omega
  have hz : (cur.set i z)[i]? = some z := by rw [List.getElem?_set_self (by omega)]
  have hg := rowL_get hz hk
  have hset := rowL_set hz hk (z.Fr k - b)
  rw [List.set_set] at hset
  have hrc := hrl (cur.set i z)
  rw [hsl] at hrc
  have hzx := k5 k (Nat.le_refl _)
  have hxk := hxb k hk
  have w2 : IntKind.i64.wrap ((k : Int) + 1) = k + 1 := wrap_in (by omega)
  have b1 : i * 13 + 4 + k < n * 13 := by omega
  have b2 : i * 13 + 4 + k + 1 ≤ n * 13 := by omega
  have w3 : IntKind.i64.wrap (z.Fr k - b) = z.Fr k - b := wrap_in (by omega)
  have hst := chR_step hk (-b) z
  rw [← Int.sub_eq_add_neg] at hst
  have hv : -1125899906842624 - 1099511627776 * ((q + 1 : Nat) : Int) ≤ z.Fr k - b ∧ z.Fr k - b ≤ 1125899906842624 + 1099511627776 * ((q + 1 : Nat) : Int) := by
    rw [hzx]
    constructor <;> omega
  simp [hk, hk', hk7, hi, hg, gE hg, hrc, b1, b2, w3]
  simp [hset, w2]
  refine ⟨k + 1, setF z k (z.Fr k - b), ⟨by omega, by omega, fun j hj => ?_, fun j hj => ?_, ⟨k6.1, k6.2⟩, by rw [hst]; exact k4⟩, by omega, by simp [hle]⟩
  · show _ ≤ updF z.Fr k (z.Fr k - b) j ∧ updF z.Fr k (z.Fr k - b) j ≤ _
    unfold updF
    split
    · exact hv
    · exact k3 j hj
  · show updF z.Fr k (z.Fr k - b) j = x.Fr j
    unfold updF
    rw [if_neg (by omega)]
    exact k5 j (by omega)
end Go.Proofs.YtpmmnnaaoideeaaGreat

/- The reference's Reserve and Release, by the program. -/
namespace Go.Proofs.YtpmmnnaaoideeaaGreat
open Go Go.Am Go.Wk

theorem opA_good {bad : Int → Int → Bool} {v : Int} {h : Nat} (h8 : h ≤ 8) : ∀ (us : List Int) (l : List Lnk), (∀ u ∈ us, 0 ≤ u ∧ u < l.length) → ∀ m, opA bad v h us l = some m →
    ∀ (i : Nat) (x : Lnk) (c : Nat), l[i]? = some x → c < cntI i us → ∀ k, h ≤ k → k < 8 → bad (x.Fr k + v * c) x.Cap = false := by
  intro us
  induction us with
  | nil => intro l _ m _ i x c _ hc; simp [cntI] at hc
  | cons u us ih =>
    intro l hu m hm j y c hy hc k k1 k2
    obtain ⟨u1, u2⟩ := hu u (by simp)
    obtain ⟨i, rfl⟩ : ∃ i : Nat, u = i := ⟨u.toNat, by omega⟩
    obtain ⟨x, hx⟩ : ∃ x, l[i]? = some x := ⟨_, List.getElem?_eq_getElem (by omega)⟩
    have hxd : l.getD i lnk0 = x := by rw [List.getD_eq_getElem?_getD, hx]; rfl
    simp only [opA, Int.toNat_natCast, hxd] at hm
    by_cases hb : ∃ k, 8 - (8 - h) ≤ k ∧ k < 8 ∧ bad (x.Fr k) x.Cap = true
    · rw [opK_none _ _ (by omega) hb] at hm
      cases hm
    · have hg : ∀ k, 8 - (8 - h) ≤ k → k < 8 → bad (x.Fr k) x.Cap = false := fun k k1 k2 => by
        cases hc : bad (x.Fr k) x.Cap with
        | false => rfl
        | true => exact absurd ⟨k, k1, k2, hc⟩ hb
      rw [opK_some _ _ (by omega) hg, show 8 - (8 - h) = h by omega] at hm
      simp only at hm
      have hl := ih (l.set i (chR h v x)) (fun w hw => by rw [List.length_set]; exact hu w (by simp [hw])) m hm
      rw [cntI_cons] at hc
      by_cases e : i = j
      · subst e
        rw [hx] at hy
        injection hy with hy
        subst hy
        rw [if_pos rfl] at hc
        cases c with
        | zero => simpa using hg k (by omega) k2
        | succ c =>
          have := hl i (chR h v x) c (by rw [List.getElem?_set_self (by omega)]) (by omega) k k1 k2
          have e2 : (chR h v x).Fr k = x.Fr k + v := by simp only [chR]; rw [if_pos ⟨k1, k2⟩]
          rw [e2] at this
          rw [← this]
          show bad _ x.Cap = bad _ x.Cap
          congr 1
          rw [Int.natCast_add, Int.mul_add]
          simp
          omega
      · rw [if_neg (by omega)] at hc
        exact hl j y c (by rw [List.getElem?_set_ne e]; exact hy) (by omega) k k1 k2
theorem chR_fr {h : Nat} {v : Int} {x : Lnk} {k : Nat} (k1 : h ≤ k) (k2 : k < 8) : (chR h v x).Fr k = x.Fr k + v := by
  simp only [chR]; rw [if_pos ⟨k1, k2⟩]
theorem mul_last (b : Int) {c n : Nat} (hc : c < n) (hb : 0 ≤ b) : b * (c : Int) + b ≤ b * (n : Int) := by
  have : b * ((c + 1 : Nat) : Int) ≤ b * (n : Int) := Int.mul_le_mul_of_nonneg_left (by omega) hb
  rw [Int.natCast_add, Int.mul_add] at this
  simpa using this
/-- What is taken is there. -/
theorem take_yes {b : Int} (hb : 0 ≤ b) {h : Nat} (h8 : h ≤ 8) {us : List Int} {l : List Lnk} (hus : ∀ u ∈ us, 0 ≤ u ∧ u < l.length) (hg : ∀ (i : Nat) (x : Lnk), (chA (-b) h us l)[i]? = some x → 0 < cntI i us → ∀ k, h ≤ k → k < 8 → 0 ≤ x.Fr k) : takeA b h us l = some (chA (-b) h us l) := by
  rw [takeA_op]
  refine opA_ok h8 us l hus fun i x c hx hc k k1 k2 => decide_eq_false ?_
  have := hg i _ (by rw [chA_get, hx]; rfl) (by omega) k k1 k2
  rw [chR_fr k1 k2] at this
  have h3 := mul_last b hc hb
  rw [Int.neg_mul] at this ⊢
  omega
theorem take_no {b : Int} {h : Nat} (h8 : h ≤ 8) {us : List Int} {l : List Lnk} (hus : ∀ u ∈ us, 0 ≤ u ∧ u < l.length) {i : Nat} {x : Lnk} (hx : (chA (-b) h us l)[i]? = some x) (hc : 0 < cntI i us) {k : Nat} (k1 : h ≤ k) (k2 : k < 8) (hn : x.Fr k < 0) : takeA b h us l = none := by
  cases hA : takeA b h us l with
  | none => rfl
  | some m =>
    rw [takeA_op] at hA
    rw [chA_get, Option.map_eq_some_iff] at hx
    obtain ⟨y, hy, rfl⟩ := hx
    rw [chR_fr k1 k2] at hn
    have := opA_good h8 us l hus m hA i y (cntI i us - 1) hy (by omega) k k1 k2
    have := of_decide_eq_false this
    have e : (cntI i us : Int) = ((cntI i us - 1 : Nat) : Int) + 1 := by omega
    rw [e, Int.mul_add] at hn
    rw [Int.neg_mul] at *
    omega
theorem add_yes {b : Int} (hb : 0 ≤ b) {h : Nat} (h8 : h ≤ 8) {us : List Int} {l : List Lnk} (hus : ∀ u ∈ us, 0 ≤ u ∧ u < l.length) (hg : ∀ (i : Nat) (x : Lnk), (chA b h us l)[i]? = some x → 0 < cntI i us → ∀ k, h ≤ k → k < 8 → x.Fr k ≤ x.Cap) : addA b h us l = some (chA b h us l) := by
  rw [addA_op]
  refine opA_ok h8 us l hus fun i x c hx hc k k1 k2 => ?_
  rw [exceedsB_eq hb]
  refine decide_eq_false ?_
  have := hg i _ (by rw [chA_get, hx]; rfl) (by omega) k k1 k2
  rw [chR_fr k1 k2] at this
  have h3 := mul_last b hc hb
  change _ ≤ x.Cap at this
  omega
theorem add_no {b : Int} (hb : 0 ≤ b) {h : Nat} (h8 : h ≤ 8) {us : List Int} {l : List Lnk} (hus : ∀ u ∈ us, 0 ≤ u ∧ u < l.length) {i : Nat} {x : Lnk} (hx : (chA b h us l)[i]? = some x) (hc : 0 < cntI i us) {k : Nat} (k1 : h ≤ k) (k2 : k < 8) (hn : x.Cap < x.Fr k) : addA b h us l = none := by
  cases hA : addA b h us l with
  | none => rfl
  | some m =>
    rw [addA_op] at hA
    rw [chA_get, Option.map_eq_some_iff] at hx
    obtain ⟨y, hy, rfl⟩ := hx
    rw [chR_fr k1 k2] at hn
    have := opA_good h8 us l hus m hA i y (cntI i us - 1) hy (by omega) k k1 k2
    rw [exceedsB_eq hb] at this
    have := of_decide_eq_false this
    have e : (cntI i us : Int) = ((cntI i us - 1 : Nat) : Int) + 1 := by omega
    rw [e, Int.mul_add] at hn
    change y.Cap < _ at hn
    omega
theorem amtB_false {h b : Int} (g : h < 0 ∨ 7 < h ∨ b < 0 ∨ 1099511627776 < b) : amtB h b = false := by
  unfold amtB
  rw [Bool.eq_false_iff]
  intro e
  simp only [Bool.and_eq_true, decide_eq_true_eq] at e
  omega
theorem amtB_true {h b : Int} (g : ¬ (h < 0 ∨ 7 < h ∨ b < 0 ∨ 1099511627776 < b)) : amtB h b = true := by
  unfold amtB
  simp only [Bool.and_eq_true, decide_eq_true_eq]
  omega
set_option maxHeartbeats 16000000 in
set_option maxRecDepth 10000 in
theorem t14 (l : List Lnk) (n : Nat) (hn : l.length = n) (hn2 : n < 1000000) (hB : ∀ x ∈ l, ∀ k, k < 8 → -1125899906842624 ≤ x.Fr k ∧ x.Fr k ≤ 1125899906842624) (t : Tun) (m : Nat) (hm : t.P.length = m) (hm2 : m ≤ 60) (hI : inI t.W.Hold ∧ inI t.W.Band) :
    CFun Tryz.prog 51 [.sl 13 (l.map encL) .sh, encT t] [] (.tup [.sl 13 ((resN l t).1.map encL) .sh, .int .i64 (resN l t).2]) [] := by
  refine CFun.intro (tr := []) (fz := []) (n := 69) (rs := [.tmp 4, .tmp 5]) Tryz.func51 rfl (by kernel_rfl) rfl rfl mixed (by kernel_rfl) (by simp) (by simp) ?_
  have h36 := fun H => (t36 t.W.Hold t.W.Band).up' H rfl rfl
  have h31 := fun H => (t31 l n hn (by omega) t.P m hm (by omega)).up' H rfl rfl
  unfold resN pathE
  by_cases g1 : t.W.Hold < 0 ∨ 7 < t.W.Hold ∨ t.W.Band < 0 ∨ 1099511627776 < t.W.Band
  · rw [amtB_false g1] at h36
    rw [if_pos g1]
    simp
    refine ⟨_, _, .inl (by simpa using h36 _), by simp, ?_⟩
    simp
  rw [amtB_true g1] at h36
  rw [if_neg g1]
  by_cases g2 : hasB (usesL l t.P) (-1) = true
  · rw [g2] at h31
    rw [if_pos g2]
    simp
    refine ⟨_, _, .inl (by simpa using h36 _), by simp, ?_⟩
    simp
    refine ⟨_, _, .inl (by simpa using h31 _), by simp, ?_⟩
    simp
  have g2' : hasB (usesL l t.P) (-1) = false := by simpa using g2
  have hp : pathE l t = 0 := by unfold pathE; rw [if_neg g1, if_neg g2]
  obtain ⟨⟨a1, a2⟩, ⟨a3, a4⟩, hus⟩ := pathE_ok hp
  rw [g2'] at h31
  rw [if_neg g2]
  obtain ⟨h, hh⟩ : ∃ h : Nat, t.W.Hold = h := ⟨t.W.Hold.toNat, by omega⟩
  have hh7 : h ≤ 7 := by omega
  have h37 := fun H => (t37 l n hn (by omega) t.P m hm hm2 h (by omega) (t.W.Band) (by omega) hus hB).up' H rfl rfl
  have h38 := fun H => (t38 l n hn (by omega) t.P m hm (by omega) t.W.Band hus).up' H rfl rfl
  have h39 := fun j H => (t39 l n hn (by omega) t.P m hm (by omega) j).up' H rfl rfl
  rw [hh] at h36 ⊢
  simp only [Int.toNat_natCast]
  have hyes := fun hg => take_yes (b := t.W.Band) a3 (h := h) (by omega) hus hg
  have hno := fun i x hx hc k k1 k2 hn => take_no (b := t.W.Band) (h := h) (by omega) hus (i := i) (x := x) hx hc (k := k) k1 k2 hn
  have hlen := chA_len (-t.W.Band) h (usesL l t.P) l
  by_cases g3 : roomB l t.W.Band (usesL l t.P) = true
  case neg =>
    have g3' : roomB l t.W.Band (usesL l t.P) = false := by simpa using g3
    rw [g3'] at h38
    simp [hh]
    refine ⟨_, _, .inl (by simpa [hh] using h36 _), by simp, ?_⟩
    simp [hh]
    refine ⟨_, _, .inl (by simpa [hh] using h31 _), by simp, ?_⟩
    simp [hh]
    refine ⟨_, _, .inl (by simpa [hh] using h37 _), by simp, ?_⟩
    simp [hh]
    refine ⟨_, _, .inl (by simpa [hh] using h38 _), by simp, ?_⟩
    simp [g3']
  rw [g3] at h38
  generalize chA (-t.W.Band) h (usesL l t.P) l = out at *
  generalize usesL l t.P = us at *
  generalize takeA t.W.Band h us l = R at *
  simp [hh]
  refine ⟨_, _, .inl (by simpa [hh] using h36 _), by simp, ?_⟩
  simp [hh]
  refine ⟨_, _, .inl (by simpa [hh] using h31 _), by simp, ?_⟩
  simp [hh]
  refine ⟨_, _, .inl (by simpa [hh] using h37 _), by simp, ?_⟩
  simp [hh]
  refine ⟨_, _, .inl (by simpa [hh] using h38 _), by simp, ?_⟩
  rw [hn] at hlen
  simp [hh, hlen]
  clear h31 h36 h37 h38
  refine LoopK.intro (tr := []) mixed (by kernel_rfl) (fun i : Nat => [(0, .sl 13 (l.map encL) .sh), (3, .ptr 0 0), (6, .sl 13 (out.map encL) .sh), (40, .sl 13 (out.map encL) .sh), (41, .int .i64 n), (42, .int .i64 i)]) (fun _ => [cellsTh t h])
    (fun i => i ≤ n ∧ ∀ (j : Nat) (x : Lnk), j < i → out[j]? = some x → 0 < cntI j us → ∀ k, h ≤ k → k < 8 → 0 ≤ x.Fr k) (fun i => n - i) 0 ?_ ?_ ?_
  · exact ⟨by omega, fun j x hj => by omega⟩
  · simp
  rintro i ⟨h1, h2⟩
  by_cases hi : i < n
  case neg =>
    have : i = n := by omega
    subst this
    have hR := hyes fun j x hx => h2 j x (by rw [← hlen]; exact (List.getElem?_eq_some_iff.1 hx).1) hx
    subst hR
    simp [g3]
  obtain ⟨x, hx⟩ : ∃ x, out[i]? = some x := ⟨_, List.getElem?_eq_getElem (by omega)⟩
  have w1 : IntKind.i64.wrap ((i : Int) + 1) = i + 1 := wrap_in (by omega)
  have hc := h39 i
  have hnx := hno i x hx
  have hnext := fun (hg : 0 < cntI i us → ∀ k, h ≤ k → k < 8 → 0 ≤ x.Fr k) => (fun (j : Nat) (y : Lnk) (hj : j < i + 1) (hy : out[j]? = some y) (hcj : 0 < cntI j us) => (by
    by_cases e : j = i
    · subst e
      rw [hx] at hy
      injection hy with hy
      subst hy
      exact hg hcj
    · exact h2 j y (by omega) hy hcj : ∀ k, h ≤ k → k < 8 → 0 ≤ y.Fr k))
  simp [hi, hlen, hx, gE hx]
  refine LoopK.intro (tr := []) mixed (by kernel_rfl) (fun k : Nat => [(0, .sl 13 (l.map encL) .sh), (3, .ptr 0 0), (6, .sl 13 (out.map encL) .sh), (7, .int .i64 i), (8, .ptr 1 0), (9, .int .i64 k), (40, .sl 13 (out.map encL) .sh), (41, .int .i64 n), (42, .int .i64 i)]) (fun _ => [cellsTh t h, cellsL x])
    (fun k => h ≤ k ∧ k ≤ 8 ∧ (0 < cntI i us → ∀ j, h ≤ j → j < k → 0 ≤ x.Fr j)) (fun k => 8 - k) h ?_ ?_ ?_
  · exact ⟨Nat.le_refl _, by omega, fun _ j j1 j2 => by omega⟩
  · simp
  rintro k ⟨k1, k2, k3⟩
  by_cases hk : k < 8
  case neg =>
    have : k = 8 := by omega
    subst this
    simp [w1]
    exact ⟨i + 1, ⟨by omega, hnext k3⟩, by omega, by simp⟩
  have hg := cellsL_fr x hk
  have hk' : (k : Int) < 8 := by omega
  have hk7 : k ≤ 7 := by omega
  have w2 : IntKind.i64.wrap ((k : Int) + 1) = k + 1 := wrap_in (by omega)
  have b1 : 4 + k < 13 := by omega
  generalize cntI i us = ct at *
  simp [hk, hk', hk7, cargs]
  refine ⟨_, _, .inl (by simpa [cargs] using hc _), by simp [cargs], ?_⟩
  by_cases g1 : 0 < ct
  · have g1' : (0 : Int) < ct := by omega
    by_cases g2 : x.Fr k < 0
    · have hR := hnx g1 k k1 hk g2
      subst hR
      simp [hk, hk', hk7, g1, g1', hg, gE hg, b1, g2]
    · simp [hk, hk', hk7, g1, g1', hg, gE hg, b1, g2, w2]
      refine ⟨k + 1, ⟨by omega, by omega, fun j j1 j2 => ?_⟩, by omega, by simp⟩
      by_cases e : j = k
      · subst e; omega
      · exact k3 g1 j j1 (by omega)
  · have g1' : ¬ (0 : Int) < ct := by omega
    simp [hk, hk', hk7, g1, g1', w2]
    exact ⟨k + 1, ⟨by omega, by omega⟩, by omega, by simp⟩
set_option maxHeartbeats 16000000 in
set_option maxRecDepth 10000 in
theorem t16 (l : List Lnk) (n : Nat) (hn : l.length = n) (hn2 : n < 1000000) (hB : ∀ x ∈ l, ∀ k, k < 8 → -1125899906842624 ≤ x.Fr k ∧ x.Fr k ≤ 1125899906842624) (t : Tun) (m : Nat) (hm : t.P.length = m) (hm2 : m ≤ 60) (hI : inI t.W.Hold ∧ inI t.W.Band) :
    CFun Tryz.prog 11 [.sl 13 (l.map encL) .sh, encT t] [] (.tup [.sl 13 ((relN l t).1.map encL) .sh, .int .i64 (relN l t).2]) [] := by
  refine CFun.intro (tr := []) (fz := []) (n := 65) (rs := [.tmp 4, .tmp 5]) Tryz.func11 rfl (by kernel_rfl) rfl rfl mixed (by kernel_rfl) (by simp) (by simp) ?_
  have h36 := fun H => (t36 t.W.Hold t.W.Band).up' H rfl rfl
  have h31 := fun H => (t31 l n hn (by omega) t.P m hm (by omega)).up' H rfl rfl
  unfold relN pathE
  by_cases g1 : t.W.Hold < 0 ∨ 7 < t.W.Hold ∨ t.W.Band < 0 ∨ 1099511627776 < t.W.Band
  · rw [amtB_false g1] at h36
    rw [if_pos g1]
    simp
    refine ⟨_, _, .inl (by simpa using h36 _), by simp, ?_⟩
    simp
  rw [amtB_true g1] at h36
  rw [if_neg g1]
  by_cases g2 : hasB (usesL l t.P) (-1) = true
  · rw [g2] at h31
    rw [if_pos g2]
    simp
    refine ⟨_, _, .inl (by simpa using h36 _), by simp, ?_⟩
    simp
    refine ⟨_, _, .inl (by simpa using h31 _), by simp, ?_⟩
    simp
  have g2' : hasB (usesL l t.P) (-1) = false := by simpa using g2
  have hp : pathE l t = 0 := by unfold pathE; rw [if_neg g1, if_neg g2]
  obtain ⟨⟨a1, a2⟩, ⟨a3, a4⟩, hus⟩ := pathE_ok hp
  rw [g2'] at h31
  rw [if_neg g2]
  obtain ⟨h, hh⟩ : ∃ h : Nat, t.W.Hold = h := ⟨t.W.Hold.toNat, by omega⟩
  have hh7 : h ≤ 7 := by omega
  have h37 := fun H => (t37 l n hn (by omega) t.P m hm hm2 h (by omega) (-t.W.Band) (by omega) hus hB).up' H rfl rfl
  have h39 := fun j H => (t39 l n hn (by omega) t.P m hm (by omega) j).up' H rfl rfl
  rw [hh] at h36 ⊢
  simp only [Int.toNat_natCast]
  rw [Int.neg_neg] at h37
  have wn : IntKind.i64.wrap (-t.W.Band) = -t.W.Band := wrap_in (by omega)
  have hyes := fun hg => add_yes (b := t.W.Band) a3 (h := h) (by omega) hus hg
  have hno := fun i x hx hc k k1 k2 hn => add_no (b := t.W.Band) a3 (h := h) (by omega) hus (i := i) (x := x) hx hc (k := k) k1 k2 hn
  have hlen := chA_len (t.W.Band) h (usesL l t.P) l
  generalize chA (t.W.Band) h (usesL l t.P) l = out at *
  generalize usesL l t.P = us at *
  generalize addA t.W.Band h us l = R at *
  simp [hh]
  refine ⟨_, _, .inl (by simpa [hh] using h36 _), by simp, ?_⟩
  simp [hh]
  refine ⟨_, _, .inl (by simpa [hh] using h31 _), by simp, ?_⟩
  simp [hh, wn]
  refine ⟨_, _, .inl (by simpa [hh] using h37 _), by simp, ?_⟩
  rw [hn] at hlen
  simp [hh, hlen]
  clear h31 h36 h37
  refine LoopK.intro (tr := []) mixed (by kernel_rfl) (fun i : Nat => [(0, .sl 13 (l.map encL) .sh), (3, .ptr 0 0), (6, .sl 13 (out.map encL) .sh), (34, .sl 13 (out.map encL) .sh), (35, .int .i64 n), (36, .int .i64 i)]) (fun _ => [cellsTh t h])
    (fun i => i ≤ n ∧ ∀ (j : Nat) (x : Lnk), j < i → out[j]? = some x → 0 < cntI j us → ∀ k, h ≤ k → k < 8 → x.Fr k ≤ x.Cap) (fun i => n - i) 0 ?_ ?_ ?_
  · exact ⟨by omega, fun j x hj => by omega⟩
  · simp
  rintro i ⟨h1, h2⟩
  by_cases hi : i < n
  case neg =>
    have : i = n := by omega
    subst this
    have hR := hyes fun j x hx => h2 j x (by rw [← hlen]; exact (List.getElem?_eq_some_iff.1 hx).1) hx
    subst hR
    simp
  obtain ⟨x, hx⟩ : ∃ x, out[i]? = some x := ⟨_, List.getElem?_eq_getElem (by omega)⟩
  have w1 : IntKind.i64.wrap ((i : Int) + 1) = i + 1 := wrap_in (by omega)
  have hc := h39 i
  have hnx := hno i x hx
  have hnext := fun (hg : 0 < cntI i us → ∀ k, h ≤ k → k < 8 → x.Fr k ≤ x.Cap) => (fun (j : Nat) (y : Lnk) (hj : j < i + 1) (hy : out[j]? = some y) (hcj : 0 < cntI j us) => (by
    by_cases e : j = i
    · subst e
      rw [hx] at hy
      injection hy with hy
      subst hy
      exact hg hcj
    · exact h2 j y (by omega) hy hcj : ∀ k, h ≤ k → k < 8 → y.Fr k ≤ y.Cap))
  simp [hi, hlen, hx, gE hx]
  refine LoopK.intro (tr := []) mixed (by kernel_rfl) (fun k : Nat => [(0, .sl 13 (l.map encL) .sh), (3, .ptr 0 0), (6, .sl 13 (out.map encL) .sh), (7, .int .i64 i), (8, .ptr 1 0), (9, .int .i64 k), (34, .sl 13 (out.map encL) .sh), (35, .int .i64 n), (36, .int .i64 i)]) (fun _ => [cellsTh t h, cellsL x])
    (fun k => h ≤ k ∧ k ≤ 8 ∧ (0 < cntI i us → ∀ j, h ≤ j → j < k → x.Fr j ≤ x.Cap)) (fun k => 8 - k) h ?_ ?_ ?_
  · exact ⟨Nat.le_refl _, by omega, fun _ j j1 j2 => by omega⟩
  · simp
  rintro k ⟨k1, k2, k3⟩
  by_cases hk : k < 8
  case neg =>
    have : k = 8 := by omega
    subst this
    simp [w1]
    exact ⟨i + 1, ⟨by omega, hnext k3⟩, by omega, by simp⟩
  have hg := cellsL_fr x hk
  have hk' : (k : Int) < 8 := by omega
  have hk7 : k ≤ 7 := by omega
  have w2 : IntKind.i64.wrap ((k : Int) + 1) = k + 1 := wrap_in (by omega)
  have b1 : 4 + k < 13 := by omega
  generalize cntI i us = ct at *
  simp [hk, hk', hk7, cargs]
  refine ⟨_, _, .inl (by simpa [cargs] using hc _), by simp [cargs], ?_⟩
  by_cases g1 : 0 < ct
  · have g1' : (0 : Int) < ct := by omega
    by_cases g2 : x.Cap < x.Fr k
    · have hR := hnx g1 k k1 hk g2
      subst hR
      simp [hk, hk', hk7, g1, g1', hg, gE hg, b1, g2]
    · simp [hk, hk', hk7, g1, g1', hg, gE hg, b1, g2, w2]
      refine ⟨k + 1, ⟨by omega, by omega, fun j j1 j2 => ?_⟩, by omega, by simp⟩
      by_cases e : j = k
      · subst e; omega
      · exact k3 g1 j j1 (by omega)
  · have g1' : ¬ (0 : Int) < ct := by omega
    simp [hk, hk', hk7, g1, g1', w2]
    exact ⟨k + 1, ⟨by omega, by omega⟩, by omega, by simp⟩
end Go.Proofs.YtpmmnnaaoideeaaGreat
