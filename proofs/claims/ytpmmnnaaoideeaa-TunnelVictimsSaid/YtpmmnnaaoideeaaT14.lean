/- The law of giving back, by the program. -/
import Derived.Test.YtpmmnnaaoideeaaT7
set_option linter.unusedSimpArgs false
set_option linter.unusedVariables false
namespace Go.Proofs.Ytpmmnnaaoideeaa
open Go Go.Am Go.Wk

set_option maxHeartbeats 16000000 in
set_option maxRecDepth 10000 in
theorem t6 (l : List Lnk) (n : Nat) (hn : l.length = n) (hn2 : n < 9223372036854775807) (hF : ∀ x ∈ l, okF x) (t : Tun) (m : Nat) (hm : t.P.length = m) (hm2 : m < 9223372036854775807) :
    CFun Try.prog 6 [.sl 13 (l.map encL) .sh, encT t] [] (.bool true) [] := by
  refine CFun.intro (tr := []) (fz := []) (n := 75) (rs := [.tmp 4]) Try.func6 rfl (by kernel_rfl) rfl rfl mixed (by kernel_rfl) (by simp) (by simp) ?_
  have h9 := fun H => t9.up' H rfl rfl
  by_cases b1 : 60 < n
  · have b1' : (60 : Int) < n := by omega
    simp [hn, b1, b1']
    refine ⟨_, _, .inl (by simpa using h9 _), by simp, ?_⟩
    simp
  have b1' : ¬ (60 : Int) < n := by omega
  by_cases b2 : 60 < m
  · have b2' : (60 : Int) < m := by omega
    simp [hn, hm, b1, b1', b2, b2']
    refine ⟨_, _, .inl (by simpa using h9 _), by simp, ?_⟩
    simp
  have b2' : ¬ (60 : Int) < m := by omega
  have h12 := fun H => (t12 l n hn (by omega)).up' H rfl rfl
  by_cases b3 : l.any bigL = true
  · rw [b3] at h12
    simp [hn, hm, b1, b1', b2, b2']
    refine ⟨_, _, .inl (by simpa using h12 _), by simp, ?_⟩
    simp
    refine ⟨_, _, .inl (by simpa using h9 _), by simp, ?_⟩
    simp
  have b3' : l.any bigL = false := by simpa using b3
  rw [b3'] at h12
  have h13 := fun H => (t13 l n hn (by omega) hF t m hm (by omega)).up' H (by simp [noid, noid0]) (by simp [noid, noid0])
  have h17 := fun H => (t17 l n hn hn2).up' H rfl rfl
  have hbl := back_law (l := l) (t := t)
  have hRl : (resN l t).2 = 0 → (resN l t).1.length = n ∧ ∀ x ∈ (resN l t).1, okF x := by
    intro h0
    unfold resN at h0 ⊢
    by_cases g1 : pathE l t = 0
    case neg => rw [if_pos g1] at h0; exact absurd h0 g1
    rw [if_neg (by simpa using g1)] at h0 ⊢
    by_cases g2 : roomB l t.W.Band (usesL l t.P) = false
    · rw [if_pos g2] at h0; simp at h0
    rw [if_neg g2] at h0 ⊢
    obtain ⟨⟨a1, a2⟩, ⟨a3, a4⟩, hus⟩ := pathE_ok g1
    cases hA : takeA t.W.Band t.W.Hold.toNat (usesL l t.P) l with
    | none => rw [hA] at h0; simp at h0
    | some o =>
      simp only
      rw [takeA_op] at hA
      have ho := opA_some (by omega) _ _ hus o hA
      rw [ho]
      refine ⟨by rw [chA_len, hn], fun x hx => ?_⟩
      obtain ⟨i, hi, he⟩ := List.getElem_of_mem hx
      have hg : (chA (-t.W.Band) t.W.Hold.toNat (usesL l t.P) l)[i]? = some x := by rw [List.getElem?_eq_getElem hi, he]
      rw [chA_get, Option.map_eq_some_iff] at hg
      obtain ⟨y, hy, rfl⟩ := hg
      have hyl := List.mem_of_getElem? hy
      have hcnt : cntI i (usesL l t.P) ≤ 60 := by
        unfold cntI
        have := List.countP_le_length (p := fun u => decide (u = (i : Int))) (l := usesL l t.P)
        rw [usesL_len] at this
        omega
      refine ⟨fun k hk => ?_, (hF y hyl).2⟩
      have hb := big_false b3' y hyl k hk
      simp only [chR]
      unfold inI
      split
      · have h1 : -(t.W.Band * (cntI i (usesL l t.P) : Int)) ≤ 0 := by
          have := Int.mul_nonneg a3 (Int.natCast_nonneg (cntI i (usesL l t.P)))
          omega
        have h2 : t.W.Band * (cntI i (usesL l t.P) : Int) ≤ 1099511627776 * 60 := Int.mul_le_mul a4 (by omega) (Int.natCast_nonneg _) (by omega)
        rw [Int.neg_mul]
        omega
      · omega
  have h15 := fun h0 : (resN l t).2 = 0 => fun H => (t15 (resN l t).1 n (hRl h0).1 (by omega) (hRl h0).2 t m hm (by omega)).up' H (by simp [noid, noid0]) (by simp [noid, noid0])
  simp [hn, hm, b1, b1', b2, b2']
  refine ⟨_, _, .inl (by simpa using h12 _), by simp, ?_⟩
  simp [hn]
  clear h12
  refine LoopK.intro (tr := []) mixed (by kernel_rfl) (fun i : Nat => [(0, .sl 13 (l.map encL) .sh), (3, .ptr 0 0), (27, .sl 13 (l.map encL) .sh), (28, .int .i64 n), (29, .int .i64 i)]) (fun _ => [cellsT t]) (fun i => i ≤ n ∧ ∀ j x, j < i → l[j]? = some x → ∀ k, k < 8 → x.Fr k ≤ x.Cap) (fun i => n - i) 0 ?_ ?_ ?_
  · exact ⟨by omega, fun j x hj => by omega⟩
  · simp
  · rintro i ⟨h1, h2⟩
    by_cases hi : i < n
    · obtain ⟨x, hx⟩ : ∃ x, l[i]? = some x := ⟨_, List.getElem?_eq_getElem (by omega)⟩
      have w1 : IntKind.i64.wrap ((i : Int) + 1) = i + 1 := wrap_in (by omega)
      simp [hi, hn, hx, gE hx]
      refine LoopK.intro (tr := []) mixed (by kernel_rfl) (fun k : Nat => [(0, .sl 13 (l.map encL) .sh), (3, .ptr 0 0), (6, .ptr 1 0), (27, .sl 13 (l.map encL) .sh), (28, .int .i64 n), (29, .int .i64 i), (34, .agg (frC x)), (35, .int .i64 k)]) (fun _ => [cellsT t, cellsL x]) (fun k => k ≤ 8 ∧ ∀ j, j < k → x.Fr j ≤ x.Cap) (fun k => 8 - k) 0 ?_ ?_ ?_
      · exact ⟨by omega, fun j hj => by omega⟩
      · simp
      · rintro k ⟨k1, k2⟩
        by_cases hk : k < 8
        · have hg := frC_get x hk
          have w2 : IntKind.i64.wrap ((k : Int) + 1) = k + 1 := wrap_in (by omega)
          have hk' : (k : Int) < 8 := by omega
          have hk7 : k ≤ 7 := by omega
          by_cases g : x.Cap < x.Fr k
          · simp [hk, hk', hk7, hg, gE hg, g]
            refine ⟨_, _, .inl (by simpa using h9 _), by simp, ?_⟩
            simp
          · simp [hk, hk', hk7, hg, gE hg, g, w2]
            refine ⟨k + 1, ⟨by omega, fun j hj => ?_⟩, by omega, by simp⟩
            by_cases e : j = k
            · subst e; omega
            · exact k2 j (by omega)
        · have : k = 8 := by omega
          subst this
          simp [w1]
          refine ⟨i + 1, ⟨by omega, fun j y hj hy => ?_⟩, by omega, by simp⟩
          by_cases e : j = i
          · subst e
            rw [hx] at hy
            injection hy with hy
            subst hy
            exact k2
          · exact h2 j y (by omega) hy
    · have : i = n := by omega
      subst this
      obtain ⟨l1, l2⟩ := hbl fun x hx k hk => by
        obtain ⟨j, hj, he⟩ := List.getElem_of_mem hx
        exact h2 j x (by omega) (by rw [List.getElem?_eq_getElem hj, he]) k hk
      clear hbl h2 hRl
      generalize resN l t = R at *
      obtain ⟨R, e⟩ := R
      simp only at l1 l2 h15 h13
      by_cases he : e = 0
      · subst he
        have h15 := h15 rfl
        rw [l2 rfl] at h15
        simp
        refine ⟨_, _, .inl (by simpa using h13 _), by simp, ?_⟩
        simp
        refine ⟨_, _, .inl (by simpa using h15 _), by simp, ?_⟩
        simp
        refine ⟨_, _, .inl (by simpa using h9 _), by simp, ?_⟩
        simp
        refine ⟨_, _, .inl (by simpa using h17 _), by simp, ?_⟩
        simp
      · have hR := l1 he
        subst hR
        simp
        refine ⟨_, _, .inl (by simpa using h13 _), by simp, ?_⟩
        simp [he]
        refine ⟨_, _, .inl (by simpa using h9 _), by simp, ?_⟩
        simp
end Go.Proofs.Ytpmmnnaaoideeaa

/- The reference's links of a path. -/
namespace Go.Proofs.Ytpmmnnaaoideeaa
open Go Go.Am Go.Wk

set_option maxHeartbeats 4000000 in
set_option maxRecDepth 10000 in
-- routingref47.find
theorem t66 (l : List Lnk) (n : Nat) (hn : l.length = n) (hn2 : n < 9223372036854775807) (a b : Int) : CFun Try.prog 66 [.sl 13 (l.map encL) .sh, .int .i64 a, .int .i64 b] [] (.int .i64 (findI l a b)) [] := by
  refine CFun.intro (tr := []) (fz := []) (n := 28) (rs := [.tmp 6]) Try.func66 rfl (by kernel_rfl) rfl rfl mixed (by kernel_rfl) (by simp) (by simp) ?_
  obtain ⟨T, hT⟩ : ∃ T, T = findI l a b := ⟨_, rfl⟩
  rw [← hT]
  simp
  refine LoopK.intro (tr := []) mixed (by kernel_rfl) (fun i : Nat => [(1, .int .i64 a), (2, .int .i64 b), (9, .sl 13 (l.map encL) .sh), (10, .int .i64 n), (11, .int .i64 i)]) (fun _ => []) (fun i => i ≤ n ∧ T = idxL (isL a b) (l.drop i) i) (fun i => n - i) 0 ?_ ?_ ?_
  · exact ⟨by omega, hT⟩
  · simp [hn]
  · rintro i ⟨h1, h2⟩
    by_cases hi : i < n
    · obtain ⟨x, hx, hd⟩ := get_drop (l := l) (i := i) (by omega)
      rw [hd] at h2
      simp only [idxL] at h2
      have w1 : IntKind.i64.wrap ((i : Int) + 1) = i + 1 := wrap_in (by omega)
      clear hd
      by_cases g1 : x.From = a
      · by_cases g2 : x.To = b
        · simp [isL, g1, g2] at h2
          simp [hi, hn, hx, gE hx, g1, g2, h2]
        · simp [isL, g1, g2] at h2
          simp [hi, hn, hx, gE hx, g1, g2, w1]
          exact ⟨i + 1, ⟨by omega, h2⟩, by omega, by simp⟩
      · simp [isL, g1] at h2
        simp [hi, hn, hx, gE hx, g1, w1]
        exact ⟨i + 1, ⟨by omega, h2⟩, by omega, by simp⟩
    · have : i = n := by omega
      subst this
      rw [List.drop_eq_nil_of_le (by omega)] at h2
      simp [idxL] at h2
      simp [hn, h2]
theorem lend66 {H : List (List AVal)} {id : Nat} {l : List Lnk} {n : Nat} (hid : H[id]? = some (rowC cellsL l)) (hn : l.length = n) (h0 : 0 < n) (hn2 : n < 9223372036854775807) (a b : Int) :
    CFun Try.prog 66 [.osl id 0 n none 13, .int .i64 a, .int .i64 b] H (.int .i64 (findI l a b)) H := by
  have h := t66 l n hn hn2 a b
  have hrl := encL_enc.rowLen l
  have hne : rowC cellsL l ≠ [] := by
    intro e
    rw [e] at hrl
    simp at hrl
    omega
  have hch := encL_enc.chunk l n hn
  have e : frzV id (rowC cellsL l) true false (.osl id 0 n none 13) = .sl 13 (l.map encL) .sh := by
    simp [frzV, frz1, hch, hrl, hn]
  have := CFun.lend (args := [.osl id 0 n none 13, .int .i64 a, .int .i64 b]) (id := id) (cs := rowC cellsL l) (cs0 := rowC cellsL l) (ag := true) (x := .int .i64 (findI l a b)) (f := 66) (P := Try.prog) (by simp only [List.map_cons, List.map_nil, e]; exact h) hid hne (fun _ _ h => h) (Nat.le_refl _) (encL_enc.rowTree l) (by simp only [List.map_cons, List.map_nil, e]; rfl) rfl
  exact this
set_option maxHeartbeats 4000000 in
set_option maxRecDepth 10000 in
-- routingref47.joined
theorem t31 (l : List Lnk) (k : Nat) (hk : l.length = k) (hk2 : k < 9223372036854775807) (p : List Int) (m : Nat) (hm : p.length = m) (hm2 : m < 1000000) : CFun Try.prog 31 [.sl 13 (l.map encL) .sh, .sl 1 (p.map encI) .sh] [] (.bool (!hasB (usesL l p) (-1))) [] := by
  refine CFun.intro (tr := []) (fz := []) (n := 24) (rs := [.tmp 4]) Try.func31 rfl (by kernel_rfl) rfl rfl mixed (by kernel_rfl) (by simp) (by simp) ?_
  have h := fun a b H => (t66 l k hk hk2 a b).up' H rfl rfl
  obtain ⟨T, hT⟩ : ∃ T, T = !hasB (usesL l p) (-1) := ⟨_, rfl⟩
  rw [← hT]
  simp
  refine LoopK.intro (tr := []) mixed (by kernel_rfl) (fun i : Nat => [(0, .sl 13 (l.map encL) .sh), (1, .sl 1 (p.map encI) .sh), (5, .int .i64 (i + 1))]) (fun _ => [])
    (fun i => i ≤ m ∧ T = !hasB (usesL l (p.drop i)) (-1)) (fun i => m - i) 0 ?_ ?_ ?_
  · simp [hT]
  · simp
  · rintro i ⟨h1, h2⟩
    by_cases hi : i + 1 < m
    · obtain ⟨x, hx⟩ : ∃ x, p[i]? = some x := ⟨_, List.getElem?_eq_getElem (by omega)⟩
      obtain ⟨y, hy⟩ : ∃ y, p[i + 1]? = some y := ⟨_, List.getElem?_eq_getElem (by omega)⟩
      rw [usesL_drop hx hy] at h2
      have hf := h x y
      have hr := findI_range l x y
      generalize findI l x y = f at *
      have w3 : IntKind.i64.wrap ((i : Int) + 1 + 1) = (i : Int) + 1 + 1 := wrap_in (by omega)
      have w4 : IntKind.i64.wrap (i : Int) = i := wrap_in (by omega)
      have hi' : (i : Int) + 1 < m := by omega
      have hi2 : i < m := by omega
      have hn : ((i : Int) + 1).toNat = i + 1 := by omega
      by_cases g : f < 0
      · have : f = -1 := by omega
        have : T = false := by rw [h2, this]; simp [hasB, isI]
        simp [hi, hi', hi2, hm, hx, gE hx, hy, gE hy, w4, hn]
        refine ⟨_, _, .inl (by simpa [cargs] using hf _), by simp [cargs], ?_⟩
        simp [g, this]
      · have : T = !hasB (usesL l (p.drop (i + 1))) (-1) := by
          have e : ¬ f = -1 := by omega
          rw [h2]; simp [hasB, isI, e]
        simp [hi, hi', hi2, hm, hx, gE hx, hy, gE hy, w4, hn]
        refine ⟨_, _, .inl (by simpa [cargs] using hf _), by simp [cargs], ?_⟩
        simp [g, w3]
        exact ⟨i + 1, ⟨by omega, this⟩, by omega, by simp⟩
    · have hi' : ¬ (i : Int) + 1 < m := by omega
      rw [usesL_short (by rw [List.length_drop]; omega)] at h2
      have : T = true := by rw [h2]; rfl
      simp [hi, hi', hm, this]
set_option maxHeartbeats 4000000 in
set_option maxRecDepth 10000 in
-- routingref47.uses
theorem t39 (l : List Lnk) (k : Nat) (hk : l.length = k) (hk2 : k < 9223372036854775807) (p : List Int) (m : Nat) (hm : p.length = m) (hm2 : m < 1000000) (j : Nat) : CFun Try.prog 39 [.sl 13 (l.map encL) .sh, .sl 1 (p.map encI) .sh, .int .i64 j] [] (.int .i64 (cntI j (usesL l p))) [] := by
  refine CFun.intro (tr := []) (fz := []) (n := 31) (rs := [.tmp 6]) Try.func39 rfl (by kernel_rfl) rfl rfl mixed (by kernel_rfl) (by simp) (by simp) ?_
  have h := fun a b H => (t66 l k hk hk2 a b).up' H rfl rfl
  obtain ⟨T, hT⟩ : ∃ T, T = cntI j (usesL l p) := ⟨_, rfl⟩
  rw [← hT]
  simp
  refine LoopK.intro (tr := []) mixed (by kernel_rfl) (fun s : Nat × Nat => [(0, .sl 13 (l.map encL) .sh), (1, .sl 1 (p.map encI) .sh), (2, .int .i64 j), (7, .int .i64 s.2), (8, .int .i64 (s.1 + 1))]) (fun _ => [])
    (fun s => s.1 ≤ m ∧ s.2 ≤ s.1 ∧ T = s.2 + cntI j (usesL l (p.drop s.1))) (fun s => m - s.1) (0, 0) ?_ ?_ ?_
  · simp [hT]
  · simp
  · rintro ⟨i, c⟩ ⟨h1, h0, h2⟩
    simp only at h1 h0 h2
    by_cases hi : i + 1 < m
    · obtain ⟨x, hx⟩ : ∃ x, p[i]? = some x := ⟨_, List.getElem?_eq_getElem (by omega)⟩
      obtain ⟨y, hy⟩ : ∃ y, p[i + 1]? = some y := ⟨_, List.getElem?_eq_getElem (by omega)⟩
      rw [usesL_drop hx hy, cntI_cons] at h2
      have hf := h x y
      generalize findI l x y = f at *
      have w3 : IntKind.i64.wrap ((i : Int) + 1 + 1) = (i : Int) + 1 + 1 := wrap_in (by omega)
      have w4 : IntKind.i64.wrap (i : Int) = i := wrap_in (by omega)
      have w5 : IntKind.i64.wrap ((c : Int) + 1) = (c : Int) + 1 := wrap_in (by omega)
      have hi' : (i : Int) + 1 < m := by omega
      have hi2 : i < m := by omega
      have hn : ((i : Int) + 1).toNat = i + 1 := by omega
      by_cases g : f = (j : Int)
      · rw [if_pos g] at h2
        simp [hi, hi', hi2, hm, hx, gE hx, hy, gE hy, w4, hn]
        refine ⟨_, _, .inl (by simpa [cargs] using hf _), by simp [cargs], ?_⟩
        simp [g, w3, w5]
        exact ⟨i + 1, c + 1, ⟨by omega, by omega, by omega⟩, by omega, by simp⟩
      · rw [if_neg g] at h2
        simp [hi, hi', hi2, hm, hx, gE hx, hy, gE hy, w4, hn]
        refine ⟨_, _, .inl (by simpa [cargs] using hf _), by simp [cargs], ?_⟩
        simp [g, w3]
        exact ⟨i + 1, c, ⟨by omega, by omega, by omega⟩, by omega, by simp⟩
    · have hi' : ¬ (i : Int) + 1 < m := by omega
      rw [usesL_short (by rw [List.length_drop]; omega)] at h2
      simp [cntI] at h2
      simp [hi, hi', hm, h2]
def amtB (h b : Int) : Bool := decide (0 ≤ h) && decide (h ≤ 7) && decide (0 ≤ b) && decide (b ≤ 1099511627776)
set_option maxHeartbeats 4000000 in
set_option maxRecDepth 10000 in
theorem t36 (h b : Int) : CFun Try.prog 36 [.int .i64 h, .int .i64 b] [] (.bool (amtB h b)) [] := by
  refine CFun.intro (tr := []) (fz := []) (n := 19) (rs := [.tmp 4]) Try.func36 rfl (by kernel_rfl) rfl rfl mixed (by kernel_rfl) (by simp) (by simp) ?_
  unfold amtB
  by_cases g1 : 0 ≤ h
  · by_cases g2 : h ≤ 7
    · by_cases g3 : 0 ≤ b
      · by_cases g4 : b ≤ 1099511627776 <;> simp [g1, g2, g3, g4]
      · simp [g1, g2, g3]
    · simp [g1, g2]
  · simp [g1]
end Go.Proofs.Ytpmmnnaaoideeaa

/- The reference's change of links. -/
namespace Go.Proofs.Ytpmmnnaaoideeaa
open Go Go.Am Go.Wk

theorem cntI_pos {i : Nat} {us : List Int} : 0 < cntI i us ↔ (i : Int) ∈ us := by
  unfold cntI
  rw [List.countP_pos_iff]
  constructor
  · rintro ⟨a, ha, hb⟩
    have : a = (i : Int) := by simpa using hb
    rw [← this]; exact ha
  · intro h; exact ⟨_, h, by simp⟩
set_option maxHeartbeats 4000000 in
set_option maxRecDepth 10000 in
-- routingref47.short
theorem t38 (l : List Lnk) (n : Nat) (hn : l.length = n) (hn2 : n < 1000000) (p : List Int) (m : Nat) (hm : p.length = m) (hm2 : m < 1000000) (b : Int) (hus : ∀ u ∈ usesL l p, 0 ≤ u ∧ u < l.length) :
    CFun Try.prog 38 [.sl 13 (l.map encL) .sh, .sl 1 (p.map encI) .sh, .int .i64 b] [] (.bool (!roomB l b (usesL l p))) [] := by
  refine CFun.intro (tr := []) (fz := []) (n := 29) (rs := [.tmp 6]) Try.func38 rfl (by kernel_rfl) rfl rfl mixed (by kernel_rfl) (by simp) (by simp) ?_
  have h := fun j H => (t39 l n hn (by omega) p m hm hm2 j).up' H rfl rfl
  generalize usesL l p = us at *
  obtain ⟨T, hT⟩ : ∃ T, T = roomB l b us := ⟨_, rfl⟩
  rw [← hT]
  simp
  refine LoopK.intro (tr := []) mixed (by kernel_rfl) (fun i : Nat => [(0, .sl 13 (l.map encL) .sh), (1, .sl 1 (p.map encI) .sh), (2, .int .i64 b), (9, .sl 13 (l.map encL) .sh), (10, .int .i64 n), (11, .int .i64 i)]) (fun _ => [])
    (fun i => i ≤ n ∧ ∀ (j : Nat) (x : Lnk), j < i → l[j]? = some x → 0 < cntI j us → b ≤ x.Fr 7) (fun i => n - i) 0 ?_ ?_ ?_
  · exact ⟨by omega, fun j x hj => by omega⟩
  · simp [hn]
  · rintro i ⟨h1, h2⟩
    by_cases hi : i < n
    · obtain ⟨x, hx⟩ : ∃ x, l[i]? = some x := ⟨_, List.getElem?_eq_getElem (by omega)⟩
      have w1 : IntKind.i64.wrap ((i : Int) + 1) = i + 1 := wrap_in (by omega)
      have h7 := cellsL_fr x (i := 7) (by omega)
      have hc := h i
      have go : (0 < cntI i us → b ≤ x.Fr 7) → ∀ (j : Nat) (y : Lnk), j < i + 1 → l[j]? = some y → 0 < cntI j us → b ≤ y.Fr 7 := by
        intro hx' j y hj hy hcj
        by_cases e : j = i
        · subst e
          rw [hx] at hy
          injection hy with hy
          subst hy
          exact hx' hcj
        · exact h2 j y (by omega) hy hcj
      have no : 0 < cntI i us → x.Fr 7 < b → T = false := by
        intro k1 k2
        obtain ⟨j, hj, he⟩ := List.getElem_of_mem (cntI_pos.1 k1)
        rw [hT]
        exact roomB_no (j := j) (by rw [List.getElem?_eq_getElem hj, he]) hx k2
      generalize cntI i us = ct at *
      simp [hi, hn, hx, gE hx]
      refine ⟨_, _, .inl (by simpa using hc _), by simp, ?_⟩
      by_cases g1 : 0 < ct
      · have g1' : (0 : Int) < ct := by omega
        by_cases g2 : x.Fr 7 < b
        · have := no g1 g2
          simp [g1, g1', h7, g2, this]
        · simp [g1, g1', h7, g2, w1]
          exact ⟨i + 1, ⟨by omega, go fun _ => by omega⟩, by omega, by simp⟩
      · have g1' : ¬ (0 : Int) < ct := by omega
        simp [g1, g1', w1]
        exact ⟨i + 1, ⟨by omega, go fun h => absurd h g1⟩, by omega, by simp⟩
    · have : i = n := by omega
      subst this
      have : T = true := by
        rw [hT]
        refine roomB_yes (fun j k x hj hx => h2 k x (by rw [← hn]; exact (List.getElem?_eq_some_iff.1 hx).1) hx (cntI_pos.2 (List.mem_of_getElem? hj))) hus
      simp [hn, this]
theorem idxL_map {α : Type} (p : α → Bool) : ∀ (l : List α) (i : Nat), idxL p l i = idxL id (l.map p) i
  | [], _ => rfl
  | x :: l, i => by simp only [List.map_cons, idxL, idxL_map p l, id]
theorem findI_set {l : List Lnk} {i : Nat} {x y : Lnk} (hx : l[i]? = some x) (h1 : y.From = x.From) (h2 : y.To = x.To) (a b : Int) : findI (l.set i y) a b = findI l a b := by
  unfold findI
  rw [idxL_map, idxL_map (isL a b) l]
  suffices hs : (l.set i y).map (isL a b) = l.map (isL a b) by rw [hs]
  rw [List.map_set]
  apply List.ext_getElem?
  intro j
  rw [List.getElem?_set]
  split
  · rename_i e
    subst e
    have hlt := (List.getElem?_eq_some_iff.1 hx).1
    rw [if_pos (by simpa using hlt), List.getElem?_map, hx]
    simp only [Option.map_some, isL, h1, h2]
  · rfl
theorem setF_same (x : Lnk) (k : Nat) (v : Int) : (setF x k v).From = x.From ∧ (setF x k v).To = x.To := ⟨rfl, rfl⟩
set_option maxHeartbeats 16000000 in
set_option maxRecDepth 10000 in
-- routingref47.change
theorem t37 (l : List Lnk) (n : Nat) (hn : l.length = n) (hn2 : n < 1000000) (p : List Int) (m : Nat) (hm : p.length = m) (hm2 : m ≤ 60) (h : Nat) (h8 : h ≤ 8) (b : Int) (hb : -1099511627776 ≤ b ∧ b ≤ 1099511627776) (hus : ∀ u ∈ usesL l p, 0 ≤ u ∧ u < l.length) (hF : ∀ x ∈ l, ∀ k, k < 8 → -1125899906842624 ≤ x.Fr k ∧ x.Fr k ≤ 1125899906842624) :
    CFun Try.prog 37 [.sl 13 (l.map encL) .sh, .sl 1 (p.map encI) .sh, .int .i64 h, .int .i64 b] [] (.sl 13 ((chA (-b) h (usesL l p) l).map encL) .sh) [] := by
  refine CFun.intro (tr := [100015]) (fz := [(8, 0, true)]) (n := 51) (rs := [.tmp 8]) Try.func37 rfl (by kernel_rfl) rfl rfl mixed (by kernel_rfl) (by simp) (by simp) ?_
  by_cases hne : l = []
  · have : m ≤ 1 := by
      rcases Nat.lt_or_ge 1 m with g | g
      · have hul := usesL_len l p
        have : (usesL l p) ≠ [] := by
          intro e
          rw [e] at hul
          simp at hul
          omega
        obtain ⟨u, us, hu⟩ := List.exists_cons_of_ne_nil this
        have := hus u (by rw [hu]; simp)
        rw [hne] at this
        simp at this
        omega
      · exact g
    have he : (chA (-b) h (usesL l p) l) = [] := by rw [hne]; rfl
    rw [he]
    subst hne
    have g1 : ¬ (1 : Int) < m := by omega
    simp
    refine LoopK.intro (tr := [100015]) mixed (by kernel_rfl) (fun _ : Nat => [(1, .sl 1 (p.map encI) .sh), (9, .sl 13 [] .sh), (10, .int .i64 1)]) (fun _ => []) (fun _ => True) (fun i => i) 0 trivial (by simp) ?_
    intro _ _
    simp [hm, g1]
  have s1 : l.length * 104 ≤ 140737488355328 := by omega
  have s2 : l.length ≤ 140737488355328 := by omega
  have s3 : 0 < l.length := List.length_pos_iff.2 hne
  have s4 : (l.map encL).isEmpty = false := by cases l <;> simp_all
  have s5 : (l.map encL).flatMap AVal.cells = rowC cellsL l := rowC_map (ce := cellsL) l
  have s6 : (rowC cellsL l).map AVal.dis = rowC cellsL l := encL_enc.rowDis l
  have hle := fun k (l : List Lnk) => encL_enc.rowLe k l
  have hrl := encL_enc.rowLen
  obtain ⟨us, hU⟩ : ∃ us, us = usesL l p := ⟨_, rfl⟩
  rw [← hU] at hus ⊢
  have hul : us.length = m - 1 := by rw [hU, usesL_len, hm]
  simp [hne, s1, s2, s3, s4]
  rw [s5, s6]
  refine LoopK.intro (tr := [100015]) mixed (by kernel_rfl) (fun s : Nat × List Lnk => [(1, .sl 1 (p.map encI) .sh), (2, .int .i64 h), (3, .int .i64 b), (9, .osl 0 0 n none 13), (10, .int .i64 (s.1 + 1))]) (fun s => [rowC cellsL s.2])
    (fun s => s.1 ≤ m ∧ s.2.length = n ∧ (∀ x ∈ s.2, ∀ k, k < 8 → -1125899906842624 - 1099511627776 * s.1 ≤ x.Fr k ∧ x.Fr k ≤ 1125899906842624 + 1099511627776 * s.1) ∧ (∀ a c, findI s.2 a c = findI l a c) ∧ chA (-b) h us l = chA (-b) h (us.drop s.1) s.2) (fun s => m - s.1) (0, l) ?_ ?_ ?_
  · exact ⟨Nat.zero_le _, hn, fun x hx k hk => by have := hF x hx k hk; omega, fun _ _ => rfl, rfl⟩
  · simp [hle, hn]
  clear hF
  rintro ⟨q, cur⟩ ⟨q1, q2, q3, q5, q4⟩
  simp only at q1 q2 q3 q4 q5
  by_cases hq : q + 1 < m
  case neg =>
    have hq' : ¬ (q : Int) + 1 < m := by omega
    rw [List.drop_eq_nil_of_le (by omega)] at q4
    have hcz : chA (-b) h [] cur = cur := by
      apply List.ext_getElem?
      intro j
      rw [chA_get]
      cases cur[j]? <;> simp [cntI, chR_zero]
    rw [hcz] at q4
    rw [q4]
    have k4 := encL_enc.chunk cur n q2
    have k3 : ∀ x ∈ rowC cellsL cur, x.tree = true := by simpa using encL_enc.rowTree cur
    have hn0 : 0 < n := by omega
    have hrc := hrl cur
    rw [q2] at hrc
    have k2 : (rowC cellsL cur).take (n * 13) = rowC cellsL cur := List.take_of_length_le (by omega)
    simp [hq, hq', hm, hrc, k2, k4, hn0]
    rw [if_pos k3]
    simp
  obtain ⟨x0, hx0⟩ : ∃ x, p[q]? = some x := ⟨_, List.getElem?_eq_getElem (by omega)⟩
  obtain ⟨y0, hy0⟩ : ∃ y, p[q + 1]? = some y := ⟨_, List.getElem?_eq_getElem (by omega)⟩
  obtain ⟨u, hu⟩ : ∃ u, us[q]? = some u := ⟨_, List.getElem?_eq_getElem (by omega)⟩
  have hdd : us.drop q = u :: us.drop (q + 1) := by
    obtain ⟨k1, k2⟩ := List.getElem?_eq_some_iff.1 hu
    rw [List.drop_eq_getElem_cons k1, k2]
  have hu2 : u = findI l x0 y0 := by
    have e : ∀ (p : List Int) (q : Nat), (usesL l p).drop q = usesL l (p.drop q) := by
      intro p
      induction p with
      | nil => intro q; simp [usesL]
      | cons a p ih =>
        intro q
        cases p with
        | nil =>
          cases q with
          | zero => rfl
          | succ q => simp [usesL]
        | cons c p =>
          cases q with
          | zero => rfl
          | succ q => simp only [usesL, List.drop_succ_cons]; exact ih q
    have h1 := e p q
    rw [← hU, hdd, usesL_drop hx0 hy0] at h1
    injection h1
  obtain ⟨u0, u1⟩ := hus u (List.mem_of_getElem? hu)
  obtain ⟨i, hi0⟩ : ∃ i : Nat, u = i := ⟨u.toNat, by omega⟩
  have hi : i < n := by omega
  obtain ⟨x, hx⟩ : ∃ x, cur[i]? = some x := ⟨_, List.getElem?_eq_getElem (by omega)⟩
  have hlend := lend66 (H := [rowC cellsL cur]) (id := 0) rfl q2 (by omega) (by omega) x0 y0
  rw [q5, ← hu2, hi0] at hlend
  rw [hi0] at hdd
  rw [hdd, ← chA_cons hx] at q4
  have w1 : IntKind.i64.wrap ((q : Int) + 1 + 1) = (q : Int) + 1 + 1 := wrap_in (by omega)
  have w4 : IntKind.i64.wrap (q : Int) = q := wrap_in (by omega)
  have hq' : (q : Int) + 1 < m := by omega
  have hq2 : q < m := by omega
  have hqn : ((q : Int) + 1).toNat = q + 1 := by omega
  simp [hq, hq', hq2, hm, hx0, gE hx0, hy0, gE hy0, w4, hqn]
  refine ⟨_, _, .inl (by simpa [cargs] using hlend), by simp [cargs], ?_⟩
  simp
  have hxb := q3 x (List.mem_of_getElem? hx)
  refine LoopK.intro (tr := [100015]) mixed (by kernel_rfl) (fun s : Nat × Lnk => [(1, .sl 1 (p.map encI) .sh), (2, .int .i64 h), (3, .int .i64 b), (9, .osl 0 0 n none 13), (10, .int .i64 (q + 1)), (11, .int .i64 i), (12, .int .i64 s.1)]) (fun s => [rowC cellsL (cur.set i s.2)])
    (fun s => h ≤ s.1 ∧ s.1 ≤ 8 ∧ (∀ k, k < 8 → -1125899906842624 - 1099511627776 * ((q + 1 : Nat) : Int) ≤ s.2.Fr k ∧ s.2.Fr k ≤ 1125899906842624 + 1099511627776 * ((q + 1 : Nat) : Int)) ∧ (∀ k, s.1 ≤ k → s.2.Fr k = x.Fr k) ∧ (s.2.From = x.From ∧ s.2.To = x.To) ∧ chR h (-b) x = chR s.1 (-b) s.2) (fun s => 8 - s.1) (h, x) ?_ ?_ ?_
  · exact ⟨Nat.le_refl _, h8, fun k hk => by have := hxb k hk; show _ ≤ x.Fr k ∧ x.Fr k ≤ _; constructor <;> omega, fun _ _ => rfl, ⟨rfl, rfl⟩, rfl⟩
  · have hsame : cur.set i x = cur := by
      apply List.ext_getElem?
      intro j'
      rw [List.getElem?_set]
      split
      · rename_i e; subst e; rw [if_pos (by omega), hx]
      · rfl
    simp [hsame, hle]
  rintro ⟨k, z⟩ ⟨k1, k2, k3, k5, k6, k4⟩
  simp only at k1 k2 k3 k4 k5 k6
  have hsl : (cur.set i z).length = n := by rw [List.length_set]; exact q2
  by_cases hk : k < 8
  case neg =>
    have : k = 8 := by omega
    subst this
    rw [chR_eight] at k4
    rw [k4] at q4
    simp [w1]
    refine ⟨q + 1, cur.set i z, ⟨by omega, hsl, fun v hv => ?_, fun a c => ?_, q4⟩, by omega, by simp [hle]⟩
    · rcases List.mem_or_eq_of_mem_set hv with hv | rfl
      · intro k hk
        have := q3 v hv k hk
        omega
      · exact k3
    · rw [findI_set hx k6.1 k6.2, q5]
  have hk' : (k : Int) < 8 := by omega
  have hk7 : k ≤ 7 := by omega
  have hz : (cur.set i z)[i]? = some z := by rw [List.getElem?_set_self (by omega)]
  have hg := rowL_get hz hk
  have hset := rowL_set hz hk (z.Fr k - b)
  rw [List.set_set] at hset
  have hrc := hrl (cur.set i z)
  rw [hsl] at hrc
  have hzx := k5 k (Nat.le_refl _)
  have hxk := hxb k hk
  have w2 : IntKind.i64.wrap ((k : Int) + 1) = k + 1 := wrap_in (by omega)
  have b1 : i * 13 + 4 + k < n * 13 := by omega
  have b2 : i * 13 + 4 + k + 1 ≤ n * 13 := by omega
  have w3 : IntKind.i64.wrap (z.Fr k - b) = z.Fr k - b := wrap_in (by omega)
  have hst := chR_step hk (-b) z
  rw [← Int.sub_eq_add_neg] at hst
  have hv : -1125899906842624 - 1099511627776 * ((q + 1 : Nat) : Int) ≤ z.Fr k - b ∧ z.Fr k - b ≤ 1125899906842624 + 1099511627776 * ((q + 1 : Nat) : Int) := by
    rw [hzx]
    constructor <;> omega
  simp [hk, hk', hk7, hi, hg, gE hg, hrc, b1, b2, w3]
  simp [hset, w2]
  refine ⟨k + 1, setF z k (z.Fr k - b), ⟨by omega, by omega, fun j hj => ?_, fun j hj => ?_, ⟨k6.1, k6.2⟩, by rw [hst]; exact k4⟩, by omega, by simp [hle]⟩
  · show _ ≤ updF z.Fr k (z.Fr k - b) j ∧ updF z.Fr k (z.Fr k - b) j ≤ _
    unfold updF
    split
    · exact hv
    · exact k3 j hj
  · show updF z.Fr k (z.Fr k - b) j = x.Fr j
    unfold updF
    rw [if_neg (by omega)]
    exact k5 j (by omega)
end Go.Proofs.Ytpmmnnaaoideeaa

/- The reference's Reserve and Release, by the program. -/
namespace Go.Proofs.Ytpmmnnaaoideeaa
open Go Go.Am Go.Wk

theorem opA_good {bad : Int → Int → Bool} {v : Int} {h : Nat} (h8 : h ≤ 8) : ∀ (us : List Int) (l : List Lnk), (∀ u ∈ us, 0 ≤ u ∧ u < l.length) → ∀ m, opA bad v h us l = some m →
    ∀ (i : Nat) (x : Lnk) (c : Nat), l[i]? = some x → c < cntI i us → ∀ k, h ≤ k → k < 8 → bad (x.Fr k + v * c) x.Cap = false := by
  intro us
  induction us with
  | nil => intro l _ m _ i x c _ hc; simp [cntI] at hc
  | cons u us ih =>
    intro l hu m hm j y c hy hc k k1 k2
    obtain ⟨u1, u2⟩ := hu u (by simp)
    obtain ⟨i, rfl⟩ : ∃ i : Nat, u = i := ⟨u.toNat, by omega⟩
    obtain ⟨x, hx⟩ : ∃ x, l[i]? = some x := ⟨_, List.getElem?_eq_getElem (by omega)⟩
    have hxd : l.getD i lnk0 = x := by rw [List.getD_eq_getElem?_getD, hx]; rfl
    simp only [opA, Int.toNat_natCast, hxd] at hm
    by_cases hb : ∃ k, 8 - (8 - h) ≤ k ∧ k < 8 ∧ bad (x.Fr k) x.Cap = true
    · rw [opK_none _ _ (by omega) hb] at hm
      cases hm
    · have hg : ∀ k, 8 - (8 - h) ≤ k → k < 8 → bad (x.Fr k) x.Cap = false := fun k k1 k2 => by
        cases hc : bad (x.Fr k) x.Cap with
        | false => rfl
        | true => exact absurd ⟨k, k1, k2, hc⟩ hb
      rw [opK_some _ _ (by omega) hg, show 8 - (8 - h) = h by omega] at hm
      simp only at hm
      have hl := ih (l.set i (chR h v x)) (fun w hw => by rw [List.length_set]; exact hu w (by simp [hw])) m hm
      rw [cntI_cons] at hc
      by_cases e : i = j
      · subst e
        rw [hx] at hy
        injection hy with hy
        subst hy
        rw [if_pos rfl] at hc
        cases c with
        | zero => simpa using hg k (by omega) k2
        | succ c =>
          have := hl i (chR h v x) c (by rw [List.getElem?_set_self (by omega)]) (by omega) k k1 k2
          have e2 : (chR h v x).Fr k = x.Fr k + v := by simp only [chR]; rw [if_pos ⟨k1, k2⟩]
          rw [e2] at this
          rw [← this]
          show bad _ x.Cap = bad _ x.Cap
          congr 1
          rw [Int.natCast_add, Int.mul_add]
          simp
          omega
      · rw [if_neg (by omega)] at hc
        exact hl j y c (by rw [List.getElem?_set_ne e]; exact hy) (by omega) k k1 k2
theorem chR_fr {h : Nat} {v : Int} {x : Lnk} {k : Nat} (k1 : h ≤ k) (k2 : k < 8) : (chR h v x).Fr k = x.Fr k + v := by
  simp only [chR]; rw [if_pos ⟨k1, k2⟩]
theorem mul_last (b : Int) {c n : Nat} (hc : c < n) (hb : 0 ≤ b) : b * (c : Int) + b ≤ b * (n : Int) := by
  have : b * ((c + 1 : Nat) : Int) ≤ b * (n : Int) := Int.mul_le_mul_of_nonneg_left (by omega) hb
  rw [Int.natCast_add, Int.mul_add] at this
  simpa using this
/-- What is taken is there. -/
theorem take_yes {b : Int} (hb : 0 ≤ b) {h : Nat} (h8 : h ≤ 8) {us : List Int} {l : List Lnk} (hus : ∀ u ∈ us, 0 ≤ u ∧ u < l.length) (hg : ∀ (i : Nat) (x : Lnk), (chA (-b) h us l)[i]? = some x → 0 < cntI i us → ∀ k, h ≤ k → k < 8 → 0 ≤ x.Fr k) : takeA b h us l = some (chA (-b) h us l) := by
  rw [takeA_op]
  refine opA_ok h8 us l hus fun i x c hx hc k k1 k2 => decide_eq_false ?_
  have := hg i _ (by rw [chA_get, hx]; rfl) (by omega) k k1 k2
  rw [chR_fr k1 k2] at this
  have h3 := mul_last b hc hb
  rw [Int.neg_mul] at this ⊢
  omega
theorem take_no {b : Int} {h : Nat} (h8 : h ≤ 8) {us : List Int} {l : List Lnk} (hus : ∀ u ∈ us, 0 ≤ u ∧ u < l.length) {i : Nat} {x : Lnk} (hx : (chA (-b) h us l)[i]? = some x) (hc : 0 < cntI i us) {k : Nat} (k1 : h ≤ k) (k2 : k < 8) (hn : x.Fr k < 0) : takeA b h us l = none := by
  cases hA : takeA b h us l with
  | none => rfl
  | some m =>
    rw [takeA_op] at hA
    rw [chA_get, Option.map_eq_some_iff] at hx
    obtain ⟨y, hy, rfl⟩ := hx
    rw [chR_fr k1 k2] at hn
    have := opA_good h8 us l hus m hA i y (cntI i us - 1) hy (by omega) k k1 k2
    have := of_decide_eq_false this
    have e : (cntI i us : Int) = ((cntI i us - 1 : Nat) : Int) + 1 := by omega
    rw [e, Int.mul_add] at hn
    rw [Int.neg_mul] at *
    omega
theorem add_yes {b : Int} (hb : 0 ≤ b) {h : Nat} (h8 : h ≤ 8) {us : List Int} {l : List Lnk} (hus : ∀ u ∈ us, 0 ≤ u ∧ u < l.length) (hg : ∀ (i : Nat) (x : Lnk), (chA b h us l)[i]? = some x → 0 < cntI i us → ∀ k, h ≤ k → k < 8 → x.Fr k ≤ x.Cap) : addA b h us l = some (chA b h us l) := by
  rw [addA_op]
  refine opA_ok h8 us l hus fun i x c hx hc k k1 k2 => ?_
  rw [exceedsB_eq hb]
  refine decide_eq_false ?_
  have := hg i _ (by rw [chA_get, hx]; rfl) (by omega) k k1 k2
  rw [chR_fr k1 k2] at this
  have h3 := mul_last b hc hb
  change _ ≤ x.Cap at this
  omega
theorem add_no {b : Int} (hb : 0 ≤ b) {h : Nat} (h8 : h ≤ 8) {us : List Int} {l : List Lnk} (hus : ∀ u ∈ us, 0 ≤ u ∧ u < l.length) {i : Nat} {x : Lnk} (hx : (chA b h us l)[i]? = some x) (hc : 0 < cntI i us) {k : Nat} (k1 : h ≤ k) (k2 : k < 8) (hn : x.Cap < x.Fr k) : addA b h us l = none := by
  cases hA : addA b h us l with
  | none => rfl
  | some m =>
    rw [addA_op] at hA
    rw [chA_get, Option.map_eq_some_iff] at hx
    obtain ⟨y, hy, rfl⟩ := hx
    rw [chR_fr k1 k2] at hn
    have := opA_good h8 us l hus m hA i y (cntI i us - 1) hy (by omega) k k1 k2
    rw [exceedsB_eq hb] at this
    have := of_decide_eq_false this
    have e : (cntI i us : Int) = ((cntI i us - 1 : Nat) : Int) + 1 := by omega
    rw [e, Int.mul_add] at hn
    change y.Cap < _ at hn
    omega
theorem amtB_false {h b : Int} (g : h < 0 ∨ 7 < h ∨ b < 0 ∨ 1099511627776 < b) : amtB h b = false := by
  unfold amtB
  rw [Bool.eq_false_iff]
  intro e
  simp only [Bool.and_eq_true, decide_eq_true_eq] at e
  omega
theorem amtB_true {h b : Int} (g : ¬ (h < 0 ∨ 7 < h ∨ b < 0 ∨ 1099511627776 < b)) : amtB h b = true := by
  unfold amtB
  simp only [Bool.and_eq_true, decide_eq_true_eq]
  omega
set_option maxHeartbeats 16000000 in
set_option maxRecDepth 10000 in
theorem t14 (l : List Lnk) (n : Nat) (hn : l.length = n) (hn2 : n < 1000000) (hB : ∀ x ∈ l, ∀ k, k < 8 → -1125899906842624 ≤ x.Fr k ∧ x.Fr k ≤ 1125899906842624) (t : Tun) (m : Nat) (hm : t.P.length = m) (hm2 : m ≤ 60) (hI : inI t.W.Hold ∧ inI t.W.Band) :
    CFun Try.prog 14 [.sl 13 (l.map encL) .sh, encT t] [] (.tup [.sl 13 ((resN l t).1.map encL) .sh, .int .i64 (resN l t).2]) [] := by
  refine CFun.intro (tr := []) (fz := []) (n := 69) (rs := [.tmp 4, .tmp 5]) Try.func14 rfl (by kernel_rfl) rfl rfl mixed (by kernel_rfl) (by simp) (by simp) ?_
  have h36 := fun H => (t36 t.W.Hold t.W.Band).up' H rfl rfl
  have h31 := fun H => (t31 l n hn (by omega) t.P m hm (by omega)).up' H rfl rfl
  unfold resN pathE
  by_cases g1 : t.W.Hold < 0 ∨ 7 < t.W.Hold ∨ t.W.Band < 0 ∨ 1099511627776 < t.W.Band
  · rw [amtB_false g1] at h36
    rw [if_pos g1]
    simp
    refine ⟨_, _, .inl (by simpa using h36 _), by simp, ?_⟩
    simp
  rw [amtB_true g1] at h36
  rw [if_neg g1]
  by_cases g2 : hasB (usesL l t.P) (-1) = true
  · rw [g2] at h31
    rw [if_pos g2]
    simp
    refine ⟨_, _, .inl (by simpa using h36 _), by simp, ?_⟩
    simp
    refine ⟨_, _, .inl (by simpa using h31 _), by simp, ?_⟩
    simp
  have g2' : hasB (usesL l t.P) (-1) = false := by simpa using g2
  have hp : pathE l t = 0 := by unfold pathE; rw [if_neg g1, if_neg g2]
  obtain ⟨⟨a1, a2⟩, ⟨a3, a4⟩, hus⟩ := pathE_ok hp
  rw [g2'] at h31
  rw [if_neg g2]
  obtain ⟨h, hh⟩ : ∃ h : Nat, t.W.Hold = h := ⟨t.W.Hold.toNat, by omega⟩
  have hh7 : h ≤ 7 := by omega
  have h37 := fun H => (t37 l n hn (by omega) t.P m hm hm2 h (by omega) (t.W.Band) (by omega) hus hB).up' H rfl rfl
  have h38 := fun H => (t38 l n hn (by omega) t.P m hm (by omega) t.W.Band hus).up' H rfl rfl
  have h39 := fun j H => (t39 l n hn (by omega) t.P m hm (by omega) j).up' H rfl rfl
  rw [hh] at h36 ⊢
  simp only [Int.toNat_natCast]
  have hyes := fun hg => take_yes (b := t.W.Band) a3 (h := h) (by omega) hus hg
  have hno := fun i x hx hc k k1 k2 hn => take_no (b := t.W.Band) (h := h) (by omega) hus (i := i) (x := x) hx hc (k := k) k1 k2 hn
  have hlen := chA_len (-t.W.Band) h (usesL l t.P) l
  by_cases g3 : roomB l t.W.Band (usesL l t.P) = true
  case neg =>
    have g3' : roomB l t.W.Band (usesL l t.P) = false := by simpa using g3
    rw [g3'] at h38
    simp [hh]
    refine ⟨_, _, .inl (by simpa [hh] using h36 _), by simp, ?_⟩
    simp [hh]
    refine ⟨_, _, .inl (by simpa [hh] using h31 _), by simp, ?_⟩
    simp [hh]
    refine ⟨_, _, .inl (by simpa [hh] using h37 _), by simp, ?_⟩
    simp [hh]
    refine ⟨_, _, .inl (by simpa [hh] using h38 _), by simp, ?_⟩
    simp [g3']
  rw [g3] at h38
  generalize chA (-t.W.Band) h (usesL l t.P) l = out at *
  generalize usesL l t.P = us at *
  generalize takeA t.W.Band h us l = R at *
  simp [hh]
  refine ⟨_, _, .inl (by simpa [hh] using h36 _), by simp, ?_⟩
  simp [hh]
  refine ⟨_, _, .inl (by simpa [hh] using h31 _), by simp, ?_⟩
  simp [hh]
  refine ⟨_, _, .inl (by simpa [hh] using h37 _), by simp, ?_⟩
  simp [hh]
  refine ⟨_, _, .inl (by simpa [hh] using h38 _), by simp, ?_⟩
  rw [hn] at hlen
  simp [hh, hlen]
  clear h31 h36 h37 h38
  refine LoopK.intro (tr := []) mixed (by kernel_rfl) (fun i : Nat => [(0, .sl 13 (l.map encL) .sh), (3, .ptr 0 0), (6, .sl 13 (out.map encL) .sh), (40, .sl 13 (out.map encL) .sh), (41, .int .i64 n), (42, .int .i64 i)]) (fun _ => [cellsTh t h])
    (fun i => i ≤ n ∧ ∀ (j : Nat) (x : Lnk), j < i → out[j]? = some x → 0 < cntI j us → ∀ k, h ≤ k → k < 8 → 0 ≤ x.Fr k) (fun i => n - i) 0 ?_ ?_ ?_
  · exact ⟨by omega, fun j x hj => by omega⟩
  · simp
  rintro i ⟨h1, h2⟩
  by_cases hi : i < n
  case neg =>
    have : i = n := by omega
    subst this
    have hR := hyes fun j x hx => h2 j x (by rw [← hlen]; exact (List.getElem?_eq_some_iff.1 hx).1) hx
    subst hR
    simp [g3]
  obtain ⟨x, hx⟩ : ∃ x, out[i]? = some x := ⟨_, List.getElem?_eq_getElem (by omega)⟩
  have w1 : IntKind.i64.wrap ((i : Int) + 1) = i + 1 := wrap_in (by omega)
  have hc := h39 i
  have hnx := hno i x hx
  have hnext := fun (hg : 0 < cntI i us → ∀ k, h ≤ k → k < 8 → 0 ≤ x.Fr k) => (fun (j : Nat) (y : Lnk) (hj : j < i + 1) (hy : out[j]? = some y) (hcj : 0 < cntI j us) => (by
    by_cases e : j = i
    · subst e
      rw [hx] at hy
      injection hy with hy
      subst hy
      exact hg hcj
    · exact h2 j y (by omega) hy hcj : ∀ k, h ≤ k → k < 8 → 0 ≤ y.Fr k))
  simp [hi, hlen, hx, gE hx]
  refine LoopK.intro (tr := []) mixed (by kernel_rfl) (fun k : Nat => [(0, .sl 13 (l.map encL) .sh), (3, .ptr 0 0), (6, .sl 13 (out.map encL) .sh), (7, .int .i64 i), (8, .ptr 1 0), (9, .int .i64 k), (40, .sl 13 (out.map encL) .sh), (41, .int .i64 n), (42, .int .i64 i)]) (fun _ => [cellsTh t h, cellsL x])
    (fun k => h ≤ k ∧ k ≤ 8 ∧ (0 < cntI i us → ∀ j, h ≤ j → j < k → 0 ≤ x.Fr j)) (fun k => 8 - k) h ?_ ?_ ?_
  · exact ⟨Nat.le_refl _, by omega, fun _ j j1 j2 => by omega⟩
  · simp
  rintro k ⟨k1, k2, k3⟩
  by_cases hk : k < 8
  case neg =>
    have : k = 8 := by omega
    subst this
    simp [w1]
    exact ⟨i + 1, ⟨by omega, hnext k3⟩, by omega, by simp⟩
  have hg := cellsL_fr x hk
  have hk' : (k : Int) < 8 := by omega
  have hk7 : k ≤ 7 := by omega
  have w2 : IntKind.i64.wrap ((k : Int) + 1) = k + 1 := wrap_in (by omega)
  have b1 : 4 + k < 13 := by omega
  generalize cntI i us = ct at *
  simp [hk, hk', hk7, cargs]
  refine ⟨_, _, .inl (by simpa [cargs] using hc _), by simp [cargs], ?_⟩
  by_cases g1 : 0 < ct
  · have g1' : (0 : Int) < ct := by omega
    by_cases g2 : x.Fr k < 0
    · have hR := hnx g1 k k1 hk g2
      subst hR
      simp [hk, hk', hk7, g1, g1', hg, gE hg, b1, g2]
    · simp [hk, hk', hk7, g1, g1', hg, gE hg, b1, g2, w2]
      refine ⟨k + 1, ⟨by omega, by omega, fun j j1 j2 => ?_⟩, by omega, by simp⟩
      by_cases e : j = k
      · subst e; omega
      · exact k3 g1 j j1 (by omega)
  · have g1' : ¬ (0 : Int) < ct := by omega
    simp [hk, hk', hk7, g1, g1', w2]
    exact ⟨k + 1, ⟨by omega, by omega⟩, by omega, by simp⟩
set_option maxHeartbeats 16000000 in
set_option maxRecDepth 10000 in
theorem t16 (l : List Lnk) (n : Nat) (hn : l.length = n) (hn2 : n < 1000000) (hB : ∀ x ∈ l, ∀ k, k < 8 → -1125899906842624 ≤ x.Fr k ∧ x.Fr k ≤ 1125899906842624) (t : Tun) (m : Nat) (hm : t.P.length = m) (hm2 : m ≤ 60) (hI : inI t.W.Hold ∧ inI t.W.Band) :
    CFun Try.prog 16 [.sl 13 (l.map encL) .sh, encT t] [] (.tup [.sl 13 ((relN l t).1.map encL) .sh, .int .i64 (relN l t).2]) [] := by
  refine CFun.intro (tr := []) (fz := []) (n := 65) (rs := [.tmp 4, .tmp 5]) Try.func16 rfl (by kernel_rfl) rfl rfl mixed (by kernel_rfl) (by simp) (by simp) ?_
  have h36 := fun H => (t36 t.W.Hold t.W.Band).up' H rfl rfl
  have h31 := fun H => (t31 l n hn (by omega) t.P m hm (by omega)).up' H rfl rfl
  unfold relN pathE
  by_cases g1 : t.W.Hold < 0 ∨ 7 < t.W.Hold ∨ t.W.Band < 0 ∨ 1099511627776 < t.W.Band
  · rw [amtB_false g1] at h36
    rw [if_pos g1]
    simp
    refine ⟨_, _, .inl (by simpa using h36 _), by simp, ?_⟩
    simp
  rw [amtB_true g1] at h36
  rw [if_neg g1]
  by_cases g2 : hasB (usesL l t.P) (-1) = true
  · rw [g2] at h31
    rw [if_pos g2]
    simp
    refine ⟨_, _, .inl (by simpa using h36 _), by simp, ?_⟩
    simp
    refine ⟨_, _, .inl (by simpa using h31 _), by simp, ?_⟩
    simp
  have g2' : hasB (usesL l t.P) (-1) = false := by simpa using g2
  have hp : pathE l t = 0 := by unfold pathE; rw [if_neg g1, if_neg g2]
  obtain ⟨⟨a1, a2⟩, ⟨a3, a4⟩, hus⟩ := pathE_ok hp
  rw [g2'] at h31
  rw [if_neg g2]
  obtain ⟨h, hh⟩ : ∃ h : Nat, t.W.Hold = h := ⟨t.W.Hold.toNat, by omega⟩
  have hh7 : h ≤ 7 := by omega
  have h37 := fun H => (t37 l n hn (by omega) t.P m hm hm2 h (by omega) (-t.W.Band) (by omega) hus hB).up' H rfl rfl
  have h39 := fun j H => (t39 l n hn (by omega) t.P m hm (by omega) j).up' H rfl rfl
  rw [hh] at h36 ⊢
  simp only [Int.toNat_natCast]
  rw [Int.neg_neg] at h37
  have wn : IntKind.i64.wrap (-t.W.Band) = -t.W.Band := wrap_in (by omega)
  have hyes := fun hg => add_yes (b := t.W.Band) a3 (h := h) (by omega) hus hg
  have hno := fun i x hx hc k k1 k2 hn => add_no (b := t.W.Band) a3 (h := h) (by omega) hus (i := i) (x := x) hx hc (k := k) k1 k2 hn
  have hlen := chA_len (t.W.Band) h (usesL l t.P) l
  generalize chA (t.W.Band) h (usesL l t.P) l = out at *
  generalize usesL l t.P = us at *
  generalize addA t.W.Band h us l = R at *
  simp [hh]
  refine ⟨_, _, .inl (by simpa [hh] using h36 _), by simp, ?_⟩
  simp [hh]
  refine ⟨_, _, .inl (by simpa [hh] using h31 _), by simp, ?_⟩
  simp [hh, wn]
  refine ⟨_, _, .inl (by simpa [hh] using h37 _), by simp, ?_⟩
  rw [hn] at hlen
  simp [hh, hlen]
  clear h31 h36 h37
  refine LoopK.intro (tr := []) mixed (by kernel_rfl) (fun i : Nat => [(0, .sl 13 (l.map encL) .sh), (3, .ptr 0 0), (6, .sl 13 (out.map encL) .sh), (34, .sl 13 (out.map encL) .sh), (35, .int .i64 n), (36, .int .i64 i)]) (fun _ => [cellsTh t h])
    (fun i => i ≤ n ∧ ∀ (j : Nat) (x : Lnk), j < i → out[j]? = some x → 0 < cntI j us → ∀ k, h ≤ k → k < 8 → x.Fr k ≤ x.Cap) (fun i => n - i) 0 ?_ ?_ ?_
  · exact ⟨by omega, fun j x hj => by omega⟩
  · simp
  rintro i ⟨h1, h2⟩
  by_cases hi : i < n
  case neg =>
    have : i = n := by omega
    subst this
    have hR := hyes fun j x hx => h2 j x (by rw [← hlen]; exact (List.getElem?_eq_some_iff.1 hx).1) hx
    subst hR
    simp
  obtain ⟨x, hx⟩ : ∃ x, out[i]? = some x := ⟨_, List.getElem?_eq_getElem (by omega)⟩
  have w1 : IntKind.i64.wrap ((i : Int) + 1) = i + 1 := wrap_in (by omega)
  have hc := h39 i
  have hnx := hno i x hx
  have hnext := fun (hg : 0 < cntI i us → ∀ k, h ≤ k → k < 8 → x.Fr k ≤ x.Cap) => (fun (j : Nat) (y : Lnk) (hj : j < i + 1) (hy : out[j]? = some y) (hcj : 0 < cntI j us) => (by
    by_cases e : j = i
    · subst e
      rw [hx] at hy
      injection hy with hy
      subst hy
      exact hg hcj
    · exact h2 j y (by omega) hy hcj : ∀ k, h ≤ k → k < 8 → y.Fr k ≤ y.Cap))
  simp [hi, hlen, hx, gE hx]
  refine LoopK.intro (tr := []) mixed (by kernel_rfl) (fun k : Nat => [(0, .sl 13 (l.map encL) .sh), (3, .ptr 0 0), (6, .sl 13 (out.map encL) .sh), (7, .int .i64 i), (8, .ptr 1 0), (9, .int .i64 k), (34, .sl 13 (out.map encL) .sh), (35, .int .i64 n), (36, .int .i64 i)]) (fun _ => [cellsTh t h, cellsL x])
    (fun k => h ≤ k ∧ k ≤ 8 ∧ (0 < cntI i us → ∀ j, h ≤ j → j < k → x.Fr j ≤ x.Cap)) (fun k => 8 - k) h ?_ ?_ ?_
  · exact ⟨Nat.le_refl _, by omega, fun _ j j1 j2 => by omega⟩
  · simp
  rintro k ⟨k1, k2, k3⟩
  by_cases hk : k < 8
  case neg =>
    have : k = 8 := by omega
    subst this
    simp [w1]
    exact ⟨i + 1, ⟨by omega, hnext k3⟩, by omega, by simp⟩
  have hg := cellsL_fr x hk
  have hk' : (k : Int) < 8 := by omega
  have hk7 : k ≤ 7 := by omega
  have w2 : IntKind.i64.wrap ((k : Int) + 1) = k + 1 := wrap_in (by omega)
  have b1 : 4 + k < 13 := by omega
  generalize cntI i us = ct at *
  simp [hk, hk', hk7, cargs]
  refine ⟨_, _, .inl (by simpa [cargs] using hc _), by simp [cargs], ?_⟩
  by_cases g1 : 0 < ct
  · have g1' : (0 : Int) < ct := by omega
    by_cases g2 : x.Cap < x.Fr k
    · have hR := hnx g1 k k1 hk g2
      subst hR
      simp [hk, hk', hk7, g1, g1', hg, gE hg, b1, g2]
    · simp [hk, hk', hk7, g1, g1', hg, gE hg, b1, g2, w2]
      refine ⟨k + 1, ⟨by omega, by omega, fun j j1 j2 => ?_⟩, by omega, by simp⟩
      by_cases e : j = k
      · subst e; omega
      · exact k3 g1 j j1 (by omega)
  · have g1' : ¬ (0 : Int) < ct := by omega
    simp [hk, hk', hk7, g1, g1', w2]
    exact ⟨k + 1, ⟨by omega, by omega⟩, by omega, by simp⟩
end Go.Proofs.Ytpmmnnaaoideeaa

/- Checks of tunnels. -/
namespace Go.Proofs.Ytpmmnnaaoideeaa
open Go Go.Am Go.Wk

-- tunnel.repeats
set_option maxHeartbeats 4000000 in
set_option maxRecDepth 10000 in
theorem t64 (l : List Int) (n : Nat) (hn : l.length = n) (hlen : n < 9223372036854775807) : CFun Try.prog 64 [.sl 1 (l.map encI) .sh] [] (.bool (repB l)) [] := by
  refine CFun.intro (tr := []) (fz := []) (n := 18) (rs := [.tmp 2]) Try.func64 rfl (by kernel_rfl) rfl rfl mixed (by kernel_rfl) (by simp) (by simp) ?_
  unfold repB
  rw [hn]
  simp
  refine LoopK.intro (tr := []) mixed (by kernel_rfl) (fun i : Nat => [(0, .sl 1 (l.map encI) .sh), (5, .sl 1 (l.map encI) .sh), (6, .int .i64 n), (7, .int .i64 i)]) (fun _ => []) (fun i => i ≤ n ∧ repI l n n = repI l n (n - i)) (fun i => n - i) 0 ?_ ?_ ?_
  · simp
  · simp [hn]
  · rintro i ⟨h1, h2⟩
    by_cases hi : i < n
    · obtain ⟨x, hx, _⟩ := get_drop (l := l) (i := i) (by omega)
      have w1 : IntKind.i64.wrap ((i : Int) + 1) = i + 1 := wrap_in (by omega)
      rw [repI_step l n i hi] at h2
      have hd : l.getD i 0 = x := by simp [hx]
      rw [hd] at h2
      have k1 := fun H => (c24 (l.take i) i (by simp; omega) (by omega) x).up' H (by simp [noid, noid0]) rfl
      generalize hasB (l.take i) x = b at k1 h2
      simp [hi, hn, hx, gE hx, h1]
      refine ⟨_, _, .inl (by simpa using k1 _), by simp, ?_⟩
      cases b with
      | true => simp at h2; simp [h2]
      | false =>
        simp at h2
        simp [w1]
        exact ⟨i + 1, ⟨by omega, h2⟩, by omega, by simp⟩
    · have : i = n := by omega
      subst this
      rw [Nat.sub_self] at h2
      simp [hn, h2, repI]
def endsE (n : Int) (t : Tun) : Int := if t.From < 0 ∨ n ≤ t.From ∨ t.To < 0 ∨ n ≤ t.To then 5 else if t.From = t.To then 1 else 0
set_option maxHeartbeats 4000000 in
set_option maxRecDepth 10000 in
theorem t63 (n : Int) (t : Tun) : CFun Try.prog 63 [.int .i64 n, encT t] [] (.int .i64 (endsE n t)) [] := by
  refine CFun.intro (tr := []) (fz := []) (n := 30) (rs := [.tmp 4]) Try.func63 rfl (by kernel_rfl) rfl rfl mixed (by kernel_rfl) (by simp) (by simp) ?_
  unfold endsE
  by_cases g1 : t.From < 0
  · simp [g1]
  by_cases g2 : n ≤ t.From
  · simp [g1, g2]
  by_cases g3 : t.To < 0
  · simp [g1, g2, g3]
  by_cases g4 : n ≤ t.To
  · simp [g1, g2, g3, g4]
  by_cases g5 : t.From = t.To
  · simp [g5, g3, g4]
  simp [g1, g2, g3, g4, g5]
set_option maxHeartbeats 4000000 in
set_option maxRecDepth 10000 in
theorem t29 (n : Int) (t : Tun) : CFun Try.prog 29 [.int .i64 n, encT t] [] (.int .i64 (endsE n t)) [] := by
  refine CFun.intro (tr := []) (fz := []) (n := 30) (rs := [.tmp 4]) Try.func29 rfl (by kernel_rfl) rfl rfl mixed (by kernel_rfl) (by simp) (by simp) ?_
  unfold endsE
  by_cases g1 : t.From < 0
  · simp [g1]
  by_cases g2 : n ≤ t.From
  · simp [g1, g2]
  by_cases g3 : t.To < 0
  · simp [g1, g2, g3]
  by_cases g4 : n ≤ t.To
  · simp [g1, g2, g3, g4]
  by_cases g5 : t.From = t.To
  · simp [g5, g3, g4]
  simp [g1, g2, g3, g4, g5]
def pathB (l : List Lnk) (t : Tun) : Bool := if t.P.length = 0 then false else decide (t.P.getD 0 0 ≠ t.From) || decide (t.P.getD (t.P.length - 1) 0 ≠ t.To) || repB t.P || hasB (usesL l t.P) (-1)
def tunE (n : Int) (l : List Lnk) (t : Tun) : Int := if conE n t.W ≠ 0 then conE n t.W else if endsE n t ≠ 0 then endsE n t else if pathB l t = true then 20 else 0
def con0 : Con := ⟨0, 0, 0, 0, 0, 0, [], []⟩
theorem checkE_con {n : Int} {l : List Lnk} (h : checkE n l con0 = 0) (c : Con) : checkE n l c = conE n c ∧ checkE n [] c = conE n c := by
  obtain ⟨n1, n2, l2, lk, cn⟩ := check_links h
  unfold checkE
  rw [if_neg (by omega), if_neg (by omega), if_neg (by simpa using lk), if_neg (by omega), if_neg (by simp), if_neg (by simp [linksE])]
  exact ⟨rfl, rfl⟩
structure okTn (t : Tun) : Prop where
  p : t.P.length < 1000000
  a : t.W.Avoid.length < 9223372036854775807
  h : t.W.Thru.length < 9223372036854775807
set_option maxHeartbeats 8000000 in
set_option maxRecDepth 10000 in
-- tunnel.checkTunnel
theorem t27 (n : Int) (l : List Lnk) (k : Nat) (hk : l.length = k) (hk2 : k < 9223372036854775807) (hc : checkE n l con0 = 0) (t : Tun) (ok : okTn t) :
    CFun Try.prog 27 [.int .i64 n, .sl 13 (l.map encL) .sh, encT t] [] (.int .i64 (tunE n l t)) [] := by
  refine CFun.intro (tr := []) (fz := []) (n := 58) (rs := [.tmp 6]) Try.func27 rfl (by kernel_rfl) rfl rfl mixed (by kernel_rfl) (by simp) (by simp) ?_
  have h26 := fun H => ((c12 [] 0 rfl (by decide) t.W n _ _ rfl rfl ok.a ok.h).up' H (by simp [noid, noid0]) rfl).wk [.int .i64 n, .sl 0 [] .full, encC t.W] (by simp [noid, noid0]) ⟨LeS_refl _, by simp [LeS], LeS_refl _, trivial⟩
  rw [(checkE_con hc t.W).2] at h26
  have h63 := fun H => (t63 n t).up' H (by simp [noid, noid0]) rfl
  have h64 := fun H => (t64 t.P t.P.length rfl (by have := ok.p; omega)).up' H rfl rfl
  have h41 := fun H => (t41 l k hk hk2 t.P t.P.length rfl ok.p).up' H rfl rfl
  have h42 := fun H => (c24 (usesL l t.P) (t.P.length - 1) (by rw [usesL_len]) (by have := ok.p; omega) (-1)).up' H rfl rfl
  have hpl := ok.p
  unfold tunE pathB
  obtain ⟨m, hm⟩ : ∃ m, t.P.length = m := ⟨_, rfl⟩
  rw [hm] at hpl ⊢
  generalize conE n t.W = e1 at *
  generalize endsE n t = e2 at *
  generalize usesL l t.P = us at *
  generalize hasB us (-1) = b4 at *
  generalize repB t.P = b3 at *
  by_cases g1 : e1 = 0
  case neg =>
    simp
    refine ⟨_, _, .inl (by simpa using h26 _), by simp, ?_⟩
    simp [g1]
  subst g1
  by_cases g2 : e2 = 0
  case neg =>
    simp
    refine ⟨_, _, .inl (by simpa using h26 _), by simp, ?_⟩
    simp
    refine ⟨_, _, .inl (by simpa using h63 _), by simp, ?_⟩
    simp [g2]
  subst g2
  simp
  refine ⟨_, _, .inl (by simpa using h26 _), by simp, ?_⟩
  simp
  refine ⟨_, _, .inl (by simpa using h63 _), by simp, ?_⟩
  by_cases g3 : m = 0
  · simp [hm, g3]
  obtain ⟨x, hx⟩ : ∃ x, t.P[0]? = some x := ⟨_, List.getElem?_eq_getElem (by omega)⟩
  obtain ⟨y, hy⟩ : ∃ y, t.P[m - 1]? = some y := ⟨_, List.getElem?_eq_getElem (by omega)⟩
  have hm1 : 0 < m := by omega
  have hm2 : m - 1 < m := by omega
  have w1 : IntKind.i64.wrap ((m : Int) - 1) = ((m - 1 : Nat) : Int) := by
    rw [show ((m - 1 : Nat) : Int) = (m : Int) - 1 by omega]; exact wrap_in (by omega)
  by_cases g4 : x = t.From
  case neg => simp [hm, g3, hm1, hx, gE hx, g4]
  by_cases g5 : y = t.To
  case neg => simp [hm, g3, hm1, hm2, w1, hx, gE hx, hy, gE hy, g4, g5]
  simp [hm, g3, hm1, hm2, w1, hx, gE hx, hy, gE hy, g4, g5]
  refine ⟨_, _, .inl (by simpa [cargs] using h64 _), by simp [cargs], ?_⟩
  cases b3 with
  | true => simp
  | false =>
    simp [hm, g3, hm1, hm2, w1, hx, gE hx, hy, gE hy, g4, g5]
    refine ⟨_, _, .inl (by simpa [cargs] using h41 _), by simp [cargs], ?_⟩
    simp
    refine ⟨_, _, .inl (by simpa [cargs] using h42 _), by simp [cargs], ?_⟩
    cases b4 <;> simp
end Go.Proofs.Ytpmmnnaaoideeaa
