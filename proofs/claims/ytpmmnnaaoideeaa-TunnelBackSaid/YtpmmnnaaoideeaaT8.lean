/- The law of giving back, by the program. -/
import Derived.Test.YtpmmnnaaoideeaaT7
set_option linter.unusedSimpArgs false
set_option linter.unusedVariables false
namespace Go.Proofs.Ytpmmnnaaoideeaa
open Go Go.Am Go.Wk

set_option maxHeartbeats 16000000 in
set_option maxRecDepth 10000 in
theorem t6 (l : List Lnk) (n : Nat) (hn : l.length = n) (hn2 : n < 9223372036854775807) (hF : ∀ x ∈ l, okF x) (t : Tun) (m : Nat) (hm : t.P.length = m) (hm2 : m < 9223372036854775807) :
    CFun Try.prog 6 [.sl 13 (l.map encL) .sh, encT t] [] (.bool true) [] := by
  refine CFun.intro (tr := []) (fz := []) (n := 75) (rs := [.tmp 4]) Try.func6 rfl (by kernel_rfl) rfl rfl mixed (by kernel_rfl) (by simp) (by simp) ?_
  have h9 := fun H => t9.up' H rfl rfl
  by_cases b1 : 60 < n
  · have b1' : (60 : Int) < n := by omega
    simp [hn, b1, b1']
    refine ⟨_, _, .inl (by simpa using h9 _), by simp, ?_⟩
    simp
  have b1' : ¬ (60 : Int) < n := by omega
  by_cases b2 : 60 < m
  · have b2' : (60 : Int) < m := by omega
    simp [hn, hm, b1, b1', b2, b2']
    refine ⟨_, _, .inl (by simpa using h9 _), by simp, ?_⟩
    simp
  have b2' : ¬ (60 : Int) < m := by omega
  have h12 := fun H => (t12 l n hn (by omega)).up' H rfl rfl
  by_cases b3 : l.any bigL = true
  · rw [b3] at h12
    simp [hn, hm, b1, b1', b2, b2']
    refine ⟨_, _, .inl (by simpa using h12 _), by simp, ?_⟩
    simp
    refine ⟨_, _, .inl (by simpa using h9 _), by simp, ?_⟩
    simp
  have b3' : l.any bigL = false := by simpa using b3
  rw [b3'] at h12
  have h13 := fun H => (t13 l n hn (by omega) hF t m hm (by omega)).up' H (by simp [noid, noid0]) (by simp [noid, noid0])
  have h17 := fun H => (t17 l n hn hn2).up' H rfl rfl
  have hbl := back_law (l := l) (t := t)
  have hRl : (resN l t).2 = 0 → (resN l t).1.length = n ∧ ∀ x ∈ (resN l t).1, okF x := by
    intro h0
    unfold resN at h0 ⊢
    by_cases g1 : pathE l t = 0
    case neg => rw [if_pos g1] at h0; exact absurd h0 g1
    rw [if_neg (by simpa using g1)] at h0 ⊢
    by_cases g2 : roomB l t.W.Band (usesL l t.P) = false
    · rw [if_pos g2] at h0; simp at h0
    rw [if_neg g2] at h0 ⊢
    obtain ⟨⟨a1, a2⟩, ⟨a3, a4⟩, hus⟩ := pathE_ok g1
    cases hA : takeA t.W.Band t.W.Hold.toNat (usesL l t.P) l with
    | none => rw [hA] at h0; simp at h0
    | some o =>
      simp only
      rw [takeA_op] at hA
      have ho := opA_some (by omega) _ _ hus o hA
      rw [ho]
      refine ⟨by rw [chA_len, hn], fun x hx => ?_⟩
      obtain ⟨i, hi, he⟩ := List.getElem_of_mem hx
      have hg : (chA (-t.W.Band) t.W.Hold.toNat (usesL l t.P) l)[i]? = some x := by rw [List.getElem?_eq_getElem hi, he]
      rw [chA_get, Option.map_eq_some_iff] at hg
      obtain ⟨y, hy, rfl⟩ := hg
      have hyl := List.mem_of_getElem? hy
      have hcnt : cntI i (usesL l t.P) ≤ 60 := by
        unfold cntI
        have := List.countP_le_length (p := fun u => decide (u = (i : Int))) (l := usesL l t.P)
        rw [usesL_len] at this
        omega
      refine ⟨fun k hk => ?_, (hF y hyl).2⟩
      have hb := big_false b3' y hyl k hk
      simp only [chR]
      unfold inI
      split
      · have h1 : -(t.W.Band * (cntI i (usesL l t.P) : Int)) ≤ 0 := by
          have := Int.mul_nonneg a3 (Int.natCast_nonneg (cntI i (usesL l t.P)))
          omega
        have h2 : t.W.Band * (cntI i (usesL l t.P) : Int) ≤ 1099511627776 * 60 := Int.mul_le_mul a4 (by omega) (Int.natCast_nonneg _) (by omega)
        rw [Int.neg_mul]
        omega
      · omega
  have h15 := fun h0 : (resN l t).2 = 0 => fun H => (t15 (resN l t).1 n (hRl h0).1 (by omega) (hRl h0).2 t m hm (by omega)).up' H (by simp [noid, noid0]) (by simp [noid, noid0])
  simp [hn, hm, b1, b1', b2, b2']
  refine ⟨_, _, .inl (by simpa using h12 _), by simp, ?_⟩
  simp [hn]
  clear h12
  refine LoopK.intro (tr := []) mixed (by kernel_rfl) (fun i : Nat => [(0, .sl 13 (l.map encL) .sh), (3, .ptr 0 0), (27, .sl 13 (l.map encL) .sh), (28, .int .i64 n), (29, .int .i64 i)]) (fun _ => [cellsT t]) (fun i => i ≤ n ∧ ∀ j x, j < i → l[j]? = some x → ∀ k, k < 8 → x.Fr k ≤ x.Cap) (fun i => n - i) 0 ?_ ?_ ?_
  · exact ⟨by omega, fun j x hj => by omega⟩
  · simp
  · rintro i ⟨h1, h2⟩
    by_cases hi : i < n
    · obtain ⟨x, hx⟩ : ∃ x, l[i]? = some x := ⟨_, List.getElem?_eq_getElem (by omega)⟩
      have w1 : IntKind.i64.wrap ((i : Int) + 1) = i + 1 := wrap_in (by omega)
      simp [hi, hn, hx, gE hx]
      refine LoopK.intro (tr := []) mixed (by kernel_rfl) (fun k : Nat => [(0, .sl 13 (l.map encL) .sh), (3, .ptr 0 0), (6, .ptr 1 0), (27, .sl 13 (l.map encL) .sh), (28, .int .i64 n), (29, .int .i64 i), (34, .agg (frC x)), (35, .int .i64 k)]) (fun _ => [cellsT t, cellsL x]) (fun k => k ≤ 8 ∧ ∀ j, j < k → x.Fr j ≤ x.Cap) (fun k => 8 - k) 0 ?_ ?_ ?_
      · exact ⟨by omega, fun j hj => by omega⟩
      · simp
      · rintro k ⟨k1, k2⟩
        by_cases hk : k < 8
        · have hg := frC_get x hk
          have w2 : IntKind.i64.wrap ((k : Int) + 1) = k + 1 := wrap_in (by omega)
          have hk' : (k : Int) < 8 := by omega
          have hk7 : k ≤ 7 := by omega
          by_cases g : x.Cap < x.Fr k
          · simp [hk, hk', hk7, hg, gE hg, g]
            refine ⟨_, _, .inl (by simpa using h9 _), by simp, ?_⟩
            simp
          · simp [hk, hk', hk7, hg, gE hg, g, w2]
            refine ⟨k + 1, ⟨by omega, fun j hj => ?_⟩, by omega, by simp⟩
            by_cases e : j = k
            · subst e; omega
            · exact k2 j (by omega)
        · have : k = 8 := by omega
          subst this
          simp [w1]
          refine ⟨i + 1, ⟨by omega, fun j y hj hy => ?_⟩, by omega, by simp⟩
          by_cases e : j = i
          · subst e
            rw [hx] at hy
            injection hy with hy
            subst hy
            exact k2
          · exact h2 j y (by omega) hy
    · have : i = n := by omega
      subst this
      obtain ⟨l1, l2⟩ := hbl fun x hx k hk => by
        obtain ⟨j, hj, he⟩ := List.getElem_of_mem hx
        exact h2 j x (by omega) (by rw [List.getElem?_eq_getElem hj, he]) k hk
      clear hbl h2 hRl
      generalize resN l t = R at *
      obtain ⟨R, e⟩ := R
      simp only at l1 l2 h15 h13
      by_cases he : e = 0
      · subst he
        have h15 := h15 rfl
        rw [l2 rfl] at h15
        simp
        refine ⟨_, _, .inl (by simpa using h13 _), by simp, ?_⟩
        simp
        refine ⟨_, _, .inl (by simpa using h15 _), by simp, ?_⟩
        simp
        refine ⟨_, _, .inl (by simpa using h9 _), by simp, ?_⟩
        simp
        refine ⟨_, _, .inl (by simpa using h17 _), by simp, ?_⟩
        simp
      · have hR := l1 he
        subst hR
        simp
        refine ⟨_, _, .inl (by simpa using h13 _), by simp, ?_⟩
        simp [he]
        refine ⟨_, _, .inl (by simpa using h9 _), by simp, ?_⟩
        simp
end Go.Proofs.Ytpmmnnaaoideeaa
