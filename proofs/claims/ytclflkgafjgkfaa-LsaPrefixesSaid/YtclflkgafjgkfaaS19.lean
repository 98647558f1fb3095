import Derived.Test.YtclflkgafjgkfaaS18
set_option linter.unusedSimpArgs false
set_option linter.unusedVariables false
namespace Go.Proofs.Ytclflkgafjgkfaa
open Go Go.Am

theorem and_mask_val (A k : Nat) (hA : A < 2 ^ 32) (hk : k ≤ 32) : A &&& ((4294967295 * 2 ^ k) % 2 ^ 32) = A / 2 ^ k * 2 ^ k := by
  apply Nat.eq_of_testBit_eq
  intro i
  rw [Nat.testBit_and, mask_bits k i hk, Nat.testBit_mul_two_pow]
  by_cases h2 : k ≤ i
  · have e : (A / 2 ^ k).testBit (i - k) = A.testBit i := by
      rw [Nat.testBit_div_two_pow]
      congr 1; omega
    by_cases h1 : i < 32
    · simp [h1, h2, e]
    · have : A.testBit i = false := Nat.testBit_lt_two_pow (Nat.lt_of_lt_of_le hA (Nat.pow_le_pow_right (by omega) (by omega)))
      simp [h2, e, this]
  · simp [h2]
theorem keep_val (A m : Nat) (hA : A < 2 ^ 32) (hm : m ≤ 32) : keepI A m = ((A / 2 ^ (32 - m) * 2 ^ (32 - m) : Nat) : Int) := by
  rw [keep_nat A m hA hm, and_mask_val A (32 - m) hA (by omega)]

theorem and_pow (B s : Nat) : B &&& 2 ^ s = (B.testBit s).toNat * 2 ^ s := by
  apply Nat.eq_of_testBit_eq
  intro i
  rw [Nat.testBit_and, Nat.testBit_two_pow]
  by_cases h : s = i
  · subst h
    cases hb : B.testBit s <;> simp
  · cases hb : B.testBit s <;> simp [h, Nat.testBit_two_pow]

set_option maxHeartbeats 1000000 in
set_option maxRecDepth 10000 in
theorem c68 (A : Nat) (hA : A < 2 ^ 32) (m : Nat) (hm : m ≤ 32) : CFun Try.prog 68 [.int .u32 A, .int .i64 m] [] (.int .u32 (keepI A m)) [] := by
  refine CFun.intro (tr := []) (fz := []) (n := 24) (rs := [.tmp 4]) Try.func68 rfl (by kernel_rfl) rfl rfl mixed (by kernel_rfl) (by simp) (by simp) ?_
  simp
  refine LoopK.intro (tr := []) mixed (by kernel_rfl) (fun i : Nat => [(0, .int .u32 ((A / 2 ^ (32 - m) * 2 ^ (32 - m) + A % 2 ^ (32 - i) : Nat) : Int)), (5, .int .i64 i)]) (fun _ => []) (fun i => m ≤ i ∧ i ≤ 32) (fun i => 32 - i) m ?_ ?_ ?_
  · exact ⟨by omega, hm⟩
  · have e : A / 2 ^ (32 - m) * 2 ^ (32 - m) + A % 2 ^ (32 - m) = A := Nat.div_add_mod' A _
    rw [e]
    simp
  · rintro i ⟨i1, i2⟩
    by_cases hi : i < 32
    · have hi' : (i : Int) < 32 := by omega
      have w1 : IntKind.i64.wrap ((i : Int) + 1) = i + 1 := wrap_in (by omega)
      have w2 : IntKind.i64.wrap (31 - (i : Int)) = 31 - i := wrap_in (by omega)
      have w3 : IntKind.u64.wrap (31 - (i : Int)) = 31 - i := by rw [wrap_u64]; omega
      have w4 : ¬ (31 - (i : Int) < 0) := by omega
      generalize hB : A / 2 ^ (32 - m) * 2 ^ (32 - m) + A % 2 ^ (32 - i) = B
      simp [hi', w1, w2, w3, w4]
      obtain ⟨s, hs⟩ : ∃ s, 31 - i = s := ⟨_, rfl⟩
      have hs1 : 32 - i = s + 1 := by omega
      have hs2 : 32 - (i + 1) = s := by omega
      have hbits : IntKind.u32.bits = 32 := rfl
      have hmin : min s 32 = s := by omega
      rw [hs1] at hB
      have hp : 2 ^ s < 2 ^ 32 := Nat.pow_lt_pow_right (by omega) (by omega)
      have hBA : B ≤ A := by
        have h1 := Nat.div_add_mod' A (2 ^ (32 - m))
        have h2 : A % 2 ^ (s + 1) ≤ A % 2 ^ (32 - m) := by
          have : A % 2 ^ (32 - m) % 2 ^ (s + 1) = A % 2 ^ (s + 1) := Nat.mod_mod_of_dvd _ (Nat.pow_dvd_pow 2 (by omega))
          rw [← this]; exact Nat.mod_le _ _
        omega
      have hBm : B % 2 ^ (s + 1) = A % 2 ^ (s + 1) := by
        rw [← hB, Nat.add_mod, Nat.mod_mod]
        have : A / 2 ^ (32 - m) * 2 ^ (32 - m) % 2 ^ (s + 1) = 0 := Nat.mod_eq_zero_of_dvd (Nat.dvd_trans (Nat.pow_dvd_pow 2 (by omega)) (Nat.dvd_mul_left _ _))
        rw [this, Nat.zero_add, Nat.mod_mod]
      have hBt : B.testBit s = A.testBit s := by
        have h1 := Nat.testBit_mod_two_pow B (s + 1) s
        have h2 := Nat.testBit_mod_two_pow A (s + 1) s
        rw [hBm] at h1
        rw [h1] at h2
        simpa using h2
      have hw : IntKind.u32.wrap ((2 : Int) ^ s) = ((2 ^ s : Nat) : Int) := by
        have : ((2 : Int) ^ s) = ((2 ^ s : Nat) : Int) := by simp
        rw [this, wrap_u32]
        generalize 2 ^ s = p at hp ⊢
        omega
      have hd : A % 2 ^ (s + 1) = A % 2 ^ s + 2 ^ s * (A.testBit s).toNat := by
        rw [Nat.pow_succ, Nat.mod_mul, Nat.testBit_eq_decide_div_mod_eq]
        rcases Nat.mod_two_eq_zero_or_one (A / 2 ^ s) with h | h <;> simp [h]
      rw [hs, hbits, hmin, hw]
      have hand : (B % 2 ^ 32 &&& (((2 ^ s : Nat) : Int) % 2 ^ 32).toNat) = (A.testBit s).toNat * 2 ^ s := by
        have e1 : B % 2 ^ 32 = B := Nat.mod_eq_of_lt (by omega)
        have e2 : (((2 ^ s : Nat) : Int) % 2 ^ 32).toNat = 2 ^ s := by
          have h32 : ((2 : Int) ^ 32) = 4294967296 := by decide
          rw [h32]
          generalize 2 ^ s = p at hp ⊢
          omega
        rw [e1, e2, and_pow, hBt]
      rw [hand]
      generalize hhi : A / 2 ^ (32 - m) * 2 ^ (32 - m) = hi2 at hB
      cases hbit : A.testBit s
      · rw [hbit] at hd
        have hz : (((false.toNat * 2 ^ s : Nat)) : Int) = 0 := by simp
        rw [if_pos (by rw [hz]; rfl)]
        refine ⟨i + 1, ⟨by omega, by omega⟩, by omega, ?_, by omega⟩
        rw [hs2]
        have hh : B = A / 2 ^ (32 - m) * 2 ^ (32 - m) + A % 2 ^ s := by
          rw [hhi, ← hB, hd]; simp
        exact_mod_cast hh
      · rw [hbit] at hd
        have hz : (((true.toNat * 2 ^ s : Nat)) : Int) = ((2 ^ s : Nat) : Int) := by simp
        have hpos : 0 < 2 ^ s := Nat.pow_pos (by omega)
        rw [if_neg (by
          rw [hz, wrap_u32]
          generalize 2 ^ s = p at hp hpos ⊢
          omega)]
        refine ⟨i + 1, ⟨by omega, by omega⟩, by omega, ?_, by omega⟩
        rw [hs2]
        have hh : B = A / 2 ^ (32 - m) * 2 ^ (32 - m) + A % 2 ^ s + 2 ^ s := by
          rw [hhi, ← hB, hd]
          simp
          omega
        have hlt : B < 2 ^ 32 := by omega
        have hsub : IntKind.u32.wrap ((B : Int) - ((2 ^ s : Nat) : Int)) = ((B - 2 ^ s : Nat) : Int) := by
          rw [wrap_u32]
          generalize 2 ^ s = p at hp hh ⊢
          omega
        rw [hsub]
        have hh2 : B - 2 ^ s = A / 2 ^ (32 - m) * 2 ^ (32 - m) + A % 2 ^ s := by omega
        rw [hh2]
        push_cast
        rfl
    · have hi' : ¬ ((i : Int) < 32) := by omega
      have h32 : i = 32 := by omega
      subst h32
      have e : A / 2 ^ (32 - m) * 2 ^ (32 - m) + A % 2 ^ (32 - 32) = A / 2 ^ (32 - m) * 2 ^ (32 - m) := by
        have : A % 2 ^ (32 - 32) = 0 := Nat.mod_one A
        omega
      rw [e, keep_val A m hA hm]
      simp
end Go.Proofs.Ytclflkgafjgkfaa
