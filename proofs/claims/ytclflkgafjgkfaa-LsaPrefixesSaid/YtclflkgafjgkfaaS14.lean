import Derived.Test.YtclflkgafjgkfaaS13
set_option linter.unusedSimpArgs false
set_option linter.unusedVariables false
namespace Go.Proofs.Ytclflkgafjgkfaa
open Go Go.Am

theorem low_bits (A k : Nat) : (∀ s, s < k → A.testBit s = false) ↔ A % 2 ^ k = 0 := by
  constructor
  · intro h
    apply Nat.eq_of_testBit_eq
    intro i
    rw [Nat.testBit_mod_two_pow, Nat.zero_testBit]
    by_cases hi : i < k
    · simp [h i hi]
    · simp [hi]
  · intro h s hs
    have := congrArg (fun x => x.testBit s) h
    simpa [Nat.testBit_mod_two_pow, hs] using this

theorem mask_bits (k i : Nat) (hk : k ≤ 32) : ((4294967295 * 2 ^ k) % 2 ^ 32).testBit i = (decide (i < 32) && decide (k ≤ i)) := by
  rw [Nat.testBit_mod_two_pow, Nat.testBit_mul_two_pow]
  have e : (4294967295 : Nat) = 2 ^ 32 - 1 := by decide
  rw [e, Nat.testBit_two_pow_sub_one]
  by_cases h1 : i < 32
  · by_cases h2 : k ≤ i
    · have : i - k < 32 := by omega
      simp [h1, h2, this]
    · simp [h2]
  · simp [h1]

theorem and_mask (A k : Nat) (hA : A < 2 ^ 32) (hk : k ≤ 32) : A &&& ((4294967295 * 2 ^ k) % 2 ^ 32) = A ↔ ∀ s, s < k → A.testBit s = false := by
  constructor
  · intro h s hs
    have := congrArg (fun x => x.testBit s) h
    simp only [Nat.testBit_and, mask_bits k s hk] at this
    have h2 : ¬ (k ≤ s) := by omega
    simpa [h2] using this.symm
  · intro h
    apply Nat.eq_of_testBit_eq
    intro i
    rw [Nat.testBit_and, mask_bits k i hk]
    by_cases h2 : k ≤ i
    · by_cases h1 : i < 32
      · simp [h1, h2]
      · have : A.testBit i = false := Nat.testBit_lt_two_pow (Nat.lt_of_lt_of_le hA (Nat.pow_le_pow_right (by omega) (by omega)))
        simp [this]
    · simp [h2, h i (by omega)]

theorem wrap_u32 (x : Int) : IntKind.u32.wrap x = x % 4294967296 := rfl
theorem mask_nat (m : Nat) (hm : m ≤ 32) : maskI m = ((4294967295 * 2 ^ (32 - m) % 2 ^ 32 : Nat) : Int) := by
  unfold maskI
  have hc : clampI m 32 = m := by
    unfold clampI
    rw [if_neg (by omega), if_neg (by omega)]
  have e : min (32 - (m : Int)).toNat 32 = 32 - m := by omega
  rw [hc, e, wrap_u32]
  simp
theorem keep_nat (A m : Nat) (hA : A < 2 ^ 32) (hm : m ≤ 32) : keepI A m = ((A &&& (4294967295 * 2 ^ (32 - m) % 2 ^ 32) : Nat) : Int) := by
  unfold keepI
  rw [mask_nat m hm]
  have h1 : ((A : Int) % 4294967296).toNat = A := by omega
  have hM : 4294967295 * 2 ^ (32 - m) % 2 ^ 32 < 2 ^ 32 := Nat.mod_lt _ (by omega)
  generalize 4294967295 * 2 ^ (32 - m) % 2 ^ 32 = M at hM ⊢
  have h2 : ((M : Int) % 4294967296).toNat = M := by omega
  simp only [BitVec.toNat_and, BitVec.toNat_ofInt]
  have hp : ((2 ^ 32 : Nat) : Int) = 4294967296 := by decide
  rw [hp, h1, h2, wrap_u32]
  have : A &&& M < 2 ^ 32 := Nat.lt_of_le_of_lt Nat.and_le_left hA
  omega
/-- A prefix is valid if its last bits are 0. -/
theorem valid_bits (A m : Nat) (hA : A < 2 ^ 32) (hm : m ≤ 32) : validP A m = true ↔ ∀ s, s < 32 - m → A.testBit s = false := by
  have h0 : (0 : Int) ≤ m := by omega
  have h1 : (m : Int) ≤ 32 := by omega
  simp only [validP, h0, h1, decide_true, Bool.true_and, decide_eq_true_eq]
  rw [keep_nat A m hA hm, ← and_mask A (32 - m) hA (by omega)]
  omega

theorem bit_here (A : Nat) (hA : A < 2 ^ 32) (s : Nat) (hs : s ≤ 31) : IntKind.u32.wrap (((((A : Int).fdiv (2 ^ min s IntKind.u32.bits)) % 2 ^ IntKind.u32.bits).toNat &&& 1 % 2 ^ IntKind.u32.bits : Nat) : Int) = 1 ↔ A.testBit s = true := by
  have hbits : IntKind.u32.bits = 32 := rfl
  have hmin : min s 32 = s := by omega
  have hp : (2 : Int) ^ s = ((2 ^ s : Nat) : Int) := by simp
  have hd : (A : Int).fdiv (2 ^ s) = ((A / 2 ^ s : Nat) : Int) := by
    rw [hp, Int.fdiv_eq_ediv_of_nonneg _ (Int.natCast_nonneg _)]
    exact (Int.natCast_ediv _ _).symm
  have hq : A / 2 ^ s < 2 ^ 32 := Nat.lt_of_le_of_lt (Nat.div_le_self _ _) hA
  rw [hbits, hmin, hd]
  have h32 : ((2 : Int) ^ 32) = 4294967296 := by decide
  have h1 : 1 % 2 ^ 32 = 1 := by decide
  rw [h32, h1]
  rw [Nat.testBit_eq_decide_div_mod_eq]
  generalize A / 2 ^ s = q at hq ⊢
  have h2 : ((q : Int) % 4294967296).toNat = q := by omega
  rw [h2, Nat.and_one_is_mod, wrap_u32, decide_eq_true_eq]
  omega

set_option maxHeartbeats 1000000 in
set_option maxRecDepth 10000 in
theorem c70 (A : Nat) (hA : A < 2 ^ 32) (n : Int) : CFun Try.prog 70 [.int .u32 A, .int .i64 n] [] (.bool (validP A n)) [] := by
  refine CFun.intro (tr := []) (fz := []) (n := 24) (rs := [.tmp 4]) Try.func70 rfl (by kernel_rfl) rfl rfl mixed (by kernel_rfl) (by simp) (by simp) ?_
  by_cases h0 : n < 0
  · have : ¬ (0 ≤ n) := by omega
    simp [h0, validP, this]
  by_cases h1 : 32 < n
  · have : ¬ (n ≤ 32) := by omega
    simp [h0, h1, validP, this]
  obtain ⟨m, rfl⟩ : ∃ m : Nat, n = m := ⟨n.toNat, by omega⟩
  have hm : m ≤ 32 := by omega
  simp [h0, h1]
  refine LoopK.intro (tr := []) mixed (by kernel_rfl) (fun i : Nat => [(0, .int .u32 A), (5, .int .i64 i)]) (fun _ => []) (fun i => m ≤ i ∧ i ≤ 32 ∧ ∀ j, m ≤ j → j < i → A.testBit (31 - j) = false) (fun i => 32 - i) m ?_ ?_ ?_
  · exact ⟨by omega, hm, by omega⟩
  · simp
  · rintro i ⟨i1, i2, i3⟩
    by_cases hi : i < 32
    · have hi' : (i : Int) < 32 := by omega
      have w1 : IntKind.i64.wrap ((i : Int) + 1) = i + 1 := wrap_in (by omega)
      have w2 : IntKind.i64.wrap (31 - (i : Int)) = 31 - i := wrap_in (by omega)
      have w3 : IntKind.u64.wrap (31 - (i : Int)) = 31 - i := by rw [wrap_u64]; omega
      have w4 : ¬ (31 - (i : Int) < 0) := by omega
      simp [hi', w1, w2, w3, w4]
      have hb := bit_here A hA (31 - i)
      by_cases hbit : A.testBit (31 - i) = true
      · have hv : validP A m = false := by
          cases hv : validP A m
          · rfl
          · have := (valid_bits A m hA hm).1 hv (31 - i) (by omega)
            rw [this] at hbit; cases hbit
        rw [if_pos ((hb (by omega)).2 hbit)]
        exact hv
      · rw [if_neg (fun h => hbit ((hb (by omega)).1 h))]
        refine ⟨i + 1, ⟨by omega, by omega, fun j j1 j2 => ?_⟩, by omega, by omega⟩
        by_cases hji : j = i
        · subst hji; simpa using hbit
        · exact i3 j j1 (by omega)
    · have hi' : ¬ ((i : Int) < 32) := by omega
      have hv : validP A m = true := (valid_bits A m hA hm).2 fun s hs => by
        have := i3 (31 - s) (by omega) (by omega)
        rwa [show 31 - (31 - s) = s by omega] at this
      simp [hi', hv]
end Go.Proofs.Ytclflkgafjgkfaa
