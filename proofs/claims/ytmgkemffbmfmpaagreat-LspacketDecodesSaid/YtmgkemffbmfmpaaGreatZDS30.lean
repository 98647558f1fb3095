import Derived.Test.YtmgkemffbmfmpaaGreatZDS24
set_option linter.unusedSimpArgs false
set_option linter.unusedVariables false
namespace Go.Proofs.YtmgkemffbmfmpaaGreat
open Go Go.Am
set_option linter.unusedSimpArgs false

def isB (b : List Int) : Prop := ∀ x ∈ b, 0 ≤ x ∧ x ≤ 255
theorem wrap_i (x : Int) (h1 : -9223372036854775808 ≤ x) (h2 : x ≤ 9223372036854775807) : IntKind.i64.wrap x = x := wrap_in ⟨h1, h2⟩
theorem tmod_pos (x : Int) (h : 0 ≤ x) : x.tmod 255 = x % 255 := Int.tmod_eq_emod_of_nonneg h

/-- One step, with numbers that need no wrapping. -/
theorem step_plain {n : Nat} (hn : n < 1099511627776) {i : Nat} (hi : i ≤ n) {s : Int × Int} (h0 : 0 ≤ s.1 ∧ s.1 < 255) (h1 : 0 ≤ s.2 ∧ s.2 < 255) {b : Int} (hb : 0 ≤ b ∧ b ≤ 255) :
    (IntKind.i64.wrap (s.1 + IntKind.i64.wrap b)).tmod 255 = (s.1 + b) % 255 ∧
    (IntKind.i64.wrap (s.2 + IntKind.i64.wrap ((IntKind.i64.wrap ((n : Int) - i)).tmod 255 * IntKind.i64.wrap b))).tmod 255 = (s.2 + (((n : Int) - i) % 255) * b) % 255 := by
  have e1 : IntKind.i64.wrap b = b := wrap_i b (by omega) (by omega)
  have e2 : IntKind.i64.wrap ((n : Int) - i) = n - i := wrap_i _ (by omega) (by omega)
  rw [e1, e2, tmod_pos ((n : Int) - i) (by omega)]
  have t0 : 0 ≤ ((n : Int) - i) % 255 := by omega
  have t1 : ((n : Int) - i) % 255 < 255 := by omega
  have p0 : 0 ≤ (((n : Int) - i) % 255) * b := Int.mul_nonneg t0 hb.1
  have p1 : (((n : Int) - i) % 255) * b ≤ 255 * 255 := Int.mul_le_mul (by omega) hb.2 hb.1 (by omega)
  generalize (((n : Int) - i) % 255) * b = p at p0 p1 ⊢
  rw [wrap_i p (by omega) (by omega), wrap_i (s.1 + b) (by omega) (by omega), wrap_i (s.2 + p) (by omega) (by omega), tmod_pos (s.1 + b) (by omega), tmod_pos (s.2 + p) (by omega)]
  exact ⟨rfl, rfl⟩
theorem step_lt (x : Int) : 0 ≤ x % 255 ∧ x % 255 < 255 := by omega

theorem sums_zero {n : Nat} (hn : n < 1099511627776) (at_ : Nat) (hat : at_ < n) : ∀ (l l' : List Int) (i : Nat) (s : Int × Int), l.length = l'.length → i + l.length ≤ n → isB l → (0 ≤ s.1 ∧ s.1 < 255) → (0 ≤ s.2 ∧ s.2 < 255) →
    (∀ j x y, l[j]? = some x → l'[j]? = some y → y = if i + j = at_ ∨ i + j = at_ + 1 then 0 else x) →
    sumsL n (-1) l' i s = sumsL n at_ l i s ∧ (0 ≤ (sumsL n at_ l i s).1 ∧ (sumsL n at_ l i s).1 < 255) ∧ (0 ≤ (sumsL n at_ l i s).2 ∧ (sumsL n at_ l i s).2 < 255) := by
  intro l
  induction l with
  | nil =>
    intro l' i s h1 h2 h3 h4 h5 h6
    have : l' = [] := List.eq_nil_of_length_eq_zero (by simpa using h1.symm)
    subst this
    exact ⟨rfl, h4, h5⟩
  | cons b l ih =>
    intro l' i s h1 h2 h3 h4 h5 h6
    cases l' with
    | nil => simp at h1
    | cons b' l' =>
      have hb := h3 b (by simp)
      have e := h6 0 b b' rfl rfl
      simp only [Nat.add_zero] at e
      have hi : i ≤ n := by simp at h2; omega
      have hw : IntKind.i64.wrap ((at_ : Int) + 1) = at_ + 1 := wrap_i _ (by omega) (by omega)
      simp only [sumsL]
      have hs1 : sumStep n (-1) i s b' = ((s.1 + b') % 255, (s.2 + (((n : Int) - i) % 255) * b') % 255) := by
        have hb' : 0 ≤ b' ∧ b' ≤ 255 := by rw [e]; split <;> omega
        obtain ⟨q1, q2⟩ := step_plain hn hi h4 h5 hb'
        simp only [sumStep]
        rw [if_neg (by omega), q1, q2]
      have hs2 : sumStep n at_ i s b = ((s.1 + b') % 255, (s.2 + (((n : Int) - i) % 255) * b') % 255) := by
        simp only [sumStep, hw]
        by_cases hz : i = at_ ∨ i = at_ + 1
        · rw [if_pos ⟨by omega, by omega⟩]
          rw [if_pos hz] at e
          subst e
          have r1 : (s.1 + 0) % 255 = s.1 := by omega
          have r2 : (s.2 + (((n : Int) - i) % 255) * 0) % 255 = s.2 := by rw [Int.mul_zero]; omega
          rw [r1, r2]
        · rw [if_neg (by omega)]
          rw [if_neg hz] at e
          subst e
          obtain ⟨q1, q2⟩ := step_plain hn hi h4 h5 hb
          rw [q1, q2]
      rw [hs1, hs2]
      exact ih l' (i + 1) _ (by simpa using h1) (by simp at h2; omega) (fun x hx => h3 x (by simp [hx])) (step_lt _) (step_lt _) (fun j x y hx hy => by
        have := h6 (j + 1) x y (by simpa using hx) (by simpa using hy)
        rw [this, show i + (j + 1) = i + 1 + j by omega])

theorem sums_with {b : List Int} (hb : isB b) (hn : b.length < 1099511627776) (at_ : Nat) (hat : at_ + 1 < b.length) :
    sumsL b.length (-1) (withB b at_ 0) 0 (0, 0) = sumsL b.length at_ b 0 (0, 0) ∧ (0 ≤ (sumsL b.length at_ b 0 (0, 0)).1 ∧ (sumsL b.length at_ b 0 (0, 0)).1 < 255) ∧ (0 ≤ (sumsL b.length at_ b 0 (0, 0)).2 ∧ (sumsL b.length at_ b 0 (0, 0)).2 < 255) := by
  refine sums_zero hn at_ (by omega) b (withB b at_ 0) 0 (0, 0) (by simp [withB]) (by simp) hb (by simp) (by simp) ?_
  intro j x y hx hy
  have z : IntKind.u8.wrap (Int.tdiv 0 256) = 0 := by decide
  have z' : IntKind.u8.wrap (Int.tmod 0 256) = 0 := by decide
  simp only [withB, z, z', List.getElem?_set] at hy
  rw [Nat.zero_add]
  have hj := (List.getElem?_eq_some_iff.1 hx).1
  by_cases h1 : at_ + 1 = j
  · rw [if_pos h1] at hy
    simp only [List.length_set] at hy
    rw [if_pos (by omega)] at hy
    injection hy with hy
    rw [if_pos (by omega), hy]
  · rw [if_neg h1] at hy
    by_cases h2 : at_ = j
    · rw [if_pos h2, if_pos (by omega)] at hy
      injection hy with hy
      rw [if_pos (by omega), hy]
    · rw [if_neg h2, hx] at hy
      injection hy with hy
      rw [if_neg (by omega), hy]

theorem resI_plain (n : Int) (h1 : -1000000 ≤ n) (h2 : n ≤ 1000000) : resI n = (n - 1) % 255 + 1 := by
  unfold resI
  rw [wrap_i (n - 1) (by omega) (by omega)]
  have h3 : -255 < (n - 1).tmod 255 := Int.lt_tmod_of_pos _ (by decide)
  have h4 : (n - 1).tmod 255 < 255 := Int.tmod_lt_of_pos _ (by decide)
  have h5 : ((n - 1).tmod 255 + 255) % 255 = (n - 1) % 255 := by
    have := Int.tmod_add_mul_tdiv (n - 1) 255
    omega
  have h6 : 0 ≤ ((n - 1).tmod 255 + 255) % 255 ∧ ((n - 1).tmod 255 + 255) % 255 < 255 := step_lt _
  rw [wrap_i ((n - 1).tmod 255 + 255) (by omega) (by omega), tmod_pos ((n - 1).tmod 255 + 255) (by omega), wrap_i (((n - 1).tmod 255 + 255) % 255 + 1) (by omega) (by omega), h5]

/-- The two bytes. -/
theorem two_bytes (m s0 s1 x : Int) (hx : 1 ≤ x ∧ x ≤ 255) :
    (s1 + (m % 255) * x + ((m % 255 + 254) % 255) * (255 - (s0 + x) % 255)) % 255 = 0 ↔ x = ((m - 1) % 255 * s0 - s1 - 1) % 255 + 1 := by
  have t1 : (m % 255 + 254) % 255 = (m - 1) % 255 := by omega
  rw [t1]
  obtain ⟨j, hj⟩ : ∃ j, m % 255 = (m - 1) % 255 + 1 - 255 * j := ⟨((m - 1) % 255 + 1 - m % 255) / 255, by omega⟩
  obtain ⟨q, hq⟩ : ∃ q, (s0 + x) % 255 = s0 + x - 255 * q := ⟨(s0 + x) / 255, by omega⟩
  rw [hj, hq]
  generalize (m - 1) % 255 = t
  have e : s1 + (t + 1 - 255 * j) * x + t * (255 - (s0 + x - 255 * q)) = s1 + x - t * s0 + 255 * (t + t * q - j * x) := by
    simp only [Int.mul_add, Int.add_mul, Int.mul_sub, Int.sub_mul, Int.one_mul]
    rw [Int.mul_left_comm t 255 q, Int.mul_assoc 255 j x]
    omega
  rw [e]
  generalize t + t * q - j * x = k
  generalize t * s0 = p
  omega
end Go.Proofs.YtmgkemffbmfmpaaGreat

namespace Go.Proofs.YtmgkemffbmfmpaaGreat
open Go Go.Am
set_option linter.unusedSimpArgs false

theorem fletch_plain {b : List Int} (hb : isB b) (hn : b.length < 1099511627776) (at_ : Nat) (hat : at_ + 1 < b.length) (s0 s1 X : Int) (hs0 : s0 = (sumsL b.length at_ b 0 (0, 0)).1) (hs1 : s1 = (sumsL b.length at_ b 0 (0, 0)).2)
    (hX : X = (((b.length : Int) - at_ - 1) % 255 * s0 - s1 - 1) % 255 + 1) : fletch b at_ = (X * 256 + (255 - (s0 + X) % 255), true) := by
  obtain ⟨_, b0, b1⟩ := sums_with hb hn at_ hat
  rw [← hs0] at b0
  rw [← hs1] at b1
  have w1 : IntKind.i64.wrap ((b.length : Int) - 1) = b.length - 1 := wrap_i _ (by omega) (by omega)
  unfold fletch
  rw [w1, if_neg (by omega)]
  simp only
  rw [← hs0, ← hs1]
  have w2 : IntKind.i64.wrap ((b.length : Int) - at_) = b.length - at_ := wrap_i _ (by omega) (by omega)
  rw [w2, wrap_i ((b.length : Int) - at_ - 1) (by omega) (by omega), tmod_pos ((b.length : Int) - at_ - 1) (by omega)]
  have t0 : 0 ≤ ((b.length : Int) - at_ - 1) % 255 := by omega
  have t1 : ((b.length : Int) - at_ - 1) % 255 < 255 := by omega
  generalize ((b.length : Int) - at_ - 1) % 255 = t at t0 t1 hX ⊢
  have p0 : 0 ≤ t * s0 := Int.mul_nonneg t0 b0.1
  have p1 : t * s0 ≤ 255 * 255 := Int.mul_le_mul (by omega) (by omega) b0.1 (by omega)
  generalize t * s0 = p at p0 p1 hX ⊢
  rw [wrap_i p (by omega) (by omega), wrap_i (p - s1) (by omega) (by omega), resI_plain (p - s1) (by omega) (by omega), ← hX]
  have hx : 1 ≤ X ∧ X ≤ 255 := by omega
  rw [wrap_i (0 - s0) (by omega) (by omega), wrap_i (0 - s0 - X) (by omega) (by omega), resI_plain (0 - s0 - X) (by omega) (by omega), wrap_i (256 * X) (by omega) (by omega), wrap_i _ (by omega) (by omega)]
  congr 1
  omega

set_option maxHeartbeats 4000000 in
set_option maxRecDepth 10000 in
theorem c86 (b : List Int) (hb : isB b) (hlen : b.length < 1099511627776) (at_ : Nat) (hat : at_ + 1 < b.length) : CFun Tryz.prog 109 [encBs b, .int .i64 at_] [] (.tup [.int .i64 (fletch b at_).1, .bool (fletch b at_).2]) [] := by
  refine CFun.intro (tr := []) (fz := []) (n := 58) (rs := [.tmp 4, .tmp 5]) Tryz.func109 rfl (by kernel_rfl) rfl rfl mixed (by kernel_rfl) (by simp) (by simp) ?_
  have h100 := c100 b at_ hat hlen 0
  have hl : (withB b at_ 0).length = b.length := by simp [withB]
  have h99 := c99 (withB b at_ 0) b.length (by omega) (by omega)
  obtain ⟨e1, b0, b1⟩ := sums_with hb hlen at_ hat
  rw [e1] at h99
  have hf := fletch_plain hb hlen at_ hat _ _ _ rfl rfl rfl
  generalize hs0 : (sumsL b.length at_ b 0 (0, 0)).1 = s0 at h99 b0 hf
  generalize hs1 : (sumsL b.length at_ b 0 (0, 0)).2 = s1 at h99 b1 hf
  rw [hf]
  clear hf e1 hs0 hs1
  obtain ⟨n, hn⟩ : ∃ n, b.length = n := ⟨_, rfl⟩
  rw [hn] at hlen hat ⊢
  generalize withB b at_ 0 = c at h99 h100 hl
  have hc : (b.length : Int) = n := by omega
  have w1 : IntKind.i64.wrap ((n : Int) - 1) = n - 1 := wrap_i _ (by omega) (by omega)
  have w2 : IntKind.i64.wrap ((n : Int) - at_) = n - at_ := wrap_i _ (by omega) (by omega)
  have a1 : ¬ ((at_ : Int) < 0) := by omega
  have a2 : ¬ ((n : Int) - 1 ≤ at_) := by omega
  have a3 : ((n : Int) - at_).tmod 255 = ((n : Int) - at_) % 255 := tmod_pos _ (by omega)
  have hXr : 1 ≤ (((n : Int) - at_ - 1) % 255 * s0 - s1 - 1) % 255 + 1 ∧ (((n : Int) - at_ - 1) % 255 * s0 - s1 - 1) % 255 + 1 ≤ 255 := by omega
  have h2 := fun x => two_bytes ((n : Int) - at_) s0 s1 x
  generalize (((n : Int) - at_ - 1) % 255 * s0 - s1 - 1) % 255 + 1 = X at hXr h2 ⊢
  have hm0 : 0 ≤ ((n : Int) - at_) % 255 := by omega
  have hm1 : ((n : Int) - at_) % 255 < 255 := by omega
  simp [hc, w1, a1, a2]
  refine ⟨_, _, .inl h100, trivial, ?_⟩
  simp
  refine ⟨_, _, .inl h99, trivial, ?_⟩
  simp [hc, w2, a3]
  generalize ((n : Int) - at_) % 255 = m at hm0 hm1 h2
  clear h99 h100 a1 a2 a3 w1 w2 hl
  refine LoopK.intro (tr := []) mixed (by kernel_rfl) (fun x : Int => [(6, .int .i64 s0), (7, .int .i64 s1), (8, .int .i64 m), (9, .int .i64 x)]) (fun q => [])
    (fun x => 1 ≤ x ∧ x ≤ X) (fun x => (256 - x).toNat) 1 ?_ ?_ ?_
  · omega
  · simp
  · rintro x ⟨x1, x2⟩
    have v1 : IntKind.i64.wrap (s0 + x) = s0 + x := wrap_i _ (by omega) (by omega)
    have v2 : (s0 + x).tmod 255 = (s0 + x) % 255 := tmod_pos _ (by omega)
    have q0 : 0 ≤ (s0 + x) % 255 ∧ (s0 + x) % 255 < 255 := step_lt _
    have v3 : IntKind.i64.wrap (255 - (s0 + x) % 255) = 255 - (s0 + x) % 255 := wrap_i _ (by omega) (by omega)
    have p1 : 0 ≤ m * x := Int.mul_nonneg hm0 (by omega)
    have p2 : m * x ≤ 255 * 255 := Int.mul_le_mul (by omega) (by omega) (by omega) (by omega)
    have v4 : IntKind.i64.wrap (m * x) = m * x := wrap_i _ (by omega) (by omega)
    have v5 : IntKind.i64.wrap (s1 + m * x) = s1 + m * x := wrap_i _ (by omega) (by omega)
    have v6 : IntKind.i64.wrap (m + 254) = m + 254 := wrap_i _ (by omega) (by omega)
    have v7 : (m + 254).tmod 255 = (m + 254) % 255 := tmod_pos _ (by omega)
    have q1 : 0 ≤ (m + 254) % 255 ∧ (m + 254) % 255 < 255 := step_lt _
    have p3 : 0 ≤ (m + 254) % 255 * (255 - (s0 + x) % 255) := Int.mul_nonneg q1.1 (by omega)
    have p4 : (m + 254) % 255 * (255 - (s0 + x) % 255) ≤ 255 * 255 := Int.mul_le_mul (by omega) (by omega) (by omega) (by omega)
    have v8 : IntKind.i64.wrap ((m + 254) % 255 * (255 - (s0 + x) % 255)) = (m + 254) % 255 * (255 - (s0 + x) % 255) := wrap_i _ (by omega) (by omega)
    have v9 : IntKind.i64.wrap (s1 + m * x + (m + 254) % 255 * (255 - (s0 + x) % 255)) = s1 + m * x + (m + 254) % 255 * (255 - (s0 + x) % 255) := wrap_i _ (by omega) (by omega)
    have v10 : (s1 + m * x + (m + 254) % 255 * (255 - (s0 + x) % 255)).tmod 255 = (s1 + m * x + (m + 254) % 255 * (255 - (s0 + x) % 255)) % 255 := tmod_pos _ (by omega)
    have v11 : IntKind.i64.wrap (x + 1) = x + 1 := wrap_i _ (by omega) (by omega)
    have v12 : IntKind.i64.wrap (x * 256) = x * 256 := wrap_i _ (by omega) (by omega)
    have v13 : IntKind.i64.wrap (x * 256 + (255 - (s0 + x) % 255)) = x * 256 + (255 - (s0 + x) % 255) := wrap_i _ (by omega) (by omega)
    have hle : x ≤ 255 := by omega
    have hk := h2 x (by omega)
    by_cases hx : x = X
    · have hz := hk.2 hx
      simp [hle, v1, v2, v3, v4, v5, v6, v7, v8, v9, v10, v12, v13, hz]
      rw [hx]
    · have hz : ((s1 + m * x + (m + 254) % 255 * (255 - (s0 + x) % 255)) % 255 == 0) = false := by
        rw [beq_eq_false_iff_ne]; exact fun e => hx (hk.1 e)
      simp [hle, v1, v2, v3, v4, v5, v6, v7, v8, v9, v10, hz]
      exact ⟨by rw [v11]; omega, by rw [v11]; omega⟩
end Go.Proofs.YtmgkemffbmfmpaaGreat

namespace Go.Proofs.YtmgkemffbmfmpaaGreat
open Go Go.Am
set_option linter.unusedSimpArgs false

@[simp] theorem tstr_39_9 : tstr Tryz.prog 22 9 = true := by kernel_rfl

theorem bt_in (x : Int) (i : Nat) : 0 ≤ bt x i ∧ bt x i ≤ 255 := by
  have : bt x i = (x.fdiv (2 ^ (8 * i))) % 256 := rfl
  omega
theorem isB_numB (n : Nat) (x : Int) : isB (numB n x) := by
  induction n with
  | zero => intro y hy; simp [numB] at hy
  | succ n ih =>
    intro y hy
    simp only [numB, List.mem_cons] at hy
    rcases hy with rfl | hy
    · exact bt_in x n
    · exact ih y hy
theorem isB_app {a b : List Int} (ha : isB a) (hb : isB b) : isB (a ++ b) := by
  intro y hy
  rcases List.mem_append.1 hy with h | h
  · exact ha y h
  · exact hb y h
theorem isB_flat {α : Type} (f : α → List Int) (l : List α) (h : ∀ x, isB (f x)) : isB ((l.map f).flatten) := by
  intro y hy
  obtain ⟨z, hz, hy⟩ := List.mem_flatten.1 hy
  obtain ⟨x, _, rfl⟩ := List.mem_map.1 hz
  exact h x y hy
theorem isB_nil : isB [] := by intro x hx; simp at hx
theorem isB_hdrB (h : Hdr) : isB (hdrB h) := by
  unfold hdrB
  repeat' apply isB_app
  all_goals exact isB_numB _ _
theorem isB_bodyB (l : Lsa) : isB (bodyB l) := by
  unfold bodyB
  repeat' split
  · exact isB_app (isB_app (isB_numB _ _) (isB_numB _ _)) (isB_flat _ _ fun x => by unfold linkB; exact isB_app (isB_app (isB_app (isB_numB _ _) (isB_numB _ _)) (isB_numB _ _)) (isB_numB _ _))
  · exact isB_app (isB_numB _ _) (isB_flat _ _ fun x => isB_numB _ _)
  · exact isB_numB _ _
  · exact isB_app (isB_app (isB_app (isB_numB _ _) (isB_numB _ _)) (isB_numB _ _)) (isB_numB _ _)
  · exact isB_nil
theorem isB_bytesA (l : Lsa) : isB (bytesA l) := isB_app (isB_app (isB_hdrB _) (isB_numB _ _)) (isB_bodyB _)
theorem isB_drop {b : List Int} (h : isB b) (n : Nat) : isB (b.drop n) := fun x hx => h x (List.mem_of_mem_drop hx)
theorem isB_take {b : List Int} (h : isB b) (n : Nat) : isB (b.take n) := fun x hx => h x (List.mem_of_mem_take hx)
set_option maxHeartbeats 1000000 in
set_option maxRecDepth 10000 in
theorem c57 (l : Lsa) (hl : l.Links.length ≤ 64) (ha : l.Att.length ≤ 64) : CFun Tryz.prog 96 [encA l] [] (.int .i64 (sumA l)) [] := by
  refine CFun.intro (tr := []) (fz := []) (n := 13) (rs := [.tmp 2]) Tryz.func96 rfl (by kernel_rfl) rfl rfl mixed (by kernel_rfl) (by simp) (by simp) ?_
  have h24 := (c24 l hl ha).up' [cellsA l] rfl rfl
  have hlen := bytesA_len l hl ha
  have hlo : 20 ≤ (bytesA l).length := by simp only [bytesA, List.length_append, hdrB_len, numB_len]; omega
  have h86 := (c86 ((bytesA l).drop 2) (isB_drop (isB_bytesA l) 2) (by simp; omega) 14 (by simp; omega)).up' [cellsA l] rfl rfl
  rw [sumA]
  generalize bytesA l = b at h24 h86 hlen hlo ⊢
  have z1 : (2 : Int) ≤ b.length := by omega
  have z2 : 2 ≤ b.length := by omega
  have z3 : ((14 : Nat) : Int) = 14 := rfl
  rw [z3] at h86
  generalize fletch (b.drop 2) 14 = r at h86 ⊢
  simp
  refine ⟨_, _, .inl h24, trivial, ?_⟩
  have ht : (b.map enc8).take b.length = b.map enc8 := List.take_of_length_le (by simp)
  simp [z1, z2, ht]
  refine ⟨_, _, .inl (by simpa [cargs] using h86), by simp, ?_⟩
  simp

set_option maxHeartbeats 1000000 in
set_option maxRecDepth 10000 in
theorem c22 (l : Lsa) (hl : l.Links.length ≤ 64) (ha : l.Att.length ≤ 64) : CFun Tryz.prog 68 [encA l] [] (.bool (l.H.Sum == sumA l)) [] := by
  refine CFun.intro (tr := []) (fz := []) (n := 9) (rs := [.tmp 2]) Tryz.func68 rfl (by kernel_rfl) rfl rfl mixed (by kernel_rfl) (by simp) (by simp) ?_
  have h57 := (c57 l hl ha).up' [cellsA l] rfl rfl
  simp
  refine ⟨_, _, .inl h57, by simp, ?_⟩
  simp

theorem hdr_ext (a b : Hdr) : a = b ↔ a.Ty = b.Ty ∧ a.ID = b.ID ∧ a.Len = b.Len ∧ a.Router = b.Router ∧ a.Seq = b.Seq ∧ a.Age = b.Age ∧ a.Sum = b.Sum := by
  cases a; cases b; simp
set_option maxHeartbeats 1000000 in
set_option maxRecDepth 10000 in
theorem c20 (a b : Lsa) (hl : a.Links.length < 8796093022208) (ha : a.Att.length < 140737488355328) : CFun Tryz.prog 20 [encA a, encA b] [] (.bool (decide (a.H = b.H) && sameB a b)) [] := by
  refine CFun.intro (tr := []) (fz := []) (n := 15) (rs := [.tmp 4]) Tryz.func20 rfl (by kernel_rfl) rfl rfl mixed (by kernel_rfl) (by simp) (by simp) ?_
  have h30 := (c30 a b hl ha).up' [cellsA a, cellsA b] rfl rfl
  by_cases e : a.H = b.H
  · simp [e]
    refine ⟨_, _, .inl (by simpa [e] using h30), by simp, ?_⟩
    simp
  · have e' : (a.H.Ty = b.H.Ty ∧ a.H.ID = b.H.ID ∧ a.H.Len = b.H.Len ∧ a.H.Router = b.H.Router ∧ a.H.Seq = b.H.Seq ∧ a.H.Age = b.H.Age ∧ a.H.Sum = b.H.Sum) = False := eq_false fun h => e ((hdr_ext a.H b.H).2 h)
    simp
    simp only [e', if_false]
    simp [e]
    trace_state

end Go.Proofs.YtmgkemffbmfmpaaGreat

namespace Go.Proofs.YtmgkemffbmfmpaaGreat
open Go Go.Am
set_option linter.unusedSimpArgs false

/-- The number in n bytes from a place on. -/
def numAt (b : List Int) (at_ : Nat) : Nat → Int
  | 0 => 0
  | n + 1 => numAt b at_ n * 256 + b.getD (at_ + n) 0
theorem getD_in {b : List Int} (hb : isB b) (i : Nat) : 0 ≤ b.getD i 0 ∧ b.getD i 0 ≤ 255 := by
  rw [List.getD_eq_getElem?_getD]
  cases h : b[i]? with
  | none => simp
  | some x => exact hb x (List.mem_of_getElem? h)
theorem numAt_in {b : List Int} (hb : isB b) (at_ n : Nat) : 0 ≤ numAt b at_ n ∧ numAt b at_ n < 256 ^ n := by
  induction n with
  | zero => simp [numAt]
  | succ n ih =>
    have h := getD_in hb (at_ + n)
    simp only [numAt, Int.pow_succ]
    omega
theorem pow_le8 {n : Nat} (h : n ≤ 7) : (256 : Int) ^ n ≤ 72057594037927936 := by
  have : n = 0 ∨ n = 1 ∨ n = 2 ∨ n = 3 ∨ n = 4 ∨ n = 5 ∨ n = 6 ∨ n = 7 := by omega
  rcases this with rfl | rfl | rfl | rfl | rfl | rfl | rfl | rfl <;> decide
theorem orU_byte (v b : Int) (h0 : 0 ≤ v) (h1 : v < 72057594037927936) (hb : 0 ≤ b ∧ b ≤ 255) : orU (v * 256) b = v * 256 + b := by
  unfold orU
  have e0 : IntKind.u64.bits = 64 := rfl
  rw [e0]
  have e1 : ((v * 256) % 2 ^ 64).toNat = v.toNat * 2 ^ 8 := by omega
  have e2 : (b % 2 ^ 64).toNat = b.toNat := by omega
  rw [e1, e2, Nat.mul_comm, ← Nat.two_pow_add_eq_or_of_lt (by omega) v.toNat, wrap_u64]
  omega

set_option maxHeartbeats 2000000 in
set_option maxRecDepth 10000 in
theorem c93 (b : List Int) (hb : isB b) (hlen : b.length < 281474976710656) (at_ n : Nat) (ha : at_ < 281474976710656) (hn : n ≤ 8) :
    CFun Tryz.prog 22 [encBs b, .int .i64 at_, .int .i64 n] [] (.tup [.int .u64 (if at_ + n ≤ b.length then numAt b at_ n else 0), .bool (decide (at_ + n ≤ b.length))]) [] := by
  refine CFun.intro (tr := []) (fz := []) (n := 47) (rs := [.tmp 6, .tmp 7]) Tryz.func22 rfl (by kernel_rfl) rfl rfl mixed (by kernel_rfl) (by simp) (by simp) ?_
  have z1 : ¬ ((n : Int) < 0) := by omega
  have z2 : ¬ ((8 : Int) < n) := by omega
  have z3 : ¬ ((at_ : Int) < 0) := by omega
  obtain ⟨m, hm⟩ : ∃ m, b.length = m := ⟨_, rfl⟩
  have hc : (b.length : Int) = m := by omega
  have w1 : IntKind.i64.wrap ((m : Int) - n) = m - n := wrap_in (by omega)
  have w2 : IntKind.i64.wrap ((at_ : Int) + n) = at_ + n := wrap_in (by omega)
  by_cases h : at_ + n ≤ m
  · have z4 : ¬ ((m : Int) - n < at_) := by omega
    have z5 : (at_ : Int) ≤ at_ + n := by omega
    have z6 : (at_ : Int) + n ≤ m := by omega
    have z7 : ((at_ : Int) + n).toNat = at_ + n := by omega
    have z8 : at_ + n - at_ = n := by omega
    have z9 : (0 : Int) ≤ (at_ : Int) + n := by omega
    have hs : (b.map enc8).take (at_ + n) = (b.take (at_ + n)).map enc8 := (List.map_take).symm
    have hs2 : ((b.take (at_ + n)).map enc8).drop at_ = ((b.take (at_ + n)).drop at_).map enc8 := (List.map_drop).symm
    have hcl : ((b.take (at_ + n)).drop at_).length = n := by simp; omega
    have hcg : ∀ i, i < n → ((b.take (at_ + n)).drop at_)[i]? = some (b.getD (at_ + i) 0) := by
      intro i hi
      rw [List.getElem?_drop, List.getElem?_take, if_pos (by omega), List.getD_eq_getElem?_getD]
      rw [List.getElem?_eq_getElem (show at_ + i < b.length by omega)]
      rfl
    generalize (b.take (at_ + n)).drop at_ = c at hs2 hcl hcg
    have hcc : (c.length : Int) = n := by omega
    have hin := fun i => getD_in hb i
    have hna := fun k => numAt_in hb at_ k
    have hst : ∀ k, numAt b at_ (k + 1) = numAt b at_ k * 256 + b.getD (at_ + k) 0 := fun _ => rfl
    have hz : numAt b at_ 0 = 0 := rfl
    simp [z1, z2, z3, hc, hm, w1, w2, z4, h, z5, z6, z7, z8, z9, hs, hs2, hcl, hcc, -List.map_take, -List.map_drop]
    clear w1 w2 z1 z2 z3 z4 z5 z6 z7 z8 z9 hs hs2 hc
    refine LoopK.intro (tr := []) mixed (by kernel_rfl) (fun i : Nat => [(8, .int .u64 (numAt b at_ i)), (34, .sl 1 (c.map enc8) .sh), (35, .int .i64 n), (36, .int .i64 i)]) (fun q => [])
      (fun i => i ≤ n) (fun i => n - i) 0 ?_ ?_ ?_
    · simp
    · simp [hz]
    · rintro i h1
      by_cases hi : i < n
      · have hx := hcg i hi
        have w1 : IntKind.i64.wrap ((i : Int) + 1) = i + 1 := wrap_in (by omega)
        have hv := hna i
        have hb' := hin (at_ + i)
        have hp := pow_le8 (show i ≤ 7 by omega)
        have hsu := hst i
        generalize b.getD (at_ + i) 0 = x at hx hb' hsu
        generalize numAt b at_ i = v at hv hsu ⊢
        have u1 : IntKind.u64.wrap (v * 256) = v * 256 := by rw [wrap_u64]; omega
        have u2 : IntKind.u64.wrap x = x := by rw [wrap_u64]; omega
        have u3 := orU_byte v x hv.1 (by omega) hb'
        simp only [orU] at u3
        have u4 : min 8 IntKind.u64.bits = 8 := rfl
        simp [hi, hx, w1, u1, u2, u3, u4]
        exact ⟨i + 1, by omega, by omega, hsu.symm, by simp⟩
      · have : i = n := by omega
        subst this
        simp
  · have z4 : ((m : Int) - n < at_) := by omega
    simp [z1, z2, z3, hc, hm, w1, z4, h]
end Go.Proofs.YtmgkemffbmfmpaaGreat

namespace Go.Proofs.YtmgkemffbmfmpaaGreat
open Go Go.Am
set_option linter.unusedSimpArgs false

/-- The reader's cells. -/
@[simp] def cellsR (b : List Int) (at_ : Nat) (bad : Bool) : List AVal := [encBs b, .int .i64 at_, .bool bad]

set_option maxHeartbeats 2000000 in
set_option maxRecDepth 10000 in
theorem c73 (b : List Int) (hb : isB b) (hlen : b.length < 281474976710656) (at_ n : Nat) (ha : at_ < 281474976710656) (hn : n ≤ 8) (bad : Bool) :
    CFun Tryz.prog 79 [.ptr 0 0, .int .i64 n] [cellsR b at_ bad] (.int .u64 (if at_ + n ≤ b.length then numAt b at_ n else 0)) [cellsR b (at_ + n) (bad || !decide (at_ + n ≤ b.length))] := by
  refine CFun.intro (tr := []) (fz := []) (n := 34) (rs := [.tmp 4]) Tryz.func79 rfl (by kernel_rfl) rfl rfl mixed (by kernel_rfl) (by simp) (by simp) ?_
  have h93 := fun H => (c93 b hb hlen at_ n ha hn).up' H rfl rfl
  have w2 : IntKind.i64.wrap ((at_ : Int) + n) = at_ + n := wrap_in (by omega)
  simp
  refine ⟨_, _, .inl (h93 _), by simp, ?_⟩
  by_cases h : at_ + n ≤ b.length
  · simp [h, w2]
  · simp [h, w2]
theorem g73 {H : List (List AVal)} {id : Nat} {b : List Int} {at_ : Nat} {bad : Bool} (n : Nat) (hid : H[id]? = some (cellsR b at_ bad)) (hb : isB b) (hlen : b.length < 281474976710656) (ha : at_ < 281474976710656) (hn : n ≤ 8) :
    CFun Tryz.prog 79 [.ptr id 0, .int .i64 n] H (.int .u64 (if at_ + n ≤ b.length then numAt b at_ n else 0)) (H.set id (cellsR b (at_ + n) (bad || !decide (at_ + n ≤ b.length)))) :=
  (c73 b hb hlen at_ n ha hn bad).at hid rfl rfl rfl rfl
/-- Read where there is enough. -/
theorem r73 {H : List (List AVal)} {id : Nat} {b : List Int} {at_ : Nat} {bad : Bool} (n : Nat) (hid : H[id]? = some (cellsR b at_ bad)) (hb : isB b) (hlen : b.length < 281474976710656) (h : at_ + n ≤ b.length) (hn : n ≤ 8) :
    CFun Tryz.prog 79 [.ptr id 0, .int .i64 n] H (.int .u64 (numAt b at_ n)) (H.set id (cellsR b (at_ + n) bad)) := by
  have := g73 (H := H) n hid hb hlen (by omega) hn
  simpa only [h, if_true, decide_true, Bool.not_true, Bool.or_false] using this

def W32 (x : Int) : Int := IntKind.u32.wrap x
def I64 (x : Int) : Int := IntKind.i64.wrap x
def hdrAt (b : List Int) : Hdr := ⟨IntKind.i64.wrap (numAt b 2 1), IntKind.u32.wrap (numAt b 4 4), IntKind.i64.wrap (numAt b 3 1), IntKind.u32.wrap (numAt b 8 4), IntKind.i64.wrap (numAt b 12 4), IntKind.i64.wrap (numAt b 0 2), IntKind.i64.wrap (numAt b 16 2)⟩

set_option maxHeartbeats 4000000 in
set_option maxRecDepth 10000 in
theorem c71 (b : List Int) (hb : isB b) (hlen : b.length < 281474976710656) (h18 : 18 ≤ b.length) : CFun Tryz.prog 76 [.ptr 0 0] [cellsR b 0 false] (encH (hdrAt b)) [cellsR b 18 false] := by
  refine CFun.intro (tr := []) (fz := []) (n := 33) (rs := [.cell 2 62]) Tryz.func76 rfl (by kernel_rfl) rfl rfl mixed (by kernel_rfl) (by simp) (by simp) ?_
  simp
  refine ⟨_, _, .inl (r73 (b := b) (at_ := 0) (bad := false) 2 (by rfl) hb hlen (by omega) (by omega)), by simp, ?_⟩
  simp
  refine ⟨_, _, .inl (r73 (b := b) (at_ := 2) (bad := false) 1 (by rfl) hb hlen (by omega) (by omega)), by simp, ?_⟩
  simp
  refine ⟨_, _, .inl (r73 (b := b) (at_ := 3) (bad := false) 1 (by rfl) hb hlen (by omega) (by omega)), by simp, ?_⟩
  simp
  refine ⟨_, _, .inl (r73 (b := b) (at_ := 4) (bad := false) 4 (by rfl) hb hlen (by omega) (by omega)), by simp, ?_⟩
  simp
  refine ⟨_, _, .inl (r73 (b := b) (at_ := 8) (bad := false) 4 (by rfl) hb hlen (by omega) (by omega)), by simp, ?_⟩
  simp
  refine ⟨_, _, .inl (r73 (b := b) (at_ := 12) (bad := false) 4 (by rfl) hb hlen (by omega) (by omega)), by simp, ?_⟩
  simp
  refine ⟨_, _, .inl (r73 (b := b) (at_ := 16) (bad := false) 2 (by rfl) hb hlen (by omega) (by omega)), by simp, ?_⟩
  simp [hdrAt]

/-- What DecodeHeader answers. -/
def decH (b : List Int) : Hdr × Int :=
  if b.length < 18 then (⟨0, 0, 0, 0, 0, 0, 0⟩, 3) else if chkH (hdrAt b) ≠ 0 then (⟨0, 0, 0, 0, 0, 0, 0⟩, chkH (hdrAt b)) else (hdrAt b, 0)
set_option maxHeartbeats 4000000 in
set_option maxRecDepth 10000 in
theorem c36 (b : List Int) (hb : isB b) (hlen : b.length < 281474976710656) : CFun Tryz.prog 59 [encBs b] [] (.tup [encH (decH b).1, .int .i64 (decH b).2]) [] := by
  refine CFun.intro (tr := []) (fz := []) (n := 21) (rs := [.cell 2 62, .tmp 3]) Tryz.func59 rfl (by kernel_rfl) rfl rfl mixed (by kernel_rfl) (by simp) (by simp) ?_
  obtain ⟨n, hn⟩ : ∃ n, b.length = n := ⟨_, rfl⟩
  have hc : (b.length : Int) = n := by omega
  unfold decH
  by_cases h : n < 18
  · have z : (n : Int) < 18 := by omega
    simp [hc, hn, z, h]
  · have z : ¬ (n : Int) < 18 := by omega
    have h71 : ∀ {H : List (List AVal)}, H[1]? = some (cellsR b 0 false) → CFun Tryz.prog 76 [.ptr 1 0] H (encH (hdrAt b)) (H.set 1 (cellsR b 18 false)) := fun hid => (c71 b hb hlen (by omega)).at hid rfl rfl rfl rfl
    have h40 := fun H => (c40 (hdrAt b)).up' H rfl rfl
    generalize hdrAt b = d at h71 h40
    simp [hc, hn, z, h]
    refine ⟨_, _, .inl (h71 (by rfl)), by simp, ?_⟩
    simp
    refine ⟨_, _, .inl (h40 _), by simp, ?_⟩
    by_cases e : chkH d = 0
    · simp [e]
    · simp [e]

theorem hdrAt_W (b : List Int) : inW (hdrAt b).ID := by
  have : ∀ x, inW (IntKind.u32.wrap x) := fun x => by
    have : IntKind.u32.wrap x = x % 4294967296 := rfl
    unfold inW; omega
  exact this _
/-- What EncodeHeader answers. -/
def ehL (h : Hdr) : List Int × Int := if chkH h ≠ 0 then ([], chkH h) else (hdrB h, 0)
set_option maxHeartbeats 2000000 in
set_option maxRecDepth 10000 in
theorem c33 (h : Hdr) : CFun Tryz.prog 60 [encH h] [] (.tup [encBs (ehL h).1, .int .i64 (ehL h).2]) [] := by
  refine CFun.intro (tr := []) (fz := []) (n := 12) (rs := [.tmp 2, .tmp 3]) Tryz.func60 rfl (by kernel_rfl) rfl rfl mixed (by kernel_rfl) (by simp) (by simp) ?_
  have h40 := fun H => (c40 h).up' H rfl rfl
  have h69 := fun H => (c69 h).up' H rfl rfl
  unfold ehL
  simp
  refine ⟨_, _, .inl (h40 _), by simp, ?_⟩
  by_cases e : chkH h = 0
  · simp [e]
    refine ⟨_, _, .inl (h69 _), by simp, ?_⟩
    simp
  · simp [e]
set_option maxHeartbeats 2000000 in
set_option maxRecDepth 10000 in
theorem c75 (b : List Int) (hb : isB b) (hlen : b.length < 281474976710656) (at_ n : Nat) (ha : at_ < 281474976710656) (hn : n ≤ 8) :
    CFun Tryz.prog 12 [encBs b, .int .i64 at_, .int .i64 n] [] (.int .u64 (numAt b at_ n)) [] := by
  refine CFun.intro (tr := []) (fz := []) (n := 31) (rs := [.tmp 6]) Tryz.func12 rfl (by kernel_rfl) rfl rfl mixed (by kernel_rfl) (by simp) (by simp) ?_
  obtain ⟨m, hm⟩ : ∃ m, b.length = m := ⟨_, rfl⟩
  have hc : (b.length : Int) = m := by omega
  have w2 : IntKind.i64.wrap ((at_ : Int) + n) = at_ + n := wrap_in (by omega)
  have hin := fun i => getD_in hb i
  have hna := fun k => numAt_in hb at_ k
  have hst : ∀ k, numAt b at_ (k + 1) = numAt b at_ k * 256 + b.getD (at_ + k) 0 := fun _ => rfl
  have hz : numAt b at_ 0 = 0 := rfl
  simp
  refine LoopK.intro (tr := []) mixed (by kernel_rfl) (fun i : Nat => [(0, encBs b), (1, .int .i64 at_), (2, .int .i64 n), (7, .int .u64 (numAt b at_ i)), (8, .int .i64 ((at_ : Int) + i))]) (fun q => [])
    (fun i => i ≤ n) (fun i => n - i) 0 ?_ ?_ ?_
  · simp
  · simp [hz]
  · rintro i h1
    by_cases hi : i < n
    · have w1 : IntKind.i64.wrap ((at_ : Int) + i + 1) = (at_ : Int) + (i + 1) := by rw [wrap_in (by omega)]; omega
      have hv := hna i
      have hb' := hin (at_ + i)
      have hp := pow_le8 (show i ≤ 7 by omega)
      have hsu := hst i
      have hx : at_ + i < m → b[at_ + i]? = some (b.getD (at_ + i) 0) := fun hlt => by
        rw [List.getD_eq_getElem?_getD, List.getElem?_eq_getElem (show at_ + i < b.length by omega)]; rfl
      have hx0 : ¬ at_ + i < m → b.getD (at_ + i) 0 = 0 := fun hlt => by
        rw [List.getD_eq_getElem?_getD, List.getElem?_eq_none (by omega)]; rfl
      generalize b.getD (at_ + i) 0 = x at hx hb' hsu hx0
      generalize numAt b at_ i = v at hv hsu ⊢
      have u1 : IntKind.u64.wrap (v * 256) = v * 256 := by rw [wrap_u64]; omega
      have u2 : IntKind.u64.wrap x = x := by rw [wrap_u64]; omega
      have u3 : IntKind.u64.wrap (v * 256 + x) = v * 256 + x := by rw [wrap_u64]; omega
      have d1 : (at_ : Int) + i < at_ + n := by omega
      have d2 : ((at_ : Int) + i).toNat = at_ + i := by omega
      have d3 : (0 : Int) ≤ (at_ : Int) + i := by omega
      by_cases hl : at_ + i < m
      · have hx1 := hx hl
        have d4 : (at_ : Int) + i < m := by omega
        simp [hc, w2, d1, d2, d3, d4, hx1, u1, u2, u3, w1]
        exact ⟨i + 1, by omega, by omega, hsu.symm, by simp⟩
      · have hx1 := hx0 hl
        have d4 : ¬ (at_ : Int) + i < m := by omega
        simp [hc, w2, d1, d2, d3, d4, u1, w1]
        exact ⟨i + 1, by omega, by omega, by rw [hsu, hx1]; simp, by simp⟩
    · have : i = n := by omega
      subst this
      simp [w2]
theorem u75 {b : List Int} (at_ n : Nat) (H : List (List AVal)) (hb : isB b) (hlen : b.length < 281474976710656) (ha : at_ < 281474976710656) (hn : n ≤ 8) :
    CFun Tryz.prog 12 [encBs b, .int .i64 at_, .int .i64 n] H (.int .u64 (numAt b at_ n)) H := (c75 b hb hlen at_ n ha hn).up' H rfl rfl
set_option maxHeartbeats 2000000 in
set_option maxRecDepth 10000 in
theorem c72 (b : List Int) (hb : isB b) (hlen : b.length < 281474976710656) : CFun Tryz.prog 88 [encBs b] [] (encH (hdrAt b)) [] := by
  refine CFun.intro (tr := []) (fz := []) (n := 25) (rs := [.cell 2 62]) Tryz.func88 rfl (by kernel_rfl) rfl rfl mixed (by kernel_rfl) (by simp) (by simp) ?_
  simp
  refine ⟨_, _, .inl (u75 0 2 _ hb hlen (by omega) (by omega)), by simp, ?_⟩
  simp
  refine ⟨_, _, .inl (u75 2 1 _ hb hlen (by omega) (by omega)), by simp, ?_⟩
  simp
  refine ⟨_, _, .inl (u75 3 1 _ hb hlen (by omega) (by omega)), by simp, ?_⟩
  simp
  refine ⟨_, _, .inl (u75 4 4 _ hb hlen (by omega) (by omega)), by simp, ?_⟩
  simp
  refine ⟨_, _, .inl (u75 8 4 _ hb hlen (by omega) (by omega)), by simp, ?_⟩
  simp
  refine ⟨_, _, .inl (u75 12 4 _ hb hlen (by omega) (by omega)), by simp, ?_⟩
  simp
  refine ⟨_, _, .inl (u75 16 2 _ hb hlen (by omega) (by omega)), by simp, ?_⟩
  simp [hdrAt]
set_option maxHeartbeats 4000000 in
set_option maxRecDepth 10000 in
theorem c37 (b : List Int) (hb : isB b) (hlen : b.length < 281474976710656) : CFun Tryz.prog 65 [encBs b] [] (.tup [encH (decH b).1, .int .i64 (decH b).2]) [] := by
  refine CFun.intro (tr := []) (fz := []) (n := 19) (rs := [.cell 2 62, .tmp 3]) Tryz.func65 rfl (by kernel_rfl) rfl rfl mixed (by kernel_rfl) (by simp) (by simp) ?_
  obtain ⟨n, hn⟩ : ∃ n, b.length = n := ⟨_, rfl⟩
  have hc : (b.length : Int) = n := by omega
  unfold decH
  by_cases h : n < 18
  · have z : (n : Int) < 18 := by omega
    simp [hc, hn, z, h]
  · have z : ¬ (n : Int) < 18 := by omega
    have h72 := fun H => (c72 b hb hlen).up' H rfl rfl
    have h34 := fun H => (c34 (hdrAt b) (hdrAt_W b)).up' H rfl rfl
    generalize hdrAt b = d at h72 h34
    simp [hc, hn, z, h]
    refine ⟨_, _, .inl (h72 _), by simp, ?_⟩
    simp
    refine ⟨_, _, .inl (h34 _), by simp, ?_⟩
    by_cases e : chkH d = 0
    · simp [e]
    · simp [e]
end Go.Proofs.YtmgkemffbmfmpaaGreat

namespace Go.Proofs.YtmgkemffbmfmpaaGreat
open Go Go.Am
set_option linter.unusedSimpArgs false

theorem rd_list {α : Type} {enc : α → AVal} {ag : Bool} {by_ : Nat} {e : List CTy} {x : AVal} (h : RdA (false, [.sl ag by_ e]) x) (hd : ∀ y cs, (if ag = true then y = .agg cs else cs = [y]) → Rds e cs → ∃ a, y = enc a) :
    ∃ l : List α, x = .sl e.length (l.map enc) .sh ∧ l.length * by_ ≤ reachBytes := by
  obtain ⟨cs, h1, h2⟩ := h
  simp only [Rds, Rd] at h2
  obtain ⟨y, r, rfl, ⟨xs, rfl, hl, hx⟩, rfl⟩ := h2
  simp at h1
  subst h1
  obtain ⟨l, rfl⟩ := decAll (enc := enc) xs fun y hy => by
    obtain ⟨cs, h1, h2⟩ := hx y hy
    exact hd y cs h1 h2
  exact ⟨l, rfl, by simpa using hl⟩
def ty8 : Bool × List CTy := (false, [.sl false 1 [.int .u8]])
end Go.Proofs.YtmgkemffbmfmpaaGreat
