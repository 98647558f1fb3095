import Derived.Test.YticijodoelphcaaHFacts
import Derived.Test.YticijodoelphcaaAmY
import Derived.Test.YticijodoelphcaaAmU
import Derived.JoinedOf
import Derived.Test.YticijodoelphcaaRows
set_option linter.unusedSimpArgs false
set_option linter.unusedVariables false
namespace Go.Proofs.Yticijodoelphcaa
open Go Go.Am

def inR (n lo hi : Int) : Bool := decide (lo ≤ n) && decide (n ≤ hi)

def clampI (n m : Int) : Int := if m < (if n < 0 then 0 else n) then m else if n < 0 then 0 else n

theorem c106 (n m : Int) : CFun Try.prog 70 [.int .i64 n, .int .i64 m] [] (.int .i64 (clampI n m)) [] := by
  refine CFun.intro (tr := []) (fz := []) (n := 9) (rs := [.tmp 4]) Try.func70 rfl (by kernel_rfl) rfl rfl mixed (by kernel_rfl) (by simp) (by simp) ?_
  simp [clampI]

def maskI (n : Int) : Int := IntKind.u32.wrap (4294967295 * 2 ^ (min (32 - clampI n 32).toNat 32))

theorem clamp_range (n : Int) : 0 ≤ clampI n 32 ∧ clampI n 32 ≤ 32 := by
  unfold clampI; split <;> split <;> omega

theorem c105 (n : Int) : CFun Try.prog 69 [.int .i64 n] [] (.int .u32 (maskI n)) [] := by
  refine CFun.intro (tr := []) (fz := []) (n := 7) (rs := [.tmp 2]) Try.func69 rfl (by kernel_rfl) rfl rfl mixed (by kernel_rfl) (by simp) (by simp) ?_
  simp
  refine ⟨_, _, .inl (c106 n 32), trivial, ?_⟩
  have hr := clamp_range n
  have w : IntKind.i64.wrap (32 - clampI n 32) = 32 - clampI n 32 := wrap_in (by omega)
  have h0 : ¬ (32 - clampI n 32 < 0) := by omega
  simp [w, h0, maskI, show IntKind.u32.bits = 32 from rfl]

def keepI (x n : Int) : Int := IntKind.u32.wrap ((BitVec.ofInt 32 x &&& BitVec.ofInt 32 (maskI n)).toNat : Int)

theorem c94 (x n : Int) : CFun Try.prog 66 [.int .u32 x, .int .i64 n] [] (.int .u32 (keepI x n)) [] := by
  refine CFun.intro (tr := []) (fz := []) (n := 9) (rs := [.tmp 4]) Try.func66 rfl (by kernel_rfl) rfl rfl mixed (by kernel_rfl) (by simp) (by simp) ?_
  simp
  refine ⟨_, _, .inl (c105 n), trivial, ?_⟩
  simp [keepI, show IntKind.u32.bits = 32 from rfl]

def validP (a n : Int) : Bool := decide (0 ≤ n) && decide (n ≤ 32) && decide (keepI a n = a)

set_option maxHeartbeats 1000000 in
set_option maxRecDepth 10000 in
theorem c77 (a n : Int) : CFun Try.prog 60 [.agg [.int .u32 a, .int .i64 n]] [] (.bool (validP a n)) [] := by
  refine CFun.intro (tr := []) (fz := []) (n := 21) (rs := [.tmp 2]) Try.func60 rfl (by kernel_rfl) rfl rfl mixed (by kernel_rfl) (by simp) (by simp) ?_
  have h94 := (c94 a n).up' [[.int .u32 a, .int .i64 n]] rfl rfl
  by_cases h1 : 0 ≤ n
  · by_cases h2 : n ≤ 32
    · simp [h1, h2]
      refine ⟨_, _, .inl (by simpa using h94), by simp, ?_⟩
      by_cases h3 : keepI a n = a <;> simp [validP, h1, h2, h3]
    · simp [h1, h2, validP]
  · simp [h1, validP]

def memL (l : List Int) (x : Int) : Bool := decide (x ∈ l)

def idxI (x : Int) : List Int → Nat → Int
  | [], _ => -1
  | y :: ys, i => if x = y then (i : Int) else idxI x ys (i + 1)

theorem idxI_mem (x : Int) : ∀ (l : List Int) (i : Nat), (0 ≤ idxI x l i ↔ x ∈ l) := by
  intro l
  induction l with
  | nil => intro i; simp [idxI]
  | cons y ys ih =>
    intro i
    simp only [idxI]
    split
    · rename_i h; subst h; simp
    · rename_i h; rw [ih]; simp [h]

@[simp] def enc32 (x : Int) : AVal := .int .u32 x

set_option maxHeartbeats 1000000 in
set_option maxRecDepth 10000 in
theorem c96 (l : List Int) (n : Nat) (hn : (l.length : Int) = n) (hlen : n < 140737488355328) (x : Int) : CFun Try.prog 55 [.sl 1 (l.map enc32) .sh, .int .u32 x] [] (.int .i64 (idxI x l 0)) [] := by
  refine CFun.intro (tr := []) (fz := []) (n := 19) (rs := [.tmp 4]) Try.func55 rfl (by kernel_rfl) rfl rfl mixed (by kernel_rfl) (by simp) (by simp) ?_
  simp [hn]
  refine LoopK.intro (tr := []) mixed (by kernel_rfl) (fun i : Nat => [(0, .sl 1 (l.map enc32) .sh), (1, .int .u32 x), (7, .int .i64 n), (8, .int .i64 i)]) (fun _ => []) (fun i => i ≤ n ∧ idxI x l 0 = idxI x (l.drop i) i) (fun i => n - i) 0 ?_ ?_ ?_
  · simp
  · simp
  · rintro i ⟨h1, h2⟩
    by_cases hi : i < n
    · obtain ⟨y, hy, hd⟩ := get_drop (l := l) (i := i) (by omega)
      rw [hd] at h2
      have w1 : IntKind.i64.wrap ((i : Int) + 1) = i + 1 := wrap_in (by omega)
      clear hd hn
      by_cases hxy : x = y
      · simp [idxI, hxy] at h2
        simp [hi, hy, hxy, h2]
      · simp [idxI, hxy] at h2
        simp [hi, hy, hxy, w1]
        exact ⟨i + 1, ⟨by omega, h2⟩, by omega, by simp⟩
    · have e : l.drop i = [] := List.drop_of_length_le (by omega)
      rw [e] at h2
      simp [idxI] at h2
      simp [hi, h2]

theorem c82 (l : List Int) (hlen : l.length < 140737488355328) (x : Int) : CFun Try.prog 31 [.sl 1 (l.map enc32) .sh, .int .u32 x] [] (.bool (memL l x)) [] := by
  refine CFun.intro (tr := []) (fz := []) (n := 9) (rs := [.tmp 4]) Try.func31 rfl (by kernel_rfl) rfl rfl mixed (by kernel_rfl) (by simp) (by simp) ?_
  simp
  refine ⟨_, _, .inl (c96 l _ rfl hlen x), trivial, ?_⟩
  simp [memL, idxI_mem]

structure Hdr where
  Ty : Int
  ID : Int
  Len : Int
  Router : Int
  Seq : Int
  Age : Int
  Sum : Int
  deriving DecidableEq

@[simp] def cellsH (h : Hdr) : List AVal := [.int .i64 h.Ty, .int .u32 h.ID, .int .i64 h.Len, .int .u32 h.Router, .int .i64 h.Seq, .int .i64 h.Age, .int .i64 h.Sum]

@[simp] def encH (h : Hdr) : AVal := .agg (cellsH h)

structure Lnk where
  Kind : Int
  ID : Int
  Data : Int
  Cost : Int
  deriving DecidableEq

@[simp] def cellsK (x : Lnk) : List AVal := [.int .i64 x.Kind, .int .u32 x.ID, .int .u32 x.Data, .int .i64 x.Cost]

@[simp] def encK (x : Lnk) : AVal := .agg (cellsK x)

structure Lsa where
  H : Hdr
  Border : Bool
  Boundary : Bool
  Links : List Lnk
  Att : List Int
  Cost : Int
  Second : Bool
  Fwd : Int
  Tag : Int
  deriving DecidableEq

@[simp] def cellsA (l : Lsa) : List AVal := [.int .i64 l.H.Ty, .int .u32 l.H.ID, .int .i64 l.H.Len, .int .u32 l.H.Router, .int .i64 l.H.Seq, .int .i64 l.H.Age, .int .i64 l.H.Sum,
  .bool l.Border, .bool l.Boundary, .sl 4 (l.Links.map encK) .sh, .sl 1 (l.Att.map enc32) .sh, .int .i64 l.Cost, .bool l.Second, .int .u32 l.Fwd, .int .i64 l.Tag]

@[simp] def encA (l : Lsa) : AVal := .agg (cellsA l)

def h1 : Hdr := ⟨1, 1, 0, 1, 4, 100, 0⟩

def h2 : Hdr := ⟨1, 1, 0, 1, 3, 100, 0⟩

def h3 : Hdr := ⟨1, 1, 0, 1, 4, 1100, 0⟩

def h4 : Hdr := ⟨1, 1, 0, 1, 4, 1000, 0⟩

def inI (x : Int) : Prop := -9223372036854775808 ≤ x ∧ x ≤ 9223372036854775807

theorem wrap_u64 (x : Int) : IntKind.u64.wrap x = x % 18446744073709551616 := rfl

theorem Rds_int {k : IntKind} {ts : List CTy} {cs : List AVal} (h : Rds (.int k :: ts) cs) : ∃ n r, cs = .int k n :: r ∧ Rds ts r ∧ (Lit.int k n).wf = true := by
  simp only [Rds, Rd] at h
  obtain ⟨x, r, rfl, ⟨n, rfl, hn⟩, h2⟩ := h
  exact ⟨n, r, rfl, h2, hn⟩

theorem Rds_bool {ts : List CTy} {cs : List AVal} (h : Rds (.bool :: ts) cs) : ∃ b r, cs = .bool b :: r ∧ Rds ts r := by
  simp only [Rds, Rd] at h
  obtain ⟨x, r, rfl, ⟨n, rfl⟩, h2⟩ := h
  exact ⟨n, r, rfl, h2⟩

theorem Rds_nil {cs : List AVal} (h : Rds [] cs) : cs = [] := h

/-- A list of values, each of which encodes something. -/
theorem decAll {α : Type} {enc : α → AVal} : ∀ (xs : List AVal), (∀ y ∈ xs, ∃ a, y = enc a) → ∃ l : List α, xs = l.map enc := by
  intro xs
  induction xs with
  | nil => intro _; exact ⟨[], rfl⟩
  | cons x xs ih =>
    intro h
    obtain ⟨a, rfl⟩ := h x (by simp)
    obtain ⟨l, rfl⟩ := ih fun y hy => h y (by simp [hy])
    exact ⟨a :: l, rfl⟩

theorem Rds_sl {α : Type} {enc : α → AVal} {ag : Bool} {by_ : Nat} {e ts : List CTy} {cs : List AVal} (h : Rds (.sl ag by_ e :: ts) cs) (hd : ∀ y cs, (if ag = true then y = .agg cs else cs = [y]) → Rds e cs → ∃ a, y = enc a) :
    ∃ (l : List α) (r : List AVal), cs = .sl e.length (l.map enc) .sh :: r ∧ Rds ts r ∧ l.length * by_ ≤ reachBytes := by
  simp only [Rds, Rd] at h
  obtain ⟨x, r, rfl, ⟨xs, rfl, hl, hx⟩, h2⟩ := h
  obtain ⟨l, rfl⟩ := decAll (enc := enc) xs fun y hy => by
    obtain ⟨cs, h1, h2⟩ := hx y hy
    exact hd y cs h1 h2
  exact ⟨l, r, rfl, h2, by simpa using hl⟩

def inW (x : Int) : Prop := 0 ≤ x ∧ x ≤ 4294967295

theorem wf_i64 {n : Int} (h : (Lit.int .i64 n).wf = true) : inI n := by
  simpa [Lit.wf, IntKind.min, IntKind.max, IntKind.signed, IntKind.bits, inI] using h

theorem wf_u32 {n : Int} (h : (Lit.int .u32 n).wf = true) : inW n := by
  simpa [Lit.wf, IntKind.min, IntKind.max, IntKind.signed, IntKind.bits, inW] using h

def okH (h : Hdr) : Prop := inI h.Ty ∧ inW h.ID ∧ inI h.Len ∧ inW h.Router ∧ inI h.Seq ∧ inI h.Age ∧ inI h.Sum

def csH : List CTy := [.int .i64, .int .u32, .int .i64, .int .u32, .int .i64, .int .i64, .int .i64]

def tyH : Bool × List CTy := (true, csH)

theorem dec_H {ts : List CTy} {cs : List AVal} (h : Rds (csH ++ ts) cs) : ∃ (x : Hdr) (r : List AVal), cs = cellsH x ++ r ∧ okH x ∧ Rds ts r := by
  obtain ⟨a1, r, rfl, h, w1⟩ := Rds_int h
  obtain ⟨a2, r, rfl, h, w2⟩ := Rds_int h
  obtain ⟨a3, r, rfl, h, w3⟩ := Rds_int h
  obtain ⟨a4, r, rfl, h, w4⟩ := Rds_int h
  obtain ⟨a5, r, rfl, h, w5⟩ := Rds_int h
  obtain ⟨a6, r, rfl, h, w6⟩ := Rds_int h
  obtain ⟨a7, r, rfl, h, w7⟩ := Rds_int h
  exact ⟨⟨a1, a2, a3, a4, a5, a6, a7⟩, r, rfl, ⟨wf_i64 w1, wf_u32 w2, wf_i64 w3, wf_u32 w4, wf_i64 w5, wf_i64 w6, wf_i64 w7⟩, h⟩

theorem rd_H {x : AVal} (h : RdA tyH x) : ∃ a : Hdr, x = encH a ∧ okH a := by
  obtain ⟨cs, h1, h2⟩ := h
  obtain ⟨a, r, rfl, h3, h4⟩ := dec_H (ts := []) h2
  obtain rfl := Rds_nil h4
  exact ⟨a, by simpa [tyH] using h1, h3⟩

theorem own : ownKnob Try.prog.godebug = none := by kernel_rfl

structure LKey where
  Ty : Int
  ID : Int
  Len : Int
  Router : Int
  deriving DecidableEq

@[simp] def cellsY (k : LKey) : List AVal := [.int .i64 k.Ty, .int .u32 k.ID, .int .i64 k.Len, .int .u32 k.Router]

@[simp] def encY (k : LKey) : AVal := .agg (cellsY k)

def keyH (h : Hdr) : LKey := ⟨h.Ty, h.ID, h.Len, h.Router⟩

set_option maxRecDepth 10000 in
theorem c26 (h : Hdr) : CFun Try.prog 67 [encH h] [] (encY (keyH h)) [] := by
  refine CFun.intro (tr := []) (fz := []) (n := 12) (rs := [.cell 2 78]) Try.func67 rfl (by kernel_rfl) rfl rfl mixed (by kernel_rfl) (by simp) (by simp) ?_
  simp [keyH]

def tyY : Bool × List CTy := (true, [.int .i64, .int .u32, .int .i64, .int .u32])

theorem rd_Y {x : AVal} (h : RdA tyY x) : ∃ k : LKey, x = encY k := by
  obtain ⟨cs, h1, h2⟩ := h
  obtain ⟨a1, r, rfl, h, _⟩ := Rds_int h2
  obtain ⟨a2, r, rfl, h, _⟩ := Rds_int h
  obtain ⟨a3, r, rfl, h, _⟩ := Rds_int h
  obtain ⟨a4, r, rfl, h, _⟩ := Rds_int h
  obtain rfl := Rds_nil h
  exact ⟨⟨a1, a2, a3, a4⟩, h1⟩

theorem mask_bits (k i : Nat) (hk : k ≤ 32) : ((4294967295 * 2 ^ k) % 2 ^ 32).testBit i = (decide (i < 32) && decide (k ≤ i)) := by
  rw [Nat.testBit_mod_two_pow, Nat.testBit_mul_two_pow]
  have e : (4294967295 : Nat) = 2 ^ 32 - 1 := by decide
  rw [e, Nat.testBit_two_pow_sub_one]
  by_cases h1 : i < 32
  · by_cases h2 : k ≤ i
    · have : i - k < 32 := by omega
      simp [h1, h2, this]
    · simp [h2]
  · simp [h1]

theorem and_mask (A k : Nat) (hA : A < 2 ^ 32) (hk : k ≤ 32) : A &&& ((4294967295 * 2 ^ k) % 2 ^ 32) = A ↔ ∀ s, s < k → A.testBit s = false := by
  constructor
  · intro h s hs
    have := congrArg (fun x => x.testBit s) h
    simp only [Nat.testBit_and, mask_bits k s hk] at this
    have h2 : ¬ (k ≤ s) := by omega
    simpa [h2] using this.symm
  · intro h
    apply Nat.eq_of_testBit_eq
    intro i
    rw [Nat.testBit_and, mask_bits k i hk]
    by_cases h2 : k ≤ i
    · by_cases h1 : i < 32
      · simp [h1, h2]
      · have : A.testBit i = false := Nat.testBit_lt_two_pow (Nat.lt_of_lt_of_le hA (Nat.pow_le_pow_right (by omega) (by omega)))
        simp [this]
    · simp [h2, h i (by omega)]

theorem wrap_u32 (x : Int) : IntKind.u32.wrap x = x % 4294967296 := rfl

theorem mask_nat (m : Nat) (hm : m ≤ 32) : maskI m = ((4294967295 * 2 ^ (32 - m) % 2 ^ 32 : Nat) : Int) := by
  unfold maskI
  have hc : clampI m 32 = m := by
    unfold clampI
    rw [if_neg (by omega), if_neg (by omega)]
  have e : min (32 - (m : Int)).toNat 32 = 32 - m := by omega
  rw [hc, e, wrap_u32]
  simp

theorem keep_nat (A m : Nat) (hA : A < 2 ^ 32) (hm : m ≤ 32) : keepI A m = ((A &&& (4294967295 * 2 ^ (32 - m) % 2 ^ 32) : Nat) : Int) := by
  unfold keepI
  rw [mask_nat m hm]
  have h1 : ((A : Int) % 4294967296).toNat = A := by omega
  have hM : 4294967295 * 2 ^ (32 - m) % 2 ^ 32 < 2 ^ 32 := Nat.mod_lt _ (by omega)
  generalize 4294967295 * 2 ^ (32 - m) % 2 ^ 32 = M at hM ⊢
  have h2 : ((M : Int) % 4294967296).toNat = M := by omega
  simp only [BitVec.toNat_and, BitVec.toNat_ofInt]
  have hp : ((2 ^ 32 : Nat) : Int) = 4294967296 := by decide
  rw [hp, h1, h2, wrap_u32]
  have : A &&& M < 2 ^ 32 := Nat.lt_of_le_of_lt Nat.and_le_left hA
  omega

/-- A prefix is valid if its last bits are 0. -/
theorem valid_bits (A m : Nat) (hA : A < 2 ^ 32) (hm : m ≤ 32) : validP A m = true ↔ ∀ s, s < 32 - m → A.testBit s = false := by
  have h0 : (0 : Int) ≤ m := by omega
  have h1 : (m : Int) ≤ 32 := by omega
  simp only [validP, h0, h1, decide_true, Bool.true_and, decide_eq_true_eq]
  rw [keep_nat A m hA hm, ← and_mask A (32 - m) hA (by omega)]
  omega

theorem bit_here (A : Nat) (hA : A < 2 ^ 32) (s : Nat) (hs : s ≤ 31) : IntKind.u32.wrap (((((A : Int).fdiv (2 ^ min s IntKind.u32.bits)) % 2 ^ IntKind.u32.bits).toNat &&& 1 % 2 ^ IntKind.u32.bits : Nat) : Int) = 1 ↔ A.testBit s = true := by
  have hbits : IntKind.u32.bits = 32 := rfl
  have hmin : min s 32 = s := by omega
  have hp : (2 : Int) ^ s = ((2 ^ s : Nat) : Int) := by simp
  have hd : (A : Int).fdiv (2 ^ s) = ((A / 2 ^ s : Nat) : Int) := by
    rw [hp, Int.fdiv_eq_ediv_of_nonneg _ (Int.natCast_nonneg _)]
    exact (Int.natCast_ediv _ _).symm
  have hq : A / 2 ^ s < 2 ^ 32 := Nat.lt_of_le_of_lt (Nat.div_le_self _ _) hA
  rw [hbits, hmin, hd]
  have h32 : ((2 : Int) ^ 32) = 4294967296 := by decide
  have h1 : 1 % 2 ^ 32 = 1 := by decide
  rw [h32, h1]
  rw [Nat.testBit_eq_decide_div_mod_eq]
  generalize A / 2 ^ s = q at hq ⊢
  have h2 : ((q : Int) % 4294967296).toNat = q := by omega
  rw [h2, Nat.and_one_is_mod, wrap_u32, decide_eq_true_eq]
  omega

set_option maxHeartbeats 1000000 in
set_option maxRecDepth 10000 in
theorem c70 (A : Nat) (hA : A < 2 ^ 32) (n : Int) : CFun Try.prog 46 [.int .u32 A, .int .i64 n] [] (.bool (validP A n)) [] := by
  refine CFun.intro (tr := []) (fz := []) (n := 24) (rs := [.tmp 4]) Try.func46 rfl (by kernel_rfl) rfl rfl mixed (by kernel_rfl) (by simp) (by simp) ?_
  by_cases h0 : n < 0
  · have : ¬ (0 ≤ n) := by omega
    simp [h0, validP, this]
  by_cases h1 : 32 < n
  · have : ¬ (n ≤ 32) := by omega
    simp [h0, h1, validP, this]
  obtain ⟨m, rfl⟩ : ∃ m : Nat, n = m := ⟨n.toNat, by omega⟩
  have hm : m ≤ 32 := by omega
  simp [h0, h1]
  refine LoopK.intro (tr := []) mixed (by kernel_rfl) (fun i : Nat => [(0, .int .u32 A), (5, .int .i64 i)]) (fun _ => []) (fun i => m ≤ i ∧ i ≤ 32 ∧ ∀ j, m ≤ j → j < i → A.testBit (31 - j) = false) (fun i => 32 - i) m ?_ ?_ ?_
  · exact ⟨by omega, hm, by omega⟩
  · simp
  · rintro i ⟨i1, i2, i3⟩
    by_cases hi : i < 32
    · have hi' : (i : Int) < 32 := by omega
      have w1 : IntKind.i64.wrap ((i : Int) + 1) = i + 1 := wrap_in (by omega)
      have w2 : IntKind.i64.wrap (31 - (i : Int)) = 31 - i := wrap_in (by omega)
      have w3 : IntKind.u64.wrap (31 - (i : Int)) = 31 - i := by rw [wrap_u64]; omega
      have w4 : ¬ (31 - (i : Int) < 0) := by omega
      simp [hi', w1, w2, w3, w4]
      have hb := bit_here A hA (31 - i)
      by_cases hbit : A.testBit (31 - i) = true
      · have hv : validP A m = false := by
          cases hv : validP A m
          · rfl
          · have := (valid_bits A m hA hm).1 hv (31 - i) (by omega)
            rw [this] at hbit; cases hbit
        rw [if_pos ((hb (by omega)).2 hbit)]
        exact hv
      · rw [if_neg (fun h => hbit ((hb (by omega)).1 h))]
        refine ⟨i + 1, ⟨by omega, by omega, fun j j1 j2 => ?_⟩, by omega, by omega⟩
        by_cases hji : j = i
        · subst hji; simpa using hbit
        · exact i3 j j1 (by omega)
    · have hi' : ¬ ((i : Int) < 32) := by omega
      have hv : validP A m = true := (valid_bits A m hA hm).2 fun s hs => by
        have := i3 (31 - s) (by omega) (by omega)
        rwa [show 31 - (31 - s) = s by omega] at this
      simp [hi', hv]

theorem inR_iff (n lo hi : Int) : inR n lo hi = true ↔ lo ≤ n ∧ n ≤ hi := by simp [inR]

def okK (x : Lnk) : Prop := inW x.ID ∧ inW x.Data

def okA (l : Lsa) : Prop := okH l.H ∧ (∀ x ∈ l.Links, okK x) ∧ (∀ x ∈ l.Att, inW x) ∧ inI l.Cost ∧ inW l.Fwd ∧ inI l.Tag ∧ l.Links.length < 8796093022208 ∧ l.Att.length < 140737488355328

def csL : List CTy := [.int .i64, .int .u32, .int .u32, .int .i64]

def csA : List CTy := csH ++ [.bool, .bool, .sl true 24 csL, .sl false 4 [.int .u32], .int .i64, .bool, .int .u32, .int .i64]

def tyA : Bool × List CTy := (true, csA)

theorem dec_K {cs : List AVal} (h : Rds csL cs) : ∃ x : { x : Lnk // okK x }, AVal.agg cs = encK x.1 := by
  obtain ⟨a1, r, rfl, h, _⟩ := Rds_int h
  obtain ⟨a2, r, rfl, h, w2⟩ := Rds_int h
  obtain ⟨a3, r, rfl, h, w3⟩ := Rds_int h
  obtain ⟨a4, r, rfl, h, _⟩ := Rds_int h
  obtain rfl := Rds_nil h
  exact ⟨⟨⟨a1, a2, a3, a4⟩, wf_u32 w2, wf_u32 w3⟩, rfl⟩

def sameB (a b : Lsa) : Bool := decide (keyH a.H = keyH b.H ∧ a.Border = b.Border ∧ a.Boundary = b.Boundary ∧ a.Links = b.Links ∧ a.Att = b.Att ∧ a.Cost = b.Cost ∧ a.Second = b.Second ∧ a.Fwd = b.Fwd ∧ a.Tag = b.Tag)

theorem keyH_iff (a b : Hdr) : keyH a = keyH b ↔ a.Ty = b.Ty ∧ a.ID = b.ID ∧ a.Len = b.Len ∧ a.Router = b.Router := by simp [keyH]

/-- The same of the key, cell by cell. -/
def keyE (a b : Hdr) : Bool := (a.Ty == b.Ty) && ((a.ID == b.ID) && ((a.Len == b.Len) && (a.Router == b.Router)))

theorem keyE_iff (a b : Hdr) : keyE a b = true ↔ keyH a = keyH b := by
  rw [keyH_iff]; simp [keyE]

set_option maxHeartbeats 4000000 in
set_option maxRecDepth 10000 in
theorem c30 (a b : Lsa) (hl : a.Links.length < 8796093022208) (ha : a.Att.length < 140737488355328) : CFun Try.prog 64 [encA a, encA b] [] (.bool (sameB a b)) [] := by
  refine CFun.intro (tr := []) (fz := []) (n := 110) (rs := [.tmp 4]) Try.func64 rfl (by kernel_rfl) rfl rfl mixed (by kernel_rfl) (by simp) (by simp) ?_
  have h26a := fun H => (c26 a.H).up' H rfl rfl
  have h26b := fun H => (c26 b.H).up' H rfl rfl
  simp only [keyH, encY, cellsY] at h26a h26b
  simp
  refine ⟨_, _, .inl (h26a _), by simp, ?_⟩
  simp
  refine ⟨_, _, .inl (h26b _), by simp, ?_⟩
  by_cases e1 : keyH a.H = keyH b.H
  case neg =>
    have hf : sameB a b = false := by simp [sameB, e1]
    have hk : keyE a.H b.H = false := by
      cases h : keyE a.H b.H
      · rfl
      · exact (e1 ((keyE_iff _ _).1 h)).elim
    simp only [keyE] at hk
    simp [hf, hk]
  have hk : keyE a.H b.H = true := (keyE_iff _ _).2 e1
  simp only [keyE] at hk
  simp [hk]
  by_cases e2 : a.Border = b.Border
  case neg => rw [if_neg e2]; simp [sameB, e2]
  rw [if_pos e2]
  by_cases e3 : a.Boundary = b.Boundary
  case neg => rw [if_neg e3]; simp [sameB, e3]
  rw [if_pos e3]
  by_cases e6 : a.Cost = b.Cost
  case neg => rw [if_neg e6]; simp [sameB, e6]
  rw [if_pos e6]
  by_cases e7 : a.Second = b.Second
  case neg => rw [if_neg e7]; simp [sameB, e7]
  rw [if_pos e7]
  by_cases e8 : a.Fwd = b.Fwd
  case neg => rw [if_neg e8]; simp [sameB, e8]
  rw [if_pos e8]
  by_cases e9 : a.Tag = b.Tag
  case neg => rw [if_neg e9]; simp [sameB, e9]
  rw [if_pos e9]
  by_cases l1 : (a.Links.length : Int) = b.Links.length
  case neg =>
    have hne : a.Links ≠ b.Links := fun h => l1 (by rw [h])
    rw [if_neg l1]; simp [sameB, hne]
  rw [if_pos l1]
  by_cases l2 : (a.Att.length : Int) = b.Att.length
  case neg =>
    have hne : a.Att ≠ b.Att := fun h => l2 (by rw [h])
    rw [if_neg l2]; simp [sameB, hne]
  rw [if_pos l2]
  have hS : sameB a b = decide (a.Links = b.Links ∧ a.Att = b.Att) := by simp [sameB, e1, e2, e3, e6, e7, e8, e9]
  rw [hS]
  obtain ⟨n, hn⟩ : ∃ n, a.Links.length = n := ⟨_, rfl⟩
  obtain ⟨m, hm⟩ : ∃ m, a.Att.length = m := ⟨_, rfl⟩
  have hcn : (a.Links.length : Int) = n := by omega
  have hcm : (a.Att.length : Int) = m := by omega
  refine LoopK.intro (tr := []) mixed (by kernel_rfl) (fun i : Nat => [(2, .ptr 0 0), (3, .ptr 1 0), (5, .int .i64 i)]) (fun _ => [cellsA a, cellsA b]) (fun i => i ≤ n ∧ (a.Links = b.Links ↔ a.Links.drop i = b.Links.drop i)) (fun i => n - i) 0 ?_ ?_ ?_
  · simp
  · simp
  · rintro i ⟨h1, h2⟩
    by_cases hi : i < n
    · obtain ⟨r, hx, hd⟩ := get_drop (l := a.Links) (i := i) (by omega)
      obtain ⟨t, hy, he⟩ := get_drop (l := b.Links) (i := i) (by omega)
      rw [hd, he, List.cons.injEq] at h2
      have w1 : IntKind.i64.wrap ((i : Int) + 1) = i + 1 := wrap_in (by omega)
      have hext : r = t ↔ r.Kind = t.Kind ∧ r.ID = t.ID ∧ r.Data = t.Data ∧ r.Cost = t.Cost := by
        cases r; cases t; simp
      clear hd he
      by_cases hrt : r = t
      · subst hrt
        simp [hcn, hi, hx, hy, w1]
        exact ⟨i + 1, ⟨by omega, by simpa using h2⟩, by omega, by simp⟩
      · have hne : ¬ (a.Links = b.Links) := by rw [h2]; simp [hrt]
        rw [hext] at hrt
        by_cases b1 : r.Kind = t.Kind <;> by_cases b2 : r.ID = t.ID <;> by_cases b3 : r.Data = t.Data <;> by_cases b4 : r.Cost = t.Cost <;> simp [b1, b2, b3, b4] at hrt <;>
          simp [hcn, hi, hx, hy, b1, b2, b3, b4, hne]
    · have e : a.Links.drop i = [] := List.drop_of_length_le (by omega)
      have e' : b.Links.drop i = [] := List.drop_of_length_le (by omega)
      rw [e, e'] at h2
      have hL : a.Links = b.Links := h2.2 rfl
      simp [hcn, hi]
      refine LoopK.intro (tr := []) mixed (by kernel_rfl) (fun j : Nat => [(2, .ptr 0 0), (3, .ptr 1 0), (6, .int .i64 j)]) (fun _ => [cellsA a, cellsA b]) (fun j => j ≤ m ∧ (a.Att = b.Att ↔ a.Att.drop j = b.Att.drop j)) (fun j => m - j) 0 ?_ ?_ ?_
      · simp
      · simp
      · rintro j ⟨j1, j2⟩
        by_cases hj : j < m
        · obtain ⟨r, hx, hd⟩ := get_drop (l := a.Att) (i := j) (by omega)
          obtain ⟨t, hy, he⟩ := get_drop (l := b.Att) (i := j) (by omega)
          rw [hd, he, List.cons.injEq] at j2
          have w1 : IntKind.i64.wrap ((j : Int) + 1) = j + 1 := wrap_in (by omega)
          clear hd he
          by_cases hrt : r = t
          · subst hrt
            simp [hcm, hj, hx, hy, w1]
            exact ⟨j + 1, ⟨by omega, by simpa using j2⟩, by omega, by simp⟩
          · have hne : ¬ (a.Att = b.Att) := by rw [j2]; simp [hrt]
            simp [hcm, hj, hx, hy, hrt, hne]
        · have e : a.Att.drop j = [] := List.drop_of_length_le (by omega)
          have e' : b.Att.drop j = [] := List.drop_of_length_le (by omega)
          rw [e, e'] at j2
          have hA : a.Att = b.Att := j2.2 rfl
          simp [hcm, hj]
          exact ⟨hL, hA⟩

theorem and_mask_val (A k : Nat) (hA : A < 2 ^ 32) (hk : k ≤ 32) : A &&& ((4294967295 * 2 ^ k) % 2 ^ 32) = A / 2 ^ k * 2 ^ k := by
  apply Nat.eq_of_testBit_eq
  intro i
  rw [Nat.testBit_and, mask_bits k i hk, Nat.testBit_mul_two_pow]
  by_cases h2 : k ≤ i
  · have e : (A / 2 ^ k).testBit (i - k) = A.testBit i := by
      rw [Nat.testBit_div_two_pow]
      congr 1; omega
    by_cases h1 : i < 32
    · simp [h1, h2, e]
    · have : A.testBit i = false := Nat.testBit_lt_two_pow (Nat.lt_of_lt_of_le hA (Nat.pow_le_pow_right (by omega) (by omega)))
      simp [h2, e, this]
  · simp [h2]

theorem keep_val (A m : Nat) (hA : A < 2 ^ 32) (hm : m ≤ 32) : keepI A m = ((A / 2 ^ (32 - m) * 2 ^ (32 - m) : Nat) : Int) := by
  rw [keep_nat A m hA hm, and_mask_val A (32 - m) hA (by omega)]

theorem and_pow (B s : Nat) : B &&& 2 ^ s = (B.testBit s).toNat * 2 ^ s := by
  apply Nat.eq_of_testBit_eq
  intro i
  rw [Nat.testBit_and, Nat.testBit_two_pow]
  by_cases h : s = i
  · subst h
    cases hb : B.testBit s <;> simp
  · cases hb : B.testBit s <;> simp [h, Nat.testBit_two_pow]

set_option maxHeartbeats 1000000 in
set_option maxRecDepth 10000 in
theorem c68 (A : Nat) (hA : A < 2 ^ 32) (m : Nat) (hm : m ≤ 32) : CFun Try.prog 62 [.int .u32 A, .int .i64 m] [] (.int .u32 (keepI A m)) [] := by
  refine CFun.intro (tr := []) (fz := []) (n := 24) (rs := [.tmp 4]) Try.func62 rfl (by kernel_rfl) rfl rfl mixed (by kernel_rfl) (by simp) (by simp) ?_
  simp
  refine LoopK.intro (tr := []) mixed (by kernel_rfl) (fun i : Nat => [(0, .int .u32 ((A / 2 ^ (32 - m) * 2 ^ (32 - m) + A % 2 ^ (32 - i) : Nat) : Int)), (5, .int .i64 i)]) (fun _ => []) (fun i => m ≤ i ∧ i ≤ 32) (fun i => 32 - i) m ?_ ?_ ?_
  · exact ⟨by omega, hm⟩
  · have e : A / 2 ^ (32 - m) * 2 ^ (32 - m) + A % 2 ^ (32 - m) = A := Nat.div_add_mod' A _
    rw [e]
    simp
  · rintro i ⟨i1, i2⟩
    by_cases hi : i < 32
    · have hi' : (i : Int) < 32 := by omega
      have w1 : IntKind.i64.wrap ((i : Int) + 1) = i + 1 := wrap_in (by omega)
      have w2 : IntKind.i64.wrap (31 - (i : Int)) = 31 - i := wrap_in (by omega)
      have w3 : IntKind.u64.wrap (31 - (i : Int)) = 31 - i := by rw [wrap_u64]; omega
      have w4 : ¬ (31 - (i : Int) < 0) := by omega
      generalize hB : A / 2 ^ (32 - m) * 2 ^ (32 - m) + A % 2 ^ (32 - i) = B
      simp [hi', w1, w2, w3, w4]
      obtain ⟨s, hs⟩ : ∃ s, 31 - i = s := ⟨_, rfl⟩
      have hs1 : 32 - i = s + 1 := by omega
      have hs2 : 32 - (i + 1) = s := by omega
      have hbits : IntKind.u32.bits = 32 := rfl
      have hmin : min s 32 = s := by omega
      rw [hs1] at hB
      have hp : 2 ^ s < 2 ^ 32 := Nat.pow_lt_pow_right (by omega) (by omega)
      have hBA : B ≤ A := by
        have h1 := Nat.div_add_mod' A (2 ^ (32 - m))
        have h2 : A % 2 ^ (s + 1) ≤ A % 2 ^ (32 - m) := by
          have : A % 2 ^ (32 - m) % 2 ^ (s + 1) = A % 2 ^ (s + 1) := Nat.mod_mod_of_dvd _ (Nat.pow_dvd_pow 2 (by omega))
          rw [← this]; exact Nat.mod_le _ _
        omega
      have hBm : B % 2 ^ (s + 1) = A % 2 ^ (s + 1) := by
        rw [← hB, Nat.add_mod, Nat.mod_mod]
        have : A / 2 ^ (32 - m) * 2 ^ (32 - m) % 2 ^ (s + 1) = 0 := Nat.mod_eq_zero_of_dvd (Nat.dvd_trans (Nat.pow_dvd_pow 2 (by omega)) (Nat.dvd_mul_left _ _))
        rw [this, Nat.zero_add, Nat.mod_mod]
      have hBt : B.testBit s = A.testBit s := by
        have h1 := Nat.testBit_mod_two_pow B (s + 1) s
        have h2 := Nat.testBit_mod_two_pow A (s + 1) s
        rw [hBm] at h1
        rw [h1] at h2
        simpa using h2
      have hw : IntKind.u32.wrap ((2 : Int) ^ s) = ((2 ^ s : Nat) : Int) := by
        have : ((2 : Int) ^ s) = ((2 ^ s : Nat) : Int) := by simp
        rw [this, wrap_u32]
        generalize 2 ^ s = p at hp ⊢
        omega
      have hd : A % 2 ^ (s + 1) = A % 2 ^ s + 2 ^ s * (A.testBit s).toNat := by
        rw [Nat.pow_succ, Nat.mod_mul, Nat.testBit_eq_decide_div_mod_eq]
        rcases Nat.mod_two_eq_zero_or_one (A / 2 ^ s) with h | h <;> simp [h]
      rw [hs, hbits, hmin, hw]
      have hand : (B % 2 ^ 32 &&& (((2 ^ s : Nat) : Int) % 2 ^ 32).toNat) = (A.testBit s).toNat * 2 ^ s := by
        have e1 : B % 2 ^ 32 = B := Nat.mod_eq_of_lt (by omega)
        have e2 : (((2 ^ s : Nat) : Int) % 2 ^ 32).toNat = 2 ^ s := by
          have h32 : ((2 : Int) ^ 32) = 4294967296 := by decide
          rw [h32]
          generalize 2 ^ s = p at hp ⊢
          omega
        rw [e1, e2, and_pow, hBt]
      rw [hand]
      generalize hhi : A / 2 ^ (32 - m) * 2 ^ (32 - m) = hi2 at hB
      cases hbit : A.testBit s
      · rw [hbit] at hd
        have hz : (((false.toNat * 2 ^ s : Nat)) : Int) = 0 := by simp
        rw [if_pos (by rw [hz]; rfl)]
        refine ⟨i + 1, ⟨by omega, by omega⟩, by omega, ?_, by omega⟩
        rw [hs2]
        have hh : B = A / 2 ^ (32 - m) * 2 ^ (32 - m) + A % 2 ^ s := by
          rw [hhi, ← hB, hd]; simp
        exact_mod_cast hh
      · rw [hbit] at hd
        have hz : (((true.toNat * 2 ^ s : Nat)) : Int) = ((2 ^ s : Nat) : Int) := by simp
        have hpos : 0 < 2 ^ s := Nat.pow_pos (by omega)
        rw [if_neg (by
          rw [hz, wrap_u32]
          generalize 2 ^ s = p at hp hpos ⊢
          omega)]
        refine ⟨i + 1, ⟨by omega, by omega⟩, by omega, ?_, by omega⟩
        rw [hs2]
        have hh : B = A / 2 ^ (32 - m) * 2 ^ (32 - m) + A % 2 ^ s + 2 ^ s := by
          rw [hhi, ← hB, hd]
          simp
          omega
        have hlt : B < 2 ^ 32 := by omega
        have hsub : IntKind.u32.wrap ((B : Int) - ((2 ^ s : Nat) : Int)) = ((B - 2 ^ s : Nat) : Int) := by
          rw [wrap_u32]
          generalize 2 ^ s = p at hp hh ⊢
          omega
        rw [hsub]
        have hh2 : B - 2 ^ s = A / 2 ^ (32 - m) * 2 ^ (32 - m) + A % 2 ^ s := by omega
        rw [hh2]
        push_cast
        rfl
    · have hi' : ¬ ((i : Int) < 32) := by omega
      have h32 : i = 32 := by omega
      subst h32
      have e : A / 2 ^ (32 - m) * 2 ^ (32 - m) + A % 2 ^ (32 - 32) = A / 2 ^ (32 - m) * 2 ^ (32 - m) := by
        have : A % 2 ^ (32 - 32) = 0 := Nat.mod_one A
        omega
      rw [e, keep_val A m hA hm]
      simp

def mkP (a n : Int) : (Int × Int) × Int := if n < 0 ∨ 32 < n then ((0, 0), 5) else ((keepI a n, n), 0)

theorem hdr_ext (a b : Hdr) : a = b ↔ a.Ty = b.Ty ∧ a.ID = b.ID ∧ a.Len = b.Len ∧ a.Router = b.Router ∧ a.Seq = b.Seq ∧ a.Age = b.Age ∧ a.Sum = b.Sum := by
  cases a; cases b; simp

set_option maxHeartbeats 1000000 in
set_option maxRecDepth 10000 in
theorem c20 (a b : Lsa) (hl : a.Links.length < 8796093022208) (ha : a.Att.length < 140737488355328) : CFun Try.prog 49 [encA a, encA b] [] (.bool (decide (a.H = b.H) && sameB a b)) [] := by
  refine CFun.intro (tr := []) (fz := []) (n := 15) (rs := [.tmp 4]) Try.func49 rfl (by kernel_rfl) rfl rfl mixed (by kernel_rfl) (by simp) (by simp) ?_
  have h30 := (c30 a b hl ha).up' [cellsA a, cellsA b] rfl rfl
  by_cases e : a.H = b.H
  · simp [e]
    refine ⟨_, _, .inl (by simpa [e] using h30), by simp, ?_⟩
    simp
  · have e' : (a.H.Ty = b.H.Ty ∧ a.H.ID = b.H.ID ∧ a.H.Len = b.H.Len ∧ a.H.Router = b.H.Router ∧ a.H.Seq = b.H.Seq ∧ a.H.Age = b.H.Age ∧ a.H.Sum = b.H.Sum) = False := eq_false fun h => e ((hdr_ext a.H b.H).2 h)
    simp
    simp only [e', if_false]
    simp [e]
    trace_state

theorem rd_list {α : Type} {enc : α → AVal} {ag : Bool} {by_ : Nat} {e : List CTy} {x : AVal} (h : RdA (false, [.sl ag by_ e]) x) (hd : ∀ y cs, (if ag = true then y = .agg cs else cs = [y]) → Rds e cs → ∃ a, y = enc a) :
    ∃ l : List α, x = .sl e.length (l.map enc) .sh ∧ l.length * by_ ≤ reachBytes := by
  obtain ⟨cs, h1, h2⟩ := h
  simp only [Rds, Rd] at h2
  obtain ⟨y, r, rfl, ⟨xs, rfl, hl, hx⟩, rfl⟩ := h2
  simp at h1
  subst h1
  obtain ⟨l, rfl⟩ := decAll (enc := enc) xs fun y hy => by
    obtain ⟨cs, h1, h2⟩ := hx y hy
    exact hd y cs h1 h2
  exact ⟨l, rfl, by simpa using hl⟩

/-- What Decode answers. -/
def lsa0 : Lsa := ⟨⟨0, 0, 0, 0, 0, 0, 0⟩, false, false, [], [], 0, false, 0, 0⟩

def tyI : Bool × List CTy := (false, [.int .i64])

def tyU : Bool × List CTy := (false, [.int .u8])

theorem rd_i {x : AVal} (h : RdA tyI x) : ∃ n : Int, x = .int .i64 n ∧ inI n := by
  obtain ⟨cs, h1, h2⟩ := h
  obtain ⟨n, r, rfl, h3, w⟩ := Rds_int h2
  obtain rfl := Rds_nil h3
  simp [tyI] at h1
  exact ⟨n, h1.symm, wf_i64 w⟩

theorem rd_u {x : AVal} (h : RdA tyU x) : ∃ n : Int, x = .int .u8 n ∧ 0 ≤ n ∧ n ≤ 255 := by
  obtain ⟨cs, h1, h2⟩ := h
  obtain ⟨n, r, rfl, h3, h4⟩ := Rds_int h2
  obtain rfl := Rds_nil h3
  simp [tyU] at h1
  have hw : 0 ≤ n ∧ n ≤ 255 := by simpa [Lit.wf, IntKind.min, IntKind.max, IntKind.signed, IntKind.bits] using h4
  exact ⟨n, h1.symm, hw⟩

end Go.Proofs.Yticijodoelphcaa
