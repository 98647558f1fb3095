import Derived.Test.YtclflkgafjgkfaaSFacts
import Derived.Test.YtclflkgafjgkfaaAmV
set_option linter.unusedSimpArgs false
set_option linter.unusedVariables false
namespace Go.Proofs.Ytclflkgafjgkfaa
open Go Go.Am

def inR (n lo hi : Int) : Bool := decide (lo ≤ n) && decide (n ≤ hi)
theorem c44 (n lo hi : Int) : CFun Try.prog 44 [.int .i64 n, .int .i64 lo, .int .i64 hi] [] (.bool (inR n lo hi)) [] := by
  refine CFun.intro (tr := []) (fz := []) (n := 15) (rs := [.tmp 6]) Try.func44 rfl (by kernel_rfl) rfl rfl mixed (by kernel_rfl) (by simp) (by simp) ?_
  by_cases h : lo ≤ n <;> simp [h, inR]
theorem c48 (n lo hi : Int) : CFun Try.prog 48 [.int .i64 n, .int .i64 lo, .int .i64 hi] [] (.bool (inR n lo hi)) [] := by
  refine CFun.intro (tr := []) (fz := []) (n := 15) (rs := [.tmp 6]) Try.func48 rfl (by kernel_rfl) rfl rfl mixed (by kernel_rfl) (by simp) (by simp) ?_
  by_cases h : lo ≤ n <;> simp [h, inR]

def hasP (t : Int) : Bool := decide (t = 2) || decide (t = 3) || decide (t = 5)
theorem c66 (t : Int) : CFun Try.prog 66 [.int .i64 t] [] (.bool (hasP t)) [] := by
  refine CFun.intro (tr := []) (fz := []) (n := 13) (rs := [.tmp 2]) Try.func66 rfl (by kernel_rfl) rfl rfl mixed (by kernel_rfl) (by simp) (by simp) ?_
  by_cases h : t = 2
  · simp [h, hasP]
  · by_cases h2 : t = 3 <;> by_cases h3 : t = 5 <;> simp [h, h2, h3, hasP]

def clampI (n m : Int) : Int := if m < (if n < 0 then 0 else n) then m else if n < 0 then 0 else n
theorem c106 (n m : Int) : CFun Try.prog 106 [.int .i64 n, .int .i64 m] [] (.int .i64 (clampI n m)) [] := by
  refine CFun.intro (tr := []) (fz := []) (n := 9) (rs := [.tmp 4]) Try.func106 rfl (by kernel_rfl) rfl rfl mixed (by kernel_rfl) (by simp) (by simp) ?_
  simp [clampI]

def maskI (n : Int) : Int := IntKind.u32.wrap (4294967295 * 2 ^ (min (32 - clampI n 32).toNat 32))
theorem clamp_range (n : Int) : 0 ≤ clampI n 32 ∧ clampI n 32 ≤ 32 := by
  unfold clampI; split <;> split <;> omega
theorem c105 (n : Int) : CFun Try.prog 105 [.int .i64 n] [] (.int .u32 (maskI n)) [] := by
  refine CFun.intro (tr := []) (fz := []) (n := 7) (rs := [.tmp 2]) Try.func105 rfl (by kernel_rfl) rfl rfl mixed (by kernel_rfl) (by simp) (by simp) ?_
  simp
  refine ⟨_, _, .inl (c106 n 32), trivial, ?_⟩
  have hr := clamp_range n
  have w : IntKind.i64.wrap (32 - clampI n 32) = 32 - clampI n 32 := wrap_in (by omega)
  have h0 : ¬ (32 - clampI n 32 < 0) := by omega
  simp [w, h0, maskI, show IntKind.u32.bits = 32 from rfl]

def keepI (x n : Int) : Int := IntKind.u32.wrap ((BitVec.ofInt 32 x &&& BitVec.ofInt 32 (maskI n)).toNat : Int)
theorem c94 (x n : Int) : CFun Try.prog 94 [.int .u32 x, .int .i64 n] [] (.int .u32 (keepI x n)) [] := by
  refine CFun.intro (tr := []) (fz := []) (n := 9) (rs := [.tmp 4]) Try.func94 rfl (by kernel_rfl) rfl rfl mixed (by kernel_rfl) (by simp) (by simp) ?_
  simp
  refine ⟨_, _, .inl (c105 n), trivial, ?_⟩
  simp [keepI, show IntKind.u32.bits = 32 from rfl]

def validP (a n : Int) : Bool := decide (0 ≤ n) && decide (n ≤ 32) && decide (keepI a n = a)
set_option maxHeartbeats 1000000 in
set_option maxRecDepth 10000 in
theorem c77 (a n : Int) : CFun Try.prog 77 [.agg [.int .u32 a, .int .i64 n]] [] (.bool (validP a n)) [] := by
  refine CFun.intro (tr := []) (fz := []) (n := 21) (rs := [.tmp 2]) Try.func77 rfl (by kernel_rfl) rfl rfl mixed (by kernel_rfl) (by simp) (by simp) ?_
  have h94 := (c94 a n).up' [[.int .u32 a, .int .i64 n]] rfl rfl
  by_cases h1 : 0 ≤ n
  · by_cases h2 : n ≤ 32
    · simp [h1, h2]
      refine ⟨_, _, .inl (by simpa using h94), by simp, ?_⟩
      by_cases h3 : keepI a n = a <;> simp [validP, h1, h2, h3]
    · simp [h1, h2, validP]
  · simp [h1, validP]

def memL (l : List Int) (x : Int) : Bool := decide (x ∈ l)
def idxI (x : Int) : List Int → Nat → Int
  | [], _ => -1
  | y :: ys, i => if x = y then (i : Int) else idxI x ys (i + 1)
theorem idxI_mem (x : Int) : ∀ (l : List Int) (i : Nat), (0 ≤ idxI x l i ↔ x ∈ l) := by
  intro l
  induction l with
  | nil => intro i; simp [idxI]
  | cons y ys ih =>
    intro i
    simp only [idxI]
    split
    · rename_i h; subst h; simp
    · rename_i h; rw [ih]; simp [h]
theorem get_drop {α : Type} {l : List α} {i : Nat} (hi : i < l.length) : ∃ x, l[i]? = some x ∧ l.drop i = x :: l.drop (i + 1) :=
  ⟨l[i], List.getElem?_eq_getElem hi, List.drop_eq_getElem_cons hi⟩

@[simp] def encI (x : Int) : AVal := .int .i64 x
@[simp] def enc32 (x : Int) : AVal := .int .u32 x
@[simp] def enc8 (x : Int) : AVal := .int .u8 x

set_option maxHeartbeats 1000000 in
set_option maxRecDepth 10000 in
theorem c95 (l : List Int) (n : Nat) (hn : (l.length : Int) = n) (hlen : n < 1099511627776) (x : Int) : CFun Try.prog 95 [.sl 1 (l.map encI) .sh, .int .i64 x] [] (.int .i64 (idxI x l 0)) [] := by
  refine CFun.intro (tr := []) (fz := []) (n := 19) (rs := [.tmp 4]) Try.func95 rfl (by kernel_rfl) rfl rfl mixed (by kernel_rfl) (by simp) (by simp) ?_
  simp [hn]
  refine LoopK.intro (tr := []) mixed (by kernel_rfl) (fun i : Nat => [(0, .sl 1 (l.map encI) .sh), (1, .int .i64 x), (7, .int .i64 n), (8, .int .i64 i)]) (fun _ => []) (fun i => i ≤ n ∧ idxI x l 0 = idxI x (l.drop i) i) (fun i => n - i) 0 ?_ ?_ ?_
  · simp
  · simp
  · rintro i ⟨h1, h2⟩
    by_cases hi : i < n
    · obtain ⟨y, hy, hd⟩ := get_drop (l := l) (i := i) (by omega)
      rw [hd] at h2
      have w1 : IntKind.i64.wrap ((i : Int) + 1) = i + 1 := wrap_in (by omega)
      clear hd hn
      by_cases hxy : x = y
      · simp [idxI, hxy] at h2
        simp [hi, hy, hxy, h2]
      · simp [idxI, hxy] at h2
        simp [hi, hy, hxy, w1]
        exact ⟨i + 1, ⟨by omega, h2⟩, by omega, by simp⟩
    · have e : l.drop i = [] := List.drop_of_length_le (by omega)
      rw [e] at h2
      simp [idxI] at h2
      simp [hi, h2]
set_option maxHeartbeats 1000000 in
set_option maxRecDepth 10000 in
theorem c96 (l : List Int) (n : Nat) (hn : (l.length : Int) = n) (hlen : n < 1099511627776) (x : Int) : CFun Try.prog 96 [.sl 1 (l.map enc32) .sh, .int .u32 x] [] (.int .i64 (idxI x l 0)) [] := by
  refine CFun.intro (tr := []) (fz := []) (n := 19) (rs := [.tmp 4]) Try.func96 rfl (by kernel_rfl) rfl rfl mixed (by kernel_rfl) (by simp) (by simp) ?_
  simp [hn]
  refine LoopK.intro (tr := []) mixed (by kernel_rfl) (fun i : Nat => [(0, .sl 1 (l.map enc32) .sh), (1, .int .u32 x), (7, .int .i64 n), (8, .int .i64 i)]) (fun _ => []) (fun i => i ≤ n ∧ idxI x l 0 = idxI x (l.drop i) i) (fun i => n - i) 0 ?_ ?_ ?_
  · simp
  · simp
  · rintro i ⟨h1, h2⟩
    by_cases hi : i < n
    · obtain ⟨y, hy, hd⟩ := get_drop (l := l) (i := i) (by omega)
      rw [hd] at h2
      have w1 : IntKind.i64.wrap ((i : Int) + 1) = i + 1 := wrap_in (by omega)
      clear hd hn
      by_cases hxy : x = y
      · simp [idxI, hxy] at h2
        simp [hi, hy, hxy, h2]
      · simp [idxI, hxy] at h2
        simp [hi, hy, hxy, w1]
        exact ⟨i + 1, ⟨by omega, h2⟩, by omega, by simp⟩
    · have e : l.drop i = [] := List.drop_of_length_le (by omega)
      rw [e] at h2
      simp [idxI] at h2
      simp [hi, h2]
theorem c79 (l : List Int) (hlen : l.length < 1099511627776) (x : Int) : CFun Try.prog 79 [.sl 1 (l.map encI) .sh, .int .i64 x] [] (.bool (memL l x)) [] := by
  refine CFun.intro (tr := []) (fz := []) (n := 9) (rs := [.tmp 4]) Try.func79 rfl (by kernel_rfl) rfl rfl mixed (by kernel_rfl) (by simp) (by simp) ?_
  simp
  refine ⟨_, _, .inl (c95 l _ rfl hlen x), trivial, ?_⟩
  simp [memL, idxI_mem]
theorem c82 (l : List Int) (hlen : l.length < 1099511627776) (x : Int) : CFun Try.prog 82 [.sl 1 (l.map enc32) .sh, .int .u32 x] [] (.bool (memL l x)) [] := by
  refine CFun.intro (tr := []) (fz := []) (n := 9) (rs := [.tmp 4]) Try.func82 rfl (by kernel_rfl) rfl rfl mixed (by kernel_rfl) (by simp) (by simp) ?_
  simp
  refine ⟨_, _, .inl (c96 l _ rfl hlen x), trivial, ?_⟩
  simp [memL, idxI_mem]
end Go.Proofs.Ytclflkgafjgkfaa
