import Derived.Test.YtclflkgafjgkfaaS3
set_option linter.unusedSimpArgs false
set_option linter.unusedVariables false
namespace Go.Proofs.Ytclflkgafjgkfaa
open Go Go.Am

@[simp] def encBs (b : List Int) : AVal := .sl 1 (b.map enc8) .sh

/-- One byte of a number. -/
def bt (x : Int) (i : Nat) : Int := IntKind.u8.wrap (x.fdiv (2 ^ (8 * i)))
def numB : Nat → Int → List Int
  | 0, _ => []
  | n + 1, x => bt x n :: numB n x
theorem numB_len (n : Nat) (x : Int) : (numB n x).length = n := by
  induction n with
  | zero => rfl
  | succ n ih => simp [numB, ih]

set_option maxHeartbeats 1000000 in
set_option maxRecDepth 10000 in
theorem c104 (n : Nat) (hn : n ≤ 8) (x : Int) : CFun Try.prog 104 [.int .i64 n, .int .u64 x] [] (encBs (numB n x)) [] := by
  refine CFun.intro (tr := [13]) (fz := []) (n := 22) (rs := [.tmp 4]) Try.func104 rfl (by kernel_rfl) rfl rfl mixed (by kernel_rfl) (by simp) (by simp) ?_
  have w0 : IntKind.i64.wrap ((n : Int) - 1) = n - 1 := wrap_in (by omega)
  simp [w0]
  refine LoopK.intro (tr := [13]) mixed (by kernel_rfl) (fun q : Nat × List Int => [(1, .int .u64 x), (5, .sl 1 (q.2.map enc8) .own), (6, .int .i64 ((q.1 : Int) - 1))]) (fun _ => []) (fun q => q.1 ≤ n ∧ q.2.length ≤ 8 ∧ q.2.length + q.1 = n ∧ q.2 ++ numB q.1 x = numB n x) (fun q => q.1) (n, []) ?_ ?_ ?_
  · exact ⟨Nat.le_refl _, by simp, by simp, rfl⟩
  · simp
  · rintro ⟨k, out⟩ ⟨h1, h2, h3, h4⟩
    simp only at h1 h2 h3 h4
    cases k with
    | zero =>
      simp only [numB, List.append_nil] at h4
      simp [h4]
    | succ k =>
      have w1 : IntKind.i64.wrap (8 * (k : Int)) = 8 * k := wrap_in (by omega)
      have w2 : IntKind.i64.wrap ((k : Int) - 1) = k - 1 := wrap_in (by omega)
      have h0 : (0 : Int) ≤ k := by omega
      have h5 : ¬ (8 * (k : Int) < 0) := by omega
      have h6 : min (8 * (k : Int)).toNat IntKind.u64.bits = 8 * k := by
        have : IntKind.u64.bits = 64 := rfl
        omega
      have s1 : out.length + 1 ≤ 140737488355328 := by omega
      have hb : IntKind.u8.wrap (x.fdiv (2 ^ (8 * k))) = bt x k := rfl
      simp [w1, w2, h0, h5, h6, s1, hb]
      exact ⟨k, out ++ [bt x k], ⟨by omega, by simp; omega, by simp; omega, by rw [← h4]; simp [numB]⟩, by omega, by simp, rfl⟩

theorem flat_take {α : Type} (ps : List (List α)) (i : Nat) (p : List α) (h : ps[i]? = some p) : (ps.take (i + 1)).flatten = (ps.take i).flatten ++ p := by
  rw [List.take_add_one, h]; simp
theorem flat_le {α : Type} (ps : List (List α)) (i : Nat) : (ps.take i).flatten.length ≤ ps.flatten.length := by
  have := congrArg (fun l => l.flatten.length) (List.take_append_drop i ps)
  simp only [List.flatten_append, List.length_append] at this
  omega

set_option maxHeartbeats 2000000 in
set_option maxRecDepth 10000 in
theorem c103 (ps : List (List Int)) (n : Nat) (hn : (ps.length : Int) = n) (hlen : n < 1099511627776) (hsz : ps.flatten.length < 1099511627776) : CFun Try.prog 103 [.sl 1 (ps.map encBs) .sh] [] (.sl 1 (ps.flatten.map enc8) .own) [] := by
  refine CFun.intro (tr := [28, 32]) (fz := []) (n := 33) (rs := [.tmp 2]) Try.func103 rfl (by kernel_rfl) rfl rfl mixed (by kernel_rfl) (by simp) (by simp) ?_
  simp [hn]
  refine LoopK.intro (tr := [28, 32]) mixed (by kernel_rfl) (fun i : Nat => [(0, .sl 1 (ps.map encBs) .sh), (3, .int .i64 ((ps.take i).flatten.length : Nat)), (9, .sl 1 (ps.map encBs) .sh), (10, .int .i64 n), (11, .int .i64 i)]) (fun _ => []) (fun i => i ≤ n) (fun i => n - i) 0 ?_ ?_ ?_
  · simp
  · simp
  · rintro i h1
    by_cases hi : i < n
    · obtain ⟨p, hp, _⟩ := get_drop (l := ps) (i := i) (by omega)
      have w1 : IntKind.i64.wrap ((i : Int) + 1) = i + 1 := wrap_in (by omega)
      have hf := flat_take ps i p hp
      have hl := flat_le ps (i + 1)
      rw [hf, List.length_append] at hl
      have w2 : IntKind.i64.wrap (((ps.take i).flatten.length : Int) + p.length) = (ps.take i).flatten.length + p.length := wrap_in (by omega)
      have hfl : ((ps.take (i + 1)).flatten.length : Int) = (ps.take i).flatten.length + p.length := by rw [hf, List.length_append]; omega
      generalize (ps.take i).flatten.length = m1 at w2 hfl
      generalize hm2 : (ps.take (i + 1)).flatten.length = m2 at hfl
      clear hn hf hl
      simp [hi, hp, w1, w2, -List.length_flatten]
      refine ⟨i + 1, by omega, by omega, ?_, by simp⟩
      rw [hm2]; omega
    · have hin : i = n := by omega
      subst hin
      have ht : ps.take i = ps := List.take_of_length_le (by omega)
      rw [ht]
      have z1 : (0 : Int) ≤ (ps.flatten.length : Nat) := by omega
      have z2 : ps.flatten.length ≤ 281474976710656 := by omega
      have z3 : ((ps.flatten.length : Nat) : Int) ≤ 9223372036854775807 := by omega
      simp [hn, z1, z2, z3, -List.length_flatten]
      refine LoopK.intro (tr := [28, 32]) mixed (by kernel_rfl) (fun j : Nat => [(6, .sl 1 ((ps.take j).flatten.map enc8) .own), (22, .sl 1 (ps.map encBs) .sh), (23, .int .i64 i), (24, .int .i64 j)]) (fun _ => []) (fun j => j ≤ i) (fun j => i - j) 0 ?_ ?_ ?_
      · simp
      · simp
      · rintro j j1
        by_cases hj : j < i
        · obtain ⟨p, hp, _⟩ := get_drop (l := ps) (i := j) (by omega)
          have w1 : IntKind.i64.wrap ((j : Int) + 1) = j + 1 := wrap_in (by omega)
          have hf := flat_take ps j p hp
          have hl := flat_le ps (j + 1)
          rw [hf, List.length_append] at hl
          have s1 : (ps.take j).flatten.length + p.length ≤ 140737488355328 := by omega
          generalize (ps.take j).flatten = m1 at s1 hf hl
          clear hn hl
          simp [hj, hp, w1, s1, -List.map_flatten]
          refine ⟨j + 1, by omega, by omega, ?_, by simp⟩
          rw [hf]; simp
        · have hji : j = i := by omega
          subst hji
          rw [ht]
          simp [-List.map_flatten]
          exact List.map_flatten

set_option maxHeartbeats 1000000 in
set_option maxRecDepth 10000 in
theorem c88 (b : List Int) (hb : b.length < 1099511627000) (n : Nat) (hn : n ≤ 8) (x : Int) : CFun Try.prog 88 [encBs b, .int .i64 n, .int .u64 x] [] (.sl 1 ((b ++ numB n x).map enc8) .own) [] := by
  refine CFun.intro (tr := []) (fz := []) (n := 15) (rs := [.tmp 6]) Try.func88 rfl (by kernel_rfl) rfl rfl mixed (by kernel_rfl) (by simp) (by simp) ?_
  have h103 := (c103 [b, numB n x] 2 rfl (by omega) (by simp [numB_len]; omega)).wk [.sl 1 ([b, numB n x].map encBs) .full] (by simp) ⟨whole, trivial⟩
  simp only [List.map_cons, List.map_nil, List.flatten_cons, List.flatten_nil, List.append_nil] at h103
  have z1 : ¬ ((n : Int) < 0) := by omega
  have z2 : ¬ ((8 : Int) < n) := by omega
  simp [z1, z2]
  refine ⟨_, _, .inl (c104 n hn x), by simp, ?_⟩
  simp
  refine ⟨_, _, .inl (by simpa [cargs] using h103), by simp, ?_⟩
  simp
end Go.Proofs.Ytclflkgafjgkfaa
