import Derived.Test.YtclflkgafjgkfaaS6
set_option linter.unusedSimpArgs false
set_option linter.unusedVariables false
namespace Go.Proofs.Ytclflkgafjgkfaa
open Go Go.Am

theorem bodyB_len (l : Lsa) (hl : l.Links.length ≤ 64) (ha : l.Att.length ≤ 64) : (bodyB l).length ≤ 706 := by
  have h1 : ((l.Links.map linkB).flatten).length = l.Links.length * 11 := by
    induction l.Links with
    | nil => rfl
    | cons x xs ih => simp only [List.map_cons, List.flatten_cons, List.length_append, linkB_len, List.length_cons, ih]; omega
  have h2 : ((l.Att.map attB).flatten).length = l.Att.length * 4 := by
    induction l.Att with
    | nil => rfl
    | cons x xs ih => simp only [List.map_cons, List.flatten_cons, List.length_append, attB_len, List.length_cons, ih]; omega
  unfold bodyB
  split
  · simp only [List.length_append, numB_len, h1]; omega
  · split
    · simp only [List.length_append, numB_len, h2]; omega
    · split
      · simp [numB_len]
      · split <;> simp [numB_len]
def bytesA (l : Lsa) : List Int := hdrB l.H ++ numB 2 (U (bodyB l).length) ++ bodyB l
theorem bytesA_len (l : Lsa) (hl : l.Links.length ≤ 64) (ha : l.Att.length ≤ 64) : (bytesA l).length ≤ 726 := by
  have := bodyB_len l hl ha
  simp only [bytesA, List.length_append, hdrB_len, numB_len]; omega

set_option maxHeartbeats 1000000 in
set_option maxRecDepth 10000 in
theorem c59 (l : Lsa) (hl : l.Links.length ≤ 64) (ha : l.Att.length ≤ 64) : CFun Try.prog 59 [encA l] [] (encBs (bytesA l)) [] := by
  refine CFun.intro (tr := []) (fz := []) (n := 15) (rs := [.tmp 2]) Try.func59 rfl (by kernel_rfl) rfl rfl mixed (by kernel_rfl) (by simp) (by simp) ?_
  have h87 := (c87 l hl ha).up' [cellsA l] rfl rfl
  have h69 := (c69 l.H).up' [cellsA l] rfl rfl
  have hb := bodyB_len l hl ha
  have h88 := (c88 (hdrB l.H) (by rw [hdrB_len]; omega) 2 (by omega) (U (bodyB l).length)).up' [cellsA l] rfl rfl
  have s1 : (hdrB l.H).length + 2 + (bodyB l).length ≤ 140737488355328 := by rw [hdrB_len]; omega
  have hbc : ((bodyB l).length : Int) = ((bodyB l).length : Nat) := rfl
  simp
  refine ⟨_, _, .inl h87, trivial, ?_⟩
  simp
  refine ⟨_, _, .inl h69, trivial, ?_⟩
  simp
  refine ⟨_, _, .inl (by simpa [cargs] using h88), by simp, ?_⟩
  simp [numB_len, s1, bytesA]

def resI (n : Int) : Int := IntKind.i64.wrap ((IntKind.i64.wrap ((IntKind.i64.wrap (n - 1)).tmod 255 + 255)).tmod 255 + 1)
theorem c98 (n : Int) : CFun Try.prog 98 [.int .i64 n] [] (.int .i64 (resI n)) [] := by
  refine CFun.intro (tr := []) (fz := []) (n := 9) (rs := [.tmp 2]) Try.func98 rfl (by kernel_rfl) rfl rfl mixed (by kernel_rfl) (by simp) (by simp) ?_
  simp [resI]

def sumStep (n : Int) (skip : Int) (i : Nat) (s : Int × Int) (b : Int) : Int × Int :=
  if 0 ≤ skip ∧ ((i : Int) = skip ∨ (i : Int) = IntKind.i64.wrap (skip + 1)) then s else
  ((IntKind.i64.wrap (s.1 + IntKind.i64.wrap b)).tmod 255, (IntKind.i64.wrap (s.2 + IntKind.i64.wrap ((IntKind.i64.wrap (n - i)).tmod 255 * IntKind.i64.wrap b))).tmod 255)
def sumsL (n : Int) (skip : Int) : List Int → Nat → Int × Int → Int × Int
  | [], _, s => s
  | b :: bs, i, s => sumsL n skip bs (i + 1) (sumStep n skip i s b)

set_option maxHeartbeats 2000000 in
set_option maxRecDepth 10000 in
theorem c97 (b : List Int) (n : Nat) (hn : (b.length : Int) = n) (hlen : n < 1099511627776) (skip : Int) : CFun Try.prog 97 [encBs b, .int .i64 skip] [] (.agg [.int .i64 (sumsL n skip b 0 (0, 0)).1, .int .i64 (sumsL n skip b 0 (0, 0)).2]) [] := by
  refine CFun.intro (tr := []) (fz := []) (n := 53) (rs := [.cell 4 116]) Try.func97 rfl (by kernel_rfl) rfl rfl mixed (by kernel_rfl) (by simp) (by simp) ?_
  simp [hn]
  refine LoopK.intro (tr := []) mixed (by kernel_rfl) (fun q : Nat × Int × Int => [(0, encBs b), (1, .int .i64 skip), (4, .ptr 0 0), (5, .ptr 1 0), (8, .int .i64 n), (9, .int .i64 q.1)]) (fun q => [[.int .i64 0, .int .i64 0], [.int .i64 q.2.1, .int .i64 q.2.2]])
    (fun q => q.1 ≤ n ∧ sumsL n skip b 0 (0, 0) = sumsL n skip (b.drop q.1) q.1 q.2) (fun q => n - q.1) (0, 0, 0) ?_ ?_ ?_
  · simp
  · simp
  · rintro ⟨i, s0, s1⟩ ⟨h1, h2⟩
    simp only at h1 h2
    by_cases hi : i < n
    · obtain ⟨x, hx, hd⟩ := get_drop (l := b) (i := i) (by omega)
      rw [hd] at h2
      have w1 : IntKind.i64.wrap ((i : Int) + 1) = i + 1 := wrap_in (by omega)
      simp only [sumsL, sumStep] at h2
      clear hd
      by_cases k0 : 0 ≤ skip
      · by_cases k1 : (i : Int) = skip
        · subst k1
          simp [k0] at h2
          simp [hi, w1]
          exact ⟨i + 1, s0, s1, ⟨by omega, h2⟩, by omega, by simp, rfl, rfl⟩
        · by_cases k2 : (i : Int) = IntKind.i64.wrap (skip + 1)
          · rw [if_pos ⟨k0, .inr k2⟩] at h2
            have b1 : ((i : Int) == skip) = false := by simpa using k1
            have b2 : ((i : Int) == IntKind.i64.wrap (skip + 1)) = true := by simpa using k2
            simp [hi, k0, b1, b2, w1]
            exact ⟨i + 1, s0, s1, ⟨by omega, h2⟩, by omega, by simp, rfl, rfl⟩
          · rw [if_neg (by rintro ⟨_, h | h⟩ <;> contradiction)] at h2
            have b1 : ((i : Int) == skip) = false := by simpa using k1
            have b2 : ((i : Int) == IntKind.i64.wrap (skip + 1)) = false := by simpa using k2
            simp [hi, k0, b1, b2, hx, hn, w1]
            exact ⟨i + 1, _, _, ⟨by omega, h2⟩, by omega, by simp, rfl, rfl⟩
      · rw [if_neg (by omega)] at h2
        simp [hi, k0, hx, hn, w1]
        exact ⟨i + 1, _, _, ⟨by omega, h2⟩, by omega, by simp, rfl, rfl⟩
    · have e : b.drop i = [] := List.drop_of_length_le (by omega)
      rw [e] at h2
      simp [sumsL] at h2
      simp [hi, h2]

/-- The Fletcher checksum, its place given. -/
def fletch (b : List Int) (at_ : Int) : Int × Bool :=
  if at_ < 0 ∨ IntKind.i64.wrap ((b.length : Int) - 1) ≤ at_ then (0, false) else
  let s := sumsL b.length at_ b 0 (0, 0)
  let x := resI (IntKind.i64.wrap (IntKind.i64.wrap ((IntKind.i64.wrap (IntKind.i64.wrap ((b.length : Int) - at_) - 1)).tmod 255 * s.1) - s.2))
  let y := resI (IntKind.i64.wrap (IntKind.i64.wrap (0 - s.1) - x))
  (IntKind.i64.wrap (IntKind.i64.wrap (256 * x) + y), true)

set_option maxHeartbeats 2000000 in
set_option maxRecDepth 10000 in
theorem c85 (b : List Int) (hlen : b.length < 1099511627776) (at_ : Int) : CFun Try.prog 85 [encBs b, .int .i64 at_] [] (.tup [.int .i64 (fletch b at_).1, .bool (fletch b at_).2]) [] := by
  refine CFun.intro (tr := []) (fz := []) (n := 44) (rs := [.tmp 4, .tmp 5]) Try.func85 rfl (by kernel_rfl) rfl rfl mixed (by kernel_rfl) (by simp) (by simp) ?_
  by_cases h1 : at_ < 0
  · simp [h1, fletch]
  by_cases h2 : IntKind.i64.wrap ((b.length : Int) - 1) ≤ at_
  · simp [h1, h2, fletch]
  have h97 := c97 b b.length rfl hlen at_
  have h98 : ∀ n H, CFun Try.prog 98 [.int .i64 n] H (.int .i64 (resI n)) H := fun n H => (c98 n).up' H rfl rfl
  simp only [fletch, if_neg (show ¬ (at_ < 0 ∨ IntKind.i64.wrap ((b.length : Int) - 1) ≤ at_) by rintro (h | h) <;> contradiction)]
  generalize sumsL b.length at_ b 0 (0, 0) = s at h97 ⊢
  simp [h1, h2]
  refine ⟨_, _, .inl h97, trivial, ?_⟩
  simp
  refine ⟨_, _, .inl (h98 _ _), by simp, ?_⟩
  simp
  refine ⟨_, _, .inl (h98 _ _), by simp, ?_⟩
  simp

def sumA (l : Lsa) : Int := (fletch ((bytesA l).drop 2) 14).1
set_option maxHeartbeats 1000000 in
set_option maxRecDepth 10000 in
theorem c54 (l : Lsa) (hl : l.Links.length ≤ 64) (ha : l.Att.length ≤ 64) : CFun Try.prog 54 [encA l] [] (.int .i64 (sumA l)) [] := by
  refine CFun.intro (tr := []) (fz := []) (n := 13) (rs := [.tmp 2]) Try.func54 rfl (by kernel_rfl) rfl rfl mixed (by kernel_rfl) (by simp) (by simp) ?_
  have h59 := (c59 l hl ha).up' [cellsA l] rfl rfl
  have hlen := bytesA_len l hl ha
  have hlo : 20 ≤ (bytesA l).length := by simp only [bytesA, List.length_append, hdrB_len, numB_len]; omega
  have h85 := (c85 ((bytesA l).drop 2) (by simp; omega) 14).up' [cellsA l] rfl rfl
  rw [sumA]
  generalize bytesA l = b at h59 h85 hlen hlo ⊢
  have z1 : (2 : Int) ≤ b.length := by omega
  have z2 : 2 ≤ b.length := by omega
  generalize fletch (b.drop 2) 14 = r at h85 ⊢
  simp
  refine ⟨_, _, .inl h59, trivial, ?_⟩
  have ht : (b.map enc8).take b.length = b.map enc8 := List.take_of_length_le (by simp)
  simp [z1, z2, ht]
  refine ⟨_, _, .inl (by simpa [cargs] using h85), by simp, ?_⟩
  simp
end Go.Proofs.Ytclflkgafjgkfaa
