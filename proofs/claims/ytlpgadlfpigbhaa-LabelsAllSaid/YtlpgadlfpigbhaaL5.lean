import Derived.Test.YtlpgadlfpigbhaaL4
set_option linter.unusedSimpArgs false
set_option linter.unusedVariables false
namespace Go.Proofs.Ytlpgadlfpigbhaa
open Go Go.Am

def rgF (x : Int) (s : List LR × Int × Int) (r : LR) : List LR × Int × Int :=
  if r.To < x - 1 then (s.1 ++ [r], s.2) else if r.To = x - 1 then (s.1, r.From, s.2.2) else if r.From = x + 1 then (s.1, s.2.1, r.To) else s
def rgL (l : List LR) (x : Int) : List LR × Int × Int := l.foldl (rgF x) ([], x, x)
def rgOut (l : List LR) (x : Int) : List LR := (rgL l x).1 ++ [⟨(rgL l x).2.1, (rgL l x).2.2⟩] ++ l.filter fun r => decide (x + 1 < r.From)
def rgiveL (l : List LR) (x : Int) : List LR × Int :=
  if chk l ≠ 0 then ([], chk l) else
  if x < 16 ∨ 1048575 < x then ([], 5) else
  if has l x = true then ([], 7) else (rgOut l x, 0)

set_option maxHeartbeats 2000000 in
set_option maxRecDepth 10000 in
theorem c14 (l : List LR) (n : Nat) (hn : l.length = n) (hlen : n < 1099511627776) (x : Int) : CFun Try.prog 14 [.sl 2 (l.map encLR) .sh, .int .i64 x] [] (.tup [.sl 2 ((rgiveL l x).1.map encLR) .sh, .int .i64 (rgiveL l x).2]) [] := by
  refine CFun.intro (tr := [42, 65, 80]) (fz := []) (n := 86) (rs := [.tmp 4, .tmp 5]) Try.func14 rfl (by kernel_rfl) rfl rfl mixed (by kernel_rfl) (by simp) (by simp) ?_
  simp
  refine ⟨_, _, .inl ((c16 l n hn hlen).up' _ rfl rfl), trivial, ?_⟩
  by_cases h : chk l = 0
  case neg => simp [h, rgiveL]
  by_cases c1 : x < 16
  · simp [h, c1, rgiveL]
  by_cases c2 : 1048575 < x
  · simp [h, c1, c2, rgiveL]
  simp [h, c1, c2]
  refine ⟨_, _, .inl ((c18 l n hn hlen x).up' _ rfl rfl), trivial, ?_⟩
  by_cases c3 : has l x = true
  · simp [c3, rgiveL, h, c1, c2]
  have hspec : rgiveL l x = (rgOut l x, 0) := by simp [rgiveL, h, c1, c2, c3]
  have hc : (l.length : Int) = n := by omega
  rw [hspec]
  simp [c3]
  have w2 : IntKind.i64.wrap (x - 1) = x - 1 := wrap_in (by omega)
  have w3 : IntKind.i64.wrap (x + 1) = x + 1 := wrap_in (by omega)
  refine LoopK.intro (tr := [42, 65, 80]) mixed (by kernel_rfl) (fun i : Nat × List LR × Int × Int => [(0, .sl 2 (l.map encLR) .sh), (1, .int .i64 x), (7, .ptr 0 0), (8, .sl 2 (i.2.1.map encLR) .own), (30, .sl 2 (l.map encLR) .sh), (31, .int .i64 n), (32, .int .i64 i.1)])
    (fun i => [[.int .i64 i.2.2.1, .int .i64 i.2.2.2]]) (fun i => i.1 ≤ n ∧ i.2.1.length ≤ i.1 ∧ rgL l x = (l.drop i.1).foldl (rgF x) i.2) (fun i => n - i.1) (0, [], x, x) ?_ ?_ ?_
  · simp [rgL]
  · simp [hc]
  · rintro ⟨i, out, f, t⟩ ⟨h1, h2, h3⟩
    simp only at h1 h2 h3
    by_cases hi : i < n
    · obtain ⟨r, hx, hd⟩ := get_drop (l := l) (i := i) (by omega)
      rw [hd, List.foldl_cons] at h3
      have w1 : IntKind.i64.wrap ((i : Int) + 1) = i + 1 := wrap_in (by omega)
      have s1 : (out.length + 1) * 16 ≤ 140737488355328 := by omega
      have s2 : out.length + 1 ≤ 140737488355328 := by omega
      clear hd hn hspec
      by_cases a1 : r.To < x - 1
      · simp [hi, hx, a1, s1, s2, w1, w2]
        exact ⟨i + 1, out ++ [r], f, t, ⟨by omega, by simp; omega, by simpa [rgF, a1] using h3⟩, by omega, by simp⟩
      · by_cases a2 : r.To = x - 1
        · simp [hi, hx, a2, w1, w2]
          exact ⟨i + 1, out, r.From, t, ⟨by omega, by omega, by simpa [rgF, a2] using h3⟩, by omega, by simp⟩
        · by_cases a3 : r.From = x + 1
          · simp [hi, hx, a1, a2, a3, w1, w2, w3]
            exact ⟨i + 1, out, f, r.To, ⟨by omega, by omega, by simpa [rgF, a1, a2, a3] using h3⟩, by omega, by simp⟩
          · simp [hi, hx, a1, a2, a3, w1, w2, w3]
            exact ⟨i + 1, out, f, t, ⟨by omega, by omega, by simpa [rgF, a1, a2, a3] using h3⟩, by omega, by simp⟩
    · have hin : i = n := by omega
      rw [List.drop_eq_nil_of_le (by omega), List.foldl_nil] at h3
      have s1 : (out.length + 1) * 16 ≤ 140737488355328 := by omega
      have s2 : out.length + 1 ≤ 140737488355328 := by omega
      subst hin
      simp [s1, s2, hc]
      refine LoopK.intro (tr := [42, 65, 80]) mixed (by kernel_rfl) (fun j : Nat × List LR => [(1, .int .i64 x), (8, .sl 2 (j.2.map encLR) .own), (69, .sl 2 (l.map encLR) .sh), (70, .int .i64 i), (71, .int .i64 j.1)])
        (fun _ => []) (fun j => j.1 ≤ i ∧ j.2.length ≤ i + 1 + j.1 ∧ rgOut l x = j.2 ++ (l.drop j.1).filter fun r => decide (x + 1 < r.From)) (fun j => i - j.1) (0, out ++ [⟨f, t⟩]) ?_ ?_ ?_
      · refine ⟨Nat.zero_le _, by simp; omega, by simp [rgOut, h3]⟩
      · simp
      · rintro ⟨j, ou⟩ ⟨g1, g2, g3⟩
        simp only at g1 g2 g3
        by_cases hj : j < i
        · obtain ⟨r, hx, hd⟩ := get_drop (l := l) (i := j) (by omega)
          rw [hd, List.filter_cons] at g3
          have w1 : IntKind.i64.wrap ((j : Int) + 1) = j + 1 := wrap_in (by omega)
          have s3 : (ou.length + 1) * 16 ≤ 140737488355328 := by omega
          have s4 : ou.length + 1 ≤ 140737488355328 := by omega
          clear hd hn hspec
          by_cases a1 : x + 1 < r.From
          · simp [hj, hx, a1, s3, s4, w1, w3]
            exact ⟨j + 1, ou ++ [r], ⟨by omega, by simp; omega, by simpa [a1] using g3⟩, by omega, by simp⟩
          · simp [hj, hx, a1, w1, w3]
            exact ⟨j + 1, ou, ⟨by omega, by omega, by simpa [a1] using g3⟩, by omega, by simp⟩
        · have : j = i := by omega
          subst this
          rw [List.drop_eq_nil_of_le (by omega)] at g3
          simp [g3]
end Go.Proofs.Ytlpgadlfpigbhaa
