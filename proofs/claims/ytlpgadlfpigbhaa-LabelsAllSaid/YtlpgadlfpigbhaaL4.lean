import Derived.Test.YtlpgadlfpigbhaaL3
set_option linter.unusedSimpArgs false
set_option linter.unusedVariables false
namespace Go.Proofs.Ytlpgadlfpigbhaa
open Go Go.Am

/-- What the reference's Take leaves. -/
def rtk : List LR → Nat → List LR
  | [], _ => []
  | r :: rs, i =>
    let q : LR := if i = 0 then ⟨IntKind.i64.wrap (r.From + 1), r.To⟩ else r
    (if q.From ≤ q.To then [q] else []) ++ rtk rs (i + 1)
def rtakeL (l : List LR) : Int × List LR × Int :=
  if chk l = 0 then match l with
    | [] => (0, [], 8)
    | r :: rs => (r.From, rtk (r :: rs) 0, 0)
  else (0, [], chk l)

set_option maxHeartbeats 2000000 in
set_option maxRecDepth 10000 in
theorem c13 (l : List LR) (n : Nat) (hn : l.length = n) (hlen : n < 1099511627776) : CFun Try.prog 13 [.sl 2 (l.map encLR) .sh] [] (.tup [.int .i64 (rtakeL l).1, .sl 2 ((rtakeL l).2.1.map encLR) .sh, .int .i64 (rtakeL l).2.2]) [] := by
  refine CFun.intro (tr := [40]) (fz := []) (n := 47) (rs := [.tmp 2, .tmp 3, .tmp 4]) Try.func13 rfl (by kernel_rfl) rfl rfl mixed (by kernel_rfl) (by simp) (by simp) ?_
  simp
  refine ⟨_, _, .inl ((c16 l n hn hlen).up' _ rfl rfl), trivial, ?_⟩
  by_cases h : chk l = 0
  case neg => simp [h, rtakeL]
  have hc : (l.length : Int) = n := by omega
  by_cases h0 : n = 0
  · have hl : l = [] := List.eq_nil_of_length_eq_zero (by omega)
    subst hl
    simp [h, rtakeL]
  obtain ⟨r0, hx0, hd0⟩ := get_drop (l := l) (i := 0) (by omega)
  have hn0 : ¬ (n : Int) = 0 := by omega
  have hspec : rtakeL l = (r0.From, rtk l 0, 0) := by
    cases l with
    | nil => simp at hx0
    | cons r rs => simp at hx0; subst hx0; simp [rtakeL, h]
  have hx0' : l[0]? = some r0 := hx0
  rw [hspec]
  clear hd0
  have hn' := hn
  clear hn
  simp [h, hc, h0, hx0']
  refine LoopK.intro (tr := [40]) mixed (by kernel_rfl) (fun i : Nat × List LR => [(6, .int .i64 r0.From), (7, .sl 2 (i.2.map encLR) .own), (22, .sl 2 (l.map encLR) .sh), (23, .int .i64 n), (24, .int .i64 i.1)]) (fun _ => []) (fun i => i.1 ≤ n ∧ i.2.length ≤ i.1 ∧ rtk l 0 = i.2 ++ rtk (l.drop i.1) i.1) (fun i => n - i.1) (0, []) ?_ ?_ ?_
  · simp
  · simp
  · rintro ⟨i, out⟩ ⟨h1, h2, h3⟩
    simp only at h1 h2 h3
    by_cases hi : i < n
    · obtain ⟨r, hx, hd⟩ := get_drop (l := l) (i := i) (by omega)
      rw [hd] at h3
      have w1 : IntKind.i64.wrap ((i : Int) + 1) = i + 1 := wrap_in (by omega)
      have s1 : (out.length + 1) * 16 ≤ 140737488355328 := by omega
      have s2 : out.length + 1 ≤ 140737488355328 := by omega
      clear hd hn' hspec hx0 hx0'
      simp only [rtk] at h3
      by_cases hi0 : i = 0
      · subst hi0
        have w0 : IntKind.i64.wrap 1 = 1 := by decide
        by_cases a1 : IntKind.i64.wrap (r.From + 1) ≤ r.To
        · simp [h0, hx, a1, s1, s2, hi]
          exact ⟨1, out ++ [⟨IntKind.i64.wrap (r.From + 1), r.To⟩], ⟨by omega, by rw [List.length_append]; simp only [List.length_cons, List.length_nil]; omega, by simpa [a1] using h3⟩, by omega, by simp, by simpa using w0⟩
        · simp [h0, hx, a1, hi]
          exact ⟨1, out, ⟨by omega, by omega, by simpa [a1] using h3⟩, by omega, by simp, by simpa using w0⟩
      · have hiz : ¬ (i : Int) = 0 := by omega
        by_cases a1 : r.From ≤ r.To
        · simp [hi, hi0, hx, a1, s1, s2, w1]
          exact ⟨i + 1, out ++ [r], ⟨by omega, by simp; omega, by simpa [a1, hi0] using h3⟩, by omega, by simp, by simp⟩
        · simp [hi, hi0, hx, a1, w1]
          exact ⟨i + 1, out, ⟨by omega, by omega, by simpa [a1, hi0] using h3⟩, by omega, by simp, by simp⟩
    · have : i = n := by omega
      subst this
      rw [List.drop_eq_nil_of_le (by omega)] at h3
      simp [h3, rtk]
end Go.Proofs.Ytlpgadlfpigbhaa
