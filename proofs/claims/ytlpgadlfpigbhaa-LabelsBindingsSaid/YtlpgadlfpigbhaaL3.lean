import Derived.Test.YtlpgadlfpigbhaaL2
set_option linter.unusedSimpArgs false
set_option linter.unusedVariables false
namespace Go.Proofs.Ytlpgadlfpigbhaa
open Go Go.Am

set_option maxHeartbeats 2000000 in
set_option maxRecDepth 10000 in
theorem c16 (l : List LR) (n : Nat) (hn : l.length = n) (hlen : n < 1099511627776) : CFun Try.prog 16 [.sl 2 (l.map encLR) .sh] [] (.int .i64 (chk l)) [] := by
  refine CFun.intro (tr := []) (fz := []) (n := 43) (rs := [.tmp 2]) Try.func16 rfl (by kernel_rfl) rfl rfl mixed (by kernel_rfl) (by simp) (by simp) ?_
  simp
  refine LoopK.intro (tr := []) mixed (by kernel_rfl) (fun i : Nat => [(0, .sl 2 (l.map encLR) .sh), (5, .sl 2 (l.map encLR) .sh), (6, .int .i64 n), (7, .int .i64 i)]) (fun _ => []) (fun i => i ≤ n ∧ chk l = chkL (prev l i) (l.drop i) ∧ ∀ p, prev l i = some p → p.To ≤ 1048575 ∧ 0 ≤ p.To) (fun i => n - i) 0 ?_ ?_ ?_
  · simp [prev, chk]
  · simp [hn]
  · rintro i ⟨h1, h2, h3⟩
    by_cases hi : i < n
    · obtain ⟨r, hx⟩ : ∃ r, l[i]? = some r := ⟨l[i], List.getElem?_eq_getElem (by omega)⟩
      have hd : l.drop i = r :: l.drop (i + 1) := by rw [List.drop_eq_getElem_cons (by omega)]; congr 1; simpa [show i < l.length by omega] using hx
      rw [hd] at h2
      clear hd hn
      cases i with
      | zero =>
        simp [hi, hx]
        rw [h2]
        simp only [prev, chkL]
        by_cases c1 : r.From < 16
        · simp [c1]
        · by_cases c2 : 1048575 < r.To
          · simp [c1, c2]
          · by_cases c3 : r.To < r.From
            · simp [c1, c2, c3]
            · simp [c1, c2, c3]
              refine ⟨1, ⟨by omega, ?_, ?_⟩, by omega, by decide⟩
              · simp_all [prev]
              · simp [prev, hx]; omega
      | succ k =>
        obtain ⟨p, hp⟩ : ∃ p, l[k]? = some p := ⟨l[k]'(by have := (List.getElem?_eq_some_iff.1 hx).1; omega), List.getElem?_eq_getElem _⟩
        have hb := h3 p hp
        have z1 : (k : Int) + 1 < n := by omega
        have z2 : (0 : Int) ≤ (k : Int) + 1 := by omega
        have z3 : ((k : Int) + 1).toNat = k + 1 := by omega
        have z4 : (0 : Int) < (k : Int) + 1 := by omega
        by_cases c1 : r.From < 16
        · simp [c1, z1, z2, z3, z4, hx]
          rw [h2]; simp [chkL, c1]
        · by_cases c2 : 1048575 < r.To
          · simp [c1, c2, z1, z2, z3, z4, hx]
            rw [h2]; simp [chkL, c1, c2]
          · by_cases c3 : r.To < r.From
            · simp [c1, c2, c3, z1, z2, z3, z4, hx]
              rw [h2]; simp [chkL, c1, c2, c3]
            · have w1 : IntKind.i64.wrap (k : Int) = k := wrap_in (by omega)
              have w2 : IntKind.i64.wrap (p.To + 1) = p.To + 1 := wrap_in (by omega)
              have w3 : IntKind.i64.wrap ((k : Int) + 1 + 1) = k + 1 + 1 := wrap_in (by omega)
              have z5 : (k : Int) < n := by omega
              by_cases c4 : r.From ≤ p.To + 1
              · simp [c1, c2, c3, c4, z1, z2, z3, z4, z5, hx, hp, w1, w2, w3]
                rw [h2]; simp [prev, hp, chkL, c1, c2, c3, c4]
              · simp [c1, c2, c3, c4, z1, z2, z3, z4, z5, hx, hp, w1, w2, w3]
                refine ⟨k + 2, ⟨by omega, ?_, ?_⟩, by omega, by push_cast; omega⟩
                · rw [h2]; simp [prev, hx, hp, chkL, c1, c2, c3, c4]
                · simp [prev, hx]; omega
    · have : i = n := by omega
      subst this
      simp
      rw [h2, List.drop_eq_nil_of_le (by omega)]
      simp [chkL]

theorem any_drop {α : Type} (p : α → Bool) {l : List α} {i : Nat} {x : α} (h : l.drop i = x :: l.drop (i + 1)) : (l.drop i).any p = (p x || (l.drop (i + 1)).any p) := by rw [h]; rfl

set_option maxHeartbeats 2000000 in
set_option maxRecDepth 10000 in
theorem c18 (l : List LR) (n : Nat) (hn : l.length = n) (hlen : n < 1099511627776) (x : Int) : CFun Try.prog 18 [.sl 2 (l.map encLR) .sh, .int .i64 x] [] (.bool (has l x)) [] := by
  refine CFun.intro (tr := []) (fz := []) (n := 27) (rs := [.tmp 4]) Try.func18 rfl (by kernel_rfl) rfl rfl mixed (by kernel_rfl) (by simp) (by simp) ?_
  simp
  refine ⟨_, _, .inl ((c16 l n hn hlen).up' _ rfl rfl), trivial, ?_⟩
  by_cases h : chk l = 0
  case neg => simp [h, has]
  simp [h]
  refine LoopK.intro (tr := []) mixed (by kernel_rfl) (fun i : Nat => [(0, .sl 2 (l.map encLR) .sh), (1, .int .i64 x), (10, .sl 2 (l.map encLR) .sh), (11, .int .i64 n), (12, .int .i64 i)]) (fun _ => []) (fun i => i ≤ n ∧ has l x = (l.drop i).any fun r => decide (r.From ≤ x) && decide (x ≤ r.To)) (fun i => n - i) 0 ?_ ?_ ?_
  · simp [has, h]
  · simp [hn]
  · rintro i ⟨h1, h2⟩
    by_cases hi : i < n
    · obtain ⟨r, hx, hd⟩ := get_drop (l := l) (i := i) (by omega)
      rw [hd, List.any_cons] at h2
      have w1 : IntKind.i64.wrap ((i : Int) + 1) = i + 1 := wrap_in (by omega)
      clear hn hd
      by_cases a1 : r.From ≤ x
      · by_cases a2 : x ≤ r.To
        · simp [hi, hx, a1, a2]
          simpa [a1, a2] using h2
        · simp [hi, hx, a1, a2, w1]
          exact ⟨i + 1, ⟨by omega, by simpa [a1, a2] using h2⟩, by omega, by simp⟩
      · simp [hi, hx, a1, w1]
        exact ⟨i + 1, ⟨by omega, by simpa [a1] using h2⟩, by omega, by simp⟩
    · have : i = n := by omega
      subst this
      rw [List.drop_eq_nil_of_le (by omega)] at h2
      simp [h2]

/-- The labels of the runs, as they are counted. -/
def cntL : List LR → Int → Int
  | [], a => a
  | r :: rs, a => cntL rs (IntKind.i64.wrap (a + IntKind.i64.wrap (IntKind.i64.wrap (r.To - r.From) + 1)))
def countL (l : List LR) : Int := if chk l = 0 then cntL l 0 else 0

set_option maxHeartbeats 2000000 in
set_option maxRecDepth 10000 in
theorem c19 (l : List LR) (n : Nat) (hn : l.length = n) (hlen : n < 1099511627776) : CFun Try.prog 19 [.sl 2 (l.map encLR) .sh] [] (.int .i64 (countL l)) [] := by
  refine CFun.intro (tr := []) (fz := []) (n := 25) (rs := [.tmp 2]) Try.func19 rfl (by kernel_rfl) rfl rfl mixed (by kernel_rfl) (by simp) (by simp) ?_
  simp
  refine ⟨_, _, .inl ((c11 l n hn (by omega)).up' _ rfl rfl), trivial, ?_⟩
  by_cases h : chk l = 0
  case neg => simp [h, countL]
  simp [h]
  refine LoopK.intro (tr := []) mixed (by kernel_rfl) (fun i : Nat × Int => [(3, .int .i64 i.2), (9, .sl 2 (l.map encLR) .sh), (10, .int .i64 n), (11, .int .i64 i.1)]) (fun _ => []) (fun i => i.1 ≤ n ∧ countL l = cntL (l.drop i.1) i.2) (fun i => n - i.1) (0, 0) ?_ ?_ ?_
  · simp [countL, h]
  · simp [hn]
  · rintro ⟨i, a⟩ ⟨h1, h2⟩
    simp only at h1 h2
    by_cases hi : i < n
    · obtain ⟨r, hx, hd⟩ := get_drop (l := l) (i := i) (by omega)
      rw [hd] at h2
      have w1 : IntKind.i64.wrap ((i : Int) + 1) = i + 1 := wrap_in (by omega)
      clear hn hd
      simp [hi, hx, w1]
      exact ⟨i + 1, _, ⟨by omega, h2⟩, by omega, rfl, by simp⟩
    · have : i = n := by omega
      subst this
      rw [List.drop_eq_nil_of_le (by omega)] at h2
      simp [h2, cntL]

set_option maxHeartbeats 2000000 in
set_option maxRecDepth 10000 in
theorem c20 (l : List LR) (n : Nat) (hn : l.length = n) (hlen : n < 1099511627776) : CFun Try.prog 20 [.sl 2 (l.map encLR) .sh] [] (.int .i64 (countL l)) [] := by
  refine CFun.intro (tr := []) (fz := []) (n := 25) (rs := [.tmp 2]) Try.func20 rfl (by kernel_rfl) rfl rfl mixed (by kernel_rfl) (by simp) (by simp) ?_
  simp
  refine ⟨_, _, .inl ((c16 l n hn hlen).up' _ rfl rfl), trivial, ?_⟩
  by_cases h : chk l = 0
  case neg => simp [h, countL]
  simp [h]
  refine LoopK.intro (tr := []) mixed (by kernel_rfl) (fun i : Nat × Int => [(3, .int .i64 i.2), (9, .sl 2 (l.map encLR) .sh), (10, .int .i64 n), (11, .int .i64 i.1)]) (fun _ => []) (fun i => i.1 ≤ n ∧ countL l = cntL (l.drop i.1) i.2) (fun i => n - i.1) (0, 0) ?_ ?_ ?_
  · simp [countL, h]
  · simp [hn]
  · rintro ⟨i, a⟩ ⟨h1, h2⟩
    simp only at h1 h2
    by_cases hi : i < n
    · obtain ⟨r, hx, hd⟩ := get_drop (l := l) (i := i) (by omega)
      rw [hd] at h2
      have w1 : IntKind.i64.wrap ((i : Int) + 1) = i + 1 := wrap_in (by omega)
      clear hn hd
      simp [hi, hx, w1]
      exact ⟨i + 1, _, ⟨by omega, h2⟩, by omega, rfl, by simp⟩
    · have : i = n := by omega
      subst this
      rw [List.drop_eq_nil_of_le (by omega)] at h2
      simp [h2, cntL]

set_option maxHeartbeats 2000000 in
set_option maxRecDepth 10000 in
theorem c15 (l q : List LR) (n : Nat) (hn : l.length = n) (m : Nat) (hm : q.length = m) (hlen : n < 1099511627776) : CFun Try.prog 15 [.sl 2 (l.map encLR) .sh, .sl 2 (q.map encLR) .sh] [] (.bool (decide (l = q))) [] := by
  refine CFun.intro (tr := []) (fz := []) (n := 26) (rs := [.tmp 4]) Try.func15 rfl (by kernel_rfl) rfl rfl mixed (by kernel_rfl) (by simp) (by simp) ?_
  by_cases hnm : n = m
  case neg =>
    have : l ≠ q := by rintro rfl; exact hnm (hn.symm.trans hm)
    have hnm' : ¬ (n : Int) = m := by omega
    simp [hn, hm, hnm', this]
  subst hnm
  simp [hn, hm]
  refine LoopK.intro (tr := []) mixed (by kernel_rfl) (fun i : Nat => [(0, .sl 2 (l.map encLR) .sh), (1, .sl 2 (q.map encLR) .sh), (12, .sl 2 (l.map encLR) .sh), (13, .int .i64 n), (14, .int .i64 i)]) (fun _ => []) (fun i => i ≤ n ∧ (l = q ↔ l.drop i = q.drop i)) (fun i => n - i) 0 ?_ ?_ ?_
  · simp
  · simp [hn]
  · rintro i ⟨h1, h2⟩
    by_cases hi : i < n
    · obtain ⟨r, hx, hd⟩ := get_drop (l := l) (i := i) (by omega)
      obtain ⟨t, hy, he⟩ := get_drop (l := q) (i := i) (by omega)
      rw [hd, he, List.cons.injEq] at h2
      have w1 : IntKind.i64.wrap ((i : Int) + 1) = i + 1 := wrap_in (by omega)
      clear hn hm hd he
      by_cases hrt : r = t
      · subst hrt
        simp [hi, hx, hy, w1]
        exact ⟨i + 1, ⟨by omega, by simpa using h2⟩, by omega, by simp⟩
      · have hne : ¬ l = q := fun e => hrt (h2.1 e).1
        by_cases a1 : r.From = t.From
        · have a2 : ¬ r.To = t.To := by
            intro a2
            exact hrt (by cases r; cases t; simp_all)
          simp [hi, hx, hy, a1, a2, hne]
        · simp [hi, hx, hy, a1, hne]
    · have : i = n := by omega
      subst this
      rw [List.drop_eq_nil_of_le (by omega), List.drop_eq_nil_of_le (by omega)] at h2
      simp [h2]

end Go.Proofs.Ytlpgadlfpigbhaa
