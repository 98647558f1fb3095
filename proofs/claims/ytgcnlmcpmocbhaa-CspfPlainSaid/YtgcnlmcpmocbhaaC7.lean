/- Check. -/
import Derived.Test.YtgcnlmcpmocbhaaC4
set_option linter.unusedSimpArgs false
set_option linter.unusedVariables false
namespace Go.Proofs.Ytgcnlmcpmocbhaa
open Go Go.Am

def conE (n : Int) (c : Con) : Int :=
  if c.Band < 0 ∨ 1099511627776 < c.Band ∨ c.Setup < 0 ∨ 7 < c.Setup ∨ c.Hold < 0 ∨ 7 < c.Hold ∨ c.Hops < 0 then 5 else if c.Setup < c.Hold then 1
  else if 64 < c.Avoid.length ∨ 64 < c.Thru.length then 4 else if (c.Avoid.any (outN n) || c.Thru.any (outN n)) = true then 5 else 0
-- cspf.checkConstraint
set_option maxHeartbeats 4000000 in
set_option maxRecDepth 10000 in
theorem c28 (c : Con) (n : Int) (hn : inI (n - 1)) (p q : Nat) (hp : c.Avoid.length = p) (hq : c.Thru.length = q) (hp2 : p < 9223372036854775807) (hq2 : q < 9223372036854775807) : CFun Try.prog 28 [.int .i64 n, encC c] [] (.int .i64 (conE n c)) [] := by
  refine CFun.intro (tr := []) (fz := []) (n := 59) (rs := [.tmp 4]) Try.func28 rfl (by kernel_rfl) rfl rfl mixed (by kernel_rfl) (by simp) (by simp) ?_
  have h1 := fun a b c H => (c23 a b c).up' H rfl rfl
  have w1 : IntKind.i64.wrap (n - 1) = n - 1 := wrap_in hn
  generalize hu : conE n c = u
  unfold conE at hu
  rw [hp, hq] at hu
  simp
  refine ⟨_, _, .inl (by simpa using h1 _ _ _ _), by simp, ?_⟩
  by_cases g1 : c.Band < 0 ∨ 1099511627776 < c.Band
  · rw [if_pos (by omega)] at hu
    subst hu
    simp [g1]
  have g1' : ¬ c.Band < 0 ∧ ¬ 1099511627776 < c.Band := by omega
  simp [g1']
  refine ⟨_, _, .inl (by simpa using h1 _ _ _ _), by simp, ?_⟩
  by_cases g2 : c.Setup < 0 ∨ 7 < c.Setup
  · rw [if_pos (by omega)] at hu
    subst hu
    simp [g2]
  have g2' : ¬ c.Setup < 0 ∧ ¬ 7 < c.Setup := by omega
  simp [g2']
  refine ⟨_, _, .inl (by simpa using h1 _ _ _ _), by simp, ?_⟩
  by_cases g3 : c.Hold < 0 ∨ 7 < c.Hold
  · rw [if_pos (by omega)] at hu
    subst hu
    simp [g3]
  have g3' : ¬ c.Hold < 0 ∧ ¬ 7 < c.Hold := by omega
  by_cases g4 : c.Hops < 0
  · rw [if_pos (by omega)] at hu
    subst hu
    simp [g3', g4]
  rw [if_neg (by omega)] at hu
  by_cases g5 : c.Setup < c.Hold
  · rw [if_pos g5] at hu
    subst hu
    simp [g3', g4, g5]
  rw [if_neg g5] at hu
  by_cases g6 : 64 < p
  · have g6i : ¬ (p : Int) ≤ 64 := by omega
    have g6j : 64 < (p : Int) := by omega
    rw [if_pos (.inl g6)] at hu
    subst hu
    simp [g3', g4, g5, hp, g6, g6i, g6j]
  have g6i : (p : Int) ≤ 64 := by omega
  have g6j : ¬ 64 < (p : Int) := by omega
  by_cases g7 : 64 < q
  · have g7i : ¬ (q : Int) ≤ 64 := by omega
    have g7j : 64 < (q : Int) := by omega
    rw [if_pos (.inr g7)] at hu
    subst hu
    simp [g3', g4, g5, hp, hq, g6, g7, g6i, g6j, g7i, g7j]
  have g7i : (q : Int) ≤ 64 := by omega
  have g7j : ¬ 64 < (q : Int) := by omega
  rw [if_neg (by omega)] at hu
  rw [← List.any_append] at hu
  have hmb : p + q ≤ 1000000 := by omega
  have h2 := fun H => (c47 c.Avoid c.Thru p q hp hq (by omega) (by omega)).up' H (by simp [noid, noid0]) rfl
  have hm : (c.Avoid ++ c.Thru).length = p + q := by simp [hp, hq]
  generalize c.Avoid ++ c.Thru = l at *
  generalize p + q = m at *
  have r2 : [0, 1] = List.range 2 := rfl
  simp [r2, g3', g4, g5, hp, hq, g6, g7, g6i, g6j, g7i, g7j]
  refine ⟨_, _, .inl (by simpa using h2 _), by simp, ?_⟩
  simp [hm]
  refine LoopK.intro (tr := []) mixed (by kernel_rfl) (fun i : Nat => [(0, .int .i64 n), (48, .sl 1 (l.map encI) .sh), (49, .int .i64 m), (50, .int .i64 i)]) (fun _ => []) (fun i => i ≤ m ∧ l.any (outN n) = (l.drop i).any (outN n)) (fun i => m - i) 0 ?_ ?_ ?_
  · simp
  · simp
  · rintro i ⟨q1, q2⟩
    by_cases hi : i < m
    · obtain ⟨x, hx, hd⟩ := get_drop (l := l) (i := i) (by omega)
      rw [hd, List.any_cons] at q2
      have w2 : IntKind.i64.wrap ((i : Int) + 1) = i + 1 := wrap_in (by omega)
      clear hd
      simp [hi, hm, hx, gE hx, w1]
      refine ⟨_, _, .inl (by simpa using h1 _ _ _ _), by simp, ?_⟩
      by_cases ho : x < 0 ∨ n - 1 < x
      · have e : outN n x = true := by simp [outN]; omega
        rw [e, Bool.true_or] at q2
        rw [if_pos q2] at hu
        subst hu
        simp [ho]
      · have e : outN n x = false := by simp [outN]; omega
        rw [e, Bool.false_or] at q2
        have ho' : ¬ x < 0 ∧ ¬ n - 1 < x := by omega
        simp [ho', w2]
        exact ⟨i + 1, ⟨by omega, q2⟩, by omega, by simp⟩
    · have : i = m := by omega
      subst this
      rw [List.drop_eq_nil_of_le (by omega)] at q2
      rw [q2] at hu
      simp at hu
      subst hu
      simp
-- routingref14.constraint
set_option maxHeartbeats 4000000 in
set_option maxRecDepth 10000 in
theorem c30 (c : Con) (n : Int) (p q : Nat) (hp : c.Avoid.length = p) (hq : c.Thru.length = q) (hp2 : p < 9223372036854775807) (hq2 : q < 9223372036854775807) : CFun Try.prog 30 [.int .i64 n, encC c] [] (.int .i64 (conE n c)) [] := by
  refine CFun.intro (tr := []) (fz := []) (n := 69) (rs := [.tmp 4]) Try.func30 rfl (by kernel_rfl) rfl rfl mixed (by kernel_rfl) (by simp) (by simp) ?_
  have h1 := fun H => (c38 c.Avoid p hp hp2 n).up' H (by simp [noid, noid0]) rfl
  have h2 := fun H => (c38 c.Thru q hq hq2 n).up' H (by simp [noid, noid0]) rfl
  generalize hu : conE n c = u
  unfold conE at hu
  rw [hp, hq] at hu
  by_cases g1 : c.Band < 0
  · rw [if_pos (by omega)] at hu
    subst hu
    simp [g1]
  by_cases g2 : 1099511627776 < c.Band
  · rw [if_pos (by omega)] at hu
    subst hu
    simp [g1, g2]
  by_cases g3 : c.Setup < 0
  · rw [if_pos (by omega)] at hu
    subst hu
    simp [g1, g2, g3]
  by_cases g4 : 7 < c.Setup
  · rw [if_pos (by omega)] at hu
    subst hu
    simp [g1, g2, g3, g4]
  by_cases g5 : c.Hold < 0
  · rw [if_pos (by omega)] at hu
    subst hu
    simp [g1, g2, g3, g4, g5]
  by_cases g6 : 7 < c.Hold
  · rw [if_pos (by omega)] at hu
    subst hu
    simp [g1, g2, g3, g4, g5, g6]
  by_cases g7 : c.Hops < 0
  · rw [if_pos (by omega)] at hu
    subst hu
    simp [g1, g2, g3, g4, g5, g6, g7]
  rw [if_neg (by omega)] at hu
  by_cases g8 : c.Setup < c.Hold
  · rw [if_pos g8] at hu
    subst hu
    simp [g1, g2, g3, g4, g5, g6, g7, g8]
  rw [if_neg g8] at hu
  by_cases g9 : 64 < p
  · have g9i : ¬ (p : Int) ≤ 64 := by omega
    have g9j : 64 < (p : Int) := by omega
    rw [if_pos (.inl g9)] at hu
    subst hu
    simp [g1, g2, g3, g4, g5, g6, g7, g8, hp, g9, g9i, g9j]
  have g9i : (p : Int) ≤ 64 := by omega
  have g9j : ¬ 64 < (p : Int) := by omega
  by_cases g10 : 64 < q
  · have g10i : ¬ (q : Int) ≤ 64 := by omega
    have g10j : 64 < (q : Int) := by omega
    rw [if_pos (.inr g10)] at hu
    subst hu
    simp [g1, g2, g3, g4, g5, g6, g7, g8, hp, hq, g9, g10, g9i, g9j, g10i, g10j]
  have g10i : (q : Int) ≤ 64 := by omega
  have g10j : ¬ 64 < (q : Int) := by omega
  rw [if_neg (by omega)] at hu
  generalize c.Avoid.any (outN n) = a1 at *
  generalize c.Thru.any (outN n) = a2 at *
  simp [g1, g2, g3, g4, g5, g6, g7, g8, hp, hq, g9, g10, g9i, g9j, g10i, g10j]
  refine ⟨_, _, .inl (by simpa using h1 _), by simp, ?_⟩
  cases a1 with
  | true =>
    simp at hu
    subst hu
    simp
  | false =>
    simp
    refine ⟨_, _, .inl (by simpa using h2 _), by simp, ?_⟩
    cases a2 <;> simp at hu <;> subst hu <;> simp
end Go.Proofs.Ytgcnlmcpmocbhaa

/- Check of links and a constraint. -/
namespace Go.Proofs.Ytgcnlmcpmocbhaa
open Go Go.Am

def befL (p : Option Lnk) (x : Lnk) : Bool := match p with
  | some y => decide (x.From < y.From) || (decide (y.From = x.From) && decide (x.To ≤ y.To))
  | none => false
def linksE (n : Int) : Option Lnk → List Lnk → Int
  | _, [] => 0
  | p, x :: xs => if linkE n x ≠ 0 then linkE n x else if befL p x = true then 16 else linksE n (some x) xs
def checkE (n : Int) (l : List Lnk) (c : Con) : Int :=
  if n < 1 ∨ 128 < n then 5 else if 1024 < l.length then 4 else if linksE n none l ≠ 0 then linksE n none l else conE n c
def prevL (l : List Lnk) : Nat → Option Lnk
  | 0 => none
  | i + 1 => l[i]?
-- cspf.Check
set_option maxHeartbeats 4000000 in
set_option maxRecDepth 10000 in
theorem c12 (l : List Lnk) (m : Nat) (hm : l.length = m) (hm2 : m < 9223372036854775807) (c : Con) (n : Int) (p q : Nat) (hp : c.Avoid.length = p) (hq : c.Thru.length = q) (hp2 : p < 9223372036854775807) (hq2 : q < 9223372036854775807) :
    CFun Try.prog 12 [.int .i64 n, .sl 13 (l.map encL) .sh, encC c] [] (.int .i64 (checkE n l c)) [] := by
  refine CFun.intro (tr := []) (fz := []) (n := 67) (rs := [.tmp 6]) Try.func12 rfl (by kernel_rfl) rfl rfl mixed (by kernel_rfl) (by simp) (by simp) ?_
  have h1 := fun a b c H => (c23 a b c).up' H rfl rfl
  generalize hu : checkE n l c = u
  unfold checkE at hu
  rw [hm] at hu
  simp
  refine ⟨_, _, .inl (by simpa using h1 _ _ _ _), by simp, ?_⟩
  by_cases g1 : n < 1 ∨ 128 < n
  · rw [if_pos g1] at hu
    subst hu
    simp [g1]
  rw [if_neg g1] at hu
  have g1' : ¬ n < 1 ∧ ¬ 128 < n := by omega
  by_cases g2 : 1024 < m
  · rw [if_pos g2] at hu
    have g2i : 1024 < (m : Int) := by omega
    have g2j : ¬ (m : Int) ≤ 1024 := by omega
    subst hu
    simp [g1', hm, g2, g2i, g2j]
  rw [if_neg g2] at hu
  have g2i : ¬ 1024 < (m : Int) := by omega
  have g2j : (m : Int) ≤ 1024 := by omega
  have hin : inI (n - 1) := by unfold inI; omega
  have h2 := fun x H => (c27 x n hin).up' H rfl rfl
  have h3 := fun H => (c28 c n hin p q hp hq hp2 hq2).up' H (by simp [noid, noid0]) rfl
  simp [g1', hm, g2, g2i, g2j]
  refine LoopK.intro (tr := []) mixed (by kernel_rfl) (fun i : Nat => [(0, .int .i64 n), (1, .sl 13 (l.map encL) .sh), (5, .ptr 0 0), (15, .sl 13 (l.map encL) .sh), (16, .int .i64 m), (17, .int .i64 i)]) (fun _ => [cellsC c]) (fun i => i ≤ m ∧ linksE n none l = linksE n (prevL l i) (l.drop i)) (fun i => m - i) 0 ?_ ?_ ?_
  · simp [prevL]
  · simp [hm]
  · rintro i ⟨q1, q2⟩
    by_cases hi : i < m
    · obtain ⟨x, hx, hd⟩ := get_drop (l := l) (i := i) (by omega)
      rw [hd] at q2
      simp only [linksE] at q2
      have w2 : IntKind.i64.wrap ((i : Int) + 1) = i + 1 := wrap_in (by omega)
      clear hd
      simp [hi, hm, hx, gE hx]
      refine ⟨_, _, .inl (by simpa using h2 _ _), by simp, ?_⟩
      by_cases ho : linkE n x = 0
      · rw [if_neg (by simpa using ho)] at q2
        have done : linksE n none l = linksE n (prevL l (i + 1)) (l.drop (i + 1)) → i + 1 ≤ m ∧ linksE n none l = linksE n (prevL l (i + 1)) (l.drop (i + 1)) := fun h => ⟨by omega, h⟩
        have hp1 : prevL l (i + 1) = some x := hx
        rw [hp1] at done
        cases i with
        | zero =>
          simp only [prevL, befL] at q2
          simp only [Bool.false_eq_true, if_false] at q2
          simp [ho]
          exact ⟨1, by rw [hp1]; exact done q2, by omega, by simp; rfl⟩
        | succ i =>
          have hy : ∃ y, l[i]? = some y := ⟨l[i]'(by omega), List.getElem?_eq_getElem (by omega)⟩
          obtain ⟨y, hy⟩ := hy
          have w3 : IntKind.i64.wrap (((i + 1 : Nat) : Int) - 1) = i := by rw [wrap_in] <;> omega
          have w3' : IntKind.i64.wrap ((i : Int)) = i := wrap_in (by omega)
          have b1 : (0 : Int) < (i : Int) + 1 := by omega
          have b2 : i < m := by omega
          simp only [prevL, hy, befL] at q2
          have e1 : ((i : Int) + 1 + 1).toNat = i + 2 := by omega
          by_cases a1 : x.From < y.From
          · simp [a1] at q2
            rw [q2] at hu
            simp at hu
            subst hu
            simp [ho, w3, w3', b1, b2, hy, gE hy, a1]
          by_cases a2 : y.From = x.From
          · by_cases a3 : x.To ≤ y.To
            · simp [a1, a2, a3] at q2
              rw [q2] at hu
              simp at hu
              subst hu
              simp [ho, w3, w3', b1, b2, hy, gE hy, a1, a2, a3]
            · simp [a1, a2, a3] at q2
              simp [ho, w3, w3', b1, b2, hy, gE hy, a1, a2, a3]
              simp at w2
              simp [w2]
              exact ⟨i + 2, by rw [hp1]; exact done q2, by omega, by simp; omega⟩
          · simp [a1, a2] at q2
            simp [ho, w3, w3', b1, b2, hy, gE hy, a1, a2]
            simp at w2
            simp [w2]
            exact ⟨i + 2, by rw [hp1]; exact done q2, by omega, by simp; omega⟩
      · rw [if_pos (by simpa using ho)] at q2
        rw [q2, if_pos (by simpa using ho)] at hu
        subst hu
        simp [ho]
    · have : i = m := by omega
      subst this
      rw [List.drop_eq_nil_of_le (by omega)] at q2
      simp only [linksE] at q2
      rw [q2] at hu
      simp at hu
      subst hu
      simp [hm]
      refine ⟨_, _, .inl (by simpa using h3 _), by simp, ?_⟩
      simp
end Go.Proofs.Ytgcnlmcpmocbhaa

/- The reference's Check. -/
namespace Go.Proofs.Ytgcnlmcpmocbhaa
open Go Go.Am

-- routingref14.Check
set_option maxHeartbeats 4000000 in
set_option maxRecDepth 10000 in
theorem c13 (l : List Lnk) (m : Nat) (hm : l.length = m) (hm2 : m < 9223372036854775807) (c : Con) (n : Int) (p q : Nat) (hp : c.Avoid.length = p) (hq : c.Thru.length = q) (hp2 : p < 9223372036854775807) (hq2 : q < 9223372036854775807) :
    CFun Try.prog 13 [.int .i64 n, .sl 13 (l.map encL) .sh, encC c] [] (.int .i64 (checkE n l c)) [] := by
  refine CFun.intro (tr := []) (fz := []) (n := 71) (rs := [.tmp 6]) Try.func13 rfl (by kernel_rfl) rfl rfl mixed (by kernel_rfl) (by simp) (by simp) ?_
  generalize hu : checkE n l c = u
  unfold checkE at hu
  rw [hm] at hu
  by_cases g1 : n < 1 ∨ 128 < n
  · rw [if_pos g1] at hu
    subst hu
    by_cases a1 : n < 1
    · simp [a1]
    · have a2 : 128 < n := by omega
      simp [a1, a2]
  rw [if_neg g1] at hu
  have g1' : ¬ n < 1 ∧ ¬ 128 < n := by omega
  by_cases g2 : 1024 < m
  · rw [if_pos g2] at hu
    have g2i : 1024 < (m : Int) := by omega
    have g2j : ¬ (m : Int) ≤ 1024 := by omega
    subst hu
    simp [g1', hm, g2, g2i, g2j]
  rw [if_neg g2] at hu
  have g2i : ¬ 1024 < (m : Int) := by omega
  have g2j : (m : Int) ≤ 1024 := by omega
  have h2 := fun x H => (c29 x n).up' H rfl rfl
  have h3 := fun H => (c30 c n p q hp hq hp2 hq2).up' H (by simp [noid, noid0]) rfl
  simp [g1', hm, g2, g2i, g2j]
  refine LoopK.intro (tr := []) mixed (by kernel_rfl) (fun i : Nat => [(0, .int .i64 n), (1, .sl 13 (l.map encL) .sh), (5, .ptr 0 0), (19, .sl 13 (l.map encL) .sh), (20, .int .i64 m), (21, .int .i64 i)]) (fun _ => [cellsC c]) (fun i => i ≤ m ∧ linksE n none l = linksE n (prevL l i) (l.drop i)) (fun i => m - i) 0 ?_ ?_ ?_
  · simp [prevL]
  · simp [hm]
  · rintro i ⟨q1, q2⟩
    by_cases hi : i < m
    · obtain ⟨x, hx, hd⟩ := get_drop (l := l) (i := i) (by omega)
      rw [hd] at q2
      simp only [linksE] at q2
      have w2 : IntKind.i64.wrap ((i : Int) + 1) = i + 1 := wrap_in (by omega)
      clear hd
      simp [hi, hm, hx, gE hx]
      refine ⟨_, _, .inl (by simpa using h2 _ _), by simp, ?_⟩
      by_cases ho : linkE n x = 0
      · rw [if_neg (by simpa using ho)] at q2
        have done : linksE n none l = linksE n (prevL l (i + 1)) (l.drop (i + 1)) → i + 1 ≤ m ∧ linksE n none l = linksE n (prevL l (i + 1)) (l.drop (i + 1)) := fun h => ⟨by omega, h⟩
        have hp1 : prevL l (i + 1) = some x := hx
        rw [hp1] at done
        cases i with
        | zero =>
          simp only [prevL, befL] at q2
          simp only [Bool.false_eq_true, if_false] at q2
          simp [ho]
          exact ⟨1, by rw [hp1]; exact done q2, by omega, by simp; rfl⟩
        | succ i =>
          have hy : ∃ y, l[i]? = some y := ⟨l[i]'(by omega), List.getElem?_eq_getElem (by omega)⟩
          obtain ⟨y, hy⟩ := hy
          have w3 : IntKind.i64.wrap (((i + 1 : Nat) : Int) - 1) = i := by rw [wrap_in] <;> omega
          have w3' : IntKind.i64.wrap ((i : Int)) = i := wrap_in (by omega)
          have b1 : (0 : Int) < (i : Int) + 1 := by omega
          have b2 : i < m := by omega
          simp only [prevL, hy, befL] at q2
          have e1 : ((i : Int) + 1 + 1).toNat = i + 2 := by omega
          by_cases a1 : x.From < y.From
          · simp [a1] at q2
            rw [q2] at hu
            simp at hu
            subst hu
            simp [ho, w3, w3', b1, b2, hy, gE hy, a1]
          by_cases a2 : y.From = x.From
          · by_cases a3 : x.To ≤ y.To
            · simp [a1, a2, a3] at q2
              rw [q2] at hu
              simp at hu
              subst hu
              simp [ho, w3, w3', b1, b2, hy, gE hy, a1, a2, a3]
            · simp [a1, a2, a3] at q2
              simp [ho, w3, w3', b1, b2, hy, gE hy, a1, a2, a3]
              simp at w2
              simp [w2]
              exact ⟨i + 2, by rw [hp1]; exact done q2, by omega, by simp; omega⟩
          · have a2' : ¬ x.From = y.From := fun h => a2 h.symm
            simp [a1, a2] at q2
            simp [ho, w3, w3', b1, b2, hy, gE hy, a1, a2, a2']
            simp at w2
            simp [w2]
            exact ⟨i + 2, by rw [hp1]; exact done q2, by omega, by simp; omega⟩
      · rw [if_pos (by simpa using ho)] at q2
        rw [q2, if_pos (by simpa using ho)] at hu
        subst hu
        simp [ho]
    · have : i = m := by omega
      subst this
      rw [List.drop_eq_nil_of_le (by omega)] at q2
      simp only [linksE] at q2
      rw [q2] at hu
      simp at hu
      subst hu
      simp [hm]
      refine ⟨_, _, .inl (by simpa using h3 _), by simp, ?_⟩
      simp
end Go.Proofs.Ytgcnlmcpmocbhaa

/- Which lists have a number twice; the first link between two nodes. -/
namespace Go.Proofs.Ytgcnlmcpmocbhaa
open Go Go.Am

/-- From place i on: does a number stand before already? -/
def repI (l : List Int) (n : Nat) : Nat → Bool
  | 0 => false
  | k + 1 => if hasB (l.take (n - (k + 1))) (l.getD (n - (k + 1)) 0) = true then true else repI l n k
def repB (l : List Int) : Bool := repI l l.length l.length
theorem repI_step (l : List Int) (n i : Nat) (h : i < n) : repI l n (n - i) = if hasB (l.take i) (l.getD i 0) = true then true else repI l n (n - (i + 1)) := by
  obtain ⟨k, hk⟩ : ∃ k, n - i = k + 1 := ⟨n - i - 1, by omega⟩
  rw [hk, repI, show n - (k + 1) = i by omega, show n - (i + 1) = k by omega]
-- cspf.repeats
set_option maxHeartbeats 4000000 in
set_option maxRecDepth 10000 in
theorem c32 (l : List Int) (n : Nat) (hn : l.length = n) (hlen : n < 9223372036854775807) : CFun Try.prog 32 [.sl 1 (l.map encI) .sh] [] (.bool (repB l)) [] := by
  refine CFun.intro (tr := []) (fz := []) (n := 18) (rs := [.tmp 2]) Try.func32 rfl (by kernel_rfl) rfl rfl mixed (by kernel_rfl) (by simp) (by simp) ?_
  unfold repB
  rw [hn]
  simp
  refine LoopK.intro (tr := []) mixed (by kernel_rfl) (fun i : Nat => [(0, .sl 1 (l.map encI) .sh), (5, .sl 1 (l.map encI) .sh), (6, .int .i64 n), (7, .int .i64 i)]) (fun _ => []) (fun i => i ≤ n ∧ repI l n n = repI l n (n - i)) (fun i => n - i) 0 ?_ ?_ ?_
  · simp
  · simp [hn]
  · rintro i ⟨h1, h2⟩
    by_cases hi : i < n
    · obtain ⟨x, hx, _⟩ := get_drop (l := l) (i := i) (by omega)
      have w1 : IntKind.i64.wrap ((i : Int) + 1) = i + 1 := wrap_in (by omega)
      rw [repI_step l n i hi] at h2
      have hd : l.getD i 0 = x := by simp [hx]
      rw [hd] at h2
      have k1 := fun H => (c24 (l.take i) i (by simp; omega) (by omega) x).up' H (by simp [noid, noid0]) rfl
      generalize hasB (l.take i) x = b at k1 h2
      simp [hi, hn, hx, gE hx, h1]
      refine ⟨_, _, .inl (by simpa using k1 _), by simp, ?_⟩
      cases b with
      | true => simp at h2; simp [h2]
      | false =>
        simp at h2
        simp [w1]
        exact ⟨i + 1, ⟨by omega, h2⟩, by omega, by simp⟩
    · have : i = n := by omega
      subst this
      rw [Nat.sub_self] at h2
      simp [hn, h2, repI]
-- routingref14.Repeats
set_option maxHeartbeats 4000000 in
set_option maxRecDepth 10000 in
theorem c35 (l : List Int) (n : Nat) (hn : l.length = n) (hlen : n < 9223372036854775807) : CFun Try.prog 35 [.sl 1 (l.map encI) .sh] [] (.bool (repB l)) [] := by
  refine CFun.intro (tr := []) (fz := []) (n := 18) (rs := [.tmp 2]) Try.func35 rfl (by kernel_rfl) rfl rfl mixed (by kernel_rfl) (by simp) (by simp) ?_
  unfold repB
  rw [hn]
  simp
  refine LoopK.intro (tr := []) mixed (by kernel_rfl) (fun i : Nat => [(0, .sl 1 (l.map encI) .sh), (5, .sl 1 (l.map encI) .sh), (6, .int .i64 n), (7, .int .i64 i)]) (fun _ => []) (fun i => i ≤ n ∧ repI l n n = repI l n (n - i)) (fun i => n - i) 0 ?_ ?_ ?_
  · simp
  · simp [hn]
  · rintro i ⟨h1, h2⟩
    by_cases hi : i < n
    · obtain ⟨x, hx, _⟩ := get_drop (l := l) (i := i) (by omega)
      have w1 : IntKind.i64.wrap ((i : Int) + 1) = i + 1 := wrap_in (by omega)
      rw [repI_step l n i hi] at h2
      have hd : l.getD i 0 = x := by simp [hx]
      rw [hd] at h2
      have k1 := fun H => (c25 (l.take i) i (by simp; omega) (by omega) x).up' H (by simp [noid, noid0]) rfl
      generalize hasB (l.take i) x = b at k1 h2
      simp [hi, hn, hx, gE hx, h1]
      refine ⟨_, _, .inl (by simpa using k1 _), by simp, ?_⟩
      cases b with
      | true => simp at h2; simp [h2]
      | false =>
        simp at h2
        simp [w1]
        exact ⟨i + 1, ⟨by omega, h2⟩, by omega, by simp⟩
    · have : i = n := by omega
      subst this
      rw [Nat.sub_self] at h2
      simp [hn, h2, repI]
def lnk0 : Lnk := ⟨0, 0, 0, 0, fun _ => 0, 0⟩
def isL (a b : Int) (x : Lnk) : Bool := decide (x.From = a) && decide (x.To = b)
def findL (l : List Lnk) (a b : Int) : Lnk × Bool := match l.find? (isL a b) with
  | some x => (x, true)
  | none => (lnk0, false)
@[simp] def zL : List AVal := [.int .i64 0, .int .i64 0, .int .i64 0, .int .i64 0, .int .i64 0, .int .i64 0, .int .i64 0, .int .i64 0, .int .i64 0, .int .i64 0, .int .i64 0, .int .i64 0, .int .u32 0]
theorem e0 : cellsL lnk0 = zL := rfl
-- routingref14.Find
set_option maxHeartbeats 4000000 in
set_option maxRecDepth 10000 in
theorem c39 (l : List Lnk) (n : Nat) (hn : l.length = n) (hlen : n < 9223372036854775807) (a b : Int) : CFun Try.prog 39 [.sl 13 (l.map encL) .sh, .int .i64 a, .int .i64 b] [] (.tup [encL (findL l a b).1, .bool (findL l a b).2]) [] := by
  refine CFun.intro (tr := []) (fz := []) (n := 29) (rs := [.cell 6 29, .tmp 7]) Try.func39 rfl (by kernel_rfl) rfl rfl mixed (by kernel_rfl) (by simp) (by simp) ?_
  generalize hu : findL l a b = u
  unfold findL at hu
  simp
  refine LoopK.intro (tr := []) mixed (by kernel_rfl) (fun i : Nat => [(1, .int .i64 a), (2, .int .i64 b), (6, .ptr 0 0), (10, .sl 13 (l.map encL) .sh), (11, .int .i64 n), (12, .int .i64 i)]) (fun _ => [zL]) (fun i => i ≤ n ∧ l.find? (isL a b) = (l.drop i).find? (isL a b)) (fun i => n - i) 0 ?_ ?_ ?_
  · simp
  · simp [hn]
  · rintro i ⟨h1, h2⟩
    by_cases hi : i < n
    · obtain ⟨x, hx, hd⟩ := get_drop (l := l) (i := i) (by omega)
      rw [hd] at h2
      have w1 : IntKind.i64.wrap ((i : Int) + 1) = i + 1 := wrap_in (by omega)
      clear hd
      by_cases a1 : x.From = a
      · by_cases a2 : x.To = b
        · have e : isL a b x = true := by simp [isL, a1, a2]
          rw [List.find?_cons_of_pos e] at h2
          rw [h2] at hu
          subst hu
          simp [hi, hn, hx, gE hx, a1, a2]
        · have e : isL a b x = false := by simp [isL, a1, a2]
          rw [List.find?_cons_of_neg (by simp [e])] at h2
          simp [hi, hn, hx, gE hx, a1, a2, w1]
          exact ⟨i + 1, ⟨by omega, h2⟩, by omega, by simp⟩
      · have e : isL a b x = false := by simp [isL, a1]
        rw [List.find?_cons_of_neg (by simp [e])] at h2
        simp [hi, hn, hx, gE hx, a1, w1]
        exact ⟨i + 1, ⟨by omega, h2⟩, by omega, by simp⟩
    · have : i = n := by omega
      subst this
      rw [List.drop_eq_nil_of_le (by omega)] at h2
      rw [h2] at hu
      subst hu
      simp [hn, e0]
end Go.Proofs.Ytgcnlmcpmocbhaa
