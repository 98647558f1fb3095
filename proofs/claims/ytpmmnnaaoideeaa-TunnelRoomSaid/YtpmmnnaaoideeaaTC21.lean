/- Check of links and a constraint. -/
import Derived.Test.YtpmmnnaaoideeaaTC5
import Derived.Test.YtpmmnnaaoideeaaAmAC
import Derived.Test.YtpmmnnaaoideeaaAmAA
set_option linter.unusedSimpArgs false
set_option linter.unusedVariables false
namespace Go.Proofs.Ytpmmnnaaoideeaa
open Go Go.Am

def befL (p : Option Lnk) (x : Lnk) : Bool := match p with
  | some y => decide (x.From < y.From) || (decide (y.From = x.From) && decide (x.To ≤ y.To))
  | none => false
def linksE (n : Int) : Option Lnk → List Lnk → Int
  | _, [] => 0
  | p, x :: xs => if linkE n x ≠ 0 then linkE n x else if befL p x = true then 16 else linksE n (some x) xs
def checkE (n : Int) (l : List Lnk) (c : Con) : Int :=
  if n < 1 ∨ 128 < n then 5 else if 1024 < l.length then 4 else if linksE n none l ≠ 0 then linksE n none l else conE n c
def prevL (l : List Lnk) : Nat → Option Lnk
  | 0 => none
  | i + 1 => l[i]?
-- cspf.Check
set_option maxHeartbeats 4000000 in
set_option maxRecDepth 10000 in
theorem c12 (l : List Lnk) (m : Nat) (hm : l.length = m) (hm2 : m < 9223372036854775807) (c : Con) (n : Int) (p q : Nat) (hp : c.Avoid.length = p) (hq : c.Thru.length = q) (hp2 : p < 9223372036854775807) (hq2 : q < 9223372036854775807) :
    CFun Try.prog 26 [.int .i64 n, .sl 13 (l.map encL) .sh, encC c] [] (.int .i64 (checkE n l c)) [] := by
  refine CFun.intro (tr := []) (fz := []) (n := 67) (rs := [.tmp 6]) Try.func26 rfl (by kernel_rfl) rfl rfl mixed (by kernel_rfl) (by simp) (by simp) ?_
  have h1 := fun a b c H => (c23 a b c).up' H rfl rfl
  generalize hu : checkE n l c = u
  unfold checkE at hu
  rw [hm] at hu
  simp
  refine ⟨_, _, .inl (by simpa using h1 _ _ _ _), by simp, ?_⟩
  by_cases g1 : n < 1 ∨ 128 < n
  · rw [if_pos g1] at hu
    subst hu
    simp [g1]
  rw [if_neg g1] at hu
  have g1' : ¬ n < 1 ∧ ¬ 128 < n := by omega
  by_cases g2 : 1024 < m
  · rw [if_pos g2] at hu
    have g2i : 1024 < (m : Int) := by omega
    have g2j : ¬ (m : Int) ≤ 1024 := by omega
    subst hu
    simp [g1', hm, g2, g2i, g2j]
  rw [if_neg g2] at hu
  have g2i : ¬ 1024 < (m : Int) := by omega
  have g2j : (m : Int) ≤ 1024 := by omega
  have hin : inI (n - 1) := by unfold inI; omega
  have h2 := fun x H => (c27 x n hin).up' H rfl rfl
  have h3 := fun H => (c28 c n hin p q hp hq hp2 hq2).up' H (by simp [noid, noid0]) rfl
  simp [g1', hm, g2, g2i, g2j]
  refine LoopK.intro (tr := []) mixed (by kernel_rfl) (fun i : Nat => [(0, .int .i64 n), (1, .sl 13 (l.map encL) .sh), (5, .ptr 0 0), (15, .sl 13 (l.map encL) .sh), (16, .int .i64 m), (17, .int .i64 i)]) (fun _ => [cellsC c]) (fun i => i ≤ m ∧ linksE n none l = linksE n (prevL l i) (l.drop i)) (fun i => m - i) 0 ?_ ?_ ?_
  · simp [prevL]
  · simp [hm]
  · rintro i ⟨q1, q2⟩
    by_cases hi : i < m
    · obtain ⟨x, hx, hd⟩ := get_drop (l := l) (i := i) (by omega)
      rw [hd] at q2
      simp only [linksE] at q2
      have w2 : IntKind.i64.wrap ((i : Int) + 1) = i + 1 := wrap_in (by omega)
      clear hd
      simp [hi, hm, hx, gE hx]
      refine ⟨_, _, .inl (by simpa using h2 _ _), by simp, ?_⟩
      by_cases ho : linkE n x = 0
      · rw [if_neg (by simpa using ho)] at q2
        have done : linksE n none l = linksE n (prevL l (i + 1)) (l.drop (i + 1)) → i + 1 ≤ m ∧ linksE n none l = linksE n (prevL l (i + 1)) (l.drop (i + 1)) := fun h => ⟨by omega, h⟩
        have hp1 : prevL l (i + 1) = some x := hx
        rw [hp1] at done
        cases i with
        | zero =>
          simp only [prevL, befL] at q2
          simp only [Bool.false_eq_true, if_false] at q2
          simp [ho]
          exact ⟨1, by rw [hp1]; exact done q2, by omega, by simp; rfl⟩
        | succ i =>
          have hy : ∃ y, l[i]? = some y := ⟨l[i]'(by omega), List.getElem?_eq_getElem (by omega)⟩
          obtain ⟨y, hy⟩ := hy
          have w3 : IntKind.i64.wrap (((i + 1 : Nat) : Int) - 1) = i := by rw [wrap_in] <;> omega
          have w3' : IntKind.i64.wrap ((i : Int)) = i := wrap_in (by omega)
          have b1 : (0 : Int) < (i : Int) + 1 := by omega
          have b2 : i < m := by omega
          simp only [prevL, hy, befL] at q2
          have e1 : ((i : Int) + 1 + 1).toNat = i + 2 := by omega
          by_cases a1 : x.From < y.From
          · simp [a1] at q2
            rw [q2] at hu
            simp at hu
            subst hu
            simp [ho, w3, w3', b1, b2, hy, gE hy, a1]
          by_cases a2 : y.From = x.From
          · by_cases a3 : x.To ≤ y.To
            · simp [a1, a2, a3] at q2
              rw [q2] at hu
              simp at hu
              subst hu
              simp [ho, w3, w3', b1, b2, hy, gE hy, a1, a2, a3]
            · simp [a1, a2, a3] at q2
              simp [ho, w3, w3', b1, b2, hy, gE hy, a1, a2, a3]
              simp at w2
              simp [w2]
              exact ⟨i + 2, by rw [hp1]; exact done q2, by omega, by simp; omega⟩
          · simp [a1, a2] at q2
            simp [ho, w3, w3', b1, b2, hy, gE hy, a1, a2]
            simp at w2
            simp [w2]
            exact ⟨i + 2, by rw [hp1]; exact done q2, by omega, by simp; omega⟩
      · rw [if_pos (by simpa using ho)] at q2
        rw [q2, if_pos (by simpa using ho)] at hu
        subst hu
        simp [ho]
    · have : i = m := by omega
      subst this
      rw [List.drop_eq_nil_of_le (by omega)] at q2
      simp only [linksE] at q2
      rw [q2] at hu
      simp at hu
      subst hu
      simp [hm]
      refine ⟨_, _, .inl (by simpa using h3 _), by simp, ?_⟩
      simp
end Go.Proofs.Ytpmmnnaaoideeaa

/- The reference's Check. -/
namespace Go.Proofs.Ytpmmnnaaoideeaa
open Go Go.Am

-- routingref14.Check
set_option maxHeartbeats 4000000 in
set_option maxRecDepth 10000 in
theorem c13 (l : List Lnk) (m : Nat) (hm : l.length = m) (hm2 : m < 9223372036854775807) (c : Con) (n : Int) (p q : Nat) (hp : c.Avoid.length = p) (hq : c.Thru.length = q) (hp2 : p < 9223372036854775807) (hq2 : q < 9223372036854775807) :
    CFun Try.prog 21 [.int .i64 n, .sl 13 (l.map encL) .sh, encC c] [] (.int .i64 (checkE n l c)) [] := by
  refine CFun.intro (tr := []) (fz := []) (n := 71) (rs := [.tmp 6]) Try.func21 rfl (by kernel_rfl) rfl rfl mixed (by kernel_rfl) (by simp) (by simp) ?_
  generalize hu : checkE n l c = u
  unfold checkE at hu
  rw [hm] at hu
  by_cases g1 : n < 1 ∨ 128 < n
  · rw [if_pos g1] at hu
    subst hu
    by_cases a1 : n < 1
    · simp [a1]
    · have a2 : 128 < n := by omega
      simp [a1, a2]
  rw [if_neg g1] at hu
  have g1' : ¬ n < 1 ∧ ¬ 128 < n := by omega
  by_cases g2 : 1024 < m
  · rw [if_pos g2] at hu
    have g2i : 1024 < (m : Int) := by omega
    have g2j : ¬ (m : Int) ≤ 1024 := by omega
    subst hu
    simp [g1', hm, g2, g2i, g2j]
  rw [if_neg g2] at hu
  have g2i : ¬ 1024 < (m : Int) := by omega
  have g2j : (m : Int) ≤ 1024 := by omega
  have h2 := fun x H => (c29 x n).up' H rfl rfl
  have h3 := fun H => (c30 c n p q hp hq hp2 hq2).up' H (by simp [noid, noid0]) rfl
  simp [g1', hm, g2, g2i, g2j]
  refine LoopK.intro (tr := []) mixed (by kernel_rfl) (fun i : Nat => [(0, .int .i64 n), (1, .sl 13 (l.map encL) .sh), (5, .ptr 0 0), (19, .sl 13 (l.map encL) .sh), (20, .int .i64 m), (21, .int .i64 i)]) (fun _ => [cellsC c]) (fun i => i ≤ m ∧ linksE n none l = linksE n (prevL l i) (l.drop i)) (fun i => m - i) 0 ?_ ?_ ?_
  · simp [prevL]
  · simp [hm]
  · rintro i ⟨q1, q2⟩
    by_cases hi : i < m
    · obtain ⟨x, hx, hd⟩ := get_drop (l := l) (i := i) (by omega)
      rw [hd] at q2
      simp only [linksE] at q2
      have w2 : IntKind.i64.wrap ((i : Int) + 1) = i + 1 := wrap_in (by omega)
      clear hd
      simp [hi, hm, hx, gE hx]
      refine ⟨_, _, .inl (by simpa using h2 _ _), by simp, ?_⟩
      by_cases ho : linkE n x = 0
      · rw [if_neg (by simpa using ho)] at q2
        have done : linksE n none l = linksE n (prevL l (i + 1)) (l.drop (i + 1)) → i + 1 ≤ m ∧ linksE n none l = linksE n (prevL l (i + 1)) (l.drop (i + 1)) := fun h => ⟨by omega, h⟩
        have hp1 : prevL l (i + 1) = some x := hx
        rw [hp1] at done
        cases i with
        | zero =>
          simp only [prevL, befL] at q2
          simp only [Bool.false_eq_true, if_false] at q2
          simp [ho]
          exact ⟨1, by rw [hp1]; exact done q2, by omega, by simp; rfl⟩
        | succ i =>
          have hy : ∃ y, l[i]? = some y := ⟨l[i]'(by omega), List.getElem?_eq_getElem (by omega)⟩
          obtain ⟨y, hy⟩ := hy
          have w3 : IntKind.i64.wrap (((i + 1 : Nat) : Int) - 1) = i := by rw [wrap_in] <;> omega
          have w3' : IntKind.i64.wrap ((i : Int)) = i := wrap_in (by omega)
          have b1 : (0 : Int) < (i : Int) + 1 := by omega
          have b2 : i < m := by omega
          simp only [prevL, hy, befL] at q2
          have e1 : ((i : Int) + 1 + 1).toNat = i + 2 := by omega
          by_cases a1 : x.From < y.From
          · simp [a1] at q2
            rw [q2] at hu
            simp at hu
            subst hu
            simp [ho, w3, w3', b1, b2, hy, gE hy, a1]
          by_cases a2 : y.From = x.From
          · by_cases a3 : x.To ≤ y.To
            · simp [a1, a2, a3] at q2
              rw [q2] at hu
              simp at hu
              subst hu
              simp [ho, w3, w3', b1, b2, hy, gE hy, a1, a2, a3]
            · simp [a1, a2, a3] at q2
              simp [ho, w3, w3', b1, b2, hy, gE hy, a1, a2, a3]
              simp at w2
              simp [w2]
              exact ⟨i + 2, by rw [hp1]; exact done q2, by omega, by simp; omega⟩
          · have a2' : ¬ x.From = y.From := fun h => a2 h.symm
            simp [a1, a2] at q2
            simp [ho, w3, w3', b1, b2, hy, gE hy, a1, a2, a2']
            simp at w2
            simp [w2]
            exact ⟨i + 2, by rw [hp1]; exact done q2, by omega, by simp; omega⟩
      · rw [if_pos (by simpa using ho)] at q2
        rw [q2, if_pos (by simpa using ho)] at hu
        subst hu
        simp [ho]
    · have : i = m := by omega
      subst this
      rw [List.drop_eq_nil_of_le (by omega)] at q2
      simp only [linksE] at q2
      rw [q2] at hu
      simp at hu
      subst hu
      simp [hm]
      refine ⟨_, _, .inl (by simpa using h3 _), by simp, ?_⟩
      simp
end Go.Proofs.Ytpmmnnaaoideeaa

/- Which lists have a number twice; the first link between two nodes. -/
namespace Go.Proofs.Ytpmmnnaaoideeaa
open Go Go.Am

/-- From place i on: does a number stand before already? -/
def repI (l : List Int) (n : Nat) : Nat → Bool
  | 0 => false
  | k + 1 => if hasB (l.take (n - (k + 1))) (l.getD (n - (k + 1)) 0) = true then true else repI l n k
def repB (l : List Int) : Bool := repI l l.length l.length
theorem repI_step (l : List Int) (n i : Nat) (h : i < n) : repI l n (n - i) = if hasB (l.take i) (l.getD i 0) = true then true else repI l n (n - (i + 1)) := by
  obtain ⟨k, hk⟩ : ∃ k, n - i = k + 1 := ⟨n - i - 1, by omega⟩
  rw [hk, repI, show n - (k + 1) = i by omega, show n - (i + 1) = k by omega]
-- cspf.repeats
set_option maxHeartbeats 4000000 in
set_option maxRecDepth 10000 in
theorem c32 (l : List Int) (n : Nat) (hn : l.length = n) (hlen : n < 9223372036854775807) : CFun Try.prog 77 [.sl 1 (l.map encI) .sh] [] (.bool (repB l)) [] := by
  refine CFun.intro (tr := []) (fz := []) (n := 18) (rs := [.tmp 2]) Try.func77 rfl (by kernel_rfl) rfl rfl mixed (by kernel_rfl) (by simp) (by simp) ?_
  unfold repB
  rw [hn]
  simp
  refine LoopK.intro (tr := []) mixed (by kernel_rfl) (fun i : Nat => [(0, .sl 1 (l.map encI) .sh), (5, .sl 1 (l.map encI) .sh), (6, .int .i64 n), (7, .int .i64 i)]) (fun _ => []) (fun i => i ≤ n ∧ repI l n n = repI l n (n - i)) (fun i => n - i) 0 ?_ ?_ ?_
  · simp
  · simp [hn]
  · rintro i ⟨h1, h2⟩
    by_cases hi : i < n
    · obtain ⟨x, hx, _⟩ := get_drop (l := l) (i := i) (by omega)
      have w1 : IntKind.i64.wrap ((i : Int) + 1) = i + 1 := wrap_in (by omega)
      rw [repI_step l n i hi] at h2
      have hd : l.getD i 0 = x := by simp [hx]
      rw [hd] at h2
      have k1 := fun H => (c24 (l.take i) i (by simp; omega) (by omega) x).up' H (by simp [noid, noid0]) rfl
      generalize hasB (l.take i) x = b at k1 h2
      simp [hi, hn, hx, gE hx, h1]
      refine ⟨_, _, .inl (by simpa using k1 _), by simp, ?_⟩
      cases b with
      | true => simp at h2; simp [h2]
      | false =>
        simp at h2
        simp [w1]
        exact ⟨i + 1, ⟨by omega, h2⟩, by omega, by simp⟩
    · have : i = n := by omega
      subst this
      rw [Nat.sub_self] at h2
      simp [hn, h2, repI]
-- routingref14.Repeats
set_option maxHeartbeats 4000000 in
set_option maxRecDepth 10000 in
theorem c35 (l : List Int) (n : Nat) (hn : l.length = n) (hlen : n < 9223372036854775807) : CFun Try.prog 30 [.sl 1 (l.map encI) .sh] [] (.bool (repB l)) [] := by
  refine CFun.intro (tr := []) (fz := []) (n := 18) (rs := [.tmp 2]) Try.func30 rfl (by kernel_rfl) rfl rfl mixed (by kernel_rfl) (by simp) (by simp) ?_
  unfold repB
  rw [hn]
  simp
  refine LoopK.intro (tr := []) mixed (by kernel_rfl) (fun i : Nat => [(0, .sl 1 (l.map encI) .sh), (5, .sl 1 (l.map encI) .sh), (6, .int .i64 n), (7, .int .i64 i)]) (fun _ => []) (fun i => i ≤ n ∧ repI l n n = repI l n (n - i)) (fun i => n - i) 0 ?_ ?_ ?_
  · simp
  · simp [hn]
  · rintro i ⟨h1, h2⟩
    by_cases hi : i < n
    · obtain ⟨x, hx, _⟩ := get_drop (l := l) (i := i) (by omega)
      have w1 : IntKind.i64.wrap ((i : Int) + 1) = i + 1 := wrap_in (by omega)
      rw [repI_step l n i hi] at h2
      have hd : l.getD i 0 = x := by simp [hx]
      rw [hd] at h2
      have k1 := fun H => (c25 (l.take i) i (by simp; omega) (by omega) x).up' H (by simp [noid, noid0]) rfl
      generalize hasB (l.take i) x = b at k1 h2
      simp [hi, hn, hx, gE hx, h1]
      refine ⟨_, _, .inl (by simpa using k1 _), by simp, ?_⟩
      cases b with
      | true => simp at h2; simp [h2]
      | false =>
        simp at h2
        simp [w1]
        exact ⟨i + 1, ⟨by omega, h2⟩, by omega, by simp⟩
    · have : i = n := by omega
      subst this
      rw [Nat.sub_self] at h2
      simp [hn, h2, repI]
def lnk0 : Lnk := ⟨0, 0, 0, 0, fun _ => 0, 0⟩
def isL (a b : Int) (x : Lnk) : Bool := decide (x.From = a) && decide (x.To = b)
def findL (l : List Lnk) (a b : Int) : Lnk × Bool := match l.find? (isL a b) with
  | some x => (x, true)
  | none => (lnk0, false)
@[simp] def zL : List AVal := [.int .i64 0, .int .i64 0, .int .i64 0, .int .i64 0, .int .i64 0, .int .i64 0, .int .i64 0, .int .i64 0, .int .i64 0, .int .i64 0, .int .i64 0, .int .i64 0, .int .u32 0]
theorem e0 : cellsL lnk0 = zL := rfl
-- routingref14.Find
end Go.Proofs.Ytpmmnnaaoideeaa

/- The search: states. -/
namespace Go.Proofs.Ytpmmnnaaoideeaa
open Go Go.Am

/-- The search's own variable. -/
@[simp] def sC (ls : List Lnk) (th : List Int) (n t : Nat) : List AVal := [.sl 13 (ls.map encL) .own, .sl 1 (th.map encI) .sh, .int .i64 n, .int .i64 t]
def entK (th : List Int) (a k : Nat) : Nat := if th[k]? = some (a : Int) then k + 1 else k
def entN (th : List Int) (n a k : Nat) : Nat := entK th a k * n + a
theorem entK_len {th : List Int} {a k : Nat} (h : k ≤ th.length) : entK th a k ≤ th.length := by
  unfold entK
  split
  · rename_i e
    have := (List.getElem?_eq_some_iff.1 e).1
    omega
  · exact h
theorem bound_st {n a k : Nat} (hn : n ≤ 128) (ha : a < 128) (hk : k ≤ 65) : k * n + a ≤ 8448 := by
  have : k * n ≤ 65 * 128 := Nat.mul_le_mul hk hn
  omega
set_option maxHeartbeats 4000000 in
set_option maxRecDepth 10000 in
theorem c70 (ls : List Lnk) (th : List Int) (n t a k : Nat) (hn : n ≤ 128) (ha : a < 128) (hk : k ≤ 65) : CFun Try.prog 101 [.ptr 0 0, .int .i64 a, .int .i64 k] [sC ls th n t] (.int .i64 ((k * n + a : Nat) : Int)) [sC ls th n t] := by
  refine CFun.intro (tr := []) (fz := []) (n := 15) (rs := [.tmp 6]) Try.func101 rfl (by kernel_rfl) rfl rfl mixed (by kernel_rfl) (by simp) (by simp) ?_
  have hb := bound_st hn ha hk
  have hkn : k * n ≤ 8448 := by omega
  have w1 : IntKind.i64.wrap ((k : Int) * n) = ((k * n : Nat) : Int) := by rw [← Int.natCast_mul]; exact wrap_in (by omega)
  have w2 : IntKind.i64.wrap (((k * n : Nat) : Int) + a) = ((k * n + a : Nat) : Int) := wrap_in (by omega)
  rw [Int.natCast_mul] at w1 w2
  simp [w1, w2]
set_option maxHeartbeats 4000000 in
set_option maxRecDepth 10000 in
theorem c49 (ls : List Lnk) (th : List Int) (n t a k : Nat) (hn : n ≤ 128) (ha : a < 128) (hth : th.length ≤ 64) (hk : k ≤ th.length) : CFun Try.prog 85 [.ptr 0 0, .int .i64 a, .int .i64 k] [sC ls th n t] (.int .i64 (entN th n a k)) [sC ls th n t] := by
  refine CFun.intro (tr := []) (fz := []) (n := 31) (rs := [.tmp 6]) Try.func85 rfl (by kernel_rfl) rfl rfl mixed (by kernel_rfl) (by simp) (by simp) ?_
  have h := fun q hq => c70 ls th n t a q hn ha hq
  have w1 : IntKind.i64.wrap ((k : Int) + 1) = ((k + 1 : Nat) : Int) := wrap_in (by omega)
  unfold entN entK
  by_cases hi : k < th.length
  · have hx : th[k]? = some (th[k]'hi) := List.getElem?_eq_getElem hi
    by_cases hz : th[k]'hi = (a : Int)
    · simp [hi, hx, hz, w1]
      refine ⟨_, _, .inl (by simpa using h (k + 1) (by omega)), by simp, ?_⟩
      simp
    · simp [hi, hx, hz]
      refine ⟨_, _, .inl (by simpa using h k (by omega)), by simp, ?_⟩
      simp
  · have hx : th[k]? = none := List.getElem?_eq_none (by omega)
    simp [hi, hx]
    refine ⟨_, _, .inl (by simpa using h k (by omega)), by simp, ?_⟩
    simp
set_option maxHeartbeats 4000000 in
set_option maxRecDepth 10000 in
theorem c66 (ls : List Lnk) (th : List Int) (n t : Nat) (hn : n ≤ 128) (ht : t < 128) (hth : th.length ≤ 64) : CFun Try.prog 97 [.ptr 0 0] [sC ls th n t] (.int .i64 ((th.length * n + t : Nat) : Int)) [sC ls th n t] := by
  refine CFun.intro (tr := []) (fz := []) (n := 14) (rs := [.tmp 2]) Try.func97 rfl (by kernel_rfl) rfl rfl mixed (by kernel_rfl) (by simp) (by simp) ?_
  have h := c70 ls th n t t th.length hn ht (by omega)
  simp
  refine ⟨_, _, .inl (by simpa using h), by simp, ?_⟩
  simp
def keyN (c h : Nat) : Nat := c * 65536 + h
theorem or_key (c h : Nat) (hc : c < 1099511627776) (hh : h < 65536) : IntKind.i64.wrap (((((c * 65536 : Nat) : Int) % 2 ^ IntKind.i64.bits).toNat ||| h % 2 ^ IntKind.i64.bits : Nat) : Int) = ((keyN c h : Nat) : Int) := by
  have e : ((((c * 65536 : Nat) : Int) % 2 ^ IntKind.i64.bits).toNat ||| h % 2 ^ IntKind.i64.bits) = keyN c h := by
    have e1 : (((c * 65536 : Nat) : Int) % 2 ^ IntKind.i64.bits).toNat = c * 65536 := by
      rw [Int.emod_eq_of_lt (by omega) (by have : (2 : Int) ^ IntKind.i64.bits = 18446744073709551616 := by decide
                                           omega)]
      omega
    have e2 : h % 2 ^ IntKind.i64.bits = h := Nat.mod_eq_of_lt (by have : 2 ^ IntKind.i64.bits = 18446744073709551616 := by decide
                                                                   omega)
    rw [e1, e2]
    have := Nat.shiftLeft_add_eq_or_of_lt (i := 16) (b := h) (by omega) c
    rw [Nat.shiftLeft_eq, show (2 : Nat) ^ 16 = 65536 from rfl] at this
    unfold keyN
    omega
  rw [e]
  exact wrap_in (by unfold keyN; omega)
set_option maxHeartbeats 4000000 in
set_option maxRecDepth 10000 in
theorem c68 (c h : Nat) (hc : c < 1099511627776) (hh : h < 65536) : CFun Try.prog 99 [.agg [.int .i64 c, .int .i64 h]] [] (.int .i64 (keyN c h)) [] := by
  refine CFun.intro (tr := []) (fz := []) (n := 9) (rs := [.tmp 2]) Try.func99 rfl (by kernel_rfl) rfl rfl mixed (by kernel_rfl) (by simp) (by simp) ?_
  have w1 : IntKind.i64.wrap ((c : Int) * 65536) = ((c * 65536 : Nat) : Int) := wrap_in (by omega)
  have w2 := or_key c h hc hh
  rw [Int.natCast_mul] at w1 w2
  have w0 : (2 : Int) ^ (min 16 IntKind.i64.bits) = 65536 := by decide
  simp [w0, w1]
  simpa using w2
set_option maxHeartbeats 4000000 in
set_option maxRecDepth 10000 in
theorem c53 (a b c d : Int) : CFun Try.prog 89 [.agg [.int .i64 a, .int .i64 b], .agg [.int .i64 c, .int .i64 d]] [] (.bool (decide (a < c) || decide (a = c) && decide (b < d))) [] := by
  refine CFun.intro (tr := []) (fz := []) (n := 24) (rs := [.tmp 4]) Try.func89 rfl (by kernel_rfl) rfl rfl mixed (by kernel_rfl) (by simp) (by simp) ?_
  by_cases h1 : a < c
  · simp [h1]
  · by_cases h2 : a = c
    · simp [h2]
    · simp [h1, h2]
end Go.Proofs.Ytpmmnnaaoideeaa

/- The search: steps, with a function that changes one variable. -/
namespace Go.Proofs.Ytpmmnnaaoideeaa
open Go Go.Am

def okLk (n : Nat) (x : Lnk) : Prop := 0 ≤ x.From ∧ x.From < n ∧ 0 ≤ x.To ∧ x.To < n ∧ 1 ≤ x.Cost ∧ x.Cost ≤ 65535
def arcN (th : List Int) (n k : Nat) (x : Lnk) : Nat × Nat × Nat := (k * n + x.From.toNat, entN th n x.To.toNat k, x.Cost.toNat)
def arcsN (ls : List Lnk) (th : List Int) (n : Nat) : List (Nat × Nat × Nat) := (List.range (th.length + 1)).flatMap fun k => ls.map (arcN th n k)
theorem at0 {f : FuncId} {ar : List AVal} {x : AVal} {cs : List AVal} (h : CFun Try.prog f (.ptr 0 0 :: ar) [cs] x [cs]) (hc : cs.all noid0 = true) (ha : ar.all noid = true) (hx : noid x = true) (Z : List (List AVal)) : CFun Try.prog f (.ptr 0 0 :: ar) (cs :: Z) x (cs :: Z) := by
  have := h.at (H := cs :: Z) (id := 0) rfl hc hc (by simp only [List.all_cons, Bool.and_eq_true]; exact ⟨rfl, noid_low1 ha⟩) (noid_low hx)
  rw [List.map_cons, noid_maps ha, noid_ren hx] at this
  exact this
set_option maxHeartbeats 8000000 in
set_option maxRecDepth 10000 in
theorem c62 (ls : List Lnk) (th : List Int) (n t : Nat) (hn : n ≤ 128) (hth : th.length ≤ 64) (hls : ∀ x ∈ ls, okLk n x) (L : Nat) (hL : ls.length = L) (hL2 : L ≤ 1024) (K : Nat) (hK : th.length + 1 = K) (g : FuncId) (sz : Nat) (R : Nat → List AVal) (hR : ∀ m j, LeCells m (R j) (R j))
    (hcl : ∀ k < K, ∀ i x, ls[i]? = some x → ∀ Z, CFun Try.prog g ([.int .i64 ((arcN th n k x).1 : Nat), .int .i64 ((arcN th n k x).2.1 : Nat), .int .i64 ((arcN th n k x).2.2 : Nat)] ++ [.ptr 2 0]) (sC ls th n t :: R (k * L + i) :: [.osl 1 0 sz (some sz) 1] :: Z) (.tup []) (sC ls th n t :: R (k * L + i + 1) :: [.osl 1 0 sz (some sz) 1] :: Z)) :
    CFun Try.prog 93 [.ptr 0 0, .fn g [] [.ptr 2 0]] [sC ls th n t, R 0, [.osl 1 0 sz (some sz) 1]] (.tup []) [sC ls th n t, R (K * L), [.osl 1 0 sz (some sz) 1]] := by
  refine CFun.intro (tr := [2500038]) (fz := []) (n := 41) (rs := []) Try.func93 rfl (by kernel_rfl) rfl rfl mixed (by kernel_rfl) (by simp) (by simp) ?_
  have h70 := fun a k ha hk Z => at0 (c70 ls th n t a k hn ha hk) rfl rfl rfl Z
  have h49 := fun a k ha hk Z => at0 (c49 ls th n t a k hn ha hth hk) rfl rfl rfl Z
  have w1 : IntKind.i64.wrap ((th.length : Int) + 1) = K := by rw [← hK]; exact wrap_in (by omega)
  simp only [sC] at *
  simp [w1]
  refine LoopK.intro (tr := [2500038]) mixed (by kernel_rfl) (fun k : Nat => [(0, .ptr 0 0), (1, .fn g [] [.ptr 2 0]), (12, .int .i64 K), (13, .int .i64 k)]) (fun k => [[.sl 13 (ls.map encL) .own, .sl 1 (th.map encI) .sh, .int .i64 n, .int .i64 t], R (k * L), [.osl 1 0 sz (some sz) 1]]) (fun k => k ≤ K) (fun k => K - k) 0 ?_ ?_ ?_
  · simp
  · simp [hR]
  · intro k hk
    by_cases hk2 : k < K
    case neg =>
      have : k = K := by omega
      subst this
      simp [hR]
    have w2 : IntKind.i64.wrap ((k : Int) + 1) = k + 1 := wrap_in (by omega)
    simp [hk2, hL]
    refine LoopK.intro (tr := [2500038]) mixed (by kernel_rfl) (fun i : Nat => [(0, .ptr 0 0), (1, .fn g [] [.ptr 2 0]), (12, .int .i64 K), (13, .int .i64 k), (4, .int .i64 k), (19, .sl 13 (ls.map encL) .sh), (20, .int .i64 L), (21, .int .i64 i)]) (fun i => [[.sl 13 (ls.map encL) .own, .sl 1 (th.map encI) .sh, .int .i64 n, .int .i64 t], R (k * L + i), [.osl 1 0 sz (some sz) 1]]) (fun i => i ≤ L) (fun i => L - i) 0 ?_ ?_ ?_
    · simp
    · simp [hR]
    · intro i hi
      by_cases hi2 : i < L
      case neg =>
        have : i = L := by omega
        subst this
        have e : k * i + i = (k + 1) * i := by rw [Nat.succ_mul]
        simp [w2]
        exact ⟨k + 1, by omega, by omega, by simp [hR, e]⟩
      have hx : ls[i]? = some (ls[i]'(by omega)) := List.getElem?_eq_getElem (by omega)
      obtain ⟨x, hx'⟩ : ∃ x, x = ls[i]'(by omega) := ⟨_, rfl⟩
      rw [← hx'] at hx
      obtain ⟨o1, o2, o3, o4, o5, o6⟩ := hls x (List.mem_of_getElem? hx)
      have w3 : IntKind.i64.wrap ((i : Int) + 1) = i + 1 := wrap_in (by omega)
      have hc := hcl k hk2 i x hx
      simp only [arcN] at hc
      have e1 : x.From = ((x.From.toNat : Nat) : Int) := by omega
      have e2 : x.To = ((x.To.toNat : Nat) : Int) := by omega
      have e3 : x.Cost = ((x.Cost.toNat : Nat) : Int) := by omega
      simp [hi2, hL, hx, gE hx]
      refine ⟨_, _, .inl (by rw [e1]; simpa using h70 x.From.toNat k (by omega) (by omega) _), by simp, ?_⟩
      simp
      refine ⟨_, _, .inl (by rw [e2]; simpa using h49 x.To.toNat k (by omega) (by omega) _), by simp, ?_⟩
      simp
      refine ⟨_, _, .inl (by rw [e3]; simpa using hc _), by simp [hR], ?_⟩
      simp [w3]
      exact ⟨i + 1, by omega, by omega, by simp [hR, Nat.add_assoc]⟩
end Go.Proofs.Ytpmmnnaaoideeaa
