/- Links and constraints; words in a list. -/
import Derived.Test.YtgcnlmcpmocbhaaAmAB
import Derived.Test.YtgcnlmcpmocbhaaAmZ
import Derived.Test.YtgcnlmcpmocbhaaCFacts
set_option linter.unusedSimpArgs false
set_option linter.unusedVariables false
namespace Go.Proofs.Ytgcnlmcpmocbhaa
open Go Go.Am

@[simp] def encI (x : Int) : AVal := .int .i64 x
def inI (x : Int) : Prop := -9223372036854775808 ≤ x ∧ x ≤ 9223372036854775807
theorem gE {α : Type} {l : List α} {i : Nat} {x : α} (hx : l[i]? = some x) (h : i < l.length) : l[i]'h = x := by
  rw [List.getElem?_eq_getElem h] at hx
  injection hx
structure Lnk where
  From : Int
  To : Int
  Cost : Int
  Cap : Int
  Fr : Nat → Int
  Aff : Int
def frs (x : Lnk) : List Int := [x.Fr 0, x.Fr 1, x.Fr 2, x.Fr 3, x.Fr 4, x.Fr 5, x.Fr 6, x.Fr 7]
theorem frs_get (x : Lnk) {i : Nat} (h : i < 8) : (frs x)[i]? = some (x.Fr i) := by
  match i, h with
  | 0, _ | 1, _ | 2, _ | 3, _ | 4, _ | 5, _ | 6, _ | 7, _ => rfl
theorem frs_len (x : Lnk) : (frs x).length = 8 := rfl
def frC (x : Lnk) : List AVal := (frs x).map encI
def cellsL (x : Lnk) : List AVal := [.int .i64 x.From, .int .i64 x.To, .int .i64 x.Cost, .int .i64 x.Cap] ++ (frC x ++ [.int .u32 x.Aff])
theorem frC_get (x : Lnk) {i : Nat} (h : i < 8) : (frC x)[i]? = some (.int .i64 (x.Fr i)) := by simp [frC, frs_get x h]
@[simp] theorem frC_len (x : Lnk) : (frC x).length = 8 := rfl
@[simp] theorem cellsL_len (x : Lnk) : (cellsL x).length = 13 := rfl
@[simp] theorem cellsL_0 (x : Lnk) : (cellsL x)[0]? = some (.int .i64 x.From) := rfl
@[simp] theorem cellsL_1 (x : Lnk) : (cellsL x)[1]? = some (.int .i64 x.To) := rfl
@[simp] theorem cellsL_2 (x : Lnk) : (cellsL x)[2]? = some (.int .i64 x.Cost) := rfl
@[simp] theorem cellsL_3 (x : Lnk) : (cellsL x)[3]? = some (.int .i64 x.Cap) := rfl
@[simp] theorem cellsL_12 (x : Lnk) : (cellsL x)[12]? = some (.int .u32 x.Aff) := rfl
theorem cellsL_fr (x : Lnk) {i : Nat} (h : i < 8) : (cellsL x)[4 + i]? = some (.int .i64 (x.Fr i)) := by
  match i, h with
  | 0, _ | 1, _ | 2, _ | 3, _ | 4, _ | 5, _ | 6, _ | 7, _ => rfl
@[simp] theorem cellsL_dis (x : Lnk) : (cellsL x).map AVal.dis = cellsL x := rfl
@[simp] theorem cellsL_disf (x : Lnk) : (cellsL x).map (fun c => c.dis) = cellsL x := rfl
@[simp] theorem cellsL_ne (x : Lnk) : cellsL x ≠ [] := by simp [cellsL]
@[simp] theorem cellsL_tree (x : Lnk) : (cellsL x).all AVal.tree = true := rfl
@[simp] theorem cellsL_scal (x : Lnk) : (cellsL x).all AVal.scalar = true := rfl
@[simp] theorem cellsL_treeF (x : Lnk) : (∀ c, c ∈ cellsL x → c.tree = true) = True := eq_true (List.all_eq_true.1 (cellsL_tree x))
@[simp] theorem cellsL_scalF (x : Lnk) : (∀ c, c ∈ cellsL x → c.scalar = true) = True := eq_true (List.all_eq_true.1 (cellsL_scal x))
@[simp] theorem cellsL_noid (x : Lnk) : (cellsL x).all noid0 = true := rfl
theorem encL_enc : Enc cellsL 13 := ⟨by decide, fun _ => rfl, fun _ => rfl, fun _ => rfl⟩
@[simp] def encL (x : Lnk) : AVal := .agg (cellsL x)
@[simp high] theorem load_L (x : Lnk) : aload (some (true, 13)) (cellsL x) 0 = some (.agg (cellsL x)) := rfl
@[simp high] theorem load_Lf (x : Lnk) : aload (some (true, 8)) (cellsL x) 4 = some (.agg (frC x)) := rfl
@[simp] theorem le_L (x : Lnk) : All2 LeC (cellsL x) (cellsL x) := All2_refl LeC_refl _
@[simp] theorem les_L (n : Nat) (x : Lnk) : LeCells n (cellsL x) (cellsL x) := treeCells_le n (cellsL_tree x)
@[simp] theorem cellsL_mid (x : Lnk) : List.take 8 (List.drop 4 (cellsL x)) = frC x := rfl
@[simp] theorem le_F (x : Lnk) : All2 LeC (frC x) (frC x) := All2_refl LeC_refl _
@[simp] theorem frC_dis (x : Lnk) : (frC x).map AVal.dis = frC x := rfl
@[simp] theorem cellsL_take (x : Lnk) : List.take 13 (cellsL x) = cellsL x := rfl
@[simp] theorem setR_L (x : Lnk) (a1 a2 a3 a4 a5 a6 a7 a8 a9 b1 b2 b3 b4 : AVal) : setR [a1, a2, a3, a4, a5, a6, a7, a8, a9, b1, b2, b3, b4] 0 (cellsL x) = cellsL x := rfl
@[simp] theorem setR_LL (x y : Lnk) : setR (cellsL y) 0 (cellsL x) = cellsL x := rfl
structure Con where
  Band : Int
  Setup : Int
  Hold : Int
  Incl : Int
  Excl : Int
  Hops : Int
  Avoid : List Int
  Thru : List Int
@[simp] def cellsC (c : Con) : List AVal := [.int .i64 c.Band, .int .i64 c.Setup, .int .i64 c.Hold, .int .u32 c.Incl, .int .u32 c.Excl, .int .i64 c.Hops, .sl 1 (c.Avoid.map encI) .sh, .sl 1 (c.Thru.map encI) .sh]
@[simp] def encC (c : Con) : AVal := .agg (cellsC c)

theorem c23 (a b c : Int) : CFun Try.prog 23 [.int .i64 a, .int .i64 b, .int .i64 c] [] (.bool (decide (a < b) || decide (c < a))) [] := by
  refine CFun.intro (tr := []) (fz := []) (n := 15) (rs := [.tmp 6]) Try.func23 rfl (by kernel_rfl) rfl rfl mixed (by kernel_rfl) (by simp) (by simp) ?_
  by_cases h : a < b
  · simp [h]
  · simp [h]

def isI (a b : Int) : Bool := decide (b = a)
-- slices.Index
set_option maxHeartbeats 1000000 in
set_option maxRecDepth 10000 in
theorem c44 (l : List Int) (n : Nat) (hn : l.length = n) (hlen : n < 9223372036854775807) (a : Int) : CFun Try.prog 44 [.sl 1 (l.map encI) .sh, .int .i64 a] [] (.int .i64 (idxL (isI a) l 0)) [] := by
  refine CFun.intro (tr := []) (fz := []) (n := 19) (rs := [.tmp 4]) Try.func44 rfl (by kernel_rfl) rfl rfl mixed (by kernel_rfl) (by simp) (by simp) ?_
  simp
  refine LoopK.intro (tr := []) mixed (by kernel_rfl) (fun i : Nat => [(0, .sl 1 (l.map encI) .sh), (1, .int .i64 a), (7, .int .i64 n), (8, .int .i64 i)]) (fun _ => []) (fun i => i ≤ n ∧ idxL (isI a) l 0 = idxL (isI a) (l.drop i) i) (fun i => n - i) 0 ?_ ?_ ?_
  · simp
  · simp [hn]
  · rintro i ⟨h1, h2⟩
    by_cases hi : i < n
    · obtain ⟨x, hx, hd⟩ := get_drop (l := l) (i := i) (by omega)
      rw [hd] at h2
      simp only [idxL, isI] at h2
      have w1 : IntKind.i64.wrap ((i : Int) + 1) = i + 1 := wrap_in (by omega)
      clear hd
      by_cases hb : a = x
      · simp [hb] at h2
        simp [hi, hn, hx, gE hx, hb, h2]
      · have hb' : ¬ x = a := fun e => hb e.symm
        simp [hb'] at h2
        simp [hi, hn, hx, gE hx, hb, w1]
        exact ⟨i + 1, ⟨by omega, h2⟩, by omega, by simp⟩
    · have : i = n := by omega
      subst this
      rw [List.drop_eq_nil_of_le (by omega)] at h2
      simp [hn, h2, idxL]
def hasB (l : List Int) (a : Int) : Bool := l.any (isI a)
theorem hasB_iff (l : List Int) (a : Int) : hasB l a = true ↔ a ∈ l := by simp [hasB, isI]
-- slices.Contains
set_option maxHeartbeats 1000000 in
set_option maxRecDepth 10000 in
theorem c24 (l : List Int) (n : Nat) (hn : l.length = n) (hlen : n < 9223372036854775807) (a : Int) : CFun Try.prog 24 [.sl 1 (l.map encI) .sh, .int .i64 a] [] (.bool (hasB l a)) [] := by
  refine CFun.intro (tr := []) (fz := []) (n := 9) (rs := [.tmp 4]) Try.func24 rfl (by kernel_rfl) rfl rfl mixed (by kernel_rfl) (by simp) (by simp) ?_
  have h := fun H => (c44 l n hn hlen a).up' H (by simp [noid, noid0]) rfl
  rw [show hasB l a = decide (0 ≤ idxL (isI a) l 0) from idxL_any _ _ _]
  generalize idxL (isI a) l 0 = q at h
  simp
  refine ⟨_, _, .inl (h _), by simp, ?_⟩
  simp
-- routingref03.IndexInt
set_option maxHeartbeats 1000000 in
set_option maxRecDepth 10000 in
theorem c45 (l : List Int) (n : Nat) (hn : l.length = n) (hlen : n < 9223372036854775807) (a : Int) : CFun Try.prog 45 [.sl 1 (l.map encI) .sh, .int .i64 a] [] (.int .i64 (idxL (isI a) l 0)) [] := by
  refine CFun.intro (tr := []) (fz := []) (n := 19) (rs := [.tmp 4]) Try.func45 rfl (by kernel_rfl) rfl rfl mixed (by kernel_rfl) (by simp) (by simp) ?_
  simp
  refine LoopK.intro (tr := []) mixed (by kernel_rfl) (fun i : Nat => [(1, .int .i64 a), (7, .sl 1 (l.map encI) .sh), (8, .int .i64 n), (9, .int .i64 i)]) (fun _ => []) (fun i => i ≤ n ∧ idxL (isI a) l 0 = idxL (isI a) (l.drop i) i) (fun i => n - i) 0 ?_ ?_ ?_
  · simp
  · simp [hn]
  · rintro i ⟨h1, h2⟩
    by_cases hi : i < n
    · obtain ⟨x, hx, hd⟩ := get_drop (l := l) (i := i) (by omega)
      rw [hd] at h2
      simp only [idxL, isI] at h2
      have w1 : IntKind.i64.wrap ((i : Int) + 1) = i + 1 := wrap_in (by omega)
      clear hd
      by_cases hb : x = a
      · simp [hb] at h2
        simp [hi, hn, hx, gE hx, hb, h2]
      · simp [hb] at h2
        simp [hi, hn, hx, gE hx, hb, w1]
        exact ⟨i + 1, ⟨by omega, h2⟩, by omega, by simp⟩
    · have : i = n := by omega
      subst this
      rw [List.drop_eq_nil_of_le (by omega)] at h2
      simp [hn, h2, idxL]
-- routingref03.HasInt
set_option maxHeartbeats 1000000 in
set_option maxRecDepth 10000 in
theorem c25 (l : List Int) (n : Nat) (hn : l.length = n) (hlen : n < 9223372036854775807) (a : Int) : CFun Try.prog 25 [.sl 1 (l.map encI) .sh, .int .i64 a] [] (.bool (hasB l a)) [] := by
  refine CFun.intro (tr := []) (fz := []) (n := 9) (rs := [.tmp 4]) Try.func25 rfl (by kernel_rfl) rfl rfl mixed (by kernel_rfl) (by simp) (by simp) ?_
  have h := fun H => (c45 l n hn hlen a).up' H (by simp [noid, noid0]) rfl
  rw [show hasB l a = decide (0 ≤ idxL (isI a) l 0) from idxL_any _ _ _]
  generalize idxL (isI a) l 0 = q at h
  simp
  refine ⟨_, _, .inl (h _), by simp, ?_⟩
  simp
end Go.Proofs.Ytgcnlmcpmocbhaa

/- Which links a constraint allows; what is wrong with a link. -/
namespace Go.Proofs.Ytgcnlmcpmocbhaa
open Go Go.Am

def andW (a b : Int) : Int := IntKind.u32.wrap ((BitVec.ofInt IntKind.u32.bits a &&& BitVec.ofInt IntKind.u32.bits b).toNat : Int)
theorem andW_comm (a b : Int) : andW a b = andW b a := by unfold andW; rw [BitVec.and_comm]
@[simp ↓] theorem aint_and (a b : Int) : aint .and .u32 a b = some (.int .u32 (andW a b)) := rfl
@[simp ↓] theorem abit_and (a b : Int) : abit .and .u32 a b = some (.int .u32 (andW a b)) := rfl

def usableN (x : Lnk) (c : Con) : Bool :=
  if c.Setup < 0 ∨ 7 < c.Setup then false else if x.Fr c.Setup.toNat < c.Band then false
  else if andW c.Excl x.Aff ≠ 0 then false else if c.Incl ≠ 0 ∧ andW c.Incl x.Aff = 0 then false
  else !hasB c.Avoid x.From && !hasB c.Avoid x.To
theorem usable_1 {x : Lnk} {c : Con} (h : c.Setup < 0 ∨ 7 < c.Setup) : usableN x c = false := by
  unfold usableN; rw [if_pos h]
theorem usable_2 {x : Lnk} {c : Con} {i : Nat} (hi : c.Setup = i) (h8 : i < 8) (h : x.Fr i < c.Band) : usableN x c = false := by
  unfold usableN; rw [if_neg (by omega), if_pos (by rw [hi]; exact h)]
theorem usable_3 {x : Lnk} {c : Con} {i : Nat} (hi : c.Setup = i) (h8 : i < 8) (h : ¬ x.Fr i < c.Band) : usableN x c = if andW c.Excl x.Aff ≠ 0 then false else if c.Incl ≠ 0 ∧ andW c.Incl x.Aff = 0 then false else !hasB c.Avoid x.From && !hasB c.Avoid x.To := by
  unfold usableN; rw [if_neg (by omega), if_neg (by rw [hi]; exact h)]
theorem usable_4 {x : Lnk} {c : Con} {i : Nat} (hi : c.Setup = i) (h8 : i < 8) (h : ¬ x.Fr i < c.Band) (h2 : ¬ andW c.Excl x.Aff = 0) : usableN x c = false := by
  rw [usable_3 hi h8 h, if_pos h2]
theorem usable_5 {x : Lnk} {c : Con} {i : Nat} (hi : c.Setup = i) (h8 : i < 8) (h : ¬ x.Fr i < c.Band) (h2 : andW c.Excl x.Aff = 0) (h3 : ¬ c.Incl = 0) (h4 : andW c.Incl x.Aff = 0) : usableN x c = false := by
  rw [usable_3 hi h8 h, if_neg (by simpa using h2), if_pos ⟨h3, h4⟩]
theorem usable_6 {x : Lnk} {c : Con} {i : Nat} (hi : c.Setup = i) (h8 : i < 8) (h : ¬ x.Fr i < c.Band) (h2 : andW c.Excl x.Aff = 0) (h3 : c.Incl = 0 ∨ ¬ andW c.Incl x.Aff = 0) : usableN x c = (!hasB c.Avoid x.From && !hasB c.Avoid x.To) := by
  rw [usable_3 hi h8 h, if_neg (by simpa using h2), if_neg (fun k => by rcases h3 with h3 | h3; exact k.1 h3; exact h3 k.2)]
-- cspf.Usable
set_option maxHeartbeats 4000000 in
set_option maxRecDepth 10000 in
theorem c9 (x : Lnk) (c : Con) (n : Nat) (hn : c.Avoid.length = n) (hlen : n < 9223372036854775807) : CFun Try.prog 9 [encL x, encC c] [] (.bool (usableN x c)) [] := by
  refine CFun.intro (tr := []) (fz := []) (n := 51) (rs := [.tmp 4]) Try.func9 rfl (by kernel_rfl) rfl rfl mixed (by kernel_rfl) (by simp) (by simp) ?_
  have h1 := fun a b c H => (c23 a b c).up' H rfl rfl
  have h2 := fun a H => (c24 c.Avoid n hn hlen a).up' H (by simp [noid, noid0]) rfl
  generalize hu : usableN x c = u
  simp
  refine ⟨_, _, .inl (by simpa using h1 _ _ _ _), by simp, ?_⟩
  by_cases g1 : c.Setup < 0
  · have e := usable_1 (x := x) (.inl g1)
    simp [g1, ← hu, e]
  by_cases g2 : 7 < c.Setup
  · have e := usable_1 (x := x) (.inr g2)
    simp [g1, g2, ← hu, e]
  obtain ⟨i, hi⟩ : ∃ i : Nat, c.Setup = i := ⟨c.Setup.toNat, by omega⟩
  have hi8 : i < 8 := by omega
  have hf := cellsL_fr x hi8
  have gi : (i : Int) < 8 := by omega
  have g7 : ¬ 7 < (i : Int) := by omega
  have g8 : ¬ (i : Int) < 0 := by omega
  by_cases g3 : x.Fr i < c.Band
  · have e := usable_2 hi hi8 g3
    simp [hi, g7, g8, gi, hf, g3, ← hu, e]
  have last : ∀ (g4 : andW c.Excl x.Aff = 0) (g5 : c.Incl = 0 ∨ ¬ andW c.Incl x.Aff = 0), u = (!hasB c.Avoid x.From && !hasB c.Avoid x.To) := fun g4 g5 => by rw [← hu]; exact usable_6 hi hi8 g3 g4 g5
  by_cases g4 : andW c.Excl x.Aff = 0
  · have g4' := g4
    rw [andW_comm] at g4'
    by_cases g5 : c.Incl = 0
    · have hl := last g4 (.inl g5)
      clear last
      simp [hi, g7, g8, gi, hf, g3, g4, g4', g5]
      refine ⟨_, _, .inl (by simpa using h2 _ _), by simp, ?_⟩
      cases hp : hasB c.Avoid x.From with
      | true => simp [hl, hp]
      | false =>
        simp [hp]
        refine ⟨_, _, .inl (by simpa using h2 _ _), by simp, ?_⟩
        simp [hl, hp]
    · by_cases g6 : andW c.Incl x.Aff = 0
      · have e := usable_5 hi hi8 g3 g4 g5 g6
        have g6' := g6
        rw [andW_comm] at g6'
        simp [hi, g7, g8, gi, hf, g3, g4, g4', g5, g6, g6', ← hu, e]
      · have g6' := g6
        rw [andW_comm] at g6'
        have hl := last g4 (.inr g6)
        clear last
        simp [hi, g7, g8, gi, hf, g3, g4, g4', g5, g6, g6']
        refine ⟨_, _, .inl (by simpa using h2 _ _), by simp, ?_⟩
        cases hp : hasB c.Avoid x.From with
      | true => simp [hl, hp]
      | false =>
        simp [hp]
        refine ⟨_, _, .inl (by simpa using h2 _ _), by simp, ?_⟩
        simp [hl, hp]
  · have e := usable_4 hi hi8 g3 g4
    have g4' := g4
    rw [andW_comm] at g4'
    simp [hi, g7, g8, gi, hf, g3, g4, g4', ← hu, e]
-- routingref14.Usable
set_option maxHeartbeats 4000000 in
set_option maxRecDepth 10000 in
theorem c10 (x : Lnk) (c : Con) (n : Nat) (hn : c.Avoid.length = n) (hlen : n < 9223372036854775807) : CFun Try.prog 10 [encL x, encC c] [] (.bool (usableN x c)) [] := by
  refine CFun.intro (tr := []) (fz := []) (n := 58) (rs := [.tmp 4]) Try.func10 rfl (by kernel_rfl) rfl rfl mixed (by kernel_rfl) (by simp) (by simp) ?_
  have h2 := fun a H => (c25 c.Avoid n hn hlen a).up' H (by simp [noid, noid0]) rfl
  generalize hu : usableN x c = u
  simp
  by_cases g1 : c.Setup < 0
  · have e := usable_1 (x := x) (.inl g1)
    simp [g1, ← hu, e]
  by_cases g2 : 7 < c.Setup
  · have e := usable_1 (x := x) (.inr g2)
    simp [g1, g2, ← hu, e]
  obtain ⟨i, hi⟩ : ∃ i : Nat, c.Setup = i := ⟨c.Setup.toNat, by omega⟩
  have hi8 : i < 8 := by omega
  have hf := cellsL_fr x hi8
  have gi : (i : Int) < 8 := by omega
  have g7 : ¬ 7 < (i : Int) := by omega
  have g8 : ¬ (i : Int) < 0 := by omega
  by_cases g3 : x.Fr i < c.Band
  · have e := usable_2 hi hi8 g3
    simp [hi, g7, g8, gi, hf, g3, ← hu, e]
  have last : ∀ (g4 : andW c.Excl x.Aff = 0) (g5 : c.Incl = 0 ∨ ¬ andW c.Incl x.Aff = 0), u = (!hasB c.Avoid x.From && !hasB c.Avoid x.To) := fun g4 g5 => by rw [← hu]; exact usable_6 hi hi8 g3 g4 g5
  by_cases g4 : andW c.Excl x.Aff = 0
  · have g4' := g4
    rw [andW_comm] at g4'
    by_cases g5 : c.Incl = 0
    · have hl := last g4 (.inl g5)
      clear last
      simp [hi, g7, g8, gi, hf, g3, g4, g4', g5]
      refine ⟨_, _, .inl (by simpa using h2 _ _), by simp, ?_⟩
      cases hp : hasB c.Avoid x.From with
      | true => simp [hl, hp]
      | false =>
        simp [hp]
        refine ⟨_, _, .inl (by simpa using h2 _ _), by simp, ?_⟩
        simp [hl, hp]
    · by_cases g6 : andW c.Incl x.Aff = 0
      · have e := usable_5 hi hi8 g3 g4 g5 g6
        have g6' := g6
        rw [andW_comm] at g6'
        simp [hi, g7, g8, gi, hf, g3, g4, g4', g5, g6, g6', ← hu, e]
      · have g6' := g6
        rw [andW_comm] at g6'
        have hl := last g4 (.inr g6)
        clear last
        simp [hi, g7, g8, gi, hf, g3, g4, g4', g5, g6, g6']
        refine ⟨_, _, .inl (by simpa using h2 _ _), by simp, ?_⟩
        cases hp : hasB c.Avoid x.From with
        | true => simp [hl, hp]
        | false =>
          simp [hp]
          refine ⟨_, _, .inl (by simpa using h2 _ _), by simp, ?_⟩
          simp [hl, hp]
  · have e := usable_4 hi hi8 g3 g4
    have g4' := g4
    rw [andW_comm] at g4'
    simp [hi, g7, g8, gi, hf, g3, g4, g4', ← hu, e]
end Go.Proofs.Ytgcnlmcpmocbhaa

/- What is wrong with a link. -/
namespace Go.Proofs.Ytgcnlmcpmocbhaa
open Go Go.Am

def outF (cap : Int) (f : Int) : Bool := decide (f < 0) || decide (cap < f)
/-- One is less than the next. -/
def upF : List Int → Bool
  | a :: b :: l => if a < b then true else upF (b :: l)
  | _ => false
def linkE (n : Int) (x : Lnk) : Int :=
  if x.From < 0 ∨ n ≤ x.From ∨ x.To < 0 ∨ n ≤ x.To then 5 else if x.From = x.To then 1
  else if x.Cost < 1 ∨ 65535 < x.Cost ∨ x.Cap < 0 ∨ 1099511627776 < x.Cap then 5
  else if (frs x).any (outF x.Cap) = true then 5 else if upF (frs x) = true then 1 else 0
theorem upF_drop (x : Lnk) {i : Nat} (h : i + 1 < 8) : upF ((frs x).drop i) = if x.Fr i < x.Fr (i + 1) then true else upF ((frs x).drop (i + 1)) := by
  have : i = 0 ∨ i = 1 ∨ i = 2 ∨ i = 3 ∨ i = 4 ∨ i = 5 ∨ i = 6 := by omega
  rcases this with rfl | rfl | rfl | rfl | rfl | rfl | rfl <;> rfl
theorem upF_end (x : Lnk) : upF ((frs x).drop 7) = false := rfl
theorem any_drop (x : Lnk) (p : Int → Bool) {i : Nat} (h : i < 8) : ((frs x).drop i).any p = (p (x.Fr i) || ((frs x).drop (i + 1)).any p) := by
  have : i = 0 ∨ i = 1 ∨ i = 2 ∨ i = 3 ∨ i = 4 ∨ i = 5 ∨ i = 6 ∨ i = 7 := by omega
  rcases this with rfl | rfl | rfl | rfl | rfl | rfl | rfl | rfl <;> rfl
-- cspf.checkLink
set_option maxHeartbeats 4000000 in
set_option maxRecDepth 10000 in
theorem c27 (x : Lnk) (n : Int) (hn : inI (n - 1)) : CFun Try.prog 27 [.int .i64 n, encL x] [] (.int .i64 (linkE n x)) [] := by
  refine CFun.intro (tr := []) (fz := []) (n := 57) (rs := [.tmp 4]) Try.func27 rfl (by kernel_rfl) rfl rfl mixed (by kernel_rfl) (by simp) (by simp) ?_
  have h1 := fun a b c H => (c23 a b c).up' H rfl rfl
  have w1 : IntKind.i64.wrap (n - 1) = n - 1 := wrap_in hn
  generalize hu : linkE n x = u
  unfold linkE at hu
  simp [w1]
  refine ⟨_, _, .inl (by simpa using h1 _ _ _ _), by simp, ?_⟩
  by_cases g1 : x.From < 0 ∨ n ≤ x.From
  · have g1' : x.From < 0 ∨ n - 1 < x.From := by omega
    rw [if_pos (by omega)] at hu
    subst hu
    simp [g1']
  have g1' : ¬ (x.From < 0) ∧ ¬ (n - 1 < x.From) := by omega
  simp [g1', w1]
  refine ⟨_, _, .inl (by simpa using h1 _ _ _ _), by simp, ?_⟩
  by_cases g2 : x.To < 0 ∨ n ≤ x.To
  · have g2' : x.To < 0 ∨ n - 1 < x.To := by omega
    rw [if_pos (by omega)] at hu
    subst hu
    simp [g2']
  have g2' : ¬ (x.To < 0) ∧ ¬ (n - 1 < x.To) := by omega
  rw [if_neg (by omega)] at hu
  by_cases g3 : x.From = x.To
  · rw [if_pos g3] at hu
    subst hu
    simp [g2', g3]
  rw [if_neg g3] at hu
  simp [g2', g3]
  refine ⟨_, _, .inl (by simpa using h1 _ _ _ _), by simp, ?_⟩
  by_cases g4 : x.Cost < 1 ∨ 65535 < x.Cost
  · rw [if_pos (by omega)] at hu
    subst hu
    simp [g4]
  have g4' : ¬ (x.Cost < 1) ∧ ¬ (65535 < x.Cost) := by omega
  simp [g4']
  refine ⟨_, _, .inl (by simpa using h1 _ _ _ _), by simp, ?_⟩
  by_cases g5 : x.Cap < 0 ∨ 1099511627776 < x.Cap
  · rw [if_pos (by omega)] at hu
    subst hu
    simp [g5]
  have g5' : ¬ (x.Cap < 0) ∧ ¬ (1099511627776 < x.Cap) := by omega
  rw [if_neg (by omega)] at hu
  simp [g5']
  refine LoopK.intro (tr := []) mixed (by kernel_rfl) (fun i : Nat => [(3, .ptr 0 0), (34, .agg (frC x)), (35, .int .i64 i)]) (fun _ => [cellsL x]) (fun i => i ≤ 8 ∧ (frs x).any (outF x.Cap) = ((frs x).drop i).any (outF x.Cap)) (fun i => 8 - i) 0 ?_ ?_ ?_
  · simp
  · simp
  · rintro i ⟨q1, q2⟩
    by_cases hi : i < 8
    · have b1 : (i : Int) < 8 := by omega
      have w2 : IntKind.i64.wrap ((i : Int) + 1) = i + 1 := wrap_in (by omega)
      have hf := frC_get x hi
      rw [any_drop x _ hi] at q2
      simp [b1, hf]
      refine ⟨_, _, .inl (by simpa using h1 _ _ _ _), by simp, ?_⟩
      cases ho : outF x.Cap (x.Fr i) with
      | true =>
        rw [ho] at q2
        simp at q2
        rw [if_pos (by simpa using q2)] at hu
        simp [outF] at ho
        subst hu
        simp [ho]
      | false =>
        rw [ho, Bool.false_or] at q2
        simp [outF] at ho
        have ho' : ¬ x.Fr i < 0 ∧ ¬ x.Cap < x.Fr i := by omega
        simp [ho', w2]
        exact ⟨i + 1, ⟨by omega, q2⟩, by omega, by simp⟩
    · have hi8 : i = 8 := by omega
      subst hi8
      rw [q2] at hu
      have hu : (if upF (frs x) = true then 1 else 0) = u := by simpa [frs] using hu
      simp
      refine LoopK.intro (tr := []) mixed (by kernel_rfl) (fun i : Nat => [(3, .ptr 0 0), (43, .int .i64 i)]) (fun _ => [cellsL x]) (fun i => i ≤ 7 ∧ upF (frs x) = upF ((frs x).drop i)) (fun i => 7 - i) 0 ?_ ?_ ?_
      · simp
      · simp
      · rintro i ⟨q1, q2⟩
        by_cases hi : i < 7
        · have b1 : (i : Int) < 7 := by omega
          have b2 : (i : Int) < 8 := by omega
          have b3 : (i : Int) + 1 < 8 := by omega
          have b4 : 0 ≤ (i : Int) + 1 := by omega
          have e1 : ((i : Int) + 1).toNat = i + 1 := by omega
          have w2 : IntKind.i64.wrap ((i : Int) + 1) = i + 1 := wrap_in (by omega)
          have hf := cellsL_fr x (i := i) (by omega)
          have hf2 := cellsL_fr x (i := i + 1) (by omega)
          rw [upF_drop x (by omega)] at q2
          simp [b1, b2, b3, b4, e1, w2, hf, hf2]
          by_cases ho : x.Fr i < x.Fr (i + 1)
          · rw [if_pos ho] at q2
            rw [if_pos q2] at hu
            subst hu
            simp [ho]
          · rw [if_neg ho] at q2
            simp [ho, w2]
            exact ⟨i + 1, ⟨by omega, q2⟩, by omega, by simp⟩
        · have hi7 : i = 7 := by omega
          subst hi7
          rw [q2, upF_end] at hu
          simp at hu
          subst hu
          simp
-- routingref14.link
set_option maxHeartbeats 4000000 in
set_option maxRecDepth 10000 in
theorem c29 (x : Lnk) (n : Int) : CFun Try.prog 29 [.int .i64 n, encL x] [] (.int .i64 (linkE n x)) [] := by
  refine CFun.intro (tr := []) (fz := []) (n := 79) (rs := [.tmp 4]) Try.func29 rfl (by kernel_rfl) rfl rfl mixed (by kernel_rfl) (by simp) (by simp) ?_
  generalize hu : linkE n x = u
  unfold linkE at hu
  by_cases g1 : x.From < 0 ∨ n ≤ x.From ∨ x.To < 0 ∨ n ≤ x.To
  · rw [if_pos g1] at hu
    subst hu
    by_cases a1 : x.From < 0
    · simp [a1]
    by_cases a2 : n ≤ x.From
    · simp [a1, a2]
    by_cases a3 : x.To < 0
    · simp [a1, a2, a3]
    · have a4 : n ≤ x.To := by omega
      simp [a1, a2, a3, a4]
  rw [if_neg g1] at hu
  have g1' : ¬ x.From < 0 ∧ ¬ n ≤ x.From ∧ ¬ x.To < 0 ∧ ¬ n ≤ x.To := by omega
  clear g1
  by_cases g3 : x.From = x.To
  · rw [if_pos g3] at hu
    rw [g3] at g1'
    subst hu
    simp [g1', g3]
  rw [if_neg g3] at hu
  by_cases g4 : x.Cost < 1 ∨ 65535 < x.Cost ∨ x.Cap < 0 ∨ 1099511627776 < x.Cap
  · rw [if_pos g4] at hu
    subst hu
    by_cases a1 : x.Cost < 1
    · simp [g1', g3, a1]
    by_cases a2 : 65535 < x.Cost
    · simp [g1', g3, a1, a2]
    by_cases a3 : x.Cap < 0
    · simp [g1', g3, a1, a2, a3]
    · have a4 : 1099511627776 < x.Cap := by omega
      simp [g1', g3, a1, a2, a3, a4]
  rw [if_neg g4] at hu
  have g4' : ¬ x.Cost < 1 ∧ ¬ 65535 < x.Cost ∧ ¬ x.Cap < 0 ∧ ¬ 1099511627776 < x.Cap := by omega
  clear g4
  simp [g1', g3, g4']
  refine LoopK.intro (tr := []) mixed (by kernel_rfl) (fun i : Nat => [(3, .ptr 0 0), (52, .agg (frC x)), (53, .int .i64 i)]) (fun _ => [cellsL x]) (fun i => i ≤ 8 ∧ (frs x).any (outF x.Cap) = ((frs x).drop i).any (outF x.Cap)) (fun i => 8 - i) 0 ?_ ?_ ?_
  · simp
  · simp
  · rintro i ⟨q1, q2⟩
    by_cases hi : i < 8
    · have b1 : (i : Int) < 8 := by omega
      have w2 : IntKind.i64.wrap ((i : Int) + 1) = i + 1 := wrap_in (by omega)
      have hf := frC_get x hi
      rw [any_drop x _ hi] at q2
      cases ho : outF x.Cap (x.Fr i) with
      | true =>
        rw [ho] at q2
        simp at q2
        rw [if_pos (by simpa using q2)] at hu
        simp [outF] at ho
        subst hu
        by_cases a1 : x.Fr i < 0
        · simp [b1, hf, a1]
        · have a2 : x.Cap < x.Fr i := by omega
          simp [b1, hf, a1, a2]
      | false =>
        rw [ho, Bool.false_or] at q2
        simp [outF] at ho
        have ho' : ¬ x.Fr i < 0 ∧ ¬ x.Cap < x.Fr i := by omega
        simp [b1, hf, ho', w2]
        exact ⟨i + 1, ⟨by omega, q2⟩, by omega, by simp⟩
    · have hi8 : i = 8 := by omega
      subst hi8
      rw [q2] at hu
      have hu : (if upF (frs x) = true then 1 else 0) = u := by simpa [frs] using hu
      simp
      refine LoopK.intro (tr := []) mixed (by kernel_rfl) (fun i : Nat => [(3, .ptr 0 0), (7, .int .i64 ((i : Int) + 1))]) (fun _ => [cellsL x]) (fun i => i ≤ 7 ∧ upF (frs x) = upF ((frs x).drop i)) (fun i => 7 - i) 0 ?_ ?_ ?_
      · simp
      · simp
      · rintro i ⟨q1, q2⟩
        by_cases hi : i < 7
        · have b1 : (i : Int) + 1 < 8 := by omega
          have b2 : (i : Int) < 8 := by omega
          have b4 : 0 ≤ (i : Int) + 1 := by omega
          have e1 : ((i : Int) + 1).toNat = i + 1 := by omega
          have w1 : IntKind.i64.wrap ((i : Int)) = i := wrap_in (by omega)
          have w2 : IntKind.i64.wrap ((i : Int) + 1 + 1) = (i : Int) + 1 + 1 := wrap_in (by omega)
          have hf := cellsL_fr x (i := i) (by omega)
          have hf2 := cellsL_fr x (i := i + 1) (by omega)
          rw [upF_drop x (by omega)] at q2
          simp [b1, b2, b4, e1, w1, w2, hf, hf2]
          by_cases ho : x.Fr i < x.Fr (i + 1)
          · rw [if_pos ho] at q2
            rw [if_pos q2] at hu
            subst hu
            simp [ho]
          · rw [if_neg ho] at q2
            simp [ho, w2]
            exact ⟨i + 1, ⟨by omega, q2⟩, by omega, by simp⟩
        · have hi7 : i = 7 := by omega
          subst hi7
          rw [q2, upF_end] at hu
          simp at hu
          subst hu
          simp
end Go.Proofs.Ytgcnlmcpmocbhaa

/- What is wrong with a constraint. -/
namespace Go.Proofs.Ytgcnlmcpmocbhaa
open Go Go.Am

def outN (n : Int) (x : Int) : Bool := decide (x < 0) || decide (n ≤ x)
-- routingref14.nodes
set_option maxHeartbeats 4000000 in
set_option maxRecDepth 10000 in
theorem c38 (l : List Int) (m : Nat) (hm : l.length = m) (hlen : m < 9223372036854775807) (n : Int) : CFun Try.prog 38 [.int .i64 n, .sl 1 (l.map encI) .sh] [] (.bool (!(l.any (outN n)))) [] := by
  refine CFun.intro (tr := []) (fz := []) (n := 21) (rs := [.tmp 4]) Try.func38 rfl (by kernel_rfl) rfl rfl mixed (by kernel_rfl) (by simp) (by simp) ?_
  generalize hu : l.any (outN n) = u
  simp
  refine LoopK.intro (tr := []) mixed (by kernel_rfl) (fun i : Nat => [(0, .int .i64 n), (7, .sl 1 (l.map encI) .sh), (8, .int .i64 m), (9, .int .i64 i)]) (fun _ => []) (fun i => i ≤ m ∧ u = (l.drop i).any (outN n)) (fun i => m - i) 0 ?_ ?_ ?_
  · simp [← hu]
  · simp [hm]
  · rintro i ⟨h1, h2⟩
    by_cases hi : i < m
    · obtain ⟨x, hx, hd⟩ := get_drop (l := l) (i := i) (by omega)
      rw [hd, List.any_cons] at h2
      have w1 : IntKind.i64.wrap ((i : Int) + 1) = i + 1 := wrap_in (by omega)
      clear hd
      by_cases a1 : x < 0
      · have : outN n x = true := by simp [outN, a1]
        rw [this, Bool.true_or] at h2
        subst h2
        simp [hi, hm, hx, gE hx, a1]
      by_cases a2 : n ≤ x
      · have : outN n x = true := by simp [outN, a2]
        rw [this, Bool.true_or] at h2
        subst h2
        simp [hi, hm, hx, gE hx, a1, a2]
      · have : outN n x = false := by simp [outN]; omega
        rw [this, Bool.false_or] at h2
        simp [hi, hm, hx, gE hx, a1, a2, w1]
        exact ⟨i + 1, ⟨by omega, h2⟩, by omega, by simp⟩
    · have : i = m := by omega
      subst this
      rw [List.drop_eq_nil_of_le (by omega)] at h2
      subst h2
      simp [hm]
-- slices.Grow of nothing
set_option maxHeartbeats 4000000 in
set_option maxRecDepth 10000 in
theorem c61 (n : Nat) (hn : n ≤ 1000000) : CFun Try.prog 61 [.sl 0 [] .full, .int .i64 n] [] (.sl 1 [] .own) [] := by
  have w0 : IntKind.i64.wrap 0 = 0 := rfl
  by_cases h0 : 0 < n
  case neg =>
    have : n = 0 := by omega
    subst this
    refine CFun.intro (tr := []) (fz := []) (n := 27) (rs := [.tmp 4]) Try.func61 rfl (by kernel_rfl) rfl rfl mixed (by kernel_rfl) (by simp) (by simp) ?_
    simp [w0]
  refine CFun.ownRet (cap := none) (cs := List.replicate n .undef) ?_ (by intro e; have := congrArg List.length e; simp at this; omega) (by decide)
  refine CFun.intro (tr := [100022]) (fz := []) (n := 27) (rs := [.tmp 4]) Try.func61 rfl (by kernel_rfl) rfl rfl mixed (by kernel_rfl) (by simp) (by simp) ?_
  have w1 : IntKind.i64.wrap (n : Int) = n := wrap_in (by omega)
  have b1 : ¬ (n : Int) < 0 := by omega
  have b2 : (n : Int) > 0 := by omega
  have b3 : 0 < (n : Int) := by omega
  have b4 : (n : Int) * 8 ≤ 281474976710656 := by omega
  have b5 : n * 8 ≤ 140737488355328 := by omega
  have b6 : (n : Int) ≤ 140737488355328 := by omega
  have b7 : n ≤ 140737488355328 := by omega
  simp [h0, b1, b2, b3, b4, b5, b6, b7, w0, w1]
  exact undef_le 1 n
-- slices.Concat of two
set_option maxHeartbeats 4000000 in
set_option maxRecDepth 10000 in
theorem c47 (l r : List Int) (n m : Nat) (hn : l.length = n) (hm : r.length = m) (hb : n ≤ 1000) (hc : m ≤ 1000) : CFun Try.prog 47 [.sl 1 [.sl 1 (l.map encI) .sh, .sl 1 (r.map encI) .sh] .full] [] (.sl 1 ((l ++ r).map encI) .sh) [] := by
  refine CFun.intro (tr := [31]) (fz := []) (n := 36) (rs := [.tmp 2]) Try.func47 rfl (by kernel_rfl) rfl rfl mixed (by kernel_rfl) (by simp) (by simp) ?_
  have w1 : IntKind.i64.wrap ((n : Int)) = n := wrap_in (by omega)
  have w2 : IntKind.i64.wrap ((n : Int) + m) = (n : Int) + m := wrap_in (by omega)
  have b1 : ¬ (n : Int) < 0 := by omega
  have b2 : ¬ (n : Int) + m < 0 := by omega
  simp
  refine LoopK.intro (tr := [31]) mixed (by kernel_rfl) (fun i : Nat => [(0, .sl 1 [.sl 1 (l.map encI) .sh, .sl 1 (r.map encI) .sh] .full), (3, .int .i64 (if i = 0 then 0 else if i = 1 then (n : Int) else n + m)), (9, .sl 1 [.sl 1 (l.map encI) .sh, .sl 1 (r.map encI) .sh] .full), (10, .int .i64 2), (11, .int .i64 i)]) (fun _ => []) (fun i => i ≤ 2) (fun i => 2 - i) 0 ?_ ?_ ?_
  · simp
  · simp
  · intro i hi
    have : i = 0 ∨ i = 1 ∨ i = 2 := by omega
    rcases this with rfl | rfl | rfl
    · simp [hn, w1, b1]
      exact ⟨1, by omega, by omega, by simp; decide⟩
    · simp [hm, w2, b2]
      exact ⟨2, by omega, by omega, by simp; decide⟩
    · have h := fun H => (c61 (n + m) (by omega)).up' H rfl rfl
      simp
      refine ⟨_, _, .inl (by simpa using h _), by simp, ?_⟩
      simp
      refine LoopK.intro (tr := [31]) mixed (by kernel_rfl) (fun i : Nat => [(6, .sl 1 ((if i = 0 then [] else if i = 1 then l else l ++ r).map encI) .own), (25, .sl 1 [.sl 1 (l.map encI) .sh, .sl 1 (r.map encI) .sh] .full), (26, .int .i64 2), (27, .int .i64 i)]) (fun _ => []) (fun i => i ≤ 2) (fun i => 2 - i) 0 ?_ ?_ ?_
      · simp
      · simp
      · intro i hi
        have : i = 0 ∨ i = 1 ∨ i = 2 := by omega
        rcases this with rfl | rfl | rfl
        · have s1 : n ≤ 140737488355328 := by omega
          have s2 : n * 8 ≤ 140737488355328 := by omega
          simp [hn, s1, s2]
          exact ⟨1, by omega, by omega, by simp; decide⟩
        · have s1 : n + m ≤ 140737488355328 := by omega
          have s2 : (n + m) * 8 ≤ 140737488355328 := by omega
          simp [hn, hm, s1, s2]
          exact ⟨2, by omega, by omega, by simp; decide⟩
        · simp
end Go.Proofs.Ytgcnlmcpmocbhaa
