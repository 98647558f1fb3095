/- The abstract machine, part twenty-five: rows of elements, all of one number of cells. -/
import Derived.Test.YthonenmafbpbkaaBmX
namespace Go.Am
open Go

theorem LeC_refl (x : AVal) : LeC x x := by
  cases x with
  | sl k xs m => exact ⟨rfl, .inl ⟨rfl, rfl⟩⟩
  | _ => rfl
theorem All2_refl {α : Type} {r : α → α → Prop} (h : ∀ x, r x x) : ∀ l : List α, All2 r l l
  | [] => trivial
  | x :: l => ⟨h x, All2_refl h l⟩
theorem LeS_refl (x : AVal) : LeS x x := by
  cases x with
  | undef => trivial
  | agg cs => exact All2_refl LeC_refl cs
  | mix cs => exact All2_refl LeC_refl cs
  | sl k xs m => exact ⟨rfl, .inl ⟨rfl, rfl⟩⟩
  | _ => rfl
theorem LeV_refl (x : AVal) : LeV x x := by
  cases x with
  | tup vs => exact All2_refl LeS_refl vs
  | _ => unfold LeV; exact LeS_refl _
theorem tree_low {n : Nat} {x : AVal} (h : x.tree = true) : low n x = true := by
  cases x <;> first | rfl | simp [AVal.tree] at h
theorem tree_noid {x : AVal} (h : x.tree = true) : noid0 x = true := by
  cases x <;> first | rfl | simp [AVal.tree] at h
theorem treeCells_le (n : Nat) : ∀ {cs : List AVal}, cs.all AVal.tree = true → LeCells n cs cs := by
  intro cs
  induction cs with
  | nil => intro _; trivial
  | cons c cs ih =>
    intro h
    simp only [List.all_cons, Bool.and_eq_true] at h
    exact ⟨LeV_refl c, tree_low h.1, ih h.2⟩
theorem LeCells_app {n : Nat} {as bs cs ds : List AVal} (h : LeCells n as cs) (hl : as.length = cs.length) (k : LeCells n bs ds) : LeCells n (as ++ bs) (cs ++ ds) := by
  induction as generalizing cs with
  | nil =>
    cases cs with
    | nil => exact k
    | cons => simp at hl
  | cons a as ih =>
    cases cs with
    | nil => simp at hl
    | cons c cs =>
      obtain ⟨h1, h2, h3⟩ := h
      exact ⟨h1, h2, ih h3 (by simpa using hl)⟩
theorem undef_le (n k : Nat) : LeCells n (List.replicate k AVal.undef) (List.replicate k AVal.undef) := by
  induction k with
  | zero => trivial
  | succ k ih => simp only [List.replicate_succ]; exact ⟨LeV_undef _, rfl, ih⟩

/-- The cells of an element: so many, all data, none with a right. -/
structure Enc {α : Type} (ce : α → List AVal) (k : Nat) : Prop where
  pos : 0 < k
  len : ∀ x, (ce x).length = k
  dis : ∀ x, (ce x).map AVal.dis = ce x
  tree : ∀ x, (ce x).all AVal.tree = true

section
variable {α : Type} {ce : α → List AVal} {k : Nat}
/-- Elements in a row, cell by cell. -/
def rowC (ce : α → List AVal) (l : List α) : List AVal := l.flatMap ce
theorem rowC_nil : rowC ce ([] : List α) = [] := rfl
theorem rowC_cons (x : α) (l : List α) : rowC ce (x :: l) = ce x ++ rowC ce l := rfl
theorem rowC_app (l m : List α) : rowC ce (l ++ m) = rowC ce l ++ rowC ce m := by simp [rowC]
theorem rowC_one (x : α) : rowC ce [x] = ce x := by simp [rowC]
theorem rowC_map (l : List α) : (l.map fun x => AVal.agg (ce x)).flatMap AVal.cells = rowC ce l := by
  rw [List.flatMap_map]; rfl
theorem Enc.rowDis (E : Enc ce k) (l : List α) : (rowC ce l).map AVal.dis = rowC ce l := by
  induction l with
  | nil => rfl
  | cons x l ih => rw [rowC_cons, List.map_append, ih, E.dis]
theorem Enc.rowTree (E : Enc ce k) (l : List α) : (rowC ce l).all AVal.tree = true := by
  induction l with
  | nil => rfl
  | cons x l ih => rw [rowC_cons, List.all_append, ih, E.tree]; rfl
theorem Enc.rowScalar (E : Enc ce k) (l : List α) : (rowC ce l).all AVal.scalar = true :=
  List.all_eq_true.2 fun x hx => tree_scalar (List.all_eq_true.1 (E.rowTree l) x hx)
theorem Enc.rowNoid (E : Enc ce k) (l : List α) : (rowC ce l).all noid0 = true :=
  List.all_eq_true.2 fun x hx => tree_noid (List.all_eq_true.1 (E.rowTree l) x hx)
theorem Enc.cellNoid (E : Enc ce k) (x : α) : (ce x).all noid0 = true :=
  List.all_eq_true.2 fun y hy => tree_noid (List.all_eq_true.1 (E.tree x) y hy)
theorem Enc.rowLe (E : Enc ce k) (n : Nat) (l : List α) : LeCells n (rowC ce l) (rowC ce l) := treeCells_le n (E.rowTree l)
theorem Enc.rowLen (E : Enc ce k) (l : List α) : (rowC ce l).length = l.length * k := by
  induction l with
  | nil => simp [rowC]
  | cons x l ih => rw [rowC_cons, List.length_append, ih, E.len, List.length_cons, Nat.succ_mul]; omega
theorem Enc.roomLe (E : Enc ce k) (n j : Nat) (l : List α) : LeCells n (rowC ce l ++ List.replicate j AVal.undef) (rowC ce l ++ List.replicate j AVal.undef) := LeCells_app (E.rowLe n l) rfl (undef_le n j)
theorem Enc.roomNoid (E : Enc ce k) (l : List α) (m : Nat) : (rowC ce l ++ List.replicate m AVal.undef).all noid0 = true := by
  rw [List.all_append, E.rowNoid, List.all_eq_true.2]
  · rfl
  · intro y hy
    rw [(List.mem_replicate.1 hy).2]
    rfl
theorem Enc.rowDrop (E : Enc ce k) (l : List α) (i : Nat) : (rowC ce l).drop (i * k) = rowC ce (l.drop i) := by
  induction i generalizing l with
  | zero => simp
  | succ i ih =>
    cases l with
    | nil => simp [rowC]
    | cons b l =>
      have e : (i + 1) * k = (ce b).length + i * k := by rw [E.len, Nat.succ_mul]; omega
      rw [e, ← List.drop_drop, rowC_cons, List.drop_left, ih]
      rfl
theorem Enc.rowTake (E : Enc ce k) (l : List α) (i : Nat) : (rowC ce l).take (i * k) = rowC ce (l.take i) := by
  induction i generalizing l with
  | zero => simp [rowC]
  | succ i ih =>
    cases l with
    | nil => simp [rowC]
    | cons b l =>
      have e : (i + 1) * k = (ce b).length + i * k := by rw [E.len, Nat.succ_mul]; omega
      rw [e, rowC_cons, List.take_length_add_append, ih]
      rfl
/-- The cells of one element in a row. -/
theorem Enc.rowAt (E : Enc ce k) {l : List α} {i : Nat} {x : α} (h : l[i]? = some x) (rest : List AVal) : ((rowC ce l ++ rest).drop (i * k)).take k = ce x ∧ i * k + k ≤ (rowC ce l ++ rest).length := by
  have hi : i < l.length := (List.getElem?_eq_some_iff.1 h).1
  have hd : l.drop i = x :: l.drop (i + 1) := by
    rw [List.drop_eq_getElem_cons hi]
    congr 1
    rw [List.getElem?_eq_getElem hi] at h
    injection h
  have hl : i * k + k ≤ (rowC ce l).length := by rw [E.rowLen, ← Nat.succ_mul]; exact Nat.mul_le_mul_right _ hi
  refine ⟨?_, by rw [List.length_append]; omega⟩
  rw [List.drop_append_of_le_length (by omega), E.rowDrop, hd, rowC_cons, List.append_assoc, List.take_append_of_le_length (by rw [E.len]; exact Nat.le_refl _), List.take_of_length_le (by rw [E.len]; exact Nat.le_refl _)]
/-- An element is read out of a row. -/
theorem Enc.load (E : Enc ce k) {l : List α} {i : Nat} {x : α} (h : l[i]? = some x) (rest : List AVal) : aload (some (true, k)) (rowC ce l ++ rest) (i * k) = some (.agg (ce x)) := by
  obtain ⟨e, hl⟩ := E.rowAt h rest
  simp only [aload]
  rw [e, if_pos ⟨E.pos, hl, E.tree x⟩, E.dis]
theorem Enc.load0 (E : Enc ce k) {l : List α} {i : Nat} {x : α} (h : l[i]? = some x) : aload (some (true, k)) (rowC ce l) (i * k) = some (.agg (ce x)) := by
  have := E.load h []
  rwa [List.append_nil] at this
theorem chunk_get (ag : Bool) (cs : List AVal) (off k len q : Nat) : (chunk ag cs off k len)[q]? = if q < len then some (if ag = true then .agg (((cs.drop (off + q * k)).take k).map AVal.dis) else (cs.getD (off + q * k) .undef).dis) else none := by
  simp only [chunk, List.getElem?_map]
  by_cases hq : q < len
  · rw [List.getElem?_range hq, if_pos hq]; rfl
  · rw [List.getElem?_eq_none (by simpa using hq), if_neg hq]; rfl
/-- A row is read as data. -/
theorem Enc.chunk (E : Enc ce k) (l : List α) (n : Nat) (h : l.length = n) : Am.chunk true (rowC ce l) 0 k n = l.map fun x => AVal.agg (ce x) := by
  subst h
  apply List.ext_getElem?
  intro q
  rw [chunk_get, List.getElem?_map]
  by_cases hq : q < l.length
  · have hx : l[q]? = some l[q] := List.getElem?_eq_getElem hq
    have := (E.rowAt hx []).1
    rw [List.append_nil] at this
    rw [if_pos hq, hx]
    simp only [Option.map_some, Nat.zero_add, if_true]
    rw [this, E.dis]
  · rw [if_neg hq, List.getElem?_eq_none (by omega)]; rfl
/-- .. from a place on. -/
theorem Enc.chunkAt (E : Enc ce k) (l : List α) (a n : Nat) (h : a + n ≤ l.length) : Am.chunk true (rowC ce l) (a * k) k n = ((l.drop a).take n).map fun x => AVal.agg (ce x) := by
  apply List.ext_getElem?
  intro q
  rw [chunk_get, List.getElem?_map, List.getElem?_take, List.getElem?_drop]
  by_cases hq : q < n
  · have hx : l[a + q]? = some (l[a + q]'(by omega)) := List.getElem?_eq_getElem _
    have := (E.rowAt hx []).1
    rw [List.append_nil] at this
    rw [if_pos hq, if_pos hq, hx]
    simp only [Option.map_some, if_true]
    rw [← Nat.add_mul, this, E.dis]
  · rw [if_neg hq, if_neg hq]; rfl
/-- A stretch of a row is overwritten. -/
theorem setR_mid (pre rest ys : List AVal) (h : ys.length ≤ rest.length) (off : Nat) (ho : off = pre.length) : setR (pre ++ rest) off ys = pre ++ (ys ++ rest.drop ys.length) := by
  subst ho
  induction ys generalizing pre rest with
  | nil => simp [setR]
  | cons y ys ih =>
    cases rest with
    | nil => simp at h
    | cons r rest =>
      simp only [setR]
      have e1 : (pre ++ r :: rest).set pre.length y = (pre ++ [y]) ++ rest := by simp
      have e2 : pre.length + 1 = (pre ++ [y]).length := by simp
      rw [e1, e2, ih (pre ++ [y]) rest (by simpa using h)]
      simp
theorem Enc.setFlat (E : Enc ce k) (l : List α) (i : Nat) (hi : i = l.length) (rest : List AVal) (m : List α) (h : m.length * k ≤ rest.length) : setR (rowC ce l ++ rest) (i * k) (rowC ce m) = rowC ce (l ++ m) ++ rest.drop (m.length * k) := by
  rw [setR_mid _ _ _ (by rw [E.rowLen]; exact h) _ (by rw [E.rowLen, hi]), rowC_app, E.rowLen, List.append_assoc]
/-- An element is overwritten. -/
theorem Enc.setOne (E : Enc ce k) (l : List α) (i : Nat) (x : α) (hi : i < l.length) (rest : List AVal) : setR (rowC ce l ++ rest) (i * k) (ce x) = rowC ce (l.set i x) ++ rest := by
  have e1 : l = l.take i ++ (l[i] :: l.drop (i + 1)) := by
    rw [← List.drop_eq_getElem_cons hi, List.take_append_drop]
  have hlt : (l.take i).length = i := by rw [List.length_take]; omega
  have e2 : l.set i x = l.take i ++ (x :: l.drop (i + 1)) := by
    conv => lhs; rw [e1]
    rw [List.set_append_right _ _ (by omega), hlt, Nat.sub_self]; rfl
  rw [e2]
  conv => lhs; rw [e1]
  rw [rowC_app, rowC_app, rowC_cons, rowC_cons, List.append_assoc, setR_mid _ _ _ (by rw [E.len, List.length_append, List.length_append, E.len]; omega) _ (by rw [E.rowLen, hlt]), E.len]
  rw [List.append_assoc (ce l[i]), List.drop_append_of_le_length (by rw [E.len]; exact Nat.le_refl _), List.drop_of_length_le (by rw [E.len]; exact Nat.le_refl _)]
  simp [List.append_assoc]
theorem Enc.setOne0 (E : Enc ce k) (l : List α) (i : Nat) (x : α) (hi : i < l.length) : setR (rowC ce l) (i * k) (ce x) = rowC ce (l.set i x) := by
  have := E.setOne l i x hi []
  rwa [List.append_nil, List.append_nil] at this
/-- The rest of a row is struck. -/
theorem Enc.strike (E : Enc ce k) (l : List α) (a : Nat) (ha : a ≤ l.length) (j : Nat) (hj : j = (l.length - a) * k) (ys : List AVal) (hy : ys.length = j) : setR (rowC ce l) (a * k) ys = rowC ce (l.take a) ++ ys := by
  have e : l = l.take a ++ l.drop a := (List.take_append_drop a l).symm
  conv => lhs; rw [e]
  rw [rowC_app, setR_mid _ _ _ (by rw [E.rowLen, List.length_drop]; omega) _ (by rw [E.rowLen, List.length_take]; congr 1; omega), List.drop_of_length_le (by rw [E.rowLen, List.length_drop]; omega), List.append_nil]
end

/-! Searching. -/
theorem get_drop {α : Type} {l : List α} {i : Nat} (hi : i < l.length) : ∃ x, l[i]? = some x ∧ l.drop i = x :: l.drop (i + 1) :=
  ⟨l[i], List.getElem?_eq_getElem hi, List.drop_eq_getElem_cons hi⟩
/-- The first that p holds of. -/
def idxL {α : Type} (p : α → Bool) : List α → Nat → Int
  | [], _ => -1
  | x :: xs, i => if p x = true then (i : Int) else idxL p xs (i + 1)
theorem idxL_any {α : Type} (p : α → Bool) : ∀ (l : List α) (i : Nat), l.any p = decide (0 ≤ idxL p l i) := by
  intro l
  induction l with
  | nil => intro i; simp [idxL]
  | cons x l ih =>
    intro i
    by_cases h : p x = true
    · simp [idxL, h]
    · simp only [idxL, List.any_cons, h]
      rw [ih (i + 1)]
      simp
theorem idxL_spec {α : Type} (p : α → Bool) : ∀ (l : List α) (i : Nat), (idxL p l i = -1 ∧ l.filter (fun x => !p x) = l) ∨ ∃ j, idxL p l i = ((i + j : Nat) : Int) ∧ j < l.length ∧ (l.take (j + 1)).filter (fun x => !p x) = l.take j := by
  intro l
  induction l with
  | nil => intro i; left; simp [idxL]
  | cons x xs ih =>
    intro i
    by_cases h : p x = true
    · right
      exact ⟨0, by simp [idxL, h], by simp, by simp [h]⟩
    · have h' : p x = false := by simpa using h
      rcases ih (i + 1) with ⟨e1, e2⟩ | ⟨j, e1, e2, e3⟩
      · left; simp [idxL, h', e1, e2]
      · right
        refine ⟨j + 1, ?_, by simp; omega, ?_⟩
        · simp only [idxL, h', Bool.false_eq_true, if_false, e1]; congr 1; omega
        · simp [h', e3]
theorem idxL_find {α : Type} (p : α → Bool) (l : List α) (k : Nat) : (idxL p l k = -1 ∧ l.find? p = none ∧ ∀ x ∈ l, p x = false) ∨ ∃ i x, idxL p l k = ((k + i : Nat) : Int) ∧ l[i]? = some x ∧ l.find? p = some x ∧ p x = true ∧ ∀ y ∈ l.take i, p y = false := by
  induction l generalizing k with
  | nil => exact .inl ⟨rfl, rfl, by simp⟩
  | cons x l ih =>
    simp only [idxL, List.find?_cons]
    by_cases h : p x = true
    · exact .inr ⟨0, x, by simp [h], rfl, by simp [h], h, by simp⟩
    · simp only [h]
      rcases ih (k + 1) with ⟨h1, h2, h3⟩ | ⟨i, y, h1, h2, h3, h5, h4⟩
      · exact .inl ⟨by simpa using h1, by simpa using h2, fun y hy => by
          rcases List.mem_cons.1 hy with rfl | hy
          · simpa using h
          · exact h3 y hy⟩
      · refine .inr ⟨i + 1, y, ?_, by simpa using h2, by simpa using h3, h5, fun z hz => ?_⟩
        · have e : k + 1 + i = k + (i + 1) := by omega
          rw [e] at h1
          simpa using h1
        · simp only [List.take_succ_cons, List.mem_cons] at hz
          rcases hz with rfl | hz
          · simpa using h
          · exact h4 z hz
/-- Where the first one stands, or the end. -/
def posF {α : Type} (p : α → Bool) (l : List α) : Nat := (l.takeWhile fun x => !p x).length
theorem posF_spec {α : Type} (p : α → Bool) (l : List α) (k : Nat) : (idxL p l k = -1 ∧ posF p l = l.length) ∨ (idxL p l k = ((k + posF p l : Nat) : Int) ∧ posF p l < l.length) := by
  induction l generalizing k with
  | nil => exact .inl ⟨rfl, rfl⟩
  | cons x l ih =>
    by_cases h : p x = true
    · right
      simp [idxL, posF, h]
    · have e : posF p (x :: l) = posF p l + 1 := by simp [posF, h]
      rw [e]
      simp only [idxL, h]
      rw [if_neg (by simp)]
      rcases ih (k + 1) with ⟨h1, h2⟩ | ⟨h1, h2⟩
      · exact .inl ⟨by simpa using h1, by simp [h2]⟩
      · refine .inr ⟨?_, by simpa using h2⟩
        have e2 : k + 1 + posF p l = k + (posF p l + 1) := by omega
        rw [e2] at h1
        simpa using h1
theorem posF_le {α : Type} (p : α → Bool) (l : List α) : posF p l ≤ l.length := by
  rcases posF_spec p l 0 with ⟨_, h⟩ | ⟨_, h⟩ <;> omega
/-- What DeleteFunc leaves in the row. -/
def delRow {α : Type} (ce : α → List AVal) (k : Nat) (p : α → Bool) (l : List α) : List AVal := rowC ce (l.filter fun x => !p x) ++ List.replicate ((l.length - (l.filter fun x => !p x).length) * k) .undef
/-- One inserted. -/
def insL {α : Type} (l : List α) (i : Nat) (b : α) : List α := l.take i ++ b :: l.drop i
theorem insL_len {α : Type} {l : List α} {i : Nat} {b : α} (h : i ≤ l.length) : (insL l i b).length = l.length + 1 := by
  simp [insL]; omega
/-- A contract about one variable that makes another, at any place of the caller's. -/
theorem CFun.atNew {P : Program} {f : FuncId} {args : List AVal} {x : AVal} {cs cs' c2 : List AVal} (h : CFun P f args [cs] x [cs', c2]) {H : List (List AVal)} {id : Nat} (hid : H[id]? = some cs) (hcs : cs.all noid0 = true) (hcs' : cs'.all noid0 = true) (hc2 : c2.all noid0 = true)
    (ha : args.all (low 1) = true) (hx : low 2 x = true) : CFun P f (args.map (ren fun _ => id)) H (ren (grow (fun _ => id) 1 H.length) x) (H.set id cs' ++ [c2]) := by
  have hlt : id < H.length := (List.getElem?_eq_some_iff.1 hid).1
  refine h.lift (fun _ => id) (H := H) (H' := H.set id cs' ++ [c2]) (fun _ _ => hlt) (fun i j hi hj _ => by simp at hi hj; omega) (fun i c hc => ?_) ha (by simp) (fun i c hc => ?_) (fun j hj hne => ?_) hx
  · cases i with
    | zero => simp at hc; subst hc; exact ⟨by rw [noid0_map hcs]; exact hid, noid0_alllow hcs⟩
    | succ i => simp at hc
  · cases i with
    | zero =>
      simp at hc; subst hc
      refine ⟨?_, noid0_alllow hcs'⟩
      rw [noid0_map hcs']
      simp only [grow, List.length_singleton, Nat.zero_lt_one, if_true]
      rw [List.getElem?_append_left (by simpa using hlt)]
      simp [hlt]
    | succ i =>
      cases i with
      | zero =>
        simp at hc; subst hc
        refine ⟨?_, noid0_alllow hc2⟩
        rw [noid0_map hc2]
        simp [grow]
      | succ i => simp at hc
  · have := hne 0 (by simp)
    rw [List.getElem?_append_left (by simpa using hj), List.getElem?_set]
    simp [this]
/-- A contract of a function that makes variables, among any of the caller's. -/
theorem CFun.upAll {P : Program} {f : FuncId} {args : List AVal} {x : AVal} {H0 : List (List AVal)} (h : CFun P f args [] x H0) (H : List (List AVal)) (hH : (H0.all fun cs => cs.all noid0) = true) (ha : args.all noid = true) (hx : low H0.length x = true) :
    CFun P f args H (ren (grow id 0 H.length) x) (H ++ H0) := by
  have hm : args.map (ren id) = args := by
    conv => rhs; rw [← List.map_id args]
    refine List.map_congr_left fun y hy => noid_ren (List.all_eq_true.1 ha y hy)
  have := h.lift id (H := H) (H' := H ++ H0) (fun i hi => by simp at hi) (fun i j hi _ _ => by simp at hi) (fun i c hc => by simp at hc) (List.all_eq_true.2 fun y hy => noid_low (List.all_eq_true.1 ha y hy)) (by simp) (fun i c hc => ?_) (fun j hj _ => ?_) hx
  · rwa [hm] at this
  · have hc0 : c.all noid0 = true := List.all_eq_true.1 hH c (List.mem_of_getElem? hc)
    refine ⟨?_, noid0_alllow hc0⟩
    rw [noid0_map hc0]
    simp only [grow, List.length_nil, Nat.not_lt_zero, if_false, Nat.sub_zero]
    rw [List.getElem?_append_right (by omega)]
    simpa using hc
  · rw [List.getElem?_append_left hj]
/-- A contract about one variable that makes others, at any place of the caller's. -/
theorem CFun.atNews {P : Program} {f : FuncId} {args : List AVal} {x : AVal} {cs cs' : List AVal} {H0 : List (List AVal)} (h : CFun P f args [cs] x (cs' :: H0)) {H : List (List AVal)} {id : Nat} (hid : H[id]? = some cs) (hcs : cs.all noid0 = true) (hcs' : cs'.all noid0 = true) (hH : (H0.all fun cs => cs.all noid0) = true)
    (ha : args.all (low 1) = true) (hx : low (H0.length + 1) x = true) : CFun P f (args.map (ren fun _ => id)) H (ren (grow (fun _ => id) 1 H.length) x) (H.set id cs' ++ H0) := by
  have hlt : id < H.length := (List.getElem?_eq_some_iff.1 hid).1
  refine h.lift (fun _ => id) (H := H) (H' := H.set id cs' ++ H0) (fun _ _ => hlt) (fun i j hi hj _ => by simp at hi hj; omega) (fun i c hc => ?_) ha (by simp) (fun i c hc => ?_) (fun j hj hne => ?_) hx
  · cases i with
    | zero => simp at hc; subst hc; exact ⟨by rw [noid0_map hcs]; exact hid, noid0_alllow hcs⟩
    | succ i => simp at hc
  · cases i with
    | zero =>
      simp at hc; subst hc
      refine ⟨?_, noid0_alllow hcs'⟩
      rw [noid0_map hcs']
      simp only [grow, List.length_singleton, Nat.zero_lt_one, if_true]
      rw [List.getElem?_append_left (by simpa using hlt)]
      simp [hlt]
    | succ i =>
      have hc1 : H0[i]? = some c := by simpa using hc
      have hc0 : c.all noid0 = true := List.all_eq_true.1 hH c (List.mem_of_getElem? hc1)
      refine ⟨?_, noid0_alllow hc0⟩
      rw [noid0_map hc0]
      have e : grow (fun _ => id) [cs].length H.length (i + 1) = H.length + i := by simp [grow]; omega
      rw [e, List.getElem?_append_right (by simp)]
      simpa using hc1
  · have := hne 0 (by simp)
    rw [List.getElem?_append_left (by simpa using hj), List.getElem?_set]
    simp [this]
theorem set_self {α : Type} {l : List α} {i : Nat} {x : α} (h : l[i]? = some x) : l.set i x = l := by
  obtain ⟨hi, h⟩ := List.getElem?_eq_some_iff.1 h
  subst h
  exact List.set_getElem_self hi
theorem setR_all (rest ys : List AVal) (h : ys.length = rest.length) : setR rest 0 ys = ys := by
  have := setR_mid [] rest ys (by omega) 0 rfl
  rwa [List.nil_append, List.nil_append, List.drop_of_length_le (by omega), List.append_nil] at this
end Go.Am
