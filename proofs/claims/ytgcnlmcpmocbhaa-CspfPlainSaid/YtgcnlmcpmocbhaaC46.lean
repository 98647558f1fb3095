/- Distances between all nodes, as they are computed. No program. -/
import Derived.Test.YtgcnlmcpmocbhaaCW5
import Derived.Test.YtgcnlmcpmocbhaaCFacts
import Derived.Test.YtgcnlmcpmocbhaaC4
import Derived.Test.YtgcnlmcpmocbhaaAmAH
import Derived.Test.YtgcnlmcpmocbhaaC44
set_option linter.unusedSimpArgs false
set_option linter.unusedVariables false
namespace Go.Wk

def fset2 (D : Nat → Nat → Int) (i k : Nat) (v : Int) : Nat → Nat → Int := fun a b => if a = i ∧ b = k then v else D a b
theorem fset2_same (D : Nat → Nat → Int) (i k : Nat) : fset2 D i k (D i k) = D := by
  funext a b
  unfold fset2
  split
  · rename_i h; rw [h.1, h.2]
  · rfl
def innerF (m i : Nat) (D : Nat → Nat → Int) (k : Nat) : Nat → Nat → Int := fset2 D i k (stepV D m i k)
def rowF (n m : Nat) (D : Nat → Nat → Int) (i : Nat) : Nat → Nat → Int := if D i m < 0 then D else (List.range n).foldl (innerF m i) D
def roundF (n : Nat) (D : Nat → Nat → Int) (m : Nat) : Nat → Nat → Int := (List.range n).foldl (rowF n m) D
def allF (n : Nat) (D : Nat → Nat → Int) : Nat → Nat → Int := (List.range n).foldl (roundF n) D
theorem foldl_range_succ {α : Type} (f : α → Nat → α) (a : α) (k : Nat) : (List.range (k + 1)).foldl f a = f ((List.range k).foldl f a) k := by
  rw [List.range_succ, List.foldl_append]
  rfl
section
variable {E : List Arc} {n m : Nat} {B : Int} {D0 : Nat → Nat → Int}
theorem FW.inner {D : Nat → Nat → Int} {P : Nat → Nat → Prop} (h : FW E n m B D0 P D) (hm : m < n) {i : Nat} (hi : i < n) (him : 0 ≤ D i m) : ∀ k, k ≤ n →
    FW E n m B D0 (fun a b => P a b ∨ a = i ∧ b < k) ((List.range k).foldl (innerF m i) D)
  | 0, _ => by
    simp only [List.range_zero, List.foldl_nil]
    exact h.less fun a b _ _ hq => by
      rcases hq with hq | ⟨_, hq⟩
      · exact hq
      · omega
  | k + 1, hk => by
    have ih := FW.inner h hm hi him k (by omega)
    rw [foldl_range_succ]
    have him' : 0 ≤ (List.range k).foldl (innerF m i) D i m := by rw [ih.p i hi, ← h.p i hi]; exact him
    refine (ih.step hm hi (show k < n by omega) him' (D' := innerF m i ((List.range k).foldl (innerF m i) D) k) (fun a b _ _ => rfl)).less fun a b _ _ hq => ?_
    rcases hq with hq | ⟨rfl, hq⟩
    · exact .inl (.inl hq)
    · by_cases e : b = k
      · exact .inr ⟨rfl, e⟩
      · exact .inl (.inr ⟨rfl, by omega⟩)
theorem FW.row {D : Nat → Nat → Int} {P : Nat → Nat → Prop} (h : FW E n m B D0 P D) (hm : m < n) {i : Nat} (hi : i < n) : FW E n m B D0 (fun a b => P a b ∨ a = i) (rowF n m D i) := by
  unfold rowF
  split
  · rename_i c
    exact h.skip hm c
  · rename_i c
    refine (h.inner hm hi (by omega) n (Nat.le_refl _)).less fun a b _ hb hq => ?_
    rcases hq with hq | rfl
    · exact .inl hq
    · exact .inr ⟨rfl, hb⟩
theorem FW.rows {D : Nat → Nat → Int} (h : FW E n m B D0 (fun _ _ => False) D) (hm : m < n) : ∀ j, j ≤ n → FW E n m B D0 (fun a _ => a < j) ((List.range j).foldl (rowF n m) D)
  | 0, _ => by
    simp only [List.range_zero, List.foldl_nil]
    exact h.less fun a b _ _ hq => by omega
  | j + 1, hj => by
    rw [foldl_range_succ]
    refine ((FW.rows h hm j (by omega)).row hm (show j < n by omega)).less fun a b _ _ hq => ?_
    by_cases e : a = j
    · exact .inr e
    · exact .inl (by omega)
theorem FW.round {D : Nat → Nat → Int} (h : FW E n m B D0 (fun _ _ => False) D) (hm : m < n) : FW E n m B D0 (fun a _ => a < n) (roundF n D m) := FW.rows h hm n (Nat.le_refl _)
end
/-- Between the rounds. -/
theorem fw_all {E : List Arc} {n : Nat} (hn : 0 < n) {B : Int} {D : Nat → Nat → Int} (h : FW E n 0 B D (fun _ _ => False) D) : ∀ m, m < n → ∃ D1, FW E n m (B * 2 ^ m) D1 (fun _ _ => False) ((List.range m).foldl (roundF n) D)
  | 0, _ => ⟨D, by simpa using h⟩
  | m + 1, hm => by
    obtain ⟨D1, ih⟩ := fw_all hn h m (by omega)
    rw [foldl_range_succ]
    have h1 := ih.round (show m < n by omega)
    have h2 := h1.next (fun i k hi _ => hi) hm
    have e : B * 2 ^ (m + 1) = 2 * (B * 2 ^ m) := by
      rw [Int.pow_succ, ← Int.mul_assoc, Int.mul_comm]
    rw [e]
    exact ⟨_, h2⟩
/-- Of the least walk between two nodes. -/
theorem allF_spec {E : List Arc} {n : Nat} (hn : 0 < n) {B : Int} {D : Nat → Nat → Int} (h : FW E n 0 B D (fun _ _ => False) D) (hE : ∀ a ∈ E, a.2.1 < n) {i k : Nat} (hi : i < n) (hk : k < n) :
    (allF n D i k < 0 → ∀ ys c, ¬ W E i ys c k) ∧ (0 ≤ allF n D i k → (∃ ys, W E i ys (allF n D i k).toNat k) ∧ ∀ ys c, W E i ys c k → allF n D i k ≤ c) := by
  obtain ⟨m, rfl⟩ : ∃ m, n = m + 1 := ⟨n - 1, by omega⟩
  obtain ⟨D1, h1⟩ := fw_all hn h m (by omega)
  have h2 := h1.round (show m < m + 1 by omega)
  unfold allF
  rw [foldl_range_succ]
  exact h2.fin (fun i k hi _ => hi) rfl hE hi hk
end Go.Wk

/- Distances between all nodes: rows of rows. -/
namespace Go.Proofs.Ytgcnlmcpmocbhaa
open Go Go.Am Go.Wk

/-- A row of numbers; a row of rows, the first j of them made. -/
def rwD (n : Nat) (f : Nat → Int) : List AVal := (List.range n).map fun k => .int .i64 (f k)
def rwM (n j : Nat) : List AVal := (List.range n).map fun q => if q < j then .osl (q + 2) 0 n (some n) 1 else .sl 0 [] .full
theorem rwD_len (n : Nat) (f : Nat → Int) : (rwD n f).length = n := by simp [rwD]
theorem rwD_get {n : Nat} {f : Nat → Int} {k : Nat} (h : k < n) : (rwD n f)[k]? = some (.int .i64 (f k)) := by simp [rwD, h]
theorem rwM_len (n j : Nat) : (rwM n j).length = n := by simp [rwM]
theorem rwM_get {n j k : Nat} (h : k < n) (h2 : k < j) : (rwM n j)[k]? = some (.osl (k + 2) 0 n (some n) 1) := by simp [rwM, h, h2]
def upd1 (f : Nat → Int) (k : Nat) (v : Int) : Nat → Int := fun q => if q = k then v else f q
theorem rwD_set {n : Nat} {f : Nat → Int} {k : Nat} {v : Int} : (rwD n f).set k (.int .i64 v) = rwD n (upd1 f k v) := by
  apply List.ext_getElem?
  intro i
  rw [List.getElem?_set]
  by_cases hi : i < n
  · rw [rwD_get hi, rwD_get hi]
    by_cases e : k = i
    · subst e
      simp [rwD, hi, upd1]
    · rw [if_neg e]
      have e' : ¬ i = k := fun c => e c.symm
      simp [upd1, e']
  · have h1 := rwD_len n f
    have h2 := rwD_len n (upd1 f k v)
    rw [List.getElem?_eq_none (l := rwD n f) (by omega), List.getElem?_eq_none (l := rwD n (upd1 f k v)) (by omega)]
    split
    · rw [if_neg (by omega)]
    · rfl
theorem rwM_set {n j : Nat} : (rwM n j).set j (.osl (j + 2) 0 n (some n) 1) = rwM n (j + 1) := by
  apply List.ext_getElem?
  intro i
  rw [List.getElem?_set]
  have g : ∀ q, i < n → (rwM n q)[i]? = some (if i < q then .osl (i + 2) 0 n (some n) 1 else .sl 0 [] .full) := fun q h => by simp [rwM, h]
  by_cases hi : i < n
  · rw [g _ hi, g _ hi]
    by_cases e : j = i
    · subst e
      simp [rwM, hi]
    · rw [if_neg e]
      by_cases c : i < j
      · rw [if_pos c, if_pos (by omega)]
      · rw [if_neg c, if_neg (by omega)]
  · have h1 := rwM_len n j
    have h2 := rwM_len n (j + 1)
    rw [List.getElem?_eq_none (l := rwM n j) (by omega), List.getElem?_eq_none (l := rwM n (j + 1)) (by omega)]
    split
    · rw [if_neg (by omega)]
    · rfl
theorem rwD_zero (n : Nat) : List.replicate n (AVal.int .i64 0) = rwD n (fun _ => 0) := by
  apply List.ext_getElem?
  intro i
  by_cases hi : i < n
  · rw [rwD_get hi]
    simp [hi]
  · have h2 := rwD_len n (fun _ => 0)
    rw [List.getElem?_eq_none (by simp; omega), List.getElem?_eq_none (by omega)]
theorem rwM_zero (n : Nat) : List.replicate n (AVal.sl 0 [] .full) = rwM n 0 := by
  apply List.ext_getElem?
  intro i
  by_cases hi : i < n
  · simp [rwM, hi]
  · have h2 := rwM_len n 0
    rw [List.getElem?_eq_none (by simp; omega), List.getElem?_eq_none (by omega)]
theorem rwD_tree (n : Nat) (f : Nat → Int) : (rwD n f).all AVal.tree = true := by
  simp [rwD]
/-- The rows of a matrix. -/
def rwsD (n j : Nat) (D : Nat → Nat → Int) : List (List AVal) := (List.range j).map fun i => rwD n (D i)
theorem rwsD_len (n j : Nat) (D : Nat → Nat → Int) : (rwsD n j D).length = j := by simp [rwsD]
theorem rwsD_get {n j i : Nat} {D : Nat → Nat → Int} (h : i < j) : (rwsD n j D)[i]? = some (rwD n (D i)) := by simp [rwsD, h]
theorem rwsD_succ (n j : Nat) (D : Nat → Nat → Int) : rwsD n (j + 1) D = rwsD n j D ++ [rwD n (D j)] := by
  simp [rwsD, List.range_succ]
theorem rwsD_set {n j i k : Nat} {D : Nat → Nat → Int} {v : Int} (h : i < j) : (rwsD n j D).set i (rwD n (upd1 (D i) k v)) = rwsD n j (fset2 D i k v) := by
  apply List.ext_getElem?
  intro q
  rw [List.getElem?_set]
  by_cases hq : q < j
  · rw [rwsD_get hq, rwsD_get hq]
    by_cases e : i = q
    · subst e
      have : (fun b => fset2 D i k v i b) = upd1 (D i) k v := by
        funext b
        simp [fset2, upd1]
      rw [if_pos rfl, if_pos (by rw [rwsD_len]; exact h)]
      show _ = some (rwD n (fun b => fset2 D i k v i b))
      rw [this]
    · rw [if_neg e]
      have : (fun b => fset2 D i k v q b) = D q := by
        funext b
        unfold fset2
        rw [if_neg (fun c => e c.1.symm)]
      show some (rwD n (D q)) = some (rwD n (fun b => fset2 D i k v q b))
      rw [this]
  · have h1 := rwsD_len n j D
    have h2 := rwsD_len n j (fset2 D i k v)
    rw [if_neg (by omega), List.getElem?_eq_none (by omega), List.getElem?_eq_none (by omega)]
theorem rwD_le (n : Nat) (f : Nat → Int) (k : Nat) : LeCells k (rwD n f) (rwD n f) := treeCells_le k (rwD_tree n f)
theorem rwsD_le (n : Nat) (D : Nat → Nat → Int) (k : Nat) : ∀ j, LeBoxes k (rwsD n j D) (rwsD n j D) := by
  have h : ∀ l : List Nat, LeBoxes k (l.map fun i => rwD n (D i)) (l.map fun i => rwD n (D i)) := by
    intro l
    induction l with
    | nil => simp [LeBoxes]
    | cons x l ih => exact ⟨rwD_le n (D x) k, ih⟩
  exact fun j => h _
theorem rwM_le (n j k : Nat) (hk : n + 2 ≤ k) : LeCells k (rwM n j) (rwM n j) := by
  have h : ∀ l : List Nat, (∀ x ∈ l, x < n) → LeCells k (l.map fun q => if q < j then (.osl (q + 2) 0 n (some n) 1 : AVal) else .sl 0 [] .full) (l.map fun q => if q < j then .osl (q + 2) 0 n (some n) 1 else .sl 0 [] .full) := by
    intro l
    induction l with
    | nil => intro _; simp [LeCells]
    | cons x l ih =>
      intro hl
      have hx := hl x (by simp)
      refine ⟨LeV_refl _, ?_, ih fun y hy => hl y (List.mem_cons_of_mem _ hy)⟩
      show low k (if x < j then (.osl (x + 2) 0 n (some n) 1 : AVal) else .sl 0 [] .full) = true
      split
      · simp [low, low0]; omega
      · rfl
  exact h _ fun x hx => List.mem_range.1 hx
theorem rwM_leJ (n j k : Nat) (hk : j + 2 ≤ k) : LeCells k (rwM n j) (rwM n j) := by
  have h : ∀ l : List Nat, LeCells k (l.map fun q => if q < j then (.osl (q + 2) 0 n (some n) 1 : AVal) else .sl 0 [] .full) (l.map fun q => if q < j then .osl (q + 2) 0 n (some n) 1 else .sl 0 [] .full) := by
    intro l
    induction l with
    | nil => simp [LeCells]
    | cons x l ih =>
      refine ⟨LeV_refl _, ?_, ih⟩
      show low k (if x < j then (.osl (x + 2) 0 n (some n) 1 : AVal) else .sl 0 [] .full) = true
      split
      · simp [low, low0]; omega
      · rfl
  exact h _
end Go.Proofs.Ytgcnlmcpmocbhaa

/- The reference's Route, by the program: the walks of so many hops. -/
namespace Go.Proofs.Ytgcnlmcpmocbhaa
open Go Go.Am Go.Wk

structure MS where
  j : Nat
  nx : List Wlk
  b : Option Wlk
  loc : Nat
def HM (c : Con) (b : Option Wlk) (nx : List Wlk) : Nat → List (List AVal)
  | 0 => [cellsC c, [], bC b]
  | _ => [cellsC c, [], bC b, rowC ceW nx]
def slM (l : List Lnk) (N : Nat) (to : Int) (b : Option Wlk) (h : Nat) (nx : List Wlk) (loc : Nat) : List (Nat × AVal) :=
  [(0, .int .i64 N), (1, .sl 13 (l.map encL) .sh), (3, .int .i64 to), (9, .ptr 0 0), (16, .ptr 2 0), (17, .bool b.isSome), (18, .int .i64 h), (19, nxV nx loc)]
set_option maxHeartbeats 16000000 in
set_option maxRecDepth 10000 in
theorem c16m (l : List Lnk) (m : Nat) (hm : l.length = m) (hm2 : m ≤ 1024) (c : Con) (p : Nat) (hp : c.Avoid.length = p) (hp2 : p < 9223372036854775807) (N : Nat) (hN2 : N ≤ 128) (t : Nat) (ht : c.Thru.length = t) (ht3 : t ≤ 64) (hlk : ∀ x ∈ l, okLk N x) (to : Int)
    (h : Nat) (hh : h ≤ 8320) (A : List Wlk) (k : Nat) (hk : A.length = k) (hk2 : k ≤ 8320) (hA : ∀ w ∈ A, okW N t h w) (b0 : Option Wlk)
    (Q : APost) (hQ : ∀ (u : Nat → AVal) (nx : List Wlk) (loc : Nat) (b : Option Wlk), holds u (slM l N to b h nx loc) → nx = nextR l c A → b = bestR to t b0 A → okNx N t (h + 1) nx → (loc = 0 ∧ nx = [] ∨ loc = 2 ∧ nx ≠ []) → Q (.exit 2) ⟨u, HM c b nx loc⟩) (body : Code) (hb : loopIn (loopIn (Try.f16.body.getD .skip)) = body) (s : ASt)
    (hs : Le 0 s (slM l N to b0 h [] 0 ++ [(96, .sl 3 (A.map encW) .sh), (97, .int .i64 k), (98, .int .i64 0)]) (HM c b0 [] 0)) : LoopK Try.prog 166 0 body Q s := by
  unfold Try.f16 at hb
  simp only [loopIn, Option.getD_some, firstLoop, Option.orElse_none, Option.orElse_some] at hb
  subst hb
  have hble := fun q b => bC_le q b
  have hrle := fun q l => eWe.rowLe q l
  refine LoopK.introS (tr := [30000019000007]) mixed (by kernel_rfl)
    (fun s : MS => slM l N to s.b h s.nx s.loc ++ [(96, .sl 3 (A.map encW) .sh), (97, .int .i64 k), (98, .int .i64 s.j)])
    (fun s => HM c s.b s.nx s.loc)
    (fun s => s.j ≤ k ∧ okNx N t (h + 1) s.nx ∧ nextR l c A = (A.drop s.j).foldl (linksR l c) s.nx ∧ bestR to t b0 A = (A.drop s.j).foldl (bestS to t) s.b ∧ (s.loc = 0 ∧ s.nx = [] ∨ s.loc = 2 ∧ s.nx ≠ [])) (fun s => k - s.j) ⟨0, [], b0, 0⟩ ?_ hs ?_
  · exact ⟨Nat.zero_le _, okNx_nil _ _ _, rfl, rfl, .inl ⟨rfl, rfl⟩⟩
  · clear hs
    rintro ⟨j, nx, b, loc⟩ ⟨i1, i2, i3, i4, i5⟩
    simp only at i1 i2 i3 i4 i5
    generalize hPQ : LoopPostS _ _ _ _ _ _ _ = PQ
    by_cases hj : j < k
    case neg =>
      have hle : A.length ≤ j := by omega
      rw [List.drop_eq_nil_of_le hle] at i3 i4
      have q := fun u hu => hQ u nx loc b hu i3.symm i4.symm i2 i5
      simp only [slM]
      simp [hj]
      rw [← hPQ]
      simp only [LoopPostS]
      refine q _ ?_
      intro p hp
      simp only [slM, List.mem_cons, List.not_mem_nil, or_false] at hp
      rcases hp with rfl | rfl | rfl | rfl | rfl | rfl | rfl | rfl <;> simp
    obtain ⟨w, hx⟩ : ∃ w, A[j]? = some w := ⟨_, List.getElem?_eq_getElem (by omega)⟩
    have hw := hA w (List.mem_of_getElem? hx)
    have hd : A.drop j = w :: A.drop (j + 1) := by
      obtain ⟨k1, k2⟩ := List.getElem?_eq_some_iff.1 hx
      rw [List.drop_eq_getElem_cons k1, k2]
    rw [hd, List.foldl_cons] at i3 i4
    have w3 : IntKind.i64.wrap ((j : Int) + 1) = j + 1 := wrap_in (by omega)
    obtain ⟨hwl, hwg⟩ := lastW_get hw
    have hwlen := hw.len
    have hih : h < w.N.length := by omega
    have c16' := fun b' Q' hQ' s' hs' => c16l l m hm hm2 c p hp hp2 N hN2 t ht ht3 hlk to h hh A j b' w hw nx i2 loc i5 Q' hQ' _ rfl s' hs'
    have fin : ∀ b', bestS to t b w = b' → ∀ (u : Nat → AVal) (nx' : List Wlk) (loc' : Nat), holds u (slL l N to b' h A j nx' loc') → nx' = linksR l c nx w → okNx N t (h + 1) nx' → (loc' = 0 ∧ nx' = [] ∨ loc' = 1 ∧ nx' ≠ [] ∨ loc' = 2 ∧ nx' ≠ []) → PQ .normal ⟨upd (upd u 155 (.int .i64 (j + 1))) 98 (.int .i64 (j + 1)), HL c b' w nx' loc'⟩ := by
      intro b' hb' u nx' loc' hu hn' ho' hl'
      rw [hb'] at i4
      rw [← hn'] at i3
      clear c16' hQ i5
      simp only [holds, slL, List.mem_cons, List.not_mem_nil, or_false, forall_eq_or_imp, forall_eq] at hu
      obtain ⟨u0, u1, u2, u3, u4, u5, u6, u7, u8, u9, u10⟩ := hu
      rw [← hPQ]
      simp only [LoopPostS]
      rcases hl' with ⟨rfl, hnil⟩ | ⟨rfl, hnil⟩ | ⟨rfl, hnil⟩
      · exact ⟨⟨j + 1, nx', b', 0⟩, ⟨by simp only; omega, ho', i3, i4, .inl ⟨rfl, hnil⟩⟩, by simp only; omega, .inl (by simp [slM, HM, HL, nxV, hble, hrle, hm, hk, u0, u1, u2, u3, u4, u5, u6, u7, u8, u9, u10])⟩
      · have t1 : ∀ l : List Wlk, LeCellsS (swp 3 4) 5 4 (rowC ceW l) (rowC ceW l) := fun l => treeCS (eWe.rowTree l)
        have t2 : LeCellsS (swp 3 4) 5 4 (bC b') (bC b') := treeCS (bC_tree b')
        refine ⟨⟨j + 1, nx', b', 2⟩, ⟨by simp only; omega, ho', i3, i4, .inr ⟨rfl, hnil⟩⟩, by simp only; omega, .inr ⟨3, 4, by simp, by simp, by simp [HL], by simp [HL], by simp, ?_, ?_⟩⟩
        · simp [slM, HM, HL, nxV, LeLookS, ren, ren0, swp, hm, hk, u0, u1, u2, u3, u4, u5, u6, u7, u8, u9, u10]
        · simp [HM, HL, LeBoxesS, swpH, t1, t2, LeCellsS, ceW, ren, ren0, swp]
      · exact ⟨⟨j + 1, nx', b', 2⟩, ⟨by simp only; omega, ho', i3, i4, .inr ⟨rfl, hnil⟩⟩, by simp only; omega, .inl (by simp [slM, HM, HL, nxV, hble, hrle, hm, hk, u0, u1, u2, u3, u4, u5, u6, u7, u8, u9, u10])⟩
    clear hPQ hQ
    have hbs : bestS to t b w = if lastW w = to ∧ w.D = t ∧ lessB b w = true then some w else b := rfl
    rcases i5 with ⟨rfl, hnil⟩ | ⟨rfl, hnil⟩
    · simp only [slM, HM, nxV] at *
      by_cases f1 : lastW w = to
      case neg =>
        rw [if_neg (fun q => f1 q.1)] at hbs
        simp [hj, hk, hx, gE hx, ceW, hih, hwg, gE hwg, ht, f1]
        refine c16' b _ (fun u nx' loc' hu hn' ho' hl' => ?_) _ ?_
        · have hf := fin b hbs u nx' loc' hu hn' ho' hl'
          simp only [holds, slL, List.mem_cons, List.not_mem_nil, or_false, forall_eq_or_imp, forall_eq] at hu
          obtain ⟨u0, u1, u2, u3, u4, u5, u6, u7, u8, u9, u10⟩ := hu
          simp [u0, u1, u2, u3, u4, u5, u6, u7, u8, u9, u10, w3]
          exact hf
        · simp [slL, HL, nxV, ceW, hble, hble, hrle, hk, hm]
      by_cases f2 : w.D = t
      case neg =>
        have f2' : ¬ (w.D : Int) = t := by omega
        rw [if_neg (fun q => f2 q.2.1)] at hbs
        simp [hj, hk, hx, gE hx, ceW, hih, hwg, gE hwg, ht, f1, f2, f2']
        refine c16' b _ (fun u nx' loc' hu hn' ho' hl' => ?_) _ ?_
        · have hf := fin b hbs u nx' loc' hu hn' ho' hl'
          simp only [holds, slL, List.mem_cons, List.not_mem_nil, or_false, forall_eq_or_imp, forall_eq] at hu
          obtain ⟨u0, u1, u2, u3, u4, u5, u6, u7, u8, u9, u10⟩ := hu
          simp [u0, u1, u2, u3, u4, u5, u6, u7, u8, u9, u10, w3]
          exact hf
        · simp [slL, HL, nxV, ceW, hble, hble, hrle, hk, hm]
      cases b with
      | none =>
        rw [if_pos ⟨f1, f2, rfl⟩] at hbs
        simp [hj, hk, hx, gE hx, ceW, bC, hih, hwg, gE hwg, ht, f1, f2]
        refine c16' (some w) _ (fun u nx' loc' hu hn' ho' hl' => ?_) _ ?_
        · have hf := fin (some w) hbs u nx' loc' hu hn' ho' hl'
          simp only [holds, slL, List.mem_cons, List.not_mem_nil, or_false, forall_eq_or_imp, forall_eq] at hu
          obtain ⟨u0, u1, u2, u3, u4, u5, u6, u7, u8, u9, u10⟩ := hu
          simp [u0, u1, u2, u3, u4, u5, u6, u7, u8, u9, u10, w3]
          exact hf
        · simp [slL, HL, nxV, ceW, bC, hble, hrle, hk, hm, f2]
      | some q =>
        by_cases f3 : w.C < q.C
        · rw [if_pos ⟨f1, f2, by simpa [lessB] using f3⟩] at hbs
          simp [hj, hk, hx, gE hx, ceW, bC, hih, hwg, gE hwg, ht, f1, f2, f3]
          refine c16' (some w) _ (fun u nx' loc' hu hn' ho' hl' => ?_) _ ?_
          · have hf := fin (some w) hbs u nx' loc' hu hn' ho' hl'
            simp only [holds, slL, List.mem_cons, List.not_mem_nil, or_false, forall_eq_or_imp, forall_eq] at hu
            obtain ⟨u0, u1, u2, u3, u4, u5, u6, u7, u8, u9, u10⟩ := hu
            simp [u0, u1, u2, u3, u4, u5, u6, u7, u8, u9, u10, w3]
            exact hf
          · simp [slL, HL, nxV, ceW, bC, hble, hrle, hk, hm, f2]
        · rw [if_neg (fun r => f3 (by simpa [lessB] using r.2.2))] at hbs
          simp [hj, hk, hx, gE hx, ceW, bC, hih, hwg, gE hwg, ht, f1, f2, f3]
          refine c16' (some q) _ (fun u nx' loc' hu hn' ho' hl' => ?_) _ ?_
          · have hf := fin (some q) hbs u nx' loc' hu hn' ho' hl'
            simp only [holds, slL, List.mem_cons, List.not_mem_nil, or_false, forall_eq_or_imp, forall_eq] at hu
            obtain ⟨u0, u1, u2, u3, u4, u5, u6, u7, u8, u9, u10⟩ := hu
            simp [u0, u1, u2, u3, u4, u5, u6, u7, u8, u9, u10, w3]
            exact hf
          · simp [slL, HL, nxV, ceW, bC, hble, hrle, hk, hm, f2]
    · simp only [slM, HM, nxV] at *
      by_cases f1 : lastW w = to
      case neg =>
        rw [if_neg (fun q => f1 q.1)] at hbs
        simp [hj, hk, hx, gE hx, ceW, hih, hwg, gE hwg, ht, f1]
        refine c16' b _ (fun u nx' loc' hu hn' ho' hl' => ?_) _ ?_
        · have hf := fin b hbs u nx' loc' hu hn' ho' hl'
          simp only [holds, slL, List.mem_cons, List.not_mem_nil, or_false, forall_eq_or_imp, forall_eq] at hu
          obtain ⟨u0, u1, u2, u3, u4, u5, u6, u7, u8, u9, u10⟩ := hu
          simp [u0, u1, u2, u3, u4, u5, u6, u7, u8, u9, u10, w3]
          exact hf
        · simp [slL, HL, nxV, ceW, hble, hble, hrle, hk, hm]
      by_cases f2 : w.D = t
      case neg =>
        have f2' : ¬ (w.D : Int) = t := by omega
        rw [if_neg (fun q => f2 q.2.1)] at hbs
        simp [hj, hk, hx, gE hx, ceW, hih, hwg, gE hwg, ht, f1, f2, f2']
        refine c16' b _ (fun u nx' loc' hu hn' ho' hl' => ?_) _ ?_
        · have hf := fin b hbs u nx' loc' hu hn' ho' hl'
          simp only [holds, slL, List.mem_cons, List.not_mem_nil, or_false, forall_eq_or_imp, forall_eq] at hu
          obtain ⟨u0, u1, u2, u3, u4, u5, u6, u7, u8, u9, u10⟩ := hu
          simp [u0, u1, u2, u3, u4, u5, u6, u7, u8, u9, u10, w3]
          exact hf
        · simp [slL, HL, nxV, ceW, hble, hble, hrle, hk, hm]
      cases b with
      | none =>
        rw [if_pos ⟨f1, f2, rfl⟩] at hbs
        simp [hj, hk, hx, gE hx, ceW, bC, hih, hwg, gE hwg, ht, f1, f2]
        refine c16' (some w) _ (fun u nx' loc' hu hn' ho' hl' => ?_) _ ?_
        · have hf := fin (some w) hbs u nx' loc' hu hn' ho' hl'
          simp only [holds, slL, List.mem_cons, List.not_mem_nil, or_false, forall_eq_or_imp, forall_eq] at hu
          obtain ⟨u0, u1, u2, u3, u4, u5, u6, u7, u8, u9, u10⟩ := hu
          simp [u0, u1, u2, u3, u4, u5, u6, u7, u8, u9, u10, w3]
          exact hf
        · simp [slL, HL, nxV, ceW, bC, hble, hrle, hk, hm, f2]
      | some q =>
        by_cases f3 : w.C < q.C
        · rw [if_pos ⟨f1, f2, by simpa [lessB] using f3⟩] at hbs
          simp [hj, hk, hx, gE hx, ceW, bC, hih, hwg, gE hwg, ht, f1, f2, f3]
          refine c16' (some w) _ (fun u nx' loc' hu hn' ho' hl' => ?_) _ ?_
          · have hf := fin (some w) hbs u nx' loc' hu hn' ho' hl'
            simp only [holds, slL, List.mem_cons, List.not_mem_nil, or_false, forall_eq_or_imp, forall_eq] at hu
            obtain ⟨u0, u1, u2, u3, u4, u5, u6, u7, u8, u9, u10⟩ := hu
            simp [u0, u1, u2, u3, u4, u5, u6, u7, u8, u9, u10, w3]
            exact hf
          · simp [slL, HL, nxV, ceW, bC, hble, hrle, hk, hm, f2]
        · rw [if_neg (fun r => f3 (by simpa [lessB] using r.2.2))] at hbs
          simp [hj, hk, hx, gE hx, ceW, bC, hih, hwg, gE hwg, ht, f1, f2, f3]
          refine c16' (some q) _ (fun u nx' loc' hu hn' ho' hl' => ?_) _ ?_
          · have hf := fin (some q) hbs u nx' loc' hu hn' ho' hl'
            simp only [holds, slL, List.mem_cons, List.not_mem_nil, or_false, forall_eq_or_imp, forall_eq] at hu
            obtain ⟨u0, u1, u2, u3, u4, u5, u6, u7, u8, u9, u10⟩ := hu
            simp [u0, u1, u2, u3, u4, u5, u6, u7, u8, u9, u10, w3]
            exact hf
          · simp [slL, HL, nxV, ceW, bC, hble, hrle, hk, hm, f2]
end Go.Proofs.Ytgcnlmcpmocbhaa

/- The reference's Route, by the program: the rounds. -/
namespace Go.Proofs.Ytgcnlmcpmocbhaa
open Go Go.Am Go.Wk

def slO (l : List Lnk) (N : Nat) (to : Int) (A : List Wlk) (b : Option Wlk) (h : Nat) : List (Nat × AVal) :=
  [(0, .int .i64 N), (1, .sl 13 (l.map encL) .sh), (3, .int .i64 to), (9, .ptr 0 0), (15, .sl 3 (A.map encW) .sh), (16, .ptr 2 0), (17, .bool b.isSome), (18, .int .i64 h)]
set_option maxHeartbeats 16000000 in
set_option maxRecDepth 10000 in
theorem c16o (l : List Lnk) (m : Nat) (hm : l.length = m) (hm2 : m ≤ 1024) (c : Con) (p : Nat) (hp : c.Avoid.length = p) (hp2 : p < 9223372036854775807) (N : Nat) (hN2 : N ≤ 128) (t : Nat) (ht : c.Thru.length = t) (ht3 : t ≤ 64) (hlk : ∀ x ∈ l, okLk N x) (to : Int)
    (A0 : List Wlk) (hA0 : okNx N t 0 A0) (sz : Nat) (hsz : N * (t + 1) = sz)
    (Q : APost) (hQ : ∀ (u : Nat → AVal) (b : Option Wlk), holds u [(16, .ptr 2 0), (17, .bool b.isSome)] → b = loopR l c to sz (sz + 1) 0 A0 none → Q (.exit 0) ⟨u, [cellsC c, [], bC b]⟩) (body : Code) (hb : loopIn (Try.f16.body.getD .skip) = body) (s : ASt)
    (hs : Le 0 s (slO l N to A0 none 0) [cellsC c, [], bC none]) : LoopK Try.prog 166 0 body Q s := by
  unfold Try.f16 at hb
  simp only [loopIn, Option.getD_some, firstLoop, Option.orElse_none, Option.orElse_some] at hb
  subst hb
  have hble := fun q b => bC_le q b
  have hrle := fun q l => eWe.rowLe q l
  have hs1 : sz ≤ 128 * 65 := by rw [← hsz]; exact Nat.mul_le_mul hN2 (by omega)
  have w1 : IntKind.i64.wrap ((t : Int) + 1) = (t : Int) + 1 := wrap_in (by omega)
  have w2 : IntKind.i64.wrap ((N : Int) * ((t : Int) + 1)) = (sz : Int) := by
    have : (N : Int) * ((t : Int) + 1) = (sz : Int) := by rw [← hsz]; simp
    rw [this]; exact wrap_in (by omega)
  refine LoopK.intro (tr := [30000019000007]) mixed (by kernel_rfl)
    (fun s : OS => slO l N to s.A s.b s.h) (fun s => [cellsC c, [], bC s.b])
    (fun s => s.h ≤ sz ∧ okNx N t s.h s.A ∧ loopR l c to sz (sz + 1) 0 A0 none = loopR l c to sz (sz + 1 - s.h) s.h s.A s.b) (fun s => sz - s.h) ⟨0, A0, none⟩ ?_ hs ?_
  · exact ⟨Nat.zero_le _, hA0, rfl⟩
  · clear hs
    rintro ⟨h, A, b⟩ ⟨i1, i2, i3⟩
    simp only at i1 i2 i3
    have stop : ¬ (A ≠ [] ∧ h < sz ∧ (c.Hops = 0 ∨ (h : Int) ≤ c.Hops)) → ∀ (u : Nat → AVal), holds u [(16, .ptr 2 0), (17, .bool b.isSome)] → Q (.exit 0) ⟨u, [cellsC c, [], bC b]⟩ := fun hc u hu => hQ u b hu (by rw [i3, loopR_stop hc])
    by_cases hc : A ≠ [] ∧ h < sz ∧ (c.Hops = 0 ∨ (h : Int) ≤ c.Hops)
    case neg =>
      have st := stop hc
      clear stop hQ
      simp only [holds, List.mem_cons, List.not_mem_nil, or_false, forall_eq_or_imp, forall_eq] at st
      simp only [slO]
      by_cases g1 : 0 < A.length
      case neg =>
        simp [g1, ht, w1, w2]
        exact st _ ⟨by simp, by simp⟩
      by_cases g2 : h < sz
      case neg =>
        simp [g1, g2, ht, w1, w2]
        exact st _ ⟨by simp, by simp⟩
      have g0 : A ≠ [] := by rintro rfl; simp at g1
      have g3 : ¬ c.Hops = 0 := fun e => hc ⟨g0, g2, .inl e⟩
      have g4 : ¬ (h : Int) ≤ c.Hops := fun e => hc ⟨g0, g2, .inr e⟩
      simp [g1, g2, g3, g4, ht, w1, w2]
      exact st _ ⟨by simp, by simp⟩
    clear stop hQ
    obtain ⟨g0, g2, g3⟩ := hc
    have g1 : 0 < A.length := List.length_pos_iff.2 g0
    have hlen := i2.length
    rw [loopR_go ⟨g0, g2, g3⟩, ht] at i3
    have w3 : IntKind.i64.wrap ((h : Int) + 1) = (h : Int) + 1 := wrap_in (by omega)
    have cm := fun Q' hQ' s' hs' => c16m l m hm hm2 c p hp hp2 N hN2 t ht ht3 hlk to h (by omega) A A.length rfl (by omega) i2.w b Q' hQ' _ rfl s' hs'
    simp only [slO]
    by_cases g4 : c.Hops = 0
    · simp [g1, g2, g4, ht, w1, w2]
      refine cm _ (fun u nx loc b' hu hn hb' ho hl => ?_) _ ?_
      · rw [← hb', ← hn] at i3
        simp only [holds, slM, List.mem_cons, List.not_mem_nil, or_false, forall_eq_or_imp, forall_eq] at hu
        obtain ⟨u0, u1, u2, u3, u4, u5, u6, u7⟩ := hu
        rcases hl with ⟨rfl, hnil⟩ | ⟨rfl, hnil⟩
        · simp [HM, nxV, u0, u1, u2, u3, u4, u5, u6, u7, w3]
          exact ⟨⟨h + 1, nx, b'⟩, ⟨by simp only; omega, ho, i3⟩, by simp only; omega, by simp [hble, hnil, g4]⟩
        · have hnl : 0 < nx.length := List.length_pos_iff.2 hnil
          have k1 := eWe.rowLen nx
          have k2 : (rowC ceW nx).take (nx.length * 3) = rowC ceW nx := List.take_of_length_le (by omega)
          have k3 : ∀ x ∈ rowC ceW nx, x.tree = true := by simpa using eWe.rowTree nx
          have k4 := eWe.chunk nx nx.length rfl
          simp [HM, nxV, u0, u1, u2, u3, u4, u5, u6, u7, w3, k1, k2, k4, hnl]
          rw [if_pos k3]
          simp [u0, u1, u2, u3, u4, u5, u6, u7, w3]
          exact ⟨⟨h + 1, nx, b'⟩, ⟨by simp only; omega, ho, i3⟩, by simp only; omega, by simp [hble, hnil, g4]⟩
      · simp [slM, HM, nxV, hble, g4]
    · have g5 : (h : Int) ≤ c.Hops := g3.resolve_left g4
      simp [g1, g2, g4, g5, ht, w1, w2]
      refine cm _ (fun u nx loc b' hu hn hb' ho hl => ?_) _ ?_
      · rw [← hb', ← hn] at i3
        simp only [holds, slM, List.mem_cons, List.not_mem_nil, or_false, forall_eq_or_imp, forall_eq] at hu
        obtain ⟨u0, u1, u2, u3, u4, u5, u6, u7⟩ := hu
        rcases hl with ⟨rfl, hnil⟩ | ⟨rfl, hnil⟩
        · simp [HM, nxV, u0, u1, u2, u3, u4, u5, u6, u7, w3]
          exact ⟨⟨h + 1, nx, b'⟩, ⟨by simp only; omega, ho, i3⟩, by simp only; omega, by simp [hble, hnil]⟩
        · have hnl : 0 < nx.length := List.length_pos_iff.2 hnil
          have k1 := eWe.rowLen nx
          have k2 : (rowC ceW nx).take (nx.length * 3) = rowC ceW nx := List.take_of_length_le (by omega)
          have k3 : ∀ x ∈ rowC ceW nx, x.tree = true := by simpa using eWe.rowTree nx
          have k4 := eWe.chunk nx nx.length rfl
          simp [HM, nxV, u0, u1, u2, u3, u4, u5, u6, u7, w3, k1, k2, k4, hnl]
          rw [if_pos k3]
          simp [u0, u1, u2, u3, u4, u5, u6, u7, w3]
          exact ⟨⟨h + 1, nx, b'⟩, ⟨by simp only; omega, ho, i3⟩, by simp only; omega, by simp [hble, hnil]⟩
      · simp [slM, HM, nxV, hble]
end Go.Proofs.Ytgcnlmcpmocbhaa
