/- The search: the steps into each state. -/
import Derived.Test.YtpmmnnaaoideeaaAmAE
import Derived.Test.YtpmmnnaaoideeaaTC21
import Derived.Test.YtpmmnnaaoideeaaAmA
set_option linter.unusedSimpArgs false
set_option linter.unusedVariables false
namespace Go.Proofs.Ytpmmnnaaoideeaa
open Go Go.Am

@[simp] def encV (p : Nat × Nat) : AVal := .agg [.int .i64 p.1, .int .i64 p.2]
@[simp] def encM (l : List (Nat × Nat)) : AVal := .sl 2 (l.map encV) .own
theorem encM_le (m : Nat) (M : List (List (Nat × Nat))) : LeCells m (M.map encM) (M.map encM) := by
  induction M with
  | nil => trivial
  | cons a M ih => simp [LeCells] at ih ⊢; exact ih
/-- One more step into a state. -/
def putM (M : List (List (Nat × Nat))) (a : Nat × Nat × Nat) : List (List (Nat × Nat)) := M.set a.2.1 (M.getD a.2.1 [] ++ [(a.1, a.2.2)])
theorem putM_len (M : List (List (Nat × Nat))) (a : Nat × Nat × Nat) : (putM M a).length = M.length := by simp [putM]
set_option maxHeartbeats 4000000 in
set_option maxRecDepth 10000 in
theorem c63a (M : List (List (Nat × Nat))) (sz : Nat) (hM : M.length = sz) (x y c : Nat) (hy : y < sz) (l : List (Nat × Nat)) (hl : M[y]? = some l) (hlen : l.length < 1000000) :
    CFun Try.prog 94 [.int .i64 x, .int .i64 y, .int .i64 c, .ptr 1 0] [M.map encM, [.osl 0 0 sz (some sz) 1]] (.tup []) [(M.set y (l ++ [(x, c)])).map encM, [.osl 0 0 sz (some sz) 1]] := by
  refine CFun.intro (tr := [12, 1000012]) (fz := []) (n := 19) (rs := []) Try.func94 rfl (by kernel_rfl) rfl rfl mixed (by kernel_rfl) (by simp) (by simp) ?_
  have hle := fun m => encM_le m (M.set y (l ++ [(x, c)]))
  have b1 : l.length + 1 ≤ 140737488355328 := by omega
  have b2 : (l.length + 1) * 16 ≤ 140737488355328 := by omega
  have hy1 : y + 1 ≤ sz := hy
  simp only [List.map_set, encM, encV, List.map_append, List.map_cons, List.map_nil] at hle
  simp [hy, hy1, hM, hl, gE hl, b1, b2, hle]
  done

theorem flat_range {α : Type} (f : Nat → List α) (L : Nat) (hf : ∀ k, (f k).length = L) : ∀ (K k i : Nat), k < K → i < L → ((List.range K).flatMap f)[k * L + i]? = (f k)[i]? := by
  intro K
  induction K with
  | zero => intro k i h; omega
  | succ K ih =>
    intro k i hk hi
    have hl : ∀ K, ((List.range K).flatMap f).length = K * L := by
      intro K
      induction K with
      | zero => simp
      | succ K ih => rw [List.range_succ, List.flatMap_append, List.length_append, ih]; simp [hf, Nat.succ_mul]
    rw [List.range_succ, List.flatMap_append]
    by_cases e : k < K
    · rw [List.getElem?_append_left (by rw [hl]; have := Nat.mul_le_mul_right L (show k + 1 ≤ K by omega); rw [Nat.succ_mul] at this; omega)]
      exact ih k i e hi
    · have : k = K := by omega
      subst this
      rw [List.getElem?_append_right (by rw [hl]; omega), hl]
      simp
theorem arcs_len (ls : List Lnk) (th : List Int) (n : Nat) : (arcsN ls th n).length = (th.length + 1) * ls.length := by
  unfold arcsN
  generalize th.length + 1 = K
  induction K with
  | zero => simp
  | succ K ih => rw [List.range_succ, List.flatMap_append, List.length_append, ih]; simp [Nat.succ_mul]
theorem arcs_get {ls : List Lnk} {th : List Int} {n k i : Nat} {x : Lnk} (hk : k < th.length + 1) (hx : ls[i]? = some x) : (arcsN ls th n)[k * ls.length + i]? = some (arcN th n k x) := by
  have hi := (List.getElem?_eq_some_iff.1 hx).1
  unfold arcsN
  rw [flat_range _ ls.length (fun k => by simp) _ k i hk hi]
  simp [hx]
theorem arcs_bound {ls : List Lnk} {th : List Int} {n : Nat} (hls : ∀ x ∈ ls, okLk n x) {a : Nat × Nat × Nat} (ha : a ∈ arcsN ls th n) : a.1 < n * (th.length + 1) ∧ a.2.1 < n * (th.length + 1) ∧ 1 ≤ a.2.2 ∧ a.2.2 ≤ 65535 := by
  unfold arcsN at ha
  obtain ⟨k, hk, ha⟩ := List.mem_flatMap.1 ha
  obtain ⟨x, hx, rfl⟩ := List.mem_map.1 ha
  obtain ⟨o1, o2, o3, o4, o5, o6⟩ := hls x hx
  have hk := List.mem_range.1 hk
  have e1 : (k + 1) * n ≤ (th.length + 1) * n := Nat.mul_le_mul_right n (by omega)
  have e2 : (entK th x.To.toNat k + 1) * n ≤ (th.length + 1) * n := Nat.mul_le_mul_right n (by have := entK_len (th := th) (a := x.To.toNat) (k := k) (by omega); omega)
  rw [Nat.succ_mul] at e1 e2
  rw [Nat.mul_comm n]
  simp only [arcN, entN]
  omega
def inM (arcs : List (Nat × Nat × Nat)) (sz : Nat) : List (List (Nat × Nat)) := arcs.foldl putM (List.replicate sz [])
theorem inM_snoc (arcs : List (Nat × Nat × Nat)) (sz : Nat) (a : Nat × Nat × Nat) : inM (arcs ++ [a]) sz = putM (inM arcs sz) a := by simp [inM, List.foldl_append]
theorem inM_spec (arcs : List (Nat × Nat × Nat)) (sz : Nat) : (inM arcs sz).length = sz ∧ ∀ y < sz, (inM arcs sz)[y]? = some ((arcs.filter fun a => a.2.1 == y).map fun a => (a.1, a.2.2)) := by
  have main : ∀ (r : List (Nat × Nat × Nat)), (inM r.reverse sz).length = sz ∧ ∀ y < sz, (inM r.reverse sz)[y]? = some ((r.reverse.filter fun a => a.2.1 == y).map fun a => (a.1, a.2.2)) := by
    intro r
    induction r with
    | nil => simp +contextual [inM, List.getElem?_replicate]
    | cons a r ih =>
      rw [List.reverse_cons, inM_snoc]
      refine ⟨by rw [putM_len]; exact ih.1, fun y hy => ?_⟩
      unfold putM
      rw [List.getElem?_set]
      by_cases e : a.2.1 = y
      · subst e
        rw [if_pos rfl, if_pos (by rw [ih.1]; exact hy)]
        rw [List.getD_eq_getElem?_getD, ih.2 _ hy]
        simp [List.filter_append]
      · rw [if_neg e, ih.2 y hy]
        simp [List.filter_append, e]
  simpa using main arcs.reverse
set_option maxHeartbeats 1000000 in
theorem c62m (ls : List Lnk) (th : List Int) (n t : Nat) (hn : n ≤ 128) (hth : th.length ≤ 64) (hls : ∀ x ∈ ls, okLk n x) (hL2 : ls.length ≤ 1024) (sz : Nat) (hsz : n * (th.length + 1) = sz) :
    CFun Try.prog 93 [.ptr 0 0, .fn 94 [] [.ptr 2 0]] [sC ls th n t, (List.replicate sz ([] : List (Nat × Nat))).map encM, [.osl 1 0 sz (some sz) 1]] (.tup []) [sC ls th n t, (inM (arcsN ls th n) sz).map encM, [.osl 1 0 sz (some sz) 1]] := by
  have hal := arcs_len ls th n
  have h := c62 ls th n t hn hth hls ls.length rfl hL2 (th.length + 1) rfl 94 sz (fun j => (inM ((arcsN ls th n).take j) sz).map encM) (fun m j => encM_le m _) (fun k hk i x hx Z => ?_)
  · rw [← hal, List.take_of_length_le (Nat.le_refl _)] at h
    simpa [inM] using h
  · have hg := arcs_get (n := n) hk hx
    have hi := (List.getElem?_eq_some_iff.1 hx).1
    have hb := arcs_bound hls (List.mem_of_getElem? hg)
    have hy : (arcN th n k x).2.1 < sz := by rw [← hsz]; exact hb.2.1
    obtain ⟨s1, s2⟩ := inM_spec ((arcsN ls th n).take (k * ls.length + i)) sz
    have hlen : ((((arcsN ls th n).take (k * ls.length + i)).filter fun a => a.2.1 == (arcN th n k x).2.1).map fun a => (a.1, a.2.2)).length < 1000000 := by
      have h1 := List.length_filter_le (fun a => a.2.1 == (arcN th n k x).2.1) ((arcsN ls th n).take (k * ls.length + i))
      have h2 : (th.length + 1) * ls.length ≤ 65 * 1024 := Nat.mul_le_mul (by omega) hL2
      simp only [List.length_map, List.length_take] at *
      omega
    have hc := c63a _ sz s1 (arcN th n k x).1 (arcN th n k x).2.1 (arcN th n k x).2.2 hy _ (s2 _ hy) hlen
    have ht : (arcsN ls th n).take (k * ls.length + i + 1) = (arcsN ls th n).take (k * ls.length + i) ++ [arcN th n k x] := by rw [List.take_add_one, hg]; rfl
    have hp : inM ((arcsN ls th n).take (k * ls.length + i + 1)) sz = (inM ((arcsN ls th n).take (k * ls.length + i)) sz).set (arcN th n k x).2.1 ((((arcsN ls th n).take (k * ls.length + i)).filter fun a => a.2.1 == (arcN th n k x).2.1).map (fun a => (a.1, a.2.2)) ++ [((arcN th n k x).1, (arcN th n k x).2.2)]) := by
      rw [ht, inM_snoc]
      unfold putM
      rw [List.getD_eq_getElem?_getD, s2 _ hy]
      rfl
    have hren : ∀ (ρ : Nat → Nat) (M : List (List (Nat × Nat))), (M.map encM).map (ren0 ρ) = M.map encM := by
      intro ρ M
      rw [List.map_map]
      exact List.map_congr_left fun l _ => rfl
    have hlow : ∀ (M : List (List (Nat × Nat))), (M.map encM).all (low0 2) = true := by
      intro M
      rw [List.all_map]
      exact List.all_eq_true.2 fun l _ => rfl
    have := hc.at2 (H := sC ls th n t :: (inM ((arcsN ls th n).take (k * ls.length + i)) sz).map encM :: [.osl 1 0 sz (some sz) 1] :: Z) (i := 1) (j := 2) (by decide) (by rw [hren]; rfl) rfl (hlow _) rfl (hlow _) rfl rfl rfl
    rw [hren] at this
    simp only [List.set_cons_succ, List.set_cons_zero] at this
    rw [hp]
    exact this
end Go.Proofs.Ytpmmnnaaoideeaa

/- A heap of numbers in a list: where each stands, and what moves. No program. -/
namespace Go.Wk

def ltK (ks : List Int) (a b : Nat) : Bool := decide (ks.getD a 0 < ks.getD b 0) || (decide (ks.getD a 0 = ks.getD b 0) && decide (a < b))
theorem ltK_irrefl (ks : List Int) (a : Nat) : ltK ks a a = false := by simp [ltK]
theorem ltK_trans {ks : List Int} {a b c : Nat} (h : ltK ks b a = false) (k : ltK ks c b = false) : ltK ks c a = false := by
  simp only [ltK, Bool.or_eq_false_iff, Bool.and_eq_false_iff, decide_eq_false_iff_not] at *
  omega
theorem ltK_asymm {ks : List Int} {a b : Nat} (h : ltK ks a b = true) : ltK ks b a = false := by
  simp only [ltK, Bool.or_eq_false_iff, Bool.or_eq_true, Bool.and_eq_true, Bool.and_eq_false_iff, decide_eq_false_iff_not, decide_eq_true_eq] at *
  omega
def sw (l : List Nat) (i j : Nat) : List Nat := (l.set i (l.getD j 0)).set j (l.getD i 0)
theorem sw_len (l : List Nat) (i j : Nat) : (sw l i j).length = l.length := by simp [sw]
theorem sw_get {l : List Nat} {i j k : Nat} (hi : i < l.length) (hj : j < l.length) : (sw l i j).getD k 0 = if k = j then l.getD i 0 else if k = i then l.getD j 0 else l.getD k 0 := by
  unfold sw
  simp only [List.getD_eq_getElem?_getD, List.getElem?_set, List.length_set]
  by_cases e : k = j
  · subst e
    simp [hj]
  · rw [if_neg (Ne.symm e), if_neg e]
    by_cases e2 : k = i
    · subst e2; simp [hi]
    · rw [if_neg (Ne.symm e2), if_neg e2]
theorem sw_perm (l : List Nat) {i j : Nat} (hi : i < l.length) (hj : j < l.length) : (sw l i j).Perm l := by
  have h1 : l.getD i 0 = l[i] := by simp [List.getD_eq_getElem?_getD, hi]
  have h2 : l.getD j 0 = l[j] := by simp [List.getD_eq_getElem?_getD, hj]
  rw [List.perm_iff_count]
  intro a
  unfold sw
  rw [h1, h2, List.count_set (by simpa using hj), List.count_set hi]
  by_cases e : i = j
  · subst e
    have hm : ∀ x, l[i] = x → 0 < List.count x l := fun x hx => List.count_pos_iff.2 (hx ▸ List.getElem_mem hi)
    simp only [List.getElem_set_self, beq_iff_eq]
    split
    · rename_i hx; have := hm a hx; omega
    · omega
  · rw [List.getElem_set_ne e]
    have c1 : l[i] = a → 0 < List.count a l := fun hx => List.count_pos_iff.2 (hx ▸ List.getElem_mem hi)
    have c2 : l[j] = a → 0 < List.count a l := fun hx => List.count_pos_iff.2 (hx ▸ List.getElem_mem hj)
    simp only [beq_iff_eq]
    by_cases ha : l[i] = a <;> by_cases hb : l[j] = a <;> simp only [ha, hb, if_true, if_false] <;> (try have := c1 ha) <;> (try have := c2 hb) <;> omega
theorem sw_nodup {l : List Nat} (h : l.Nodup) {i j : Nat} (hi : i < l.length) (hj : j < l.length) : (sw l i j).Nodup := (sw_perm l hi hj).nodup_iff.2 h
def up (ks : List Int) : Nat → List Nat → Nat → List Nat × Nat
  | 0, l, i => (l, i)
  | f + 1, l, i => if (decide (0 < i) && ltK ks (l.getD i 0) (l.getD ((i - 1) / 2) 0)) = true then up ks f (sw l i ((i - 1) / 2)) ((i - 1) / 2) else (l, i)
def chi (ks : List Int) (l : List Nat) (i : Nat) : Nat := if (decide (2 * i + 1 + 1 < l.length) && ltK ks (l.getD (2 * i + 1 + 1) 0) (l.getD (2 * i + 1) 0)) = true then 2 * i + 1 + 1 else 2 * i + 1
def down (ks : List Int) : Nat → List Nat → Nat → List Nat
  | 0, l, _ => l
  | f + 1, l, i => if (decide (l.length ≤ chi ks l i) || !(ltK ks (l.getD (chi ks l i) 0) (l.getD i 0))) = true then l else down ks f (sw l i (chi ks l i)) (chi ks l i)
def settleH (ks : List Int) (l : List Nat) (i : Nat) : List Nat := down ks (l.length + 1) (up ks i l i).1 (up ks i l i).2

/-- Where each number stands, or -1. -/
def plOf (N : Nat) (l : List Nat) : List Int := (List.range N).map fun x => if x ∈ l then (l.idxOf x : Int) else -1
theorem plOf_len (N : Nat) (l : List Nat) : (plOf N l).length = N := by simp [plOf]
theorem plOf_get {N : Nat} (l : List Nat) {x : Nat} (hx : x < N) : (plOf N l)[x]? = some (if x ∈ l then (l.idxOf x : Int) else -1) := by simp [plOf, hx]
theorem idx_get {l : List Nat} (h : l.Nodup) {i : Nat} (hi : i < l.length) : l.idxOf (l.getD i 0) = i := by
  have e : l.getD i 0 = l[i] := by simp [List.getD_eq_getElem?_getD, hi]
  rw [e]
  exact h.idxOf_getElem i hi
theorem idx_of {l : List Nat} (h : l.Nodup) {i x : Nat} (hi : i < l.length) (e : l.getD i 0 = x) : l.idxOf x = i := by rw [← e]; exact idx_get h hi
theorem get_mem {l : List Nat} {i : Nat} (hi : i < l.length) : l.getD i 0 ∈ l := by
  have e : l.getD i 0 = l[i] := by simp [List.getD_eq_getElem?_getD, hi]
  rw [e]
  exact List.getElem_mem hi
theorem get_idx {l : List Nat} {x : Nat} (h : x ∈ l) : l.getD (l.idxOf x) 0 = x ∧ l.idxOf x < l.length := by
  have h1 := List.idxOf_lt_length_of_mem h
  refine ⟨?_, h1⟩
  simp [List.getD_eq_getElem?_getD, h1]
theorem plOf_sw {N : Nat} {l : List Nat} (h : l.Nodup) {i j : Nat} (hi : i < l.length) (hj : j < l.length) :
    ((plOf N l).set (l.getD j 0) i).set (l.getD i 0) j = plOf N (sw l i j) := by
  apply List.ext_getElem?
  intro x
  by_cases hx : x < N
  case neg => rw [List.getElem?_eq_none (by simp [plOf_len]; omega), List.getElem?_eq_none (by simp [plOf_len]; omega)]
  have hn := sw_nodup h hi hj
  have hp := sw_perm l hi hj
  rw [plOf_get _ hx]
  simp only [List.getElem?_set, List.length_set, plOf_len]
  by_cases e1 : l.getD i 0 = x
  · rw [if_pos e1, if_pos (by omega)]
    have hm : x ∈ sw l i j := hp.mem_iff.2 (e1 ▸ get_mem hi)
    rw [if_pos hm]
    have : (sw l i j).idxOf x = j := idx_of hn (by rw [sw_len]; exact hj) (by rw [sw_get hi hj, if_pos rfl]; exact e1)
    rw [this]
  · rw [if_neg e1]
    by_cases e2 : l.getD j 0 = x
    · rw [if_pos e2, if_pos (by omega)]
      have hm : x ∈ sw l i j := hp.mem_iff.2 (e2 ▸ get_mem hj)
      rw [if_pos hm]
      have hij : i ≠ j := fun e => e1 (e ▸ e2)
      have : (sw l i j).idxOf x = i := idx_of hn (by rw [sw_len]; exact hi) (by rw [sw_get hi hj, if_neg hij, if_pos rfl]; exact e2)
      rw [this]
    · rw [if_neg e2, plOf_get _ hx]
      by_cases hm : x ∈ l
      · rw [if_pos hm, if_pos (hp.mem_iff.2 hm)]
        obtain ⟨k1, k2⟩ := get_idx hm
        have : (sw l i j).idxOf x = l.idxOf x := idx_of hn (by rw [sw_len]; exact k2) (by
          rw [sw_get hi hj, if_neg (fun e => e2 (by rw [← e]; exact k1)), if_neg (fun e => e1 (by rw [← e]; exact k1))]
          exact k1)
        rw [this]
      · rw [if_neg hm, if_neg (fun hh => hm (hp.mem_iff.1 hh))]
theorem plOf_snoc {N : Nat} {l : List Nat} {x : Nat} (hx : x ∉ l) (hN : x < N) : (plOf N l).set x l.length = plOf N (l ++ [x]) := by
  apply List.ext_getElem?
  intro y
  by_cases hy : y < N
  case neg => rw [List.getElem?_eq_none (by simp [plOf_len]; omega), List.getElem?_eq_none (by simp [plOf_len]; omega)]
  rw [plOf_get _ hy, List.getElem?_set, plOf_len]
  by_cases e : x = y
  · subst e
    rw [if_pos rfl, if_pos hN, if_pos (by simp), List.idxOf_append, if_neg hx]
    simp
  · rw [if_neg e, plOf_get _ hy]
    by_cases hm : y ∈ l
    · rw [if_pos hm, if_pos (by simp [hm]), List.idxOf_append, if_pos hm]
    · rw [if_neg hm, if_neg (by simp [hm]; exact fun h => e h.symm)]
theorem plOf_drop {N : Nat} {l : List Nat} {x : Nat} (h : (l ++ [x]).Nodup) (hN : x < N) : (plOf N (l ++ [x])).set x (-1) = plOf N l := by
  have hx : x ∉ l := by
    intro hm
    exact ((List.nodup_append.1 h).2.2 x hm x (by simp)) rfl
  rw [← plOf_snoc hx hN, List.set_set]
  apply List.ext_getElem?
  intro y
  rw [List.getElem?_set, plOf_len]
  split
  · rename_i e
    subst e
    rw [plOf_get _ hN, if_neg hx]
  · rfl
end Go.Wk

/- The heap, by the program: what it shows. -/
namespace Go.Proofs.Ytpmmnnaaoideeaa
open Go Go.Am Go.Wk

@[simp] theorem tp101 : tpt Try.prog 126 = true := by kernel_rfl
def rowN (l : List Nat) : List AVal := l.map fun (x : Nat) => AVal.int .i64 ((x : Nat) : Int)
def rowZ (l : List Int) : List AVal := l.map fun x => .int .i64 x
theorem treeI (l : List Int) : (rowZ l).all AVal.tree = true := by unfold rowZ; rw [List.all_map]; exact List.all_eq_true.2 fun x _ => rfl
theorem treeN (l : List Nat) : (rowN l).all AVal.tree = true := by unfold rowN; rw [List.all_map]; exact List.all_eq_true.2 fun x _ => rfl
theorem leI (m : Nat) (l : List Int) : LeCells m (rowZ l) (rowZ l) := treeCells_le m (treeI l)
theorem leN (m : Nat) (l : List Nat) : LeCells m (rowN l) (rowN l) := treeCells_le m (treeN l)
theorem scalN (l : List Nat) : (rowN l).all (fun c => c.scalar && !c.isOwn) = true := by unfold rowN; rw [List.all_map]; exact List.all_eq_true.2 fun x _ => rfl
@[simp] theorem rowN_len (l : List Nat) : (rowN l).length = l.length := by simp [rowN]
@[simp] theorem rowZ_len (l : List Int) : (rowZ l).length = l.length := by simp [rowZ]
theorem rowN_app (l r : List Nat) : rowN (l ++ r) = rowN l ++ rowN r := by simp [rowN]
theorem rowN_get {l : List Nat} {i x : Nat} (h : l[i]? = some x) : (rowN l)[i]? = some (.int .i64 (x : Int)) := by simp [rowN, h]
theorem rowZ_get {l : List Int} {i : Nat} {x : Int} (h : l[i]? = some x) : (rowZ l)[i]? = some (.int .i64 x) := by simp [rowZ, h]
theorem rowN_set (l : List Nat) (i x : Nat) : (rowN l).set i (.int .i64 (x : Int)) = rowN (l.set i x) := by simp [rowN]
theorem rowZ_set (l : List Int) (i : Nat) (x : Int) : (rowZ l).set i (.int .i64 x) = rowZ (l.set i x) := by simp [rowZ]
/-- The heap's variables. -/
@[simp] def hB (m N : Nat) : List AVal := [.osl 1 0 m none 1, .osl 2 0 N (some N) 1, .osl 3 0 N (some N) 1]
@[simp] def hH (N : Nat) (its jk : List Nat) (ks : List Int) : List (List AVal) := [hB its.length N, rowN (its ++ jk), rowZ (plOf N its), rowZ ks]
theorem getD_of {l : List Nat} {i : Nat} (h : i < l.length) : l[i]? = some (l.getD i 0) := by simp [List.getD_eq_getElem?_getD, h]
theorem getD_ofI {l : List Int} {i : Nat} (h : i < l.length) : l[i]? = some (l.getD i 0) := by simp [List.getD_eq_getElem?_getD, h]
theorem app_of {l r : List Nat} {i : Nat} (h : i < l.length) : (l ++ r)[i]? = some (l.getD i 0) := by rw [List.getElem?_append_left h]; exact getD_of h
section
variable (N : Nat) (its jk : List Nat) (ks : List Int)
set_option maxHeartbeats 4000000 in
set_option maxRecDepth 10000 in
-- less
theorem c75 (hk : ks.length = N) (i j : Nat) (hi : i < its.length) (hj : j < its.length) (hN : ∀ x ∈ its, x < N) :
    CFun Try.prog 106 [.ptr 0 0, .int .i64 i, .int .i64 j] (hH N its jk ks) (.bool (ltK ks (its.getD i 0) (its.getD j 0))) (hH N its jk ks) := by
  refine CFun.intro (tr := []) (fz := []) (n := 60) (rs := [.tmp 6]) Try.func106 rfl (by kernel_rfl) rfl rfl mixed (by kernel_rfl) (by simp) (by simp) ?_
  have l2 := leI 4 (plOf N its)
  have l3 := leI 4 ks
  have l0 := leN 4 (its ++ jk)
  have e1 := rowN_get (app_of (r := jk) hi)
  have e2 := rowN_get (app_of (r := jk) hj)
  have ha' := hN _ (get_mem hi)
  have hb' := hN _ (get_mem hj)
  unfold ltK
  generalize its.getD i 0 = a at *
  generalize its.getD j 0 = b at *
  have e3 := rowZ_get (getD_ofI (l := ks) (i := a) (by omega))
  have e4 := rowZ_get (getD_ofI (l := ks) (i := b) (by omega))
  generalize ks.getD a 0 = p at *
  generalize ks.getD b 0 = q at *
  by_cases h1 : p < q
  · simp [hi, hj, ha', hb', e1, e2, e3, e4, h1, l0, l2, l3]
  · by_cases h2 : p = q
    · simp [hi, hj, ha', hb', e1, e2, e3, e4, h2, l0, l2, l3]
    · simp [hi, hj, ha', hb', e1, e2, e3, e4, h1, h2, l0, l2, l3]
set_option maxHeartbeats 4000000 in
set_option maxRecDepth 10000 in
-- has
theorem c79 (x : Nat) (hx : x < N) : CFun Try.prog 110 [.ptr 0 0, .int .i64 x] (hH N its jk ks) (.bool (decide (x ∈ its))) (hH N its jk ks) := by
  refine CFun.intro (tr := []) (fz := []) (n := 30) (rs := [.tmp 4]) Try.func110 rfl (by kernel_rfl) rfl rfl mixed (by kernel_rfl) (by simp) (by simp) ?_
  have l2 := leI 4 (plOf N its)
  have l3 := leI 4 ks
  have l0 := leN 4 (its ++ jk)
  have e1 := rowZ_get (plOf_get its hx)
  have b0 : (0 : Int) ≤ x := by omega
  by_cases h1 : x ∈ its
  · rw [if_pos h1] at e1
    have b1 : (0 : Int) ≤ (its.idxOf x : Int) := by omega
    simp [hx, b0, b1, e1, h1, l0, l2, l3]
  · rw [if_neg h1] at e1
    simp [hx, b0, e1, h1, l0, l2, l3]
set_option maxHeartbeats 4000000 in
set_option maxRecDepth 10000 in
-- Key
theorem c69 (hk : ks.length = N) (x : Nat) (hx : x < N) : CFun Try.prog 100 [.ptr 0 0, .int .i64 x] (hH N its jk ks) (.tup [.int .i64 (if x ∈ its then ks.getD x 0 else 0), .bool (decide (x ∈ its))]) (hH N its jk ks) := by
  refine CFun.intro (tr := []) (fz := []) (n := 17) (rs := [.tmp 4, .tmp 5]) Try.func100 rfl (by kernel_rfl) rfl rfl mixed (by kernel_rfl) (by simp) (by simp) ?_
  have l2 := leI 4 (plOf N its)
  have l3 := leI 4 ks
  have l0 := leN 4 (its ++ jk)
  have h := c79 N its jk ks x hx
  have e1 := rowZ_get (getD_ofI (l := ks) (i := x) (by omega))
  simp
  refine ⟨_, _, .inl (by simpa using h), by simp, ?_⟩
  by_cases h1 : x ∈ its
  · simp [hx, e1, h1, l0, l2, l3]
  · simp [h1, l0, l2, l3]
set_option maxHeartbeats 4000000 in
set_option maxRecDepth 10000 in
-- Len
theorem c81 : CFun Try.prog 112 [.ptr 0 0] (hH N its jk ks) (.int .i64 its.length) (hH N its jk ks) := by
  refine CFun.intro (tr := []) (fz := []) (n := 10) (rs := [.tmp 2]) Try.func112 rfl (by kernel_rfl) rfl rfl mixed (by kernel_rfl) (by simp) (by simp) ?_
  have l2 := leI 4 (plOf N its)
  have l3 := leI 4 ks
  have l0 := leN 4 (its ++ jk)
  simp [l0, l2, l3]
set_option maxHeartbeats 4000000 in
set_option maxRecDepth 10000 in
-- Min
theorem c77 (hk : ks.length = N) (hN : ∀ x ∈ its, x < N) : CFun Try.prog 108 [.ptr 0 0] (hH N its jk ks) (if its.length = 0 then .tup [.int .i64 0, .int .i64 0, .bool false] else .tup [.int .i64 (its.getD 0 0 : Nat), .int .i64 (ks.getD (its.getD 0 0) 0), .bool true]) (hH N its jk ks) := by
  refine CFun.intro (tr := []) (fz := []) (n := 26) (rs := [.tmp 2, .tmp 3, .tmp 4]) Try.func108 rfl (by kernel_rfl) rfl rfl mixed (by kernel_rfl) (by simp) (by simp) ?_
  have l2 := leI 4 (plOf N its)
  have l3 := leI 4 ks
  have l0 := leN 4 (its ++ jk)
  have h := c81 N its jk ks
  simp only [hH, hB] at h ⊢
  by_cases h1 : its.length = 0
  · rw [if_pos h1]
    rw [h1] at h ⊢
    simp
    refine ⟨_, _, .inl (by simpa using h), by simp, ?_⟩
    simp [l0, l2, l3]
  · rw [if_neg h1]
    have hp : 0 < its.length := by omega
    have e1 := rowN_get (app_of (r := jk) hp)
    have ha' := hN _ (get_mem hp)
    generalize its.getD 0 0 = a at *
    generalize its.length = m at *
    have e3 := rowZ_get (getD_ofI (l := ks) (i := a) (by omega))
    generalize ks.getD a 0 = p at *
    have hmi : ¬ (m : Int) = 0 := by omega
    have hmi2 : 0 < (m : Int) := by omega
    simp
    refine ⟨_, _, .inl (by simpa using h), by simp, ?_⟩
    simp [h1, hp, hmi, hmi2, ha', e1, e3, l0, l2, l3]
set_option maxHeartbeats 4000000 in
set_option maxRecDepth 10000 in
-- swap
theorem c76 (hd : its.Nodup) (i j : Nat) (hi : i < its.length) (hj : j < its.length) (hN : ∀ x ∈ its, x < N) :
    CFun Try.prog 107 [.ptr 0 0, .int .i64 i, .int .i64 j] (hH N its jk ks) (.tup []) (hH N (sw its i j) jk ks) := by
  refine CFun.intro (tr := []) (fz := []) (n := 58) (rs := []) Try.func107 rfl (by kernel_rfl) rfl rfl mixed (by kernel_rfl) (by simp) (by simp) ?_
  have l3 := leI 4 ks
  have l2 := leI 4 (plOf N (sw its i j))
  have l0 := leN 4 (sw its i j ++ jk)
  have e1 := rowN_get (app_of (r := jk) hi)
  have e2 := rowN_get (app_of (r := jk) hj)
  have ha' := hN _ (get_mem hi)
  have hb' := hN _ (get_mem hj)
  have hs : ((its ++ jk).set i (its.getD j 0)).set j (its.getD i 0) = sw its i j ++ jk := by
    unfold sw
    rw [List.set_append_left _ _ hi, List.set_append_left _ _ (by simpa using hj)]
  have hp := plOf_sw (N := N) hd hi hj
  have hlen := sw_len its i j
  have g1 := rowN_get (app_of (r := jk) (show i < (sw its i j).length by rw [hlen]; exact hi))
  have g2 := rowN_get (app_of (r := jk) (show j < (sw its i j).length by rw [hlen]; exact hj))
  rw [sw_get hi hj] at g1 g2
  rw [if_pos rfl] at g2
  have hij : (if i = j then its.getD i 0 else if i = i then its.getD j 0 else its.getD i 0) = its.getD j 0 := by
    split
    · rename_i e; rw [e]
    · rw [if_pos rfl]
  rw [hij] at g1
  simp only [hH, hB, hlen]
  generalize its.getD i 0 = a at *
  generalize its.getD j 0 = b at *
  have hi1 : i + 1 ≤ its.length + jk.length := by omega
  have hj1 : j + 1 ≤ its.length + jk.length := by omega
  have hpl := plOf_len N its
  have q1 := rowN_set (its ++ jk) i b
  have q2 := rowN_set ((its ++ jk).set i b) j a
  rw [hs] at q2
  have hs1 : (its ++ jk).set i b = its.set i b ++ jk := List.set_append_left _ _ hi
  rw [hs1] at q1 q2
  have q3 := rowZ_set (plOf N its) b i
  have q4 := rowZ_set ((plOf N its).set b i) a j
  rw [hp] at q4
  have ha1 : a + 1 ≤ N := ha'
  have hb1 : b + 1 ≤ N := hb'
  simp [hi, hj, hi1, hj1, ha', hb', ha1, hb1, e1, e2, q1, q2, g1, g2, q3, q4, hpl, l0, l2, l3]
end
end Go.Proofs.Ytpmmnnaaoideeaa

/- The heap, by the program: what moves. -/
namespace Go.Proofs.Ytpmmnnaaoideeaa
open Go Go.Am Go.Wk

theorem up_inv {ks : List Int} {N : Nat} : ∀ {f : Nat} {l : List Nat} {i : Nat}, i < l.length → (up ks f l i).1.Perm l ∧ (up ks f l i).2 < l.length := by
  intro f
  induction f with
  | zero => intro l i h; exact ⟨.refl _, h⟩
  | succ f ih =>
    intro l i h
    simp only [up]
    split
    · have h2 : (i - 1) / 2 < l.length := by omega
      obtain ⟨a, b⟩ := ih (l := sw l i ((i - 1) / 2)) (i := (i - 1) / 2) (by rw [sw_len]; exact h2)
      exact ⟨a.trans (sw_perm l h h2), by rw [sw_len] at b; exact b⟩
    · exact ⟨.refl _, h⟩
theorem down_inv {ks : List Int} : ∀ {f : Nat} {l : List Nat} {i : Nat}, i < l.length → (down ks f l i).Perm l := by
  intro f
  induction f with
  | zero => intro l i h; exact .refl _
  | succ f ih =>
    intro l i h
    simp only [down]
    split
    · exact .refl _
    · rename_i hc
      simp only [Bool.or_eq_true, decide_eq_true_eq, not_or] at hc
      have h2 : chi ks l i < l.length := by omega
      exact (ih (by rw [sw_len]; exact h2)).trans (sw_perm l h h2)
theorem down_step {ks : List Int} {f : Nat} {l : List Nat} {j k : Nat} (hk : chi ks l j = k) (h1 : k < l.length) (h2 : ltK ks (l.getD k 0) (l.getD j 0) = true) : down ks (f + 1) l j = down ks f (sw l j k) k := by
  simp only [down, hk, h2]
  rw [if_neg (by simp; omega)]
theorem down_stop {ks : List Int} {f : Nat} {l : List Nat} {j k : Nat} (hk : chi ks l j = k) (h : l.length ≤ k ∨ ltK ks (l.getD k 0) (l.getD j 0) = false) : down ks (f + 1) l j = l := by
  simp only [down, hk]
  rw [if_pos (by simp only [Bool.or_eq_true, decide_eq_true_eq, Bool.not_eq_true']; exact h)]
theorem chi_two {ks : List Int} {l : List Nat} {j k1 k2 : Nat} (e1 : k1 = 2 * j + 1) (e2 : k2 = k1 + 1) (h : k2 < l.length) (hb : ltK ks (l.getD k2 0) (l.getD k1 0) = true) : chi ks l j = k2 := by
  subst e2 e1
  unfold chi
  rw [if_pos (by simp only [hb, Bool.and_true, decide_eq_true_eq]; exact h)]
theorem chi_one {ks : List Int} {l : List Nat} {j k1 k2 : Nat} (e1 : k1 = 2 * j + 1) (e2 : k2 = k1 + 1) (h : ¬ k2 < l.length ∨ ltK ks (l.getD k2 0) (l.getD k1 0) = false) : chi ks l j = k1 := by
  subst e2 e1
  unfold chi
  rw [if_neg (by
    simp only [Bool.and_eq_true, decide_eq_true_eq, not_and]
    intro a b
    rcases h with h | h
    · exact h a
    · rw [h] at b; cases b)]
section
variable (N : Nat) (jk : List Nat) (ks : List Int)
set_option maxHeartbeats 8000000 in
set_option maxRecDepth 10000 in
-- settle
theorem c74 (hk : ks.length = N) (n : Nat) (hn : n < 1000000) (its : List Nat) (hl : its.length = n) (hd : its.Nodup) (hN : ∀ x ∈ its, x < N) (i : Nat) (hi : i < n) :
    CFun Try.prog 105 [.int .i64 i, .int .i64 n, .fn 106 [.ptr 0 0] [], .fn 107 [.ptr 0 0] []] (hH N its jk ks) (.tup []) (hH N (settleH ks its i) jk ks) := by
  refine CFun.intro (tr := []) (fz := []) (n := 59) (rs := []) Try.func105 rfl (by kernel_rfl) rfl rfl mixed (by kernel_rfl) (by simp) (by simp) ?_
  have hle : ∀ (l : List Nat) (m : Nat), LeCells m (rowN (l ++ jk)) (rowN (l ++ jk)) := fun l m => leN m _
  have hlp : ∀ (l : List Nat) (m : Nat), LeCells m (rowZ (plOf N l)) (rowZ (plOf N l)) := fun l m => leI m _
  have hlk : ∀ m, LeCells m (rowZ ks) (rowZ ks) := fun m => leI m _
  simp only [hH, hB]
  simp
  refine LoopK.intro (tr := []) mixed (by kernel_rfl) (fun q : Nat × List Nat × Nat => [(0, .int .i64 q.2.2), (1, .int .i64 n), (2, .fn 106 [.ptr 0 0] []), (3, .fn 107 [.ptr 0 0] [])])
    (fun q => [[.osl 1 0 n none 1, .osl 2 0 N (some N) 1, .osl 3 0 N (some N) 1], rowN (q.2.1 ++ jk), rowZ (plOf N q.2.1), rowZ ks]) (fun q => q.2.1.length = n ∧ q.2.1.Nodup ∧ (∀ x ∈ q.2.1, x < N) ∧ q.2.2 < n ∧ q.2.2 ≤ q.1 ∧ up ks q.1 q.2.1 q.2.2 = up ks i its i) (fun q => q.2.2) (i, its, i) ?_ ?_ ?_
  · exact ⟨hl, hd, hN, hi, Nat.le_refl _, rfl⟩
  · simp [hl, hle, hlp, hlk]
  · rintro ⟨f, l, j⟩ ⟨h1, h2, h3, h4, h5, h6⟩
    simp only at h1 h2 h3 h4 h5 h6
    have hle2 := hle (settleH ks its i)
    have hlp2 := hlp (settleH ks its i)
    have less := fun a b ha hb => c75 N l jk ks hk a b ha hb h3
    have swap := fun a b ha hb => c76 N l jk ks h2 a b ha hb h3
    simp only [hH, hB, h1, sw_len] at less swap
    by_cases hc : 0 < j ∧ ltK ks (l.getD j 0) (l.getD ((j - 1) / 2) 0) = true
    · obtain ⟨hj, hb⟩ := hc
      obtain ⟨j', rfl⟩ : ∃ j', j = j' + 1 := ⟨j - 1, by omega⟩
      obtain ⟨f', rfl⟩ : ∃ f', f = f' + 1 := ⟨f - 1, by omega⟩
      simp only [Nat.add_sub_cancel] at hb
      have w1 : IntKind.i64.wrap (j' : Int) = j' := wrap_in (by omega)
      have w2 : IntKind.i64.wrap ((j' : Int) / 2) = ((j' / 2 : Nat) : Int) := by rw [show (j' : Int) / 2 = ((j' / 2 : Nat) : Int) from rfl]; exact wrap_in (by omega)
      have b1 : (0 : Int) < (j' : Int) + 1 := by omega
      simp only [up, Nat.add_sub_cancel, hj, decide_true, Bool.true_and, hb, if_true] at h6
      have hless := less (j' + 1) (j' / 2) h4 (by omega)
      have hswap := swap (j' + 1) (j' / 2) h4 (by omega)
      rw [hb] at hless
      have p2 : j' / 2 < l.length := by omega
      have p1 : j' + 1 < l.length := by omega
      simp [b1, w1, w2]
      refine ⟨_, _, .inl (by simpa using hless), by simp, ?_⟩
      simp [b1, w1, w2]
      refine ⟨_, _, .inl (by simpa using hswap), by simp, ?_⟩
      simp [w1, w2]
      exact ⟨f', sw l (j' + 1) (j' / 2), j' / 2, ⟨by rw [sw_len]; exact h1, sw_nodup h2 p1 p2, fun x hx => h3 x ((sw_perm l p1 p2).mem_iff.1 hx), by omega, by omega, h6⟩, by omega, by simp [hle, hlp, hlk]⟩
    have hu : up ks f l j = (l, j) := by
      cases f with
      | zero => rfl
      | succ f =>
        simp only [up]
        rw [if_neg (by simp only [Bool.and_eq_true, decide_eq_true_eq]; exact hc)]
    rw [hu] at h6
    have hT : settleH ks its i = down ks (n + 1) l j := by
      unfold settleH
      rw [← h6, hl]
    have hc' : ∀ j', j = j' + 1 → ¬ (0 < j' + 1 ∧ ltK ks (l.getD (j' + 1) 0) (l.getD (j' / 2) 0) = true) := by
      rintro j' rfl h
      exact hc (by simpa using h)
    clear hu h6 hc h5
    by_cases b0 : 0 < j
    case' pos =>
      obtain ⟨j', rfl⟩ : ∃ j', j = j' + 1 := ⟨j - 1, by omega⟩
      have hb : ltK ks (l.getD (j' + 1) 0) (l.getD (j' / 2) 0) = false := by
        cases e : ltK ks (l.getD (j' + 1) 0) (l.getD (j' / 2) 0) with
        | false => rfl
        | true => exact (hc' j' rfl ⟨b0, e⟩).elim
      have w1 : IntKind.i64.wrap (j' : Int) = j' := wrap_in (by omega)
      have w2 : IntKind.i64.wrap ((j' : Int) / 2) = ((j' / 2 : Nat) : Int) := by rw [show (j' : Int) / 2 = ((j' / 2 : Nat) : Int) from rfl]; exact wrap_in (by omega)
      have b1 : (0 : Int) < (j' : Int) + 1 := by omega
      have hless := less (j' + 1) (j' / 2) h4 (by omega)
      rw [hb] at hless
      have ej : (j' : Int) + 1 = ((j' + 1 : Nat) : Int) := by omega
      simp [b1, w1, w2]
      refine ⟨_, _, .inl (by simpa using hless), by simp, ?_⟩
      simp [b1, w1, w2]
      simp only [ej]
      clear hless hb w1 w2 b1 b0 hc' ej
      generalize j' + 1 = j at *
    case' neg =>
      simp [b0]
      clear b0 hc'
    all_goals
      refine LoopK.intro (tr := []) mixed (by kernel_rfl) (fun q : Nat × List Nat × Nat => [(0, .int .i64 q.2.2), (1, .int .i64 n), (2, .fn 106 [.ptr 0 0] []), (3, .fn 107 [.ptr 0 0] [])])
        (fun q => [[.osl 1 0 n none 1, .osl 2 0 N (some N) 1, .osl 3 0 N (some N) 1], rowN (q.2.1 ++ jk), rowZ (plOf N q.2.1), rowZ ks]) (fun q => q.2.1.length = n ∧ q.2.1.Nodup ∧ (∀ x ∈ q.2.1, x < N) ∧ q.2.2 < n ∧ n < q.1 + q.2.2 ∧ settleH ks its i = down ks q.1 q.2.1 q.2.2) (fun q => n - q.2.2) (n + 1, l, j) ?_ ?_ ?_
      · exact ⟨h1, h2, h3, h4, by simp only; omega, hT⟩
      · simp [hle, hlp, hlk]
      · clear h1 h2 h3 h4 hT less swap hle2 hlp2
        rintro ⟨f, l, j⟩ ⟨h1, h2, h3, h4, h5, h6⟩
        simp only at h1 h2 h3 h4 h5 h6
        have hle2 := hle (settleH ks its i)
        have hlp2 := hlp (settleH ks its i)
        have less := fun a b ha hb => c75 N l jk ks hk a b ha hb h3
        have swap := fun a b ha hb => c76 N l jk ks h2 a b ha hb h3
        simp only [hH, hB, h1, sw_len] at less swap
        obtain ⟨f', rfl⟩ : ∃ f', f = f' + 1 := ⟨f - 1, by omega⟩
        obtain ⟨k1, hk1⟩ : ∃ k1, k1 = 2 * j + 1 := ⟨_, rfl⟩
        obtain ⟨k2, hk2⟩ : ∃ k2, k2 = k1 + 1 := ⟨_, rfl⟩
        have w1 : IntKind.i64.wrap (2 * (j : Int)) = 2 * (j : Int) := wrap_in (by omega)
        have w2 : IntKind.i64.wrap (2 * (j : Int) + 1) = (k1 : Int) := by rw [wrap_in (by omega)]; omega
        have w3 : IntKind.i64.wrap ((k1 : Int) + 1) = (k2 : Int) := by rw [wrap_in (by omega)]; omega
        have fin : ∀ k, chi ks l j = k → k < n → ltK ks (l.getD k 0) (l.getD j 0) = true → j < k → (sw l j k).length = n ∧ (sw l j k).Nodup ∧ (∀ x ∈ sw l j k, x < N) ∧ k < n ∧ n < f' + k ∧ settleH ks its i = down ks f' (sw l j k) k := by
          intro k hk hkn hlt hjk
          have p1 : j < l.length := by omega
          have p2 : k < l.length := by omega
          rw [down_step hk p2 hlt] at h6
          exact ⟨by rw [sw_len]; exact h1, sw_nodup h2 p1 p2, fun x hx => h3 x ((sw_perm l p1 p2).mem_iff.1 hx), hkn, by omega, h6⟩
        have stop : ∀ k, chi ks l j = k → (n ≤ k ∨ ltK ks (l.getD k 0) (l.getD j 0) = false) → settleH ks its i = l := by
          intro k hk hs
          rw [down_stop hk (by rw [h1]; exact hs)] at h6
          exact h6
        by_cases c1 : k1 < n
        case neg =>
          have c2 : ¬ k2 < n := by omega
          have c3 : n ≤ k1 := by omega
          have e := stop k1 (chi_one hk1 hk2 (.inl (by rw [h1]; exact c2))) (.inl c3)
          rw [e] at hle2 hlp2 ⊢
          simp [w1, w2, w3, c2, c3, hle2, hlp2, hlk, h1]
        have c3 : ¬ n ≤ k1 := by omega
        have l1 := less k1 j c1 h4
        have s1 := swap j k1 h4 c1
        have f1 := fin k1
        have t1 := stop k1
        by_cases c2 : k2 < n
        · have l2 := less k2 k1 c2 c1
          have l3 := less k2 j c2 h4
          have s2 := swap j k2 h4 c2
          have f2 := fin k2
          have t2 := stop k2
          have c4 : ¬ n ≤ k2 := by omega
          cases hb : ltK ks (l.getD k2 0) (l.getD k1 0) with
          | true =>
            have hch := chi_two hk1 hk2 (by rw [h1]; exact c2) hb
            rw [hb] at l2
            cases hc : ltK ks (l.getD k2 0) (l.getD j 0) with
            | true =>
              rw [hc] at l3
              have f3 := f2 hch c2 hc (by omega)
              simp [w1, w2, w3, c2]
              refine ⟨_, _, .inl (by simpa using l2), by simp, ?_⟩
              simp [w3, c4]
              refine ⟨_, _, .inl (by simpa using l3), by simp, ?_⟩
              simp
              refine ⟨_, _, .inl (by simpa using s2), by simp, ?_⟩
              simp
              exact ⟨f', sw l j k2, k2, f3, by omega, by simp [hle, hlp, hlk]⟩
            | false =>
              rw [hc] at l3
              have e := t2 hch (.inr hc)
              rw [e] at hle2 hlp2 ⊢
              simp [w1, w2, w3, c2]
              refine ⟨_, _, .inl (by simpa using l2), by simp, ?_⟩
              simp [w3, c4]
              refine ⟨_, _, .inl (by simpa using l3), by simp, ?_⟩
              simp [hle2, hlp2, hlk, h1]
          | false =>
            have hch := chi_one hk1 hk2 (.inr hb)
            rw [hb] at l2
            cases hc : ltK ks (l.getD k1 0) (l.getD j 0) with
            | true =>
              rw [hc] at l1
              have f3 := f1 hch c1 hc (by omega)
              simp [w1, w2, w3, c2]
              refine ⟨_, _, .inl (by simpa using l2), by simp, ?_⟩
              simp [c3]
              refine ⟨_, _, .inl (by simpa using l1), by simp, ?_⟩
              simp
              refine ⟨_, _, .inl (by simpa using s1), by simp, ?_⟩
              simp
              exact ⟨f', sw l j k1, k1, f3, by omega, by simp [hle, hlp, hlk]⟩
            | false =>
              rw [hc] at l1
              have e := t1 hch (.inr hc)
              rw [e] at hle2 hlp2 ⊢
              simp [w1, w2, w3, c2]
              refine ⟨_, _, .inl (by simpa using l2), by simp, ?_⟩
              simp [c3]
              refine ⟨_, _, .inl (by simpa using l1), by simp, ?_⟩
              simp [hle2, hlp2, hlk, h1]
        · have hch := chi_one (ks := ks) (l := l) hk1 hk2 (.inl (by rw [h1]; exact c2))
          cases hc : ltK ks (l.getD k1 0) (l.getD j 0) with
          | true =>
            rw [hc] at l1
            have f3 := f1 hch c1 hc (by omega)
            simp [w1, w2, w3, c2, c3]
            refine ⟨_, _, .inl (by simpa using l1), by simp, ?_⟩
            simp
            refine ⟨_, _, .inl (by simpa using s1), by simp, ?_⟩
            simp
            exact ⟨f', sw l j k1, k1, f3, by omega, by simp [hle, hlp, hlk]⟩
          | false =>
            rw [hc] at l1
            have e := t1 hch (.inr hc)
            rw [e] at hle2 hlp2 ⊢
            simp [w1, w2, w3, c2, c3]
            refine ⟨_, _, .inl (by simpa using l1), by simp, ?_⟩
            simp [hle2, hlp2, hlk, h1]
end
end Go.Proofs.Ytpmmnnaaoideeaa

/- The heap, by the program: setting keys. -/
namespace Go.Proofs.Ytpmmnnaaoideeaa
open Go Go.Am Go.Wk

def four (a p q r : Nat) : Nat → Nat
  | 0 => a
  | 1 => p
  | 2 => q
  | _ => r
theorem ren_rowN (ρ : Nat → Nat) (l : List Nat) : (rowN l).map (ren0 ρ) = rowN l := by unfold rowN; rw [List.map_map]; exact List.map_congr_left fun x _ => rfl
theorem ren_rowZ (ρ : Nat → Nat) (l : List Int) : (rowZ l).map (ren0 ρ) = rowZ l := by unfold rowZ; rw [List.map_map]; exact List.map_congr_left fun x _ => rfl
theorem low_rowN (n : Nat) (l : List Nat) : (rowN l).all (low0 n) = true := by unfold rowN; rw [List.all_map]; exact List.all_eq_true.2 fun x _ => rfl
theorem low_rowZ (n : Nat) (l : List Int) : (rowZ l).all (low0 n) = true := by unfold rowZ; rw [List.all_map]; exact List.all_eq_true.2 fun x _ => rfl
/-- The heap among other variables. -/
theorem hAt {f : FuncId} {ar : List AVal} {x : AVal} {N m m' : Nat} {ri ri' : List Nat} {rp rp' rk rk' : List Int} (h : CFun Try.prog f ar [hB m N, rowN ri, rowZ rp, rowZ rk] x [hB m' N, rowN ri', rowZ rp', rowZ rk']) {H : List (List AVal)} {a p q r : Nat}
    (d1 : a ≠ p) (d2 : a ≠ q) (d3 : a ≠ r) (d4 : p ≠ q) (d5 : p ≠ r) (d6 : q ≠ r) (ha : H[a]? = some [.osl p 0 m none 1, .osl q 0 N (some N) 1, .osl r 0 N (some N) 1]) (hp : H[p]? = some (rowN ri)) (hq : H[q]? = some (rowZ rp)) (hr : H[r]? = some (rowZ rk))
    (hl : ar.all (low 4) = true) (hx : noid x = true) : CFun Try.prog f (ar.map (ren (four a p q r))) H x ((((H.set a [.osl p 0 m' none 1, .osl q 0 N (some N) 1, .osl r 0 N (some N) 1]).set p (rowN ri')).set q (rowZ rp')).set r (rowZ rk')) := by
  have la := (List.getElem?_eq_some_iff.1 ha).1
  have lp := (List.getElem?_eq_some_iff.1 hp).1
  have lq := (List.getElem?_eq_some_iff.1 hq).1
  have lr := (List.getElem?_eq_some_iff.1 hr).1
  have h4 : ∀ i, i < 4 → i = 0 ∨ i = 1 ∨ i = 2 ∨ i = 3 := by omega
  have := h.lift (four a p q r) (H := H) (H' := (((H.set a [.osl p 0 m' none 1, .osl q 0 N (some N) 1, .osl r 0 N (some N) 1]).set p (rowN ri')).set q (rowZ rp')).set r (rowZ rk'))
    (fun i hi => by rcases h4 i hi with rfl | rfl | rfl | rfl <;> simp only [four] <;> assumption)
    (fun i j hi hj e => by
      rcases h4 i hi with rfl | rfl | rfl | rfl <;> rcases h4 j hj with rfl | rfl | rfl | rfl <;> simp only [four] at e <;> first | rfl | (exact absurd e (by assumption)) | (exact absurd e.symm (by assumption)))
    (fun i cs hi => by
      have hi4 : i < 4 := (List.getElem?_eq_some_iff.1 hi).1
      rcases h4 i hi4 with rfl | rfl | rfl | rfl <;> simp only [List.getElem?_cons_zero, List.getElem?_cons_succ, Option.some.injEq] at hi <;> subst hi <;> simp only [four]
      · exact ⟨ha, rfl⟩
      · rw [ren_rowN]; exact ⟨hp, low_rowN _ _⟩
      · rw [ren_rowZ]; exact ⟨hq, low_rowZ _ _⟩
      · rw [ren_rowZ]; exact ⟨hr, low_rowZ _ _⟩)
    hl (by simp)
    (fun i cs hi => by
      have hi4 : i < 4 := (List.getElem?_eq_some_iff.1 hi).1
      rcases h4 i hi4 with rfl | rfl | rfl | rfl <;> simp only [List.getElem?_cons_zero, List.getElem?_cons_succ, Option.some.injEq] at hi <;> subst hi
      · refine ⟨?_, rfl⟩
        show (List.set _ r _)[a]? = _
        rw [List.getElem?_set_ne d3.symm, List.getElem?_set_ne d2.symm, List.getElem?_set_ne d1.symm, List.getElem?_set_self la]
        rfl
      · rw [ren_rowN]
        refine ⟨?_, low_rowN _ _⟩
        show (List.set _ r _)[p]? = _
        rw [List.getElem?_set_ne d5.symm, List.getElem?_set_ne d4.symm, List.getElem?_set_self (by simpa using lp)]
      · rw [ren_rowZ]
        refine ⟨?_, low_rowZ _ _⟩
        show (List.set _ r _)[q]? = _
        rw [List.getElem?_set_ne d6.symm, List.getElem?_set_self (by simpa using lq)]
      · rw [ren_rowZ]
        refine ⟨?_, low_rowZ _ _⟩
        show (List.set _ r _)[r]? = _
        rw [List.getElem?_set_self (by simpa using lr)])
    (fun k hk hne => by
      have e0 := hne 0 (by simp)
      have e1 := hne 1 (by simp)
      have e2 := hne 2 (by simp)
      have e3 := hne 3 (by simp)
      simp only [four] at e0 e1 e2 e3
      rw [List.getElem?_set_ne e3, List.getElem?_set_ne e2, List.getElem?_set_ne e1, List.getElem?_set_ne e0])
    (noid_low hx)
  rwa [noid_ren hx] at this
section
variable (N : Nat) (jk : List Nat) (ks : List Int)
set_option maxHeartbeats 4000000 in
set_option maxRecDepth 10000 in
-- Set of a number that is there
theorem c65a (hk : ks.length = N) (n : Nat) (hn : n < 1000000) (its : List Nat) (hl : its.length = n) (hd : its.Nodup) (hN : ∀ x ∈ its, x < N) (x : Nat) (hx : x ∈ its) (v : Int) :
    CFun Try.prog 96 [.ptr 0 0, .int .i64 x, .int .i64 v] (hH N its jk ks) (.bool true) (hH N (settleH (ks.set x v) its (its.idxOf x)) jk (ks.set x v)) := by
  refine CFun.intro (tr := [200074]) (fz := []) (n := 75) (rs := [.tmp 6]) Try.func96 rfl (by kernel_rfl) rfl rfl mixed (by kernel_rfl) (by simp) (by simp) ?_
  have hxN := hN x hx
  have h := c74 N jk (ks.set x v) (by simpa using hk) n hn its hl hd hN (its.idxOf x) (by rw [← hl]; exact (get_idx hx).2)
  have e1 := rowZ_get (plOf_get its hxN)
  rw [if_pos hx] at e1
  have l0 := leN 4 (settleH (ks.set x v) its (its.idxOf x) ++ jk)
  have l2 := leI 4 (plOf N (settleH (ks.set x v) its (its.idxOf x)))
  have l3 := leI 4 (ks.set x v)
  have hsl : (settleH (ks.set x v) its (its.idxOf x)).length = n := by
    have hi := (get_idx hx).2
    have u := up_inv (ks := ks.set x v) (N := N) (f := its.idxOf x) hi
    unfold settleH
    rw [(down_inv (by rw [u.1.length_eq]; exact u.2)).length_eq, u.1.length_eq, hl]
  simp only [hH, hB, hl, hsl] at h ⊢
  generalize settleH (ks.set x v) its (its.idxOf x) = its' at *
  generalize its.idxOf x = i at *
  have q := rowZ_set ks x v
  have b0 : ¬ (x : Int) < 0 := by omega
  have b1 : ¬ (N : Int) ≤ x := by omega
  have b2 : ¬ (i : Int) < 0 := by omega
  have b3 : x + 1 ≤ ks.length := by omega
  have b4 : ¬ N ≤ x := by omega
  simp [b0, b1, b2, b3, b4, e1, hxN, q]
  refine ⟨_, _, .inl (by simpa using h), by simp, ?_⟩
  simp [l0, l2, l3]
end
end Go.Proofs.Ytpmmnnaaoideeaa
