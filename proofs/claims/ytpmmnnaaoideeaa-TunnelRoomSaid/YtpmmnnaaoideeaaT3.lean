/- The routes that are found: what they are. No program. -/
import Derived.Test.YtpmmnnaaoideeaaTC54
import Derived.Test.YtpmmnnaaoideeaaTC40
set_option linter.unusedSimpArgs false
set_option linter.unusedVariables false
namespace Go.Proofs.Ytpmmnnaaoideeaa
open Go Go.Am Go.Wk

theorem repI_iff (l : List Int) : ∀ k, k ≤ l.length → (repI l l.length k = true ↔ ∃ i, l.length - k ≤ i ∧ i < l.length ∧ l.getD i 0 ∈ l.take i) := by
  intro k
  induction k with
  | zero =>
    intro _
    simp only [repI]
    constructor
    · intro h; cases h
    · rintro ⟨i, h1, h2, _⟩; omega
  | succ k ih =>
    intro hk
    have ih := ih (by omega)
    simp only [repI]
    by_cases h : hasB (l.take (l.length - (k + 1))) (l.getD (l.length - (k + 1)) 0) = true
    · rw [if_pos h]
      rw [hasB_iff] at h
      exact ⟨fun _ => ⟨_, Nat.le_refl _, by omega, h⟩, fun _ => rfl⟩
    · rw [if_neg h, ih]
      rw [hasB_iff] at h
      constructor
      · rintro ⟨i, h1, h2, h3⟩; exact ⟨i, by omega, h2, h3⟩
      · rintro ⟨i, h1, h2, h3⟩
        refine ⟨i, ?_, h2, h3⟩
        by_cases e : i = l.length - (k + 1)
        · subst e; exact absurd h3 h
        · omega
theorem repB_iff (l : List Int) : repB l = true ↔ ¬ l.Nodup := by
  unfold repB
  rw [repI_iff l _ (Nat.le_refl _), Nat.sub_self]
  unfold List.Nodup
  rw [List.pairwise_iff_getElem]
  constructor
  · rintro ⟨i, _, h2, h3⟩ h
    obtain ⟨j, hj, he⟩ := List.getElem_of_mem h3
    simp only [List.length_take] at hj
    have := h j i (by omega) h2 (by omega)
    rw [List.getElem_take] at he
    rw [he, List.getD_eq_getElem?_getD, List.getElem?_eq_getElem h2] at this
    exact this rfl
  · intro h
    simp only [ne_eq, Classical.not_forall, Decidable.not_not] at h
    obtain ⟨i, j, h0, h2, h1, h3⟩ := h
    refine ⟨j, Nat.zero_le _, h2, ?_⟩
    rw [List.mem_iff_getElem?]
    refine ⟨i, ?_⟩
    rw [List.getElem?_take_of_lt h1, List.getElem?_eq_getElem h0, h3, List.getD_eq_getElem?_getD, List.getElem?_eq_getElem h2]
    rfl
/-- The links that may be used; the first state; the last one. -/
def usL (l : List Lnk) (c : Con) : List Lnk := l.filter fun x => usableN x c
def stF (n : Nat) (fr : Int) (c : Con) : Nat := entN c.Thru n fr.toNat 0
def stT (n : Nat) (to : Int) (c : Con) : Nat := c.Thru.length * n + to.toNat
def ndS (n : Nat) (fr : Int) (ys : List Nat) : List Int := fr :: ys.map (fun s => ((s % n : Nat) : Int))
theorem routeN_cases {N : Nat} {l : List Lnk} {fr to : Int} {c : Con} (g1 : checkE N l c = 0) (h1 : outN N fr = false) (h2 : outN N to = false) (h3 : hasB c.Avoid fr = false) :
    (routeN N l fr to c = ([], 0, 20) ∧ ∀ ys d, W (arcsN (usL l c) c.Thru N) (stF N fr c) ys d (stT N to c) → ¬ limH c.Hops ys.length) ∨
    ∃ ys d, Best (arcsN (usL l c) c.Thru N) (· % N) (limH c.Hops) (stF N fr c) (stT N to c) ys d ∧ routeN N l fr to c = if repB (ndS N fr ys) = true then ([], 0, 10) else (ndS N fr ys, (d : Int), 0) := by
  obtain ⟨n1, n2, l2, lk, cn⟩ := check_links g1
  obtain ⟨asc, _, lko⟩ := links_asc lk
  obtain ⟨c1, c2, c3, _⟩ := con_ok cn
  obtain ⟨f1, f2⟩ := out_false h1
  have hls : ∀ x ∈ l, okLk N x := fun x hx => (link_ok (lko x hx)).1
  have hw := walkN_best (ls := usL l c) (th := c.Thru) (n := N) (t := to.toNat) (from_ := fr.toNat) (most := c.Hops) (by omega) (usk hls) (asc.filter _) f2 c1
  unfold routeN
  rw [if_neg (by simpa using g1), if_neg (by simp [h1, h2]), if_neg (by simp [h3]), Int.toNat_natCast]
  rw [show (l.filter fun x => usableN x c) = usL l c from rfl]
  generalize walkN (usL l c) c.Thru N to.toNat fr.toNat c.Hops = R at *
  cases R with
  | none => exact .inl ⟨rfl, hw⟩
  | some p =>
    obtain ⟨ys, d, hb, e1, e2⟩ := hw
    refine .inr ⟨ys, d, hb, ?_⟩
    rw [← f1] at e1
    simp only [e1, e2]
    rfl
end Go.Proofs.Ytpmmnnaaoideeaa

/- Paths that fit are walks of states, and the other way round. No program. -/
namespace Go.Proofs.Ytpmmnnaaoideeaa
open Go Go.Am Go.Wk

def costN (l : List Lnk) : Int → List Int → Int
  | _, [] => 0
  | a, x :: xs => (findL l a x).1.Cost + costN l x xs
def endN : Int → List Int → Int
  | a, [] => a
  | _, x :: xs => endN x xs
theorem endN_last : ∀ (a : Int) (xs : List Int), (a :: xs)[xs.length]? = some (endN a xs)
  | a, [] => rfl
  | a, x :: xs => by simpa [endN] using endN_last x xs
theorem findL_of {l : List Lnk} (hs : l.Pairwise fun x y => x.From < y.From ∨ x.From = y.From ∧ x.To < y.To) {x : Lnk} (hx : x ∈ l) : findL l x.From x.To = (x, true) := by
  unfold findL
  cases hf : l.find? (isL x.From x.To) with
  | none => exact absurd (List.find?_eq_none.1 hf x hx) (by simp [isL])
  | some z =>
    have hz := List.find?_some hf
    simp only [isL, Bool.and_eq_true, decide_eq_true_eq] at hz
    have := find_least hs hf x hx (by simp [isL])
    rcases this with rfl | h1
    · rfl
    · omega
section
variable {l : List Lnk} {M : Nat} {c : Con} (hls : ∀ x ∈ l, okLk M x) (hs : l.Pairwise fun x y => x.From < y.From ∨ x.From = y.From ∧ x.To < y.To)
include hls
include hs
theorem walk_goR {s z d : Nat} {ys : List Nat} (h : W (arcsN (usL l c) c.Thru M) s ys d z) (hz : z / M = c.Thru.length) : goR l c (some ((s % M : Nat) : Int)) (s / M) (ndI (ys.map (· % M))) = true ∧ (d : Int) = costN l ((s % M : Nat) : Int) (ndI (ys.map (· % M))) ∧ ((z % M : Nat) : Int) = endN ((s % M : Nat) : Int) (ndI (ys.map (· % M))) := by
  induction h with
  | nil x => exact ⟨by simp [ndI, goR, hz], rfl, rfl⟩
  | @cons x y z' a ys' d' he hw ih =>
    obtain ⟨i1, i2, i3⟩ := ih hz
    have hus := usk hls (c := c)
    obtain ⟨hk, lk, q1, q2, q3, q4, q5, q6, q7⟩ := arc_inv (ls := usL l c) hus he
    obtain ⟨m1, m2⟩ := List.mem_filter.1 q1
    have hf := findL_of hs m1
    rw [q5, q6] at hf
    have hto : lk.To.toNat = y % M := by omega
    have ey := ent_div (th := c.Thru) (k := x / M) q7
    rw [← q3] at ey
    have e4 : (if c.Thru[x / M]? = some ((y % M : Nat) : Int) then x / M + 1 else x / M) = y / M := by
      rw [ey]; unfold entK; rw [hto]
    have hav : hasB c.Avoid ((y % M : Nat) : Int) = false := by
      rw [← q6]
      have hst : ¬ (c.Setup < 0 ∨ 7 < c.Setup) := fun q => by rw [usable_1 q] at m2; cases m2
      obtain ⟨i, hi⟩ : ∃ i : Nat, c.Setup = i := ⟨c.Setup.toNat, by omega⟩
      have hi8 : i < 8 := by omega
      have hbd : ¬ lk.Fr i < c.Band := fun q => by rw [usable_2 hi hi8 q] at m2; cases m2
      rw [usable_3 hi hi8 hbd] at m2
      split at m2
      · cases m2
      · split at m2
        · cases m2
        · simp only [Bool.and_eq_true, Bool.not_eq_true'] at m2
          exact m2.2
    simp only [ndI, List.map_cons] at i1 i2 i3 ⊢
    refine ⟨?_, ?_, ?_⟩
    · simp only [goR, hav, hf, m2, e4]
      simpa using i1
    · simp only [costN, hf]
      rw [← i2, ← q4]
      push_cast
      rfl
    · simp only [endN]
      exact i3
end
end Go.Proofs.Ytpmmnnaaoideeaa

/- Tunnels; the links that a path uses. -/
namespace Go.Proofs.Ytpmmnnaaoideeaa
open Go Go.Am Go.Wk

structure Tun where
  ID : Int
  From : Int
  To : Int
  W : Con
  P : List Int
@[simp] def cellsT (t : Tun) : List AVal := [.int .i64 t.ID, .int .i64 t.From, .int .i64 t.To, .int .i64 t.W.Band, .int .i64 t.W.Setup, .int .i64 t.W.Hold, .int .u32 t.W.Incl, .int .u32 t.W.Excl, .int .i64 t.W.Hops, .sl 1 (t.W.Avoid.map encI) .sh, .sl 1 (t.W.Thru.map encI) .sh, .sl 1 (t.P.map encI) .sh]
@[simp] def encT (t : Tun) : AVal := .agg (cellsT t)
theorem encT_enc : Enc cellsT 12 := ⟨by decide, fun _ => rfl, fun _ => rfl, fun _ => rfl⟩
/-- The place of the first link between two nodes, or -1. -/
def findI (l : List Lnk) (a b : Int) : Int := idxL (isL a b) l 0
def usesL (l : List Lnk) : List Int → List Int
  | [] => []
  | [_] => []
  | a :: b :: p => findI l a b :: usesL l (b :: p)
theorem usesL_drop {l : List Lnk} {p : List Int} {i : Nat} {x y : Int} (hx : p[i]? = some x) (hy : p[i + 1]? = some y) : usesL l (p.drop i) = findI l x y :: usesL l (p.drop (i + 1)) := by
  obtain ⟨k1, k2⟩ := List.getElem?_eq_some_iff.1 hx
  obtain ⟨k3, k4⟩ := List.getElem?_eq_some_iff.1 hy
  rw [List.drop_eq_getElem_cons k1, k2, List.drop_eq_getElem_cons k3, k4, usesL]
theorem usesL_short {l : List Lnk} {p : List Int} (h : p.length ≤ 1) : usesL l p = [] := by
  match p, h with
  | [], _ => rfl
  | [_], _ => rfl
theorem usesL_len (l : List Lnk) : ∀ p, (usesL l p).length = p.length - 1
  | [] => rfl
  | [_] => rfl
  | a :: b :: p => by simp only [usesL, List.length_cons, usesL_len l (b :: p)]; omega
set_option maxHeartbeats 1000000 in
set_option maxRecDepth 10000 in
-- the closure of find
theorem t83 (x : Lnk) (a b : Int) : CFun Try.prog 83 [encL x, .ptr 0 0, .ptr 1 0] [[.int .i64 a], [.int .i64 b]] (.bool (isL a b x)) [[.int .i64 a], [.int .i64 b]] := by
  refine CFun.intro (tr := []) (fz := []) (n := 15) (rs := [.tmp 4]) Try.func83 rfl (by kernel_rfl) rfl rfl mixed (by kernel_rfl) (by simp) (by simp) ?_
  unfold isL
  by_cases a1 : x.From = a
  · by_cases a2 : x.To = b
    · simp [a1, a2]
    · simp [a1, a2]
  · simp [a1]
set_option maxHeartbeats 4000000 in
set_option maxRecDepth 10000 in
-- slices.IndexFunc
theorem t82 (l : List Lnk) (k : Nat) (hk : l.length = k) (hk2 : k < 9223372036854775807) (a b : Int) :
    CFun Try.prog 82 [.sl 13 (l.map encL) .sh, .fn 83 [] [.ptr 0 0, .ptr 1 0]] [[.int .i64 a], [.int .i64 b]] (.int .i64 (findI l a b)) [[.int .i64 a], [.int .i64 b]] := by
  refine CFun.intro (tr := []) (fz := []) (n := 19) (rs := [.tmp 4]) Try.func82 rfl (by kernel_rfl) rfl rfl mixed (by kernel_rfl) (by simp) (by simp) ?_
  have h := fun y => t83 y a b
  unfold findI
  generalize isL a b = f at *
  simp
  refine LoopK.intro (tr := []) mixed (by kernel_rfl) (fun j : Nat => [(0, .sl 13 (l.map encL) .sh), (1, .fn 83 [] [.ptr 0 0, .ptr 1 0]), (7, .int .i64 k), (8, .int .i64 j)]) (fun _ => [[.int .i64 a], [.int .i64 b]]) (fun j => j ≤ k ∧ idxL f l 0 = idxL f (l.drop j) j) (fun j => k - j) 0 ?_ ?_ ?_
  · simp
  · simp [hk]
  · rintro j ⟨h1, h2⟩
    by_cases hj : j < k
    · obtain ⟨y, hy, hd⟩ := get_drop (l := l) (i := j) (by omega)
      rw [hd] at h2
      simp only [idxL] at h2
      have w1 : IntKind.i64.wrap ((j : Int) + 1) = j + 1 := wrap_in (by omega)
      clear hd
      have hyc := h y
      generalize f y = b at hyc h2
      simp [hj, hk, hy, gE hy]
      refine ⟨_, _, .inl (by simpa using hyc), by simp, ?_⟩
      cases b with
      | true => simp at h2; simp [h2]
      | false =>
        simp at h2
        simp [w1]
        exact ⟨j + 1, ⟨by omega, h2⟩, by omega, by simp⟩
    · have : j = k := by omega
      subst this
      rw [List.drop_eq_nil_of_le (by omega)] at h2
      simp [hk, h2, idxL]
set_option maxHeartbeats 4000000 in
set_option maxRecDepth 10000 in
-- tunnel.find
theorem t67 (l : List Lnk) (k : Nat) (hk : l.length = k) (hk2 : k < 9223372036854775807) (a b : Int) : CFun Try.prog 67 [.sl 13 (l.map encL) .sh, .int .i64 a, .int .i64 b] [] (.int .i64 (findI l a b)) [] := by
  refine CFun.intro (tr := []) (fz := []) (n := 10) (rs := [.tmp 6]) Try.func67 rfl (by kernel_rfl) rfl rfl mixed (by kernel_rfl) (by simp) (by simp) ?_
  have h := t82 l k hk hk2 a b
  simp
  refine ⟨_, _, .inl (by simpa using h), by simp, ?_⟩
  simp
set_option maxHeartbeats 4000000 in
set_option maxRecDepth 10000 in
-- tunnel.uses
theorem t41 (l : List Lnk) (k : Nat) (hk : l.length = k) (hk2 : k < 9223372036854775807) (p : List Int) (m : Nat) (hm : p.length = m) (hm2 : m < 1000000) : CFun Try.prog 41 [.sl 13 (l.map encL) .sh, .sl 1 (p.map encI) .sh] [] (.sl 1 ((usesL l p).map encI) .sh) [] := by
  refine CFun.intro (tr := [13]) (fz := []) (n := 28) (rs := [.tmp 4]) Try.func41 rfl (by kernel_rfl) rfl rfl mixed (by kernel_rfl) (by simp) (by simp) ?_
  have h := fun a b H => (t67 l k hk hk2 a b).up' H rfl rfl
  obtain ⟨T, hT⟩ : ∃ T, T = usesL l p := ⟨_, rfl⟩
  have hTl : T.length = m - 1 := by rw [hT, usesL_len, hm]
  rw [← hT]
  simp
  refine LoopK.intro (tr := [13]) mixed (by kernel_rfl) (fun s : Nat × List Int => [(0, .sl 13 (l.map encL) .sh), (1, .sl 1 (p.map encI) .sh), (5, .sl 1 (s.2.map encI) .own), (6, .int .i64 (s.1 + 1))]) (fun _ => [])
    (fun s => s.1 ≤ m ∧ T = s.2 ++ usesL l (p.drop s.1)) (fun s => m - s.1) (0, []) ?_ ?_ ?_
  · simp [hT]
  · simp
  · rintro ⟨i, us⟩ ⟨h1, h2⟩
    simp only at h1 h2
    have hul : us.length ≤ m := by
      have := congrArg List.length h2
      simp at this
      omega
    by_cases hi : i + 1 < m
    · obtain ⟨x, hx⟩ : ∃ x, p[i]? = some x := ⟨_, List.getElem?_eq_getElem (by omega)⟩
      obtain ⟨y, hy⟩ : ∃ y, p[i + 1]? = some y := ⟨_, List.getElem?_eq_getElem (by omega)⟩
      rw [usesL_drop hx hy] at h2
      have hf := h x y
      generalize findI l x y = f at *
      have w3 : IntKind.i64.wrap ((i : Int) + 1 + 1) = (i : Int) + 1 + 1 := wrap_in (by omega)
      have w4 : IntKind.i64.wrap (i : Int) = i := wrap_in (by omega)
      have hi' : (i : Int) + 1 < m := by omega
      have hi2 : i < m := by omega
      have hn : ((i : Int) + 1).toNat = i + 1 := by omega
      have s1 : us.length + 1 ≤ 140737488355328 := by omega
      have s2 : (us.length + 1) * 8 ≤ 140737488355328 := by omega
      simp [hi, hi', hi2, hm, hx, gE hx, hy, gE hy, w4, hn]
      refine ⟨_, _, .inl (by simpa [cargs] using hf _), by simp [cargs], ?_⟩
      simp [s1, s2, w3]
      exact ⟨i + 1, us ++ [f], ⟨by omega, by simp [h2]⟩, by omega, by simp⟩
    · have hi' : ¬ (i : Int) + 1 < m := by omega
      rw [usesL_short (by rw [List.length_drop]; omega), List.append_nil] at h2
      simp [hi, hi', hm, h2]
end Go.Proofs.Ytpmmnnaaoideeaa

/- What a tunnel takes; the links of a path; rows of links. -/
namespace Go.Proofs.Ytpmmnnaaoideeaa
open Go Go.Am Go.Wk

def ar8 (f : Nat → Int) : List Int := [f 0, f 1, f 2, f 3, f 4, f 5, f 6, f 7]
def arC (f : Nat → Int) : List AVal := (ar8 f).map encI
@[simp] theorem arC_len (f : Nat → Int) : (arC f).length = 8 := rfl
theorem arC_get (f : Nat → Int) {i : Nat} (h : i < 8) : (arC f)[i]? = some (.int .i64 (f i)) := by
  match i, h with
  | 0, _ | 1, _ | 2, _ | 3, _ | 4, _ | 5, _ | 6, _ | 7, _ => rfl
def updF (f : Nat → Int) (i : Nat) (v : Int) : Nat → Int := fun j => if j = i then v else f j
theorem arC_set (f : Nat → Int) {i : Nat} (h : i < 8) (v : Int) : (arC f).set i (.int .i64 v) = arC (updF f i v) := by
  match i, h with
  | 0, _ | 1, _ | 2, _ | 3, _ | 4, _ | 5, _ | 6, _ | 7, _ => rfl
theorem arC_ext {f g : Nat → Int} (h : ∀ i, i < 8 → f i = g i) : arC f = arC g := by
  simp only [arC, ar8]
  rw [h 0 (by omega), h 1 (by omega), h 2 (by omega), h 3 (by omega), h 4 (by omega), h 5 (by omega), h 6 (by omega), h 7 (by omega)]
@[simp] theorem arC_tree (f : Nat → Int) : (arC f).all AVal.tree = true := rfl
@[simp] theorem arC_treeF (f : Nat → Int) : (∀ c, c ∈ arC f → c.tree = true) = True := eq_true (List.all_eq_true.1 (arC_tree f))
@[simp] theorem arC_scal (f : Nat → Int) : (∀ c, c ∈ arC f → c.scalar = true) = True := eq_true (List.all_eq_true.1 (show (arC f).all AVal.scalar = true from rfl))
@[simp] theorem arC_noid (f : Nat → Int) : (arC f).all noid0 = true := rfl
@[simp] theorem arC_dis (f : Nat → Int) : (arC f).map AVal.dis = arC f := rfl
@[simp] theorem arC_le (n : Nat) (f : Nat → Int) : LeCells n (arC f) (arC f) := treeCells_le n (arC_tree f)
@[simp] theorem arC_les (f : Nat → Int) : All2 LeC (arC f) (arC f) := All2_refl LeC_refl _
@[simp] theorem arC_ne (f : Nat → Int) : arC f ≠ [] := by simp [arC, ar8]
@[simp] theorem arC_take (f : Nat → Int) : List.take 8 (arC f) = arC f := rfl
@[simp high] theorem arC_load (f : Nat → Int) : aload (some (true, 8)) (arC f) 0 = some (.agg (arC f)) := rfl
@[simp] theorem arC_setR (f : Nat → Int) (a1 a2 a3 a4 a5 a6 a7 a8 : AVal) : setR [a1, a2, a3, a4, a5, a6, a7, a8] 0 (arC f) = arC f := rfl
def zF : Nat → Int := fun _ => 0
def takenF (h : Int) (b : Int) : Nat → Int := fun k => if h ≤ k then b else 0
theorem arC_zero : arC zF = [.int .i64 0, .int .i64 0, .int .i64 0, .int .i64 0, .int .i64 0, .int .i64 0, .int .i64 0, .int .i64 0] := rfl
set_option maxHeartbeats 4000000 in
set_option maxRecDepth 10000 in
-- tunnel.taken
theorem t35 (c : Con) (h0 : 0 ≤ c.Hold) (h1 : inI c.Hold) : CFun Try.prog 35 [encC c] [] (.agg (arC (takenF c.Hold c.Band))) [] := by
  refine CFun.intro (tr := []) (fz := []) (n := 16) (rs := [.cell 2 64]) Try.func35 rfl (by kernel_rfl) rfl rfl mixed (by kernel_rfl) (by simp) (by simp) ?_
  obtain ⟨h, hh⟩ : ∃ h : Nat, c.Hold = h := ⟨c.Hold.toNat, by omega⟩
  unfold inI at h1
  rw [hh] at h1 ⊢
  simp [hh]
  refine LoopK.intro (tr := []) mixed (by kernel_rfl) (fun k : Nat => [(1, .ptr 0 0), (2, .ptr 1 0), (3, .ptr 2 0), (4, .int .i64 k)])
    (fun k => [[.int .i64 c.Band, .int .i64 c.Setup, .int .i64 h, .int .u32 c.Incl, .int .u32 c.Excl, .int .i64 c.Hops, .sl 1 (c.Avoid.map encI) .sh, .sl 1 (c.Thru.map encI) .sh], arC zF, arC (fun j => if h ≤ j ∧ j < k then c.Band else 0)]) (fun k => h ≤ k ∧ (k ≤ 8 ∨ k = h)) (fun k => 8 - k) h ?_ ?_ ?_
  · simp
  · have : arC (fun j => if h ≤ j ∧ j < h then c.Band else 0) = arC zF := arC_ext fun i _ => by rw [if_neg (by omega)]; rfl
    rw [this, arC_zero]
    simp
  · rintro k ⟨k1, k2⟩
    by_cases hk : k < 8
    · have hk' : (k : Int) < 8 := by omega
      have w1 : IntKind.i64.wrap ((k : Int) + 1) = k + 1 := wrap_in (by omega)
      have hs := arC_set (fun j => if h ≤ j ∧ j < k then c.Band else 0) hk c.Band
      have he : arC (updF (fun j => if h ≤ j ∧ j < k then c.Band else 0) k c.Band) = arC (fun j => if h ≤ j ∧ j < k + 1 then c.Band else 0) := arC_ext fun i _ => by
        unfold updF
        by_cases e : i = k
        · subst e; rw [if_pos rfl, if_pos (by omega)]
        · rw [if_neg e]
          by_cases e2 : h ≤ i ∧ i < k
          · simp only [if_pos e2, if_pos (show h ≤ i ∧ i < k + 1 by omega)]
          · simp only [if_neg e2, if_neg (show ¬ (h ≤ i ∧ i < k + 1) by omega)]
      rw [he] at hs
      have hk7 : k ≤ 7 := by omega
      simp [hk, hk', hk7, w1, hs]
      exact ⟨k + 1, ⟨by omega, by omega⟩, by omega, by simp⟩
    · have hk' : ¬ (k : Int) < 8 := by omega
      have he : arC (fun j => if h ≤ j ∧ j < k then c.Band else 0) = arC (takenF h c.Band) := arC_ext fun i hi => by
        unfold takenF
        by_cases e : h ≤ i
        · rw [if_pos (by omega), if_pos (by omega)]
        · rw [if_neg (by omega), if_neg (by omega)]
      rw [he, arC_zero]
      simp [hk, hk']
def pathE (l : List Lnk) (t : Tun) : Int := if t.W.Hold < 0 ∨ 7 < t.W.Hold ∨ t.W.Band < 0 ∨ 1099511627776 < t.W.Band then 5 else if hasB (usesL l t.P) (-1) = true then 20 else 0
set_option maxHeartbeats 4000000 in
set_option maxRecDepth 10000 in
-- tunnel.path
theorem t33 (l : List Lnk) (k : Nat) (hk : l.length = k) (hk2 : k < 9223372036854775807) (t : Tun) (m : Nat) (hm : t.P.length = m) (hm2 : m < 1000000) :
    CFun Try.prog 33 [.sl 13 (l.map encL) .sh, encT t] [] (.tup [.sl 1 ((if pathE l t = 0 then usesL l t.P else []).map encI) .sh, .int .i64 (pathE l t)]) [] := by
  refine CFun.intro (tr := []) (fz := []) (n := 35) (rs := [.tmp 4, .tmp 5]) Try.func33 rfl (by kernel_rfl) rfl rfl mixed (by kernel_rfl) (by simp) (by simp) ?_
  have h1 := fun H => (t41 l k hk hk2 t.P m hm hm2).up' H rfl rfl
  have h2 := fun H => (c24 (usesL l t.P) (m - 1) (by rw [usesL_len, hm]) (by omega) (-1)).up' H rfl rfl
  unfold pathE
  by_cases g1 : t.W.Hold < 0
  · simp [g1]
  by_cases g2 : 7 < t.W.Hold
  · simp [g1, g2]
  by_cases g3 : t.W.Band < 0
  · simp [g1, g2, g3]
  by_cases g4 : 1099511627776 < t.W.Band
  · simp [g1, g2, g3, g4]
  generalize usesL l t.P = us at *
  generalize hasB us (-1) = b at *
  simp [g1, g2, g3, g4]
  refine ⟨_, _, .inl (by simpa using h1 _), by simp, ?_⟩
  simp
  refine ⟨_, _, .inl (by simpa using h2 _), by simp, ?_⟩
  cases b <;> simp
def exceedsB (f a c : Int) : Bool := if f < 0 then decide (c < f + a) else decide (c < 0) || decide (c - a < f)
set_option maxHeartbeats 4000000 in
set_option maxRecDepth 10000 in
-- tunnel.exceeds
theorem t40 (f a c : Int) (hf : inI f) (ha : 0 ≤ a ∧ a ≤ 1099511627776) (hc : inI c) : CFun Try.prog 40 [.int .i64 f, .int .i64 a, .int .i64 c] [] (.bool (exceedsB f a c)) [] := by
  refine CFun.intro (tr := []) (fz := []) (n := 23) (rs := [.tmp 6]) Try.func40 rfl (by kernel_rfl) rfl rfl mixed (by kernel_rfl) (by simp) (by simp) ?_
  unfold exceedsB
  unfold inI at hf hc
  by_cases g1 : f < 0
  · have w1 : IntKind.i64.wrap (f + a) = f + a := wrap_in (by omega)
    simp [g1, w1]
  by_cases g2 : c < 0
  · simp [g1, g2]
  have w1 : IntKind.i64.wrap (c - a) = c - a := wrap_in (by omega)
  simp [g1, g2, w1]
end Go.Proofs.Ytpmmnnaaoideeaa

/- Reservations: what is taken of the links. -/
namespace Go.Proofs.Ytpmmnnaaoideeaa
open Go Go.Am Go.Wk

set_option maxHeartbeats 4000000 in
set_option maxRecDepth 10000 in
-- slices.Clone, as data
theorem t34d (l : List Lnk) (s1 : l.length * 104 ≤ 140737488355328) : CFun Try.prog 34 [.sl 13 (l.map encL) .sh] [] (.sl 13 (l.map encL) .sh) [] := by
  refine CFun.intro (tr := []) (fz := []) (n := 8) (rs := [.tmp 2]) Try.func34 rfl (by kernel_rfl) rfl rfl mixed (by kernel_rfl) (by simp) (by simp) ?_
  have s2 : l.length ≤ 140737488355328 := by omega
  cases l with
  | nil => simp
  | cons x xs =>
    simp only [List.length_cons] at s1 s2
    simp [s1, s2]
set_option maxHeartbeats 4000000 in
set_option maxRecDepth 10000 in
-- slices.Clone, as a row
theorem t34r (l : List Lnk) (hne : l ≠ []) (s1 : l.length * 104 ≤ 140737488355328) : CFun Try.prog 34 [.sl 13 (l.map encL) .sh] [] (.osl 0 0 l.length none 13) [rowC cellsL l] := by
  refine CFun.intro (tr := [100007]) (fz := []) (n := 8) (rs := [.tmp 2]) Try.func34 rfl (by kernel_rfl) rfl rfl mixed (by kernel_rfl) (by simp) (by simp) ?_
  have s2 : l.length ≤ 140737488355328 := by omega
  have s3 : 0 < l.length := List.length_pos_iff.2 hne
  have s4 : (l.map encL).isEmpty = false := by cases l <;> simp_all
  have s5 : (l.map encL).flatMap AVal.cells = rowC cellsL l := rowC_map (ce := cellsL) l
  simp [hne, s1, s2, s3, s4]
  rw [s5, encL_enc.rowDis]
  exact encL_enc.rowLe 1 l
set_option maxHeartbeats 4000000 in
set_option maxRecDepth 10000 in
theorem t34n : CFun Try.prog 34 [.sl 13 [] .sh] [] (.sl 13 [] .full) [] := by
  refine CFun.intro (tr := [100007]) (fz := []) (n := 8) (rs := [.tmp 2]) Try.func34 rfl (by kernel_rfl) rfl rfl mixed (by kernel_rfl) (by simp) (by simp) ?_
  simp
def setF (x : Lnk) (k : Nat) (v : Int) : Lnk := { x with Fr := updF x.Fr k v }
theorem cellsL_setF (x : Lnk) {k : Nat} (h : k < 8) (v : Int) : (cellsL x).set (4 + k) (.int .i64 v) = cellsL (setF x k v) := by
  match k, h with
  | 0, _ | 1, _ | 2, _ | 3, _ | 4, _ | 5, _ | 6, _ | 7, _ => rfl
theorem rowL_get {l : List Lnk} {i : Nat} {x : Lnk} (h : l[i]? = some x) {k : Nat} (hk : k < 8) : (rowC cellsL l)[i * 13 + 4 + k]? = some (.int .i64 (x.Fr k)) := by
  have h1 := (encL_enc.rowAt h []).1
  rw [List.append_nil] at h1
  have h2 : (((rowC cellsL l).drop (i * 13)).take 13)[4 + k]? = some (.int .i64 (x.Fr k)) := by rw [h1]; exact cellsL_fr x hk
  rw [List.getElem?_take_of_lt (by omega), List.getElem?_drop] at h2
  rw [Nat.add_assoc]
  exact h2
theorem rowL_cap {l : List Lnk} {i : Nat} {x : Lnk} (h : l[i]? = some x) : (rowC cellsL l)[i * 13 + 3]? = some (.int .i64 x.Cap) := by
  have h1 := (encL_enc.rowAt h []).1
  rw [List.append_nil] at h1
  have h2 : (((rowC cellsL l).drop (i * 13)).take 13)[3]? = some (.int .i64 x.Cap) := by rw [h1]; rfl
  rw [List.getElem?_take_of_lt (by omega), List.getElem?_drop] at h2
  exact h2
theorem rowL_set {l : List Lnk} {i : Nat} {x : Lnk} (h : l[i]? = some x) {k : Nat} (hk : k < 8) (v : Int) : (rowC cellsL l).set (i * 13 + 4 + k) (.int .i64 v) = rowC cellsL (l.set i (setF x k v)) := by
  induction l generalizing i with
  | nil => simp at h
  | cons y l ih =>
    cases i with
    | zero =>
      simp at h
      subst h
      rw [rowC_cons, Nat.zero_mul, Nat.zero_add, List.set_append_left _ _ (by simp; omega), cellsL_setF _ hk, List.set_cons_zero, rowC_cons]
    | succ i =>
      rw [rowC_cons, List.set_append_right _ _ (by simp; omega), cellsL_len, List.set_cons_succ, rowC_cons]
      rw [show (i + 1) * 13 + 4 + k - 13 = i * 13 + 4 + k by omega, ih (by simpa using h)]
theorem findI_range (l : List Lnk) (a b : Int) : -1 ≤ findI l a b ∧ findI l a b < l.length := by
  have : ∀ (l : List Lnk) (i : Nat), -1 ≤ idxL (isL a b) l i ∧ idxL (isL a b) l i < (i + l.length : Nat) := by
    intro l
    induction l with
    | nil => intro i; simp [idxL]; omega
    | cons x l ih =>
      intro i
      simp only [idxL]
      split
      · simp; omega
      · have := ih (i + 1)
        simp only [List.length_cons]
        omega
  simpa [findI] using this l 0
theorem usesL_range (l : List Lnk) : ∀ p, ∀ u ∈ usesL l p, -1 ≤ u ∧ u < l.length
  | [], u, h => by simp [usesL] at h
  | [_], u, h => by simp [usesL] at h
  | a :: b :: p, u, h => by
    simp only [usesL, List.mem_cons] at h
    rcases h with rfl | h
    · exact findI_range l a b
    · exact usesL_range l (b :: p) u h
/-- All links of a path exist. -/
theorem pathE_ok {l : List Lnk} {t : Tun} (h : pathE l t = 0) : (0 ≤ t.W.Hold ∧ t.W.Hold ≤ 7) ∧ (0 ≤ t.W.Band ∧ t.W.Band ≤ 1099511627776) ∧ ∀ u ∈ usesL l t.P, 0 ≤ u ∧ u < l.length := by
  unfold pathE at h
  by_cases g : t.W.Hold < 0 ∨ 7 < t.W.Hold ∨ t.W.Band < 0 ∨ 1099511627776 < t.W.Band
  · rw [if_pos g] at h; cases h
  rw [if_neg g] at h
  refine ⟨by omega, by omega, fun u hu => ?_⟩
  have h1 := usesL_range l t.P u hu
  have h2 : ¬ hasB (usesL l t.P) (-1) = true := by
    intro e; rw [if_pos e] at h; cases h
  rw [hasB_iff] at h2
  have : u ≠ -1 := fun e => h2 (e ▸ hu)
  omega
def roomB (l : List Lnk) (b : Int) (us : List Int) : Bool := us.all fun i => decide (b ≤ (l.getD i.toNat lnk0).Fr 7)
/-- From level 8 - f on. -/
def takeK (b : Int) : Nat → Lnk → Option Lnk
  | 0, x => some x
  | f + 1, x => if x.Fr (8 - (f + 1)) < b then none else takeK b f (setF x (8 - (f + 1)) (x.Fr (8 - (f + 1)) - b))
def takeA (b : Int) (h : Nat) : List Int → List Lnk → Option (List Lnk)
  | [], l => some l
  | i :: us, l => match takeK b (8 - h) (l.getD i.toNat lnk0) with
    | none => none
    | some x => takeA b h us (l.set i.toNat x)
def resN (l : List Lnk) (t : Tun) : List Lnk × Int :=
  if pathE l t ≠ 0 then ([], pathE l t) else if roomB l t.W.Band (usesL l t.P) = false then ([], 19)
  else match takeA t.W.Band t.W.Hold.toNat (usesL l t.P) l with
    | none => ([], 19)
    | some o => (o, 0)
end Go.Proofs.Ytpmmnnaaoideeaa
