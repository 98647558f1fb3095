/- The routes that are found: what they are. No program. -/
import Derived.Test.YtgcnlmcpmocbhaaC58
set_option linter.unusedSimpArgs false
set_option linter.unusedVariables false
namespace Go.Proofs.Ytgcnlmcpmocbhaa
open Go Go.Am Go.Wk

theorem repI_iff (l : List Int) : ∀ k, k ≤ l.length → (repI l l.length k = true ↔ ∃ i, l.length - k ≤ i ∧ i < l.length ∧ l.getD i 0 ∈ l.take i) := by
  intro k
  induction k with
  | zero =>
    intro _
    simp only [repI]
    constructor
    · intro h; cases h
    · rintro ⟨i, h1, h2, _⟩; omega
  | succ k ih =>
    intro hk
    have ih := ih (by omega)
    simp only [repI]
    by_cases h : hasB (l.take (l.length - (k + 1))) (l.getD (l.length - (k + 1)) 0) = true
    · rw [if_pos h]
      rw [hasB_iff] at h
      exact ⟨fun _ => ⟨_, Nat.le_refl _, by omega, h⟩, fun _ => rfl⟩
    · rw [if_neg h, ih]
      rw [hasB_iff] at h
      constructor
      · rintro ⟨i, h1, h2, h3⟩; exact ⟨i, by omega, h2, h3⟩
      · rintro ⟨i, h1, h2, h3⟩
        refine ⟨i, ?_, h2, h3⟩
        by_cases e : i = l.length - (k + 1)
        · subst e; exact absurd h3 h
        · omega
theorem repB_iff (l : List Int) : repB l = true ↔ ¬ l.Nodup := by
  unfold repB
  rw [repI_iff l _ (Nat.le_refl _), Nat.sub_self]
  unfold List.Nodup
  rw [List.pairwise_iff_getElem]
  constructor
  · rintro ⟨i, _, h2, h3⟩ h
    obtain ⟨j, hj, he⟩ := List.getElem_of_mem h3
    simp only [List.length_take] at hj
    have := h j i (by omega) h2 (by omega)
    rw [List.getElem_take] at he
    rw [he, List.getD_eq_getElem?_getD, List.getElem?_eq_getElem h2] at this
    exact this rfl
  · intro h
    simp only [ne_eq, Classical.not_forall, Decidable.not_not] at h
    obtain ⟨i, j, h0, h2, h1, h3⟩ := h
    refine ⟨j, Nat.zero_le _, h2, ?_⟩
    rw [List.mem_iff_getElem?]
    refine ⟨i, ?_⟩
    rw [List.getElem?_take_of_lt h1, List.getElem?_eq_getElem h0, h3, List.getD_eq_getElem?_getD, List.getElem?_eq_getElem h2]
    rfl
theorem repB_false {l : List Int} (h : l.Nodup) : repB l = false := by
  cases hr : repB l with
  | false => rfl
  | true => exact absurd h ((repB_iff l).1 hr)
/-- The links that may be used; the first state; the last one. -/
def usL (l : List Lnk) (c : Con) : List Lnk := l.filter fun x => usableN x c
def stF (n : Nat) (fr : Int) (c : Con) : Nat := entN c.Thru n fr.toNat 0
def stT (n : Nat) (to : Int) (c : Con) : Nat := c.Thru.length * n + to.toNat
def ndS (n : Nat) (fr : Int) (ys : List Nat) : List Int := fr :: ys.map (fun s => ((s % n : Nat) : Int))
theorem routeN_cases {N : Nat} {l : List Lnk} {fr to : Int} {c : Con} (g1 : checkE N l c = 0) (h1 : outN N fr = false) (h2 : outN N to = false) (h3 : hasB c.Avoid fr = false) :
    (routeN N l fr to c = ([], 0, 20) ∧ ∀ ys d, W (arcsN (usL l c) c.Thru N) (stF N fr c) ys d (stT N to c) → ¬ limH c.Hops ys.length) ∨
    ∃ ys d, Best (arcsN (usL l c) c.Thru N) (· % N) (limH c.Hops) (stF N fr c) (stT N to c) ys d ∧ routeN N l fr to c = if repB (ndS N fr ys) = true then ([], 0, 10) else (ndS N fr ys, (d : Int), 0) := by
  obtain ⟨n1, n2, l2, lk, cn⟩ := check_links g1
  obtain ⟨asc, _, lko⟩ := links_asc lk
  obtain ⟨c1, c2, c3, _⟩ := con_ok cn
  obtain ⟨f1, f2⟩ := out_false h1
  have hls : ∀ x ∈ l, okLk N x := fun x hx => (link_ok (lko x hx)).1
  have hw := walkN_best (ls := usL l c) (th := c.Thru) (n := N) (t := to.toNat) (from_ := fr.toNat) (most := c.Hops) (by omega) (usk hls) (asc.filter _) f2 c1
  unfold routeN
  rw [if_neg (by simpa using g1), if_neg (by simp [h1, h2]), if_neg (by simp [h3]), Int.toNat_natCast]
  rw [show (l.filter fun x => usableN x c) = usL l c from rfl]
  generalize walkN (usL l c) c.Thru N to.toNat fr.toNat c.Hops = R at *
  cases R with
  | none => exact .inl ⟨rfl, hw⟩
  | some p =>
    obtain ⟨ys, d, hb, e1, e2⟩ := hw
    refine .inr ⟨ys, d, hb, ?_⟩
    rw [← f1] at e1
    simp only [e1, e2]
    rfl
theorem checkE_ne {n : Int} {l : List Lnk} {c : Con} : checkE n l c ≠ 10 := by
  have hl : ∀ (l : List Lnk) (p : Option Lnk), linksE n p l ≠ 10 := by
    intro l
    induction l with
    | nil => intro p; simp [linksE]
    | cons x l ih =>
      intro p
      simp only [linksE]
      have hx : linkE n x ≠ 10 := by unfold linkE; split; decide; split; decide; split; decide; split; decide; split <;> decide
      split
      · exact hx
      · split
        · decide
        · exact ih _
  unfold checkE
  split
  · decide
  split
  · decide
  split
  · exact hl _ _
  · unfold conE; split; decide; split; decide; split; decide; split <;> decide
/-- Without nodes to go through, a least walk has no node twice. -/
theorem best_nodup {N : Nat} {l : List Lnk} {fr to : Int} {c : Con} (hls : ∀ x ∈ l, okLk N x) (h1 : outN N fr = false) (ht : c.Thru = []) {ys : List Nat} {d : Nat} (hb : Best (arcsN (usL l c) c.Thru N) (· % N) (limH c.Hops) (stF N fr c) (stT N to c) ys d) : repB (ndS N fr ys) = false := by
  have hus := usk hls (c := c)
  have hE : ∀ a ∈ arcsN (usL l c) c.Thru N, 1 ≤ a.2.2 := fun a ha => (arcs_bound hus ha).2.2.1
  have hE2 : ∀ a ∈ arcsN (usL l c) c.Thru N, a.2.1 < N * (c.Thru.length + 1) := fun a ha => (arcs_bound hus ha).2.1
  obtain ⟨f1, f2⟩ := out_false h1
  have hs := hb.simple hE (limH_mono _)
  have e0 : stF N fr c = fr.toNat := by simp [stF, entN, entK, ht]
  have hy : ∀ y ∈ ys, y < N := fun y hy => by
    obtain ⟨u, a, hu⟩ := hb.w.mem hy
    have := hE2 _ hu
    rw [ht] at this
    simpa using this
  refine repB_false ?_
  have e1 : ndS N fr ys = (stF N fr c :: ys).map (fun s => ((s : Nat) : Int)) := by
    unfold ndS
    rw [List.map_cons, e0, ← f1]
    congr 1
    apply List.map_congr_left
    intro y h
    rw [Nat.mod_eq_of_lt (hy y h)]
  rw [e1]
  unfold List.Nodup at hs ⊢
  rw [List.pairwise_map]
  exact hs.imp fun h e => h (by exact_mod_cast e)
/-- A constraint that asks for less. -/
def lessC (c : Con) (b : Int) : Con := ⟨b, c.Setup, c.Hold, c.Incl, c.Excl, 0, [], c.Thru⟩
theorem less_law {N : Int} {l : List Lnk} {fr to : Int} {c : Con} (ht : c.Thru = []) {b : Int} (b0 : 0 ≤ c.Band → 0 ≤ b) (b1 : c.Band < 0 ∨ b ≤ c.Band) :
    ((routeN N l fr to c).2.2 ≠ 0 → (routeN N l fr to c).2.2 ≠ 10) ∧ ((routeN N l fr to c).2.2 = 0 → (routeN N l fr to (lessC c b)).2.2 = 0 ∧ (routeN N l fr to (lessC c b)).2.1 ≤ (routeN N l fr to c).2.1) := by
  by_cases g1 : checkE N l c = 0
  case neg =>
    have e : routeN N l fr to c = ([], 0, checkE N l c) := by unfold routeN; rw [if_pos g1]
    rw [e]
    exact ⟨fun _ => checkE_ne, fun h => absurd h g1⟩
  by_cases o : (outN N fr || outN N to) = true
  · have e : routeN N l fr to c = ([], 0, 5) := by unfold routeN; rw [if_neg (by simpa using g1), if_pos o]
    rw [e]
    exact ⟨fun _ => by decide, fun h => by simp at h⟩
  by_cases a : hasB c.Avoid fr = true
  · have e : routeN N l fr to c = ([], 0, 20) := by unfold routeN; rw [if_neg (by simpa using g1), if_neg o, if_pos a]
    rw [e]
    exact ⟨fun _ => by decide, fun h => by simp at h⟩
  have a' : hasB c.Avoid fr = false := by simpa using a
  simp only [Bool.or_eq_true, not_or, Bool.not_eq_true] at o
  obtain ⟨n1, n2, l2, lk, cn⟩ := check_links g1
  obtain ⟨asc, _, lko⟩ := links_asc lk
  obtain ⟨M, hM⟩ : ∃ M : Nat, N = M := ⟨N.toNat, by omega⟩
  subst hM
  have hls : ∀ x ∈ l, okLk M x := fun x hx => (link_ok (lko x hx)).1
  rcases routeN_cases g1 o.1 o.2 a' with ⟨e, _⟩ | ⟨ys, d, hb, e⟩
  · rw [e]
    exact ⟨fun _ => by decide, fun h => by simp at h⟩
  rw [best_nodup hls o.1 ht hb, if_neg (by simp)] at e
  rw [e]
  refine ⟨fun h => absurd rfl h, fun _ => ?_⟩
  have cn' : conE M (lessC c b) = 0 := by
    unfold conE at cn ⊢
    by_cases q1 : c.Band < 0 ∨ 1099511627776 < c.Band ∨ c.Setup < 0 ∨ 7 < c.Setup ∨ c.Hold < 0 ∨ 7 < c.Hold ∨ c.Hops < 0
    · rw [if_pos q1] at cn; cases cn
    rw [if_neg q1] at cn
    by_cases q2 : c.Setup < c.Hold
    · rw [if_pos q2] at cn; cases cn
    have b0' := b0 (by omega)
    have q1' : ¬ ((lessC c b).Band < 0 ∨ 1099511627776 < (lessC c b).Band ∨ (lessC c b).Setup < 0 ∨ 7 < (lessC c b).Setup ∨ (lessC c b).Hold < 0 ∨ 7 < (lessC c b).Hold ∨ (lessC c b).Hops < 0) := by
      simp only [lessC]; omega
    rw [if_neg q1', if_neg (show ¬ (lessC c b).Setup < (lessC c b).Hold from q2)]
    simp [lessC, ht]
  have g2 : checkE M l (lessC c b) = 0 := by
    unfold checkE
    rw [if_neg (by omega), if_neg (by omega), if_neg (by simpa using lk)]
    exact cn'
  have hW : W (arcsN (usL l (lessC c b)) (lessC c b).Thru M) (stF M fr (lessC c b)) ys d (stT M to (lessC c b)) := by
    refine hb.w.mono fun a ha => ?_
    obtain ⟨k, h1, x, h2, h3⟩ := arc_mem.1 ha
    refine arc_mem.2 ⟨k, h1, x, ?_, h3⟩
    obtain ⟨m1, m2⟩ := List.mem_filter.1 h2
    refine List.mem_filter.2 ⟨m1, ?_⟩
    have hs : ¬ (c.Setup < 0 ∨ 7 < c.Setup) := by
      intro q; rw [usable_1 q] at m2; cases m2
    obtain ⟨i, hi⟩ : ∃ i : Nat, c.Setup = i := ⟨c.Setup.toNat, by omega⟩
    have hi8 : i < 8 := by omega
    have hbd : ¬ x.Fr i < c.Band := by
      intro q; rw [usable_2 hi hi8 q] at m2; cases m2
    have hbn : 0 ≤ c.Band := (con_ok cn).2.2.2.2.2
    show usableN x (lessC c b) = true
    rw [usable_3 hi hi8 hbd] at m2
    rw [usable_3 (c := lessC c b) hi hi8 (by show ¬ x.Fr i < b; omega)]
    show (if andW c.Excl x.Aff ≠ 0 then false else if c.Incl ≠ 0 ∧ andW c.Incl x.Aff = 0 then false else !hasB [] x.From && !hasB [] x.To) = true
    split at m2
    · cases m2
    · rename_i q1
      rw [if_neg q1]
      split at m2
      · cases m2
      · rename_i q2
        rw [if_neg q2]
        rfl
  have hl0 : limH (lessC c b).Hops ys.length := .inl rfl
  rcases routeN_cases (c := lessC c b) g2 o.1 o.2 rfl with ⟨_, h⟩ | ⟨zs, d', hb', e'⟩
  · exact absurd hl0 (h _ _ hW)
  · rw [best_nodup (c := lessC c b) hls o.1 ht hb', if_neg (by simp)] at e'
    rw [e']
    refine ⟨rfl, ?_⟩
    rcases hb'.le _ _ hW hl0 with h | ⟨h, _⟩
    · simp only; omega
    · simp only; omega
end Go.Proofs.Ytgcnlmcpmocbhaa

/- The law of less, by the program. -/
namespace Go.Proofs.Ytgcnlmcpmocbhaa
open Go Go.Am Go.Wk

theorem c15L (l : List Lnk) (m : Nat) (hm : l.length = m) (hm2 : m < 9223372036854775807) (c : Con) (q : Nat) (hq : c.Thru.length = q) (hq2 : q < 9223372036854775807) (n fr to b : Int) :
    CFun Try.prog 15 [.int .i64 n, .sl 13 (l.map encL) .sh, .int .i64 fr, .int .i64 to, .agg [.int .i64 b, .int .i64 c.Setup, .int .i64 c.Hold, .int .u32 c.Incl, .int .u32 c.Excl, .int .i64 0, .sl 0 [] .full, .sl 1 (c.Thru.map encI) .sh]] [] (encRt (routeN n l fr to (lessC c b))) [] := by
  have := c15 l m hm hm2 (lessC c b) 0 q rfl hq (by decide) hq2 n fr to
  exact this.wk _ (by simp [noid, noid0]) ⟨LeS_refl _, LeS_refl _, LeS_refl _, LeS_refl _, by simp [lessC, LeS, LeC], trivial⟩
set_option maxHeartbeats 4000000 in
set_option maxRecDepth 10000 in
theorem c8 (n : Int) (l : List Lnk) (m : Nat) (hm : l.length = m) (hm2 : m < 9223372036854775807) (fr to : Int) (c : Con) (p q : Nat) (hp : c.Avoid.length = p) (hq : c.Thru.length = q) (hp2 : p < 9223372036854775807) (hq2 : q < 9223372036854775807) (less : Int) :
    CFun Try.prog 8 [.int .i64 n, .sl 13 (l.map encL) .sh, .int .i64 fr, .int .i64 to, encC c, .int .i64 less] [] (.bool true) [] := by
  refine CFun.intro (tr := []) (fz := []) (n := 77) (rs := [.tmp 12]) Try.func8 rfl (by kernel_rfl) rfl rfl mixed (by kernel_rfl) (by simp) (by simp) ?_
  have h11 := fun H => c11.up' H rfl rfl
  have h14 := fun H => (c14 n l m hm c p q hp hq).up' H (by simp [noid, noid0]) rfl
  have h15 := fun H => (c15 l m hm hm2 c p q hp hq hp2 hq2 n fr to).up' H (by simp [noid, noid0]) rfl
  by_cases b : largeB n l c = true
  · rw [b] at h14
    simp
    refine ⟨_, _, .inl (by simpa using h14 _), by simp, ?_⟩
    simp
    refine ⟨_, _, .inl (by simpa using h11 _), by simp, ?_⟩
    simp
  have b' : largeB n l c = false := by simpa using b
  rw [b'] at h14
  by_cases q0 : q = 0
  case neg =>
    have q1 : 0 < q := by omega
    simp
    refine ⟨_, _, .inl (by simpa using h14 _), by simp, ?_⟩
    simp [hq, q1]
    refine ⟨_, _, .inl (by simpa using h11 _), by simp, ?_⟩
    simp
  have ht : c.Thru = [] := List.length_eq_zero_iff.1 (by omega)
  obtain ⟨M, hM⟩ : ∃ M : Int, M = if less < 0 then 0 else less := ⟨_, rfl⟩
  obtain ⟨B, hB⟩ : ∃ B : Int, B = if c.Band < M then c.Band else M := ⟨_, rfl⟩
  have hM0 : 0 ≤ M := by rw [hM]; split <;> omega
  have hL := less_law (N := n) (l := l) (fr := fr) (to := to) ht (b := B) (fun h => by rw [hB]; split <;> omega) (.inr (by rw [hB]; split <;> omega))
  have h15' := fun H => (c15L l m hm hm2 c q hq hq2 n fr to B).up' H (by simp [noid, noid0]) rfl
  have hmx : (if less < 0 then (0 : Int) else less) = M := hM.symm
  have hmn : (if c.Band < M then c.Band else M) = B := hB.symm
  generalize routeN n l fr to c = R at *
  generalize routeN n l fr to (lessC c B) = R' at *
  simp
  refine ⟨_, _, .inl (by simpa using h14 _), by simp, ?_⟩
  simp [hq, q0]
  refine ⟨_, _, .inl (by simpa using h15 _), by simp, ?_⟩
  by_cases e : R.2.2 = 0
  · obtain ⟨k1, k2⟩ := hL.2 e
    simp [e, hmx, hmn]
    refine ⟨_, _, .inl (by simpa using h15' _), by simp, ?_⟩
    simp
    refine ⟨_, _, .inl (by simpa using h11 _), by simp, ?_⟩
    simp [k1, k2]
  · have k := hL.1 e
    simp [e]
    refine ⟨_, _, .inl (by simpa using h11 _), by simp, ?_⟩
    simp [k]
end Go.Proofs.Ytgcnlmcpmocbhaa

/- Paths that fit are walks of states, and the other way round. No program. -/
namespace Go.Proofs.Ytgcnlmcpmocbhaa
open Go Go.Am Go.Wk

def costN (l : List Lnk) : Int → List Int → Int
  | _, [] => 0
  | a, x :: xs => (findL l a x).1.Cost + costN l x xs
def costP (l : List Lnk) : List Int → Int
  | [] => 0
  | a :: xs => costN l a xs
def endN : Int → List Int → Int
  | a, [] => a
  | _, x :: xs => endN x xs
theorem endN_last : ∀ (a : Int) (xs : List Int), (a :: xs)[xs.length]? = some (endN a xs)
  | a, [] => rfl
  | a, x :: xs => by simpa [endN] using endN_last x xs
theorem findL_of {l : List Lnk} (hs : l.Pairwise fun x y => x.From < y.From ∨ x.From = y.From ∧ x.To < y.To) {x : Lnk} (hx : x ∈ l) : findL l x.From x.To = (x, true) := by
  unfold findL
  cases hf : l.find? (isL x.From x.To) with
  | none => exact absurd (List.find?_eq_none.1 hf x hx) (by simp [isL])
  | some z =>
    have hz := List.find?_some hf
    simp only [isL, Bool.and_eq_true, decide_eq_true_eq] at hz
    have := find_least hs hf x hx (by simp [isL])
    rcases this with rfl | h1
    · rfl
    · omega
theorem findL_mem {l : List Lnk} {a b : Int} (h : (findL l a b).2 = true) : (findL l a b).1 ∈ l ∧ (findL l a b).1.From = a ∧ (findL l a b).1.To = b := by
  unfold findL at h ⊢
  cases hf : l.find? (isL a b) with
  | none => rw [hf] at h; cases h
  | some z =>
    have hz := List.find?_some hf
    simp only [isL, Bool.and_eq_true, decide_eq_true_eq] at hz
    exact ⟨List.mem_of_find?_eq_some hf, hz.1, hz.2⟩
section
variable {l : List Lnk} {M : Nat} {c : Con} (hls : ∀ x ∈ l, okLk M x) (hs : l.Pairwise fun x y => x.From < y.From ∨ x.From = y.From ∧ x.To < y.To)
include hls
theorem goR_walk : ∀ (xs : List Int) (s : Nat), s / M ≤ c.Thru.length → goR l c (some ((s % M : Nat) : Int)) (s / M) xs = true →
    ∃ ys d z, W (arcsN (usL l c) c.Thru M) s ys d z ∧ ndI (ys.map (· % M)) = xs ∧ (d : Int) = costN l ((s % M : Nat) : Int) xs ∧ z / M = c.Thru.length ∧ ((z % M : Nat) : Int) = endN ((s % M : Nat) : Int) xs := by
  intro xs
  induction xs with
  | nil =>
    intro s hk h
    simp only [goR, decide_eq_true_eq] at h
    exact ⟨[], 0, s, .nil _, rfl, rfl, h, rfl⟩
  | cons x xs ih =>
    intro s hk h
    simp only [goR] at h
    split at h
    · cases h
    split at h
    · cases h
    rename_i ha hb
    simp only [Bool.not_eq_true, Bool.not_eq_false', Bool.and_eq_true] at hb
    obtain ⟨m1, m2, m3⟩ := findL_mem hb.1
    have hu := hb.2
    generalize hlk : (findL l ((s % M : Nat) : Int) x).1 = lk at *
    obtain ⟨o1, o2, o3, o4, o5, o6⟩ := hls lk m1
    have hmu : lk ∈ usL l c := List.mem_filter.2 ⟨m1, hu⟩
    have harc := arc_of (th := c.Thru) hk hmu (show lk.From.toNat = s % M by omega)
    have hto : lk.To.toNat < M := by omega
    have e1 := ent_div (th := c.Thru) (k := s / M) hto
    have e2 := ent_mod (th := c.Thru) (k := s / M) hto
    have e3 : ((entN c.Thru M lk.To.toNat (s / M) % M : Nat) : Int) = x := by rw [e2]; omega
    have e4 : (if c.Thru[s / M]? = some x then s / M + 1 else s / M) = entN c.Thru M lk.To.toNat (s / M) / M := by
      rw [e1]; unfold entK
      have : ((lk.To.toNat : Nat) : Int) = x := by omega
      rw [this]
    rw [e4, ← e3] at h
    obtain ⟨ys, d, z, w1, w2, w3, w4, w5⟩ := ih _ (by rw [e1]; exact entK_len hk) h
    refine ⟨_ :: ys, lk.Cost.toNat + d, z, .cons harc w1, ?_, ?_, w4, ?_⟩
    · simp only [ndI, List.map_cons] at w2 ⊢
      rw [w2, e3]
    · simp only [costN, hlk]
      rw [e3] at w3
      rw [← w3]
      omega
    · simp only [endN]
      rw [e3] at w5
      exact w5
include hs
theorem walk_goR {s z d : Nat} {ys : List Nat} (h : W (arcsN (usL l c) c.Thru M) s ys d z) (hz : z / M = c.Thru.length) : goR l c (some ((s % M : Nat) : Int)) (s / M) (ndI (ys.map (· % M))) = true ∧ (d : Int) = costN l ((s % M : Nat) : Int) (ndI (ys.map (· % M))) ∧ ((z % M : Nat) : Int) = endN ((s % M : Nat) : Int) (ndI (ys.map (· % M))) := by
  induction h with
  | nil x => exact ⟨by simp [ndI, goR, hz], rfl, rfl⟩
  | @cons x y z' a ys' d' he hw ih =>
    obtain ⟨i1, i2, i3⟩ := ih hz
    have hus := usk hls (c := c)
    obtain ⟨hk, lk, q1, q2, q3, q4, q5, q6, q7⟩ := arc_inv (ls := usL l c) hus he
    obtain ⟨m1, m2⟩ := List.mem_filter.1 q1
    have hf := findL_of hs m1
    rw [q5, q6] at hf
    have hto : lk.To.toNat = y % M := by omega
    have ey := ent_div (th := c.Thru) (k := x / M) q7
    rw [← q3] at ey
    have e4 : (if c.Thru[x / M]? = some ((y % M : Nat) : Int) then x / M + 1 else x / M) = y / M := by
      rw [ey]; unfold entK; rw [hto]
    have hav : hasB c.Avoid ((y % M : Nat) : Int) = false := by
      rw [← q6]
      have hst : ¬ (c.Setup < 0 ∨ 7 < c.Setup) := fun q => by rw [usable_1 q] at m2; cases m2
      obtain ⟨i, hi⟩ : ∃ i : Nat, c.Setup = i := ⟨c.Setup.toNat, by omega⟩
      have hi8 : i < 8 := by omega
      have hbd : ¬ lk.Fr i < c.Band := fun q => by rw [usable_2 hi hi8 q] at m2; cases m2
      rw [usable_3 hi hi8 hbd] at m2
      split at m2
      · cases m2
      · split at m2
        · cases m2
        · simp only [Bool.and_eq_true, Bool.not_eq_true'] at m2
          exact m2.2
    simp only [ndI, List.map_cons] at i1 i2 i3 ⊢
    refine ⟨?_, ?_, ?_⟩
    · simp only [goR, hav, hf, m2, e4]
      simpa using i1
    · simp only [costN, hf]
      rw [← i2, ← q4]
      push_cast
      rfl
    · simp only [endN]
      exact i3
end
end Go.Proofs.Ytgcnlmcpmocbhaa

/- A path that fits is no better than the one that is found. No program. -/
namespace Go.Proofs.Ytgcnlmcpmocbhaa
open Go Go.Am Go.Wk

theorem cmpI_swap : ∀ a b : List Int, cmpI b a = - cmpI a b
  | [], [] => rfl
  | [], _ :: _ => rfl
  | _ :: _, [] => rfl
  | x :: a, y :: b => by
    simp only [cmpI]
    rw [cmpI_swap a b]
    split <;> split <;> first | rfl | omega
theorem fitsR_inv {N : Int} {l : List Lnk} {p : List Int} {c : Con} (h : fitsR N l p c = true) : checkE N l c = 0 ∧ p ≠ [] ∧ p.any (outN N) = false ∧ repB p = false ∧ ¬ (0 < c.Hops ∧ c.Hops < (p.length : Int) - 1) ∧ goR l c none 0 p = true := by
  unfold fitsR at h
  by_cases g1 : checkE N l c = 0
  case neg => rw [if_pos g1] at h; cases h
  rw [if_neg (by simpa using g1)] at h
  by_cases g2 : p.length = 0
  · rw [if_pos g2] at h; cases h
  rw [if_neg g2] at h
  by_cases g3 : p.any (outN N) = true
  · rw [if_pos g3] at h; cases h
  rw [if_neg g3] at h
  by_cases g4 : repB p = true
  · rw [if_pos g4] at h; cases h
  rw [if_neg g4] at h
  by_cases g5 : 0 < c.Hops ∧ c.Hops < (p.length : Int) - 1
  · rw [if_pos g5] at h; cases h
  rw [if_neg g5] at h
  exact ⟨g1, by intro e; simp [e] at g2, by simpa using g3, by simpa using g4, g5, h⟩
theorem best_law {N : Int} {l : List Lnk} {path : List Int} {c : Con} (hf : fitsR N l path c = true) {fr to : Int} (h0 : path[0]? = some fr) (h1 : path[path.length - 1]? = some to) :
    ((routeN N l fr to c).2.2 = 10 ∧ 0 < c.Thru.length) ∨ ((routeN N l fr to c).2.2 = 0 ∧ fitsR N l (routeN N l fr to c).1 c = true ∧ (routeN N l fr to c).2.1 = costP l (routeN N l fr to c).1 ∧ (routeN N l fr to c).2.1 ≤ costP l path ∧
      ((routeN N l fr to c).2.1 = costP l path → (routeN N l fr to c).1.length ≤ path.length ∧ ((routeN N l fr to c).1.length = path.length → ¬ 0 < cmpI (routeN N l fr to c).1 path)) ∧
      (routeN N l fr to c).1[0]? = some fr ∧ (routeN N l fr to c).1[(routeN N l fr to c).1.length - 1]? = some to) := by
  obtain ⟨g1, g2, g3, g4, g5, g6⟩ := fitsR_inv hf
  obtain ⟨n1, n2, l2, lk, cn⟩ := check_links g1
  obtain ⟨asc, _, lko⟩ := links_asc lk
  obtain ⟨c1, c2, c3, _⟩ := con_ok cn
  obtain ⟨M, hM⟩ : ∃ M : Nat, N = M := ⟨N.toNat, by omega⟩
  subst hM
  have hls : ∀ x ∈ l, okLk M x := fun x hx => (link_ok (lko x hx)).1
  cases path with
  | nil => exact absurd rfl g2
  | cons a xs =>
  simp at h0
  subst h0
  have hto : to = endN a xs := by
    have := endN_last a xs
    simp only [List.length_cons, Nat.add_sub_cancel] at h1
    rw [this] at h1
    injection h1 with h1
    exact h1.symm
  have o1 : outN M a = false := by
    rw [List.any_cons, Bool.or_eq_false_iff] at g3
    exact g3.1
  have o2 : outN M to = false := by
    rw [List.any_eq_false] at g3
    simpa using g3 to (List.mem_of_getElem? h1)
  simp only [goR] at g6
  split at g6
  · cases g6
  rename_i hav
  have hav' : hasB c.Avoid a = false := by simpa using hav
  simp only [Bool.false_eq_true, if_false] at g6
  obtain ⟨f1, f2⟩ := out_false o1
  obtain ⟨t1, t2⟩ := out_false o2
  have es1 := ent_div (th := c.Thru) (k := 0) f2
  have es2 := ent_mod (th := c.Thru) (k := 0) f2
  change stF M a c / M = _ at es1
  change stF M a c % M = _ at es2
  have ek : (if c.Thru[0]? = some a then 0 + 1 else 0) = stF M a c / M := by
    rw [es1]; unfold entK; rw [← f1]
  have ea : ((stF M a c % M : Nat) : Int) = a := by rw [es2]; exact f1.symm
  have hkl : stF M a c / M ≤ c.Thru.length := by rw [es1]; exact entK_len (Nat.zero_le _)
  rw [ek] at g6
  obtain ⟨zs, d, z, w1, w2, w3, w4, w5⟩ := goR_walk (M := M) hls xs (stF M a c) hkl (by rw [ea]; exact g6)
  rw [ea] at w3 w5
  have hz : z = stT M to c := by
    have := Nat.div_add_mod z M
    unfold stT
    rw [w4, Nat.mul_comm] at this
    rw [← hto] at w5
    omega
  rw [hz] at w1
  have hlim : limH c.Hops zs.length := by
    have hl := congrArg List.length w2
    simp [ndI] at hl
    simp only [List.length_cons] at g5
    unfold limH
    omega
  have hzl : zs.length = xs.length := by
    have hl := congrArg List.length w2
    simpa [ndI] using hl
  rcases routeN_cases g1 o1 o2 hav' with ⟨_, h⟩ | ⟨ys, d', hb, e⟩
  · exact absurd hlim (h _ _ w1)
  by_cases hr : repB (ndS M a ys) = true
  · rw [if_pos hr] at e
    rw [e]
    refine .inl ⟨rfl, ?_⟩
    rcases Nat.eq_zero_or_pos c.Thru.length with h | h
    · rw [best_nodup hls o1 (List.length_eq_zero_iff.1 h) hb] at hr
      cases hr
    · exact h
  · rw [if_neg hr] at e
    have hr' : repB (ndS M a ys) = false := by simpa using hr
    refine .inr ?_
    have en : ndS M a ys = a :: ndI (ys.map (· % M)) := by simp [ndS, ndI]
    obtain ⟨b1, b2, b3⟩ := walk_goR hls asc hb.w (by
      unfold stT
      rw [Nat.mul_comm, Nat.mul_add_div (by omega), Nat.div_eq_of_lt t2]; rfl)
    rw [ea] at b1 b2 b3
    have hrt : ((stT M to c % M : Nat) : Int) = to := by
      unfold stT
      rw [Nat.mul_comm, Nat.mul_add_mod, Nat.mod_eq_of_lt t2]
      exact t1.symm
    rw [hrt] at b3
    have hlen : (ndS M a ys).length = ys.length + 1 := by simp [ndS]
    have hlast : (ndS M a ys)[(ndS M a ys).length - 1]? = some to := by
      rw [hlen, en, Nat.add_sub_cancel]
      have := endN_last a (ndI (ys.map (· % M)))
      rw [← b3] at this
      rw [← this]
      congr 1
      simp [ndI]
    rw [e]
    have hle := hb.le _ _ w1 hlim
    refine ⟨rfl, ?_, ?_, ?_, ?_, rfl, hlast⟩
    · unfold fitsR
      rw [if_neg (by simpa using g1), if_neg (by show ¬ (ndS M a ys).length = 0; omega)]
      rw [if_neg (by
        show ¬ (ndS M a ys).any (outN M) = true
        rw [en, List.any_cons, o1, Bool.false_or, Bool.not_eq_true, List.any_eq_false]
        intro y hy
        simp only [ndI, List.mem_map] at hy
        obtain ⟨u, ⟨v, hv, rfl⟩, rfl⟩ := hy
        have := Nat.mod_lt v (show 0 < M by omega)
        simp only [outN, Bool.or_eq_true, decide_eq_true_eq]
        omega)]
      rw [if_neg (show ¬ repB (ndS M a ys) = true from hr), if_neg (by
        show ¬ (0 < c.Hops ∧ c.Hops < ((ndS M a ys).length : Int) - 1)
        rw [hlen]
        have := hb.l
        unfold limH at this
        omega)]
      show goR l c none 0 (ndS M a ys) = true
      rw [en]
      simp only [goR, hav', Bool.false_eq_true, if_false]
      rw [ek]
      exact b1
    · show (d' : Int) = costP l (ndS M a ys)
      rw [en]
      exact b2
    · show (d' : Int) ≤ costN l a xs
      rw [← w3]
      omega
    · show (d' : Int) = costN l a xs → (ndS M a ys).length ≤ _ ∧ ((ndS M a ys).length = _ → ¬ 0 < cmpI (ndS M a ys) (a :: xs))
      intro hd
      rw [← w3] at hd
      have hd' : d' = d := by omega
      rcases hle with h | ⟨_, h⟩
      · omega
      rw [hlen]
      simp only [List.length_cons]
      refine ⟨by omega, fun hl hc => ?_⟩
      rcases h with h | ⟨_, h⟩
      · omega
      rw [en, cmpI_cons, cmpI_swap, ← w2] at hc
      exact h ((cmpI_lt _ _).1 (by omega))
end Go.Proofs.Ytgcnlmcpmocbhaa
