/- The routes that are found: what they are. No program. -/
import Derived.Test.YtgcnlmcpmocbhaaC58
set_option linter.unusedSimpArgs false
set_option linter.unusedVariables false
namespace Go.Proofs.Ytgcnlmcpmocbhaa
open Go Go.Am Go.Wk

theorem repI_iff (l : List Int) : ∀ k, k ≤ l.length → (repI l l.length k = true ↔ ∃ i, l.length - k ≤ i ∧ i < l.length ∧ l.getD i 0 ∈ l.take i) := by
  intro k
  induction k with
  | zero =>
    intro _
    simp only [repI]
    constructor
    · intro h; cases h
    · rintro ⟨i, h1, h2, _⟩; omega
  | succ k ih =>
    intro hk
    have ih := ih (by omega)
    simp only [repI]
    by_cases h : hasB (l.take (l.length - (k + 1))) (l.getD (l.length - (k + 1)) 0) = true
    · rw [if_pos h]
      rw [hasB_iff] at h
      exact ⟨fun _ => ⟨_, Nat.le_refl _, by omega, h⟩, fun _ => rfl⟩
    · rw [if_neg h, ih]
      rw [hasB_iff] at h
      constructor
      · rintro ⟨i, h1, h2, h3⟩; exact ⟨i, by omega, h2, h3⟩
      · rintro ⟨i, h1, h2, h3⟩
        refine ⟨i, ?_, h2, h3⟩
        by_cases e : i = l.length - (k + 1)
        · subst e; exact absurd h3 h
        · omega
theorem repB_iff (l : List Int) : repB l = true ↔ ¬ l.Nodup := by
  unfold repB
  rw [repI_iff l _ (Nat.le_refl _), Nat.sub_self]
  unfold List.Nodup
  rw [List.pairwise_iff_getElem]
  constructor
  · rintro ⟨i, _, h2, h3⟩ h
    obtain ⟨j, hj, he⟩ := List.getElem_of_mem h3
    simp only [List.length_take] at hj
    have := h j i (by omega) h2 (by omega)
    rw [List.getElem_take] at he
    rw [he, List.getD_eq_getElem?_getD, List.getElem?_eq_getElem h2] at this
    exact this rfl
  · intro h
    simp only [ne_eq, Classical.not_forall, Decidable.not_not] at h
    obtain ⟨i, j, h0, h2, h1, h3⟩ := h
    refine ⟨j, Nat.zero_le _, h2, ?_⟩
    rw [List.mem_iff_getElem?]
    refine ⟨i, ?_⟩
    rw [List.getElem?_take_of_lt h1, List.getElem?_eq_getElem h0, h3, List.getD_eq_getElem?_getD, List.getElem?_eq_getElem h2]
    rfl
theorem repB_false {l : List Int} (h : l.Nodup) : repB l = false := by
  cases hr : repB l with
  | false => rfl
  | true => exact absurd h ((repB_iff l).1 hr)
/-- The links that may be used; the first state; the last one. -/
def usL (l : List Lnk) (c : Con) : List Lnk := l.filter fun x => usableN x c
def stF (n : Nat) (fr : Int) (c : Con) : Nat := entN c.Thru n fr.toNat 0
def stT (n : Nat) (to : Int) (c : Con) : Nat := c.Thru.length * n + to.toNat
def ndS (n : Nat) (fr : Int) (ys : List Nat) : List Int := fr :: ys.map (fun s => ((s % n : Nat) : Int))
theorem routeN_cases {N : Nat} {l : List Lnk} {fr to : Int} {c : Con} (g1 : checkE N l c = 0) (h1 : outN N fr = false) (h2 : outN N to = false) (h3 : hasB c.Avoid fr = false) :
    (routeN N l fr to c = ([], 0, 20) ∧ ∀ ys d, W (arcsN (usL l c) c.Thru N) (stF N fr c) ys d (stT N to c) → ¬ limH c.Hops ys.length) ∨
    ∃ ys d, Best (arcsN (usL l c) c.Thru N) (· % N) (limH c.Hops) (stF N fr c) (stT N to c) ys d ∧ routeN N l fr to c = if repB (ndS N fr ys) = true then ([], 0, 10) else (ndS N fr ys, (d : Int), 0) := by
  obtain ⟨n1, n2, l2, lk, cn⟩ := check_links g1
  obtain ⟨asc, _, lko⟩ := links_asc lk
  obtain ⟨c1, c2, c3, _⟩ := con_ok cn
  obtain ⟨f1, f2⟩ := out_false h1
  have hls : ∀ x ∈ l, okLk N x := fun x hx => (link_ok (lko x hx)).1
  have hw := walkN_best (ls := usL l c) (th := c.Thru) (n := N) (t := to.toNat) (from_ := fr.toNat) (most := c.Hops) (by omega) (usk hls) (asc.filter _) f2 c1
  unfold routeN
  rw [if_neg (by simpa using g1), if_neg (by simp [h1, h2]), if_neg (by simp [h3]), Int.toNat_natCast]
  rw [show (l.filter fun x => usableN x c) = usL l c from rfl]
  generalize walkN (usL l c) c.Thru N to.toNat fr.toNat c.Hops = R at *
  cases R with
  | none => exact .inl ⟨rfl, hw⟩
  | some p =>
    obtain ⟨ys, d, hb, e1, e2⟩ := hw
    refine .inr ⟨ys, d, hb, ?_⟩
    rw [← f1] at e1
    simp only [e1, e2]
    rfl
theorem checkE_ne {n : Int} {l : List Lnk} {c : Con} : checkE n l c ≠ 10 := by
  have hl : ∀ (l : List Lnk) (p : Option Lnk), linksE n p l ≠ 10 := by
    intro l
    induction l with
    | nil => intro p; simp [linksE]
    | cons x l ih =>
      intro p
      simp only [linksE]
      have hx : linkE n x ≠ 10 := by unfold linkE; split; decide; split; decide; split; decide; split; decide; split <;> decide
      split
      · exact hx
      · split
        · decide
        · exact ih _
  unfold checkE
  split
  · decide
  split
  · decide
  split
  · exact hl _ _
  · unfold conE; split; decide; split; decide; split; decide; split <;> decide
/-- Without nodes to go through, a least walk has no node twice. -/
theorem best_nodup {N : Nat} {l : List Lnk} {fr to : Int} {c : Con} (hls : ∀ x ∈ l, okLk N x) (h1 : outN N fr = false) (ht : c.Thru = []) {ys : List Nat} {d : Nat} (hb : Best (arcsN (usL l c) c.Thru N) (· % N) (limH c.Hops) (stF N fr c) (stT N to c) ys d) : repB (ndS N fr ys) = false := by
  have hus := usk hls (c := c)
  have hE : ∀ a ∈ arcsN (usL l c) c.Thru N, 1 ≤ a.2.2 := fun a ha => (arcs_bound hus ha).2.2.1
  have hE2 : ∀ a ∈ arcsN (usL l c) c.Thru N, a.2.1 < N * (c.Thru.length + 1) := fun a ha => (arcs_bound hus ha).2.1
  obtain ⟨f1, f2⟩ := out_false h1
  have hs := hb.simple hE (limH_mono _)
  have e0 : stF N fr c = fr.toNat := by simp [stF, entN, entK, ht]
  have hy : ∀ y ∈ ys, y < N := fun y hy => by
    obtain ⟨u, a, hu⟩ := hb.w.mem hy
    have := hE2 _ hu
    rw [ht] at this
    simpa using this
  refine repB_false ?_
  have e1 : ndS N fr ys = (stF N fr c :: ys).map (fun s => ((s : Nat) : Int)) := by
    unfold ndS
    rw [List.map_cons, e0, ← f1]
    congr 1
    apply List.map_congr_left
    intro y h
    rw [Nat.mod_eq_of_lt (hy y h)]
  rw [e1]
  unfold List.Nodup at hs ⊢
  rw [List.pairwise_map]
  exact hs.imp fun h e => h (by exact_mod_cast e)
/-- A constraint that asks for less. -/
def lessC (c : Con) (b : Int) : Con := ⟨b, c.Setup, c.Hold, c.Incl, c.Excl, 0, [], c.Thru⟩
theorem less_law {N : Int} {l : List Lnk} {fr to : Int} {c : Con} (ht : c.Thru = []) {b : Int} (b0 : 0 ≤ c.Band → 0 ≤ b) (b1 : c.Band < 0 ∨ b ≤ c.Band) :
    ((routeN N l fr to c).2.2 ≠ 0 → (routeN N l fr to c).2.2 ≠ 10) ∧ ((routeN N l fr to c).2.2 = 0 → (routeN N l fr to (lessC c b)).2.2 = 0 ∧ (routeN N l fr to (lessC c b)).2.1 ≤ (routeN N l fr to c).2.1) := by
  by_cases g1 : checkE N l c = 0
  case neg =>
    have e : routeN N l fr to c = ([], 0, checkE N l c) := by unfold routeN; rw [if_pos g1]
    rw [e]
    exact ⟨fun _ => checkE_ne, fun h => absurd h g1⟩
  by_cases o : (outN N fr || outN N to) = true
  · have e : routeN N l fr to c = ([], 0, 5) := by unfold routeN; rw [if_neg (by simpa using g1), if_pos o]
    rw [e]
    exact ⟨fun _ => by decide, fun h => by simp at h⟩
  by_cases a : hasB c.Avoid fr = true
  · have e : routeN N l fr to c = ([], 0, 20) := by unfold routeN; rw [if_neg (by simpa using g1), if_neg o, if_pos a]
    rw [e]
    exact ⟨fun _ => by decide, fun h => by simp at h⟩
  have a' : hasB c.Avoid fr = false := by simpa using a
  simp only [Bool.or_eq_true, not_or, Bool.not_eq_true] at o
  obtain ⟨n1, n2, l2, lk, cn⟩ := check_links g1
  obtain ⟨asc, _, lko⟩ := links_asc lk
  obtain ⟨M, hM⟩ : ∃ M : Nat, N = M := ⟨N.toNat, by omega⟩
  subst hM
  have hls : ∀ x ∈ l, okLk M x := fun x hx => (link_ok (lko x hx)).1
  rcases routeN_cases g1 o.1 o.2 a' with ⟨e, _⟩ | ⟨ys, d, hb, e⟩
  · rw [e]
    exact ⟨fun _ => by decide, fun h => by simp at h⟩
  rw [best_nodup hls o.1 ht hb, if_neg (by simp)] at e
  rw [e]
  refine ⟨fun h => absurd rfl h, fun _ => ?_⟩
  have cn' : conE M (lessC c b) = 0 := by
    unfold conE at cn ⊢
    by_cases q1 : c.Band < 0 ∨ 1099511627776 < c.Band ∨ c.Setup < 0 ∨ 7 < c.Setup ∨ c.Hold < 0 ∨ 7 < c.Hold ∨ c.Hops < 0
    · rw [if_pos q1] at cn; cases cn
    rw [if_neg q1] at cn
    by_cases q2 : c.Setup < c.Hold
    · rw [if_pos q2] at cn; cases cn
    have b0' := b0 (by omega)
    have q1' : ¬ ((lessC c b).Band < 0 ∨ 1099511627776 < (lessC c b).Band ∨ (lessC c b).Setup < 0 ∨ 7 < (lessC c b).Setup ∨ (lessC c b).Hold < 0 ∨ 7 < (lessC c b).Hold ∨ (lessC c b).Hops < 0) := by
      simp only [lessC]; omega
    rw [if_neg q1', if_neg (show ¬ (lessC c b).Setup < (lessC c b).Hold from q2)]
    simp [lessC, ht]
  have g2 : checkE M l (lessC c b) = 0 := by
    unfold checkE
    rw [if_neg (by omega), if_neg (by omega), if_neg (by simpa using lk)]
    exact cn'
  have hW : W (arcsN (usL l (lessC c b)) (lessC c b).Thru M) (stF M fr (lessC c b)) ys d (stT M to (lessC c b)) := by
    refine hb.w.mono fun a ha => ?_
    obtain ⟨k, h1, x, h2, h3⟩ := arc_mem.1 ha
    refine arc_mem.2 ⟨k, h1, x, ?_, h3⟩
    obtain ⟨m1, m2⟩ := List.mem_filter.1 h2
    refine List.mem_filter.2 ⟨m1, ?_⟩
    have hs : ¬ (c.Setup < 0 ∨ 7 < c.Setup) := by
      intro q; rw [usable_1 q] at m2; cases m2
    obtain ⟨i, hi⟩ : ∃ i : Nat, c.Setup = i := ⟨c.Setup.toNat, by omega⟩
    have hi8 : i < 8 := by omega
    have hbd : ¬ x.Fr i < c.Band := by
      intro q; rw [usable_2 hi hi8 q] at m2; cases m2
    have hbn : 0 ≤ c.Band := (con_ok cn).2.2.2.2.2
    show usableN x (lessC c b) = true
    rw [usable_3 hi hi8 hbd] at m2
    rw [usable_3 (c := lessC c b) hi hi8 (by show ¬ x.Fr i < b; omega)]
    show (if andW c.Excl x.Aff ≠ 0 then false else if c.Incl ≠ 0 ∧ andW c.Incl x.Aff = 0 then false else !hasB [] x.From && !hasB [] x.To) = true
    split at m2
    · cases m2
    · rename_i q1
      rw [if_neg q1]
      split at m2
      · cases m2
      · rename_i q2
        rw [if_neg q2]
        rfl
  have hl0 : limH (lessC c b).Hops ys.length := .inl rfl
  rcases routeN_cases (c := lessC c b) g2 o.1 o.2 rfl with ⟨_, h⟩ | ⟨zs, d', hb', e'⟩
  · exact absurd hl0 (h _ _ hW)
  · rw [best_nodup (c := lessC c b) hls o.1 ht hb', if_neg (by simp)] at e'
    rw [e']
    refine ⟨rfl, ?_⟩
    rcases hb'.le _ _ hW hl0 with h | ⟨h, _⟩
    · simp only; omega
    · simp only; omega
end Go.Proofs.Ytgcnlmcpmocbhaa

/- The law of less, by the program. -/
namespace Go.Proofs.Ytgcnlmcpmocbhaa
open Go Go.Am Go.Wk

theorem c15L (l : List Lnk) (m : Nat) (hm : l.length = m) (hm2 : m < 9223372036854775807) (c : Con) (q : Nat) (hq : c.Thru.length = q) (hq2 : q < 9223372036854775807) (n fr to b : Int) :
    CFun Try.prog 15 [.int .i64 n, .sl 13 (l.map encL) .sh, .int .i64 fr, .int .i64 to, .agg [.int .i64 b, .int .i64 c.Setup, .int .i64 c.Hold, .int .u32 c.Incl, .int .u32 c.Excl, .int .i64 0, .sl 0 [] .full, .sl 1 (c.Thru.map encI) .sh]] [] (encRt (routeN n l fr to (lessC c b))) [] := by
  have := c15 l m hm hm2 (lessC c b) 0 q rfl hq (by decide) hq2 n fr to
  exact this.wk _ (by simp [noid, noid0]) ⟨LeS_refl _, LeS_refl _, LeS_refl _, LeS_refl _, by simp [lessC, LeS, LeC], trivial⟩
set_option maxHeartbeats 4000000 in
set_option maxRecDepth 10000 in
theorem c8 (n : Int) (l : List Lnk) (m : Nat) (hm : l.length = m) (hm2 : m < 9223372036854775807) (fr to : Int) (c : Con) (p q : Nat) (hp : c.Avoid.length = p) (hq : c.Thru.length = q) (hp2 : p < 9223372036854775807) (hq2 : q < 9223372036854775807) (less : Int) :
    CFun Try.prog 8 [.int .i64 n, .sl 13 (l.map encL) .sh, .int .i64 fr, .int .i64 to, encC c, .int .i64 less] [] (.bool true) [] := by
  refine CFun.intro (tr := []) (fz := []) (n := 77) (rs := [.tmp 12]) Try.func8 rfl (by kernel_rfl) rfl rfl mixed (by kernel_rfl) (by simp) (by simp) ?_
  have h11 := fun H => c11.up' H rfl rfl
  have h14 := fun H => (c14 n l m hm c p q hp hq).up' H (by simp [noid, noid0]) rfl
  have h15 := fun H => (c15 l m hm hm2 c p q hp hq hp2 hq2 n fr to).up' H (by simp [noid, noid0]) rfl
  by_cases b : largeB n l c = true
  · rw [b] at h14
    simp
    refine ⟨_, _, .inl (by simpa using h14 _), by simp, ?_⟩
    simp
    refine ⟨_, _, .inl (by simpa using h11 _), by simp, ?_⟩
    simp
  have b' : largeB n l c = false := by simpa using b
  rw [b'] at h14
  by_cases q0 : q = 0
  case neg =>
    have q1 : 0 < q := by omega
    simp
    refine ⟨_, _, .inl (by simpa using h14 _), by simp, ?_⟩
    simp [hq, q1]
    refine ⟨_, _, .inl (by simpa using h11 _), by simp, ?_⟩
    simp
  have ht : c.Thru = [] := List.length_eq_zero_iff.1 (by omega)
  obtain ⟨M, hM⟩ : ∃ M : Int, M = if less < 0 then 0 else less := ⟨_, rfl⟩
  obtain ⟨B, hB⟩ : ∃ B : Int, B = if c.Band < M then c.Band else M := ⟨_, rfl⟩
  have hM0 : 0 ≤ M := by rw [hM]; split <;> omega
  have hL := less_law (N := n) (l := l) (fr := fr) (to := to) ht (b := B) (fun h => by rw [hB]; split <;> omega) (.inr (by rw [hB]; split <;> omega))
  have h15' := fun H => (c15L l m hm hm2 c q hq hq2 n fr to B).up' H (by simp [noid, noid0]) rfl
  have hmx : (if less < 0 then (0 : Int) else less) = M := hM.symm
  have hmn : (if c.Band < M then c.Band else M) = B := hB.symm
  generalize routeN n l fr to c = R at *
  generalize routeN n l fr to (lessC c B) = R' at *
  simp
  refine ⟨_, _, .inl (by simpa using h14 _), by simp, ?_⟩
  simp [hq, q0]
  refine ⟨_, _, .inl (by simpa using h15 _), by simp, ?_⟩
  by_cases e : R.2.2 = 0
  · obtain ⟨k1, k2⟩ := hL.2 e
    simp [e, hmx, hmn]
    refine ⟨_, _, .inl (by simpa using h15' _), by simp, ?_⟩
    simp
    refine ⟨_, _, .inl (by simpa using h11 _), by simp, ?_⟩
    simp [k1, k2]
  · have k := hL.1 e
    simp [e]
    refine ⟨_, _, .inl (by simpa using h11 _), by simp, ?_⟩
    simp [k]
end Go.Proofs.Ytgcnlmcpmocbhaa
