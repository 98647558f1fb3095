/- What the search finds is the least walk within the limit of steps. No program. -/
import Derived.Test.YtgcnlmcpmocbhaaC50
set_option linter.unusedSimpArgs false
set_option linter.unusedVariables false
namespace Go.Proofs.Ytgcnlmcpmocbhaa
open Go Go.Am Go.Wk

theorem bestO_no {E : List Arc} {z x : Nat} (h : bestO E z x = none) {ys : List Nat} {c : Nat} : ¬ W E x ys c z := by
  intro hw
  obtain ⟨d, k, hd⟩ := Dn.exists hw
  rw [bestO_some hd] at h
  cases h
theorem blB_getD (B : Nat → Option (Nat × Nat)) {sz x : Nat} (h : x < sz) : (blB B sz).getD x (0, 0) = encB B x := by
  rw [List.getD_eq_getElem?_getD, blB_get B h]
  rfl
theorem rowAt_mn (E : List Arc) (z : Nat) {sz m h x : Nat} (hh : h < m) (hx : x < sz) : rowAt (mnRows E z sz m) h x = encO (mnO E z h x) := by
  unfold rowAt
  have : (mnRows E z sz m).getD h [] = mnRow E z sz h := by rw [List.getD_eq_getElem?_getD, mnRows_get E z sz hh]; rfl
  rw [this, mnRow_get E z h hx]
def limH (most : Int) (k : Nat) : Prop := most = 0 ∨ (k : Int) ≤ most
theorem limH_mono (most : Int) : ∀ a b, a ≤ b → limH most b → limH most a := by
  intro a b h k
  unfold limH at *
  omega
theorem totR_least (f : Nat → Int) (hf : ∀ k, -1 ≤ f k) : ∀ m, ((totR f m).1 < 0 → ∀ k, k < m → f k < 0) ∧ (0 ≤ (totR f m).1 → ∀ j, j < m → 0 ≤ f j → (totR f m).1 < f j ∨ (totR f m).1 = f j ∧ (totR f m).2 ≤ j)
  | 0 => ⟨fun _ k h => by omega, fun _ j h => by omega⟩
  | m + 1 => by
    obtain ⟨h1, h2⟩ := totR_least f hf m
    have h3 := totR_shape f m
    simp only [totR]
    split
    · rename_i hc
      refine ⟨fun h => by simp only at h; omega, fun _ j hj hfj => ?_⟩
      simp only at *
      by_cases e : j = m
      · subst e; exact .inr ⟨rfl, Int.le_refl _⟩
      · rcases hc.2 with hc2 | hc2
        · have := h1 hc2 j (by omega); omega
        · by_cases h4 : 0 ≤ (totR f m).1
          · have := h2 h4 j (by omega) hfj
            omega
          · have := h1 (by omega) j (by omega); omega
    · rename_i hc
      refine ⟨fun h k hk => ?_, fun h j hj hfj => ?_⟩
      · by_cases e : k = m
        · subst e
          rcases Int.lt_or_le (f k) 0 with h4 | h4
          · exact h4
          · exact absurd ⟨h4, .inl h⟩ hc
        · exact h1 h k (by omega)
      · by_cases e : j = m
        · subst e
          rcases h3 with h3 | ⟨k, k1, k2, k3⟩
          · rw [h3] at h; simp only at h; omega
          · rw [k3] at hc h ⊢
            simp only at hc h ⊢
            by_cases h5 : f j < f k ∨ f j = f k ∧ (j : Int) < k
            · exact absurd ⟨hfj, .inr h5⟩ hc
            · omega
        · exact h2 h j (by omega) hfj
theorem walkN_best {ls : List Lnk} {th : List Int} {n t from_ : Nat} {most : Int} (h0 : 0 < n) (hls : ∀ x ∈ ls, okLk n x) (hs : ls.Pairwise fun x y => x.From < y.From ∨ x.From = y.From ∧ x.To < y.To) (hf : from_ < n) (hm0 : 0 ≤ most) :
    match walkN ls th n t from_ most with
    | none => ∀ ys c, W (arcsN ls th n) (entN th n from_ 0) ys c (th.length * n + t) → ¬ limH most ys.length
    | some p => ∃ ys c, Best (arcsN ls th n) (· % n) (limH most) (entN th n from_ 0) (th.length * n + t) ys c ∧ p.1 = (from_ : Int) :: ys.map (fun s => ((s % n : Nat) : Int)) ∧ p.2 = (c : Int) := by
  have hE := fun x y a (h : (x, y, a) ∈ arcsN ls th n) => arcs_bound hls h
  have hx0s : entN th n from_ 0 < n * (th.length + 1) := by
    unfold entN
    have := entK_len (th := th) (a := from_) (k := 0) (by omega)
    have e2 : (entK th from_ 0 + 1) * n ≤ (th.length + 1) * n := Nat.mul_le_mul_right n (by omega)
    rw [Nat.succ_mul] at e2
    rw [Nat.mul_comm n]
    omega
  have hinj := fun x y y' a a' (h : (x, y, a) ∈ arcsN ls th n) (h' : (x, y', a') ∈ arcsN ls th n) (e : y % n = y' % n) => arcs_inj hls hs h h' e
  unfold walkN
  generalize hz : th.length * n + t = z
  generalize hx0 : entN th n from_ 0 = x0 at *
  cases hb : bestO (arcsN ls th n) z x0 with
  | none => exact fun ys c hw => absurd hw (bestO_no hb)
  | some p =>
    obtain ⟨c, h⟩ := p
    have hd := bestO_spec hb
    by_cases hmo : most = 0 ∨ (h : Int) ≤ most
    · have hmo' : most = 0 ∨ (((c, h) : Nat × Nat).2 : Int) ≤ most := hmo
      simp only [if_pos hmo']
      have hgd : ∀ h x c y (a : Nat), Dn (arcsN ls th n) z x c (h + 1) → (x, y, a) ∈ arcsN ls th n → (gdB (blO ls th n t) x y a = true ↔ ∃ d, Mn (arcsN ls th n) z h y d ∧ c = a + d) := by
        intro h x c y a hd ha
        obtain ⟨q1, q2, _, _⟩ := hE _ _ _ ha
        simp only at q1 q2
        unfold gdB blO
        rw [hz, blB_getD _ q1, blB_getD _ q2]
        have ex : encB (bestO (arcsN ls th n) z) x = ((c : Int), ((h + 1 : Nat) : Int)) := by unfold encB; rw [bestO_some hd]
        rw [ex]
        cases hy : bestO (arcsN ls th n) z y with
        | none =>
          have ey : encB (bestO (arcsN ls th n) z) y = (-1, 0) := by unfold encB; rw [hy]
          rw [ey]
          constructor
          · intro k; simp at k
          · rintro ⟨d, hm, _⟩
            obtain ⟨us, u1, _⟩ := hm.1
            exact absurd u1 (bestO_no hy)
        | some p =>
          obtain ⟨e, k⟩ := p
          have ey : encB (bestO (arcsN ls th n) z) y = ((e : Int), (k : Int)) := by unfold encB; rw [hy]
          rw [ey]
          simp only [Bool.and_eq_true, decide_eq_true_eq]
          have hdy := bestO_spec hy
          constructor
          · rintro ⟨⟨k1, k2⟩, k3⟩
            have : k = h := by omega
            subst this
            exact ⟨e, hdy.mn, by omega⟩
          · rintro ⟨d, k1, k2⟩
            obtain ⟨e', e1, e2, e3⟩ := (hd.step ha d).1 ⟨k1, k2⟩
            obtain ⟨rfl, rfl⟩ := hdy.uniq e1
            omega
      obtain ⟨ys, h1, h2⟩ := folN_fol hls hs (z := z) (fun x y co _ => gdB (blO ls th n t) x y co) (fun h x c => Dn (arcsN ls th n) z x c h) (fun h x c hd => hd.mn) hgd (fun h x c y a d hd ha hm hc => by
        obtain ⟨e, e1, e2, e3⟩ := (hd.step ha d).1 ⟨hm, hc⟩
        exact e3 ▸ e1) h x0 c hd
      obtain ⟨k1, k2, k3⟩ := h1.best hinj hd.mn
      refine ⟨ys, c, ⟨k1, by rw [k2]; exact hmo, fun zs d hw _ => ?_⟩, by rw [h2], rfl⟩
      rcases hd.2 _ _ hw with h5 | ⟨rfl, h5⟩
      · exact .inl h5
      · refine .inr ⟨rfl, ?_⟩
        rcases Nat.lt_or_ge h zs.length with h6 | h6
        · exact .inl (by omega)
        · exact .inr ⟨by omega, k3 _ hw (by omega)⟩
    · have hmo' : ¬ (most = 0 ∨ (((c, h) : Nat × Nat).2 : Int) ≤ most) := hmo
      simp only [if_neg hmo']
      obtain ⟨M, hM⟩ : ∃ M : Nat, M = most.toNat := ⟨_, rfl⟩
      rw [← hM]
      have hfv : ∀ k, k < M + 1 → (fun h => rowAt (mnRows (arcsN ls th n) z (n * (th.length + 1)) (M + 1)) h x0) k = encO (mnO (arcsN ls th n) z k x0) := fun k hk => rowAt_mn _ _ hk hx0s
      obtain ⟨f, hfd⟩ : ∃ f, f = fun k => if k < M + 1 then encO (mnO (arcsN ls th n) z k x0) else -1 := ⟨_, rfl⟩
      have hfb : ∀ k, -1 ≤ f k := fun k => by
        rw [hfd]
        simp only
        split
        · unfold encO; split <;> omega
        · omega
      have htot : ∀ m, m ≤ M + 1 → totR (fun h => rowAt (mnRows (arcsN ls th n) z (n * (th.length + 1)) (M + 1)) h x0) m = totR f m := by
        intro m
        induction m with
        | zero => intro _; rfl
        | succ m ih =>
          intro hm
          simp only [totR]
          rw [ih (by omega)]
          have : rowAt (mnRows (arcsN ls th n) z (n * (th.length + 1)) (M + 1)) m x0 = f m := by
            rw [hfd]
            simp only
            rw [if_pos (by omega)]
            exact hfv m (by omega)
          rw [this]
      rw [htot (M + 1) (Nat.le_refl _)]
      have hfk : ∀ k, k < M + 1 → f k = encO (mnO (arcsN ls th n) z k x0) := fun k hk => by rw [hfd]; simp only; rw [if_pos hk]
      obtain ⟨l1, l2⟩ := totR_least f hfb (M + 1)
      have hsh := totR_shape f (M + 1)
      have hle : ∀ zs d, W (arcsN ls th n) x0 zs d z → zs.length < M + 1 → 0 ≤ f zs.length ∧ f zs.length ≤ (d : Int) := by
        intro zs d hw hl
        rw [hfk _ hl]
        cases hm : mnO (arcsN ls th n) z zs.length x0 with
        | none => exact absurd rfl (mnO_no hm hw)
        | some e =>
          have := (mnO_spec hm).2 _ _ hw rfl
          simp only [encO]
          omega
      by_cases ht : (totR f (M + 1)).1 < 0
      · simp only [if_pos ht]
        intro ys d hw hl
        have hlm : ys.length < M + 1 := by unfold limH at hl; omega
        have := l1 ht _ hlm
        have := hle _ _ hw hlm
        omega
      · simp only [if_neg ht]
        rcases hsh with hsh | ⟨k, k1, k2, k3⟩
        · rw [hsh] at ht; simp only at ht; omega
        · rw [k3] at l2 ⊢
          simp only at l2 ⊢
          have hfkk := hfk k k1
          cases hmk : mnO (arcsN ls th n) z k x0 with
          | none => rw [hmk] at hfkk; simp only [encO] at hfkk; omega
          | some e =>
            rw [hmk] at hfkk
            simp only [encO] at hfkk
            have hme := mnO_spec hmk
            have hgd : ∀ h x c y (a : Nat), (Mn (arcsN ls th n) z (h + 1) x c ∧ h + 1 < M + 1) → (x, y, a) ∈ arcsN ls th n → (gdR (mnRows (arcsN ls th n) z (n * (th.length + 1)) (M + 1)) x y a (h + 1) = true ↔ ∃ d, Mn (arcsN ls th n) z h y d ∧ c = a + d) := by
              rintro h x c y a ⟨hd, hlt⟩ ha
              obtain ⟨q1, q2, _, _⟩ := hE _ _ _ ha
              simp only at q1 q2
              unfold gdR
              rw [Nat.add_sub_cancel, rowAt_mn _ _ (show h < M + 1 by omega) q2, rowAt_mn _ _ hlt q1]
              have ex : mnO (arcsN ls th n) z (h + 1) x = some c := mnO_some hd
              rw [ex]
              cases hy : mnO (arcsN ls th n) z h y with
              | none =>
                constructor
                · intro k; simp [encO] at k
                · rintro ⟨d, hm, _⟩
                  obtain ⟨us, w1, w2⟩ := hm.1
                  exact absurd w2 (mnO_no hy w1)
              | some e =>
                show (decide (0 ≤ (e : Int)) && decide ((e : Int) + (a : Int) = (c : Int))) = true ↔ _
                rw [Bool.and_eq_true, decide_eq_true_iff, decide_eq_true_iff]
                constructor
                · rintro ⟨_, k2⟩
                  exact ⟨e, mnO_spec hy, by omega⟩
                · rintro ⟨d, k1, k2⟩
                  have := (mnO_spec hy).uniq k1
                  subst this
                  exact ⟨by omega, by omega⟩
            obtain ⟨ys, u1, u2⟩ := folN_fol hls hs (z := z) (fun x y co l => gdR (mnRows (arcsN ls th n) z (n * (th.length + 1)) (M + 1)) x y co l) (fun h x c => Mn (arcsN ls th n) z h x c ∧ h < M + 1) (fun h x c hd => hd.1) hgd (fun h x c y a d hd ha hm hc => ⟨hm, by omega⟩) k x0 e ⟨hme, k1⟩
            obtain ⟨b1, b2, b3⟩ := u1.best hinj hme
            refine ⟨ys, e, ⟨b1, by unfold limH; omega, fun zs d hw hl => ?_⟩, by rw [Int.toNat_natCast, u2], by rw [hfkk]⟩
            have hlm : zs.length < M + 1 := by unfold limH at hl; omega
            obtain ⟨v1, v2⟩ := hle _ _ hw hlm
            rcases l2 k2 zs.length hlm v1 with v3 | ⟨v3, v4⟩
            · exact .inl (by omega)
            · rcases Nat.lt_or_ge e d with v5 | v5
              · exact .inl v5
              · have : e = d := by omega
                subst this
                refine .inr ⟨rfl, ?_⟩
                rcases Nat.lt_or_ge k zs.length with h6 | h6
                · exact .inl (by omega)
                · exact .inr ⟨by omega, b3 _ hw (by omega)⟩
end Go.Proofs.Ytgcnlmcpmocbhaa

/- What the reference keeps are the least walks of so many steps. No program. -/
namespace Go.Proofs.Ytgcnlmcpmocbhaa
open Go Go.Am Go.Wk

def ndI (l : List Nat) : List Int := l.map fun x : Nat => (x : Int)
theorem cmpI_lt : ∀ (a b : List Nat), cmpI (ndI a) (ndI b) < 0 ↔ lexlt a b
  | [], [] => by simp [ndI, cmpI, lexlt]
  | [], _ :: _ => by simp [ndI, cmpI, lexlt]
  | _ :: _, [] => by simp [ndI, cmpI, lexlt]
  | x :: a, y :: b => by
    have ih := cmpI_lt a b
    unfold ndI at ih ⊢
    simp only [List.map_cons, cmpI, lexlt]
    rw [← ih]
    split
    · omega
    · split
      · omega
      · omega
theorem cmpI_cons (x : Int) (a b : List Int) : cmpI (x :: a) (x :: b) = cmpI a b := by simp [cmpI]
/-- A walk of the reference is a walk of states. -/
structure RW (E : List Arc) (fr n x0 : Nat) (h : Nat) (w : Wlk) (ys : List Nat) (s c : Nat) : Prop where
  wk : W E x0 ys c s
  len : ys.length = h
  N : w.N = (fr : Int) :: ndI (ys.map (· % n))
  C : w.C = c
  D : w.D = s / n
  L : lastW w = ((s % n : Nat) : Int)
theorem RW.code {E : List Arc} {fr n x0 h : Nat} {w : Wlk} {ys : List Nat} {s c : Nat} (r : RW E fr n x0 h w ys s c) : codeW n w = s := by
  unfold codeW
  rw [r.D, r.L, Int.toNat_natCast, Nat.mul_comm]
  exact Nat.div_add_mod s n
theorem RW.okw {E : List Arc} {fr n x0 h t : Nat} {w : Wlk} {ys : List Nat} {s c : Nat} (r : RW E fr n x0 h w ys s c) (hE : ∀ a ∈ E, a.2.2 ≤ 65535) (h0 : 0 < n) (hs : s / n ≤ t) : okW n t h w := by
  refine ⟨by rw [r.N]; simp [ndI, r.len], by rw [r.L]; omega, by rw [r.L]; have := Nat.mod_lt s h0; omega, by rw [r.C]; omega, ?_, by rw [r.D]; exact hs⟩
  rw [r.C]
  have := r.wk.cost hE
  rw [r.len, Nat.mul_comm] at this
  omega
def notLess (w x : Wlk) : Prop := ¬ betW x w = true
theorem RW.bet {E : List Arc} {fr n x0 h : Nat} {w w' : Wlk} {ys ys' : List Nat} {s s' c c' : Nat} (r : RW E fr n x0 h w ys s c) (r' : RW E fr n x0 h w' ys' s' c') : betW w w' = true ↔ c < c' ∨ c = c' ∧ lexlt (ys.map (· % n)) (ys'.map (· % n)) := by
  unfold betW
  rw [r.N, r'.N, r.C, r'.C, cmpI_cons]
  rw [Bool.or_eq_true, Bool.and_eq_true, decide_eq_true_iff, decide_eq_true_iff, decide_eq_true_iff, cmpI_lt]
  constructor
  · rintro (h | ⟨h, k⟩)
    · exact .inl (by omega)
    · exact .inr ⟨by omega, k⟩
  · rintro (h | ⟨h, k⟩)
    · exact .inl (by omega)
    · exact .inr ⟨by omega, k⟩
section
variable {ls : List Lnk} {th : List Int} {n fr x0 : Nat} {c : Con} (hls : ∀ x ∈ ls, okLk n x) (hth : c.Thru = th)
include hls hth
theorem RW.step {h : Nat} {w : Wlk} {ys : List Nat} {s co : Nat} (r : RW (arcsN ls th n) fr n x0 h w ys s co) (hk : s / n ≤ th.length) {x : Lnk} (hx : x ∈ ls) (hf : x.From = lastW w) : RW (arcsN ls th n) fr n x0 (h + 1) (stepW w x c) (ys ++ [entN th n x.To.toNat (s / n)]) (entN th n x.To.toNat (s / n)) (co + x.Cost.toNat) ∧ entN th n x.To.toNat (s / n) / n ≤ th.length := by
  obtain ⟨o1, o2, o3, o4, o5, o6⟩ := hls x hx
  have hfs : x.From.toNat = s % n := by rw [hf, r.L, Int.toNat_natCast]
  have ha := arc_of hk hx hfs
  have e1 := ent_div (th := th) (k := s / n) (show x.To.toNat < n by omega)
  have e2 := ent_mod (th := th) (k := s / n) (show x.To.toNat < n by omega)
  have e3 : (x.To.toNat : Int) = x.To := by omega
  refine ⟨⟨r.wk.snoc ha, by simp [r.len], ?_, ?_, ?_, ?_⟩, by rw [e1]; exact entK_len hk⟩
  · simp only [stepW, r.N, ndI, List.map_append, List.map_cons, List.map_nil, List.cons_append, e2, e3]
  · simp only [stepW, r.C]; omega
  · simp only [stepW]
    rw [e1, r.D, hth]
    unfold entK
    rw [e3]
  · rw [e2, e3]
    unfold lastW stepW
    simp
omit hls hth in
theorem keepN_spec (l : List Wlk) (w : Wlk) : (∀ y ∈ keepN l w, y ∈ l ∨ y = w) ∧ ((∃ y ∈ keepN l w, lastW y = lastW w ∧ y.D = w.D ∧ notLess y w)) ∧ ∀ y ∈ l, y ∈ keepN l w ∨ (lastW w = lastW y ∧ w.D = y.D ∧ betW w y = true ∧ w ∈ keepN l w) := by
  have hrefl : ∀ w : Wlk, notLess w w := by
    intro w
    unfold notLess betW
    have : ∀ l : List Int, cmpI l l = 0 := by
      intro l
      induction l with
      | nil => rfl
      | cons x l ih => rw [cmpI_cons, ih]
    simp [this]
  rcases keepN_cases l w with ⟨i, x, h1, h2, h3, h4⟩ | ⟨h1, h2⟩
  · rw [h4]
    have hi := (List.getElem?_eq_some_iff.1 h1).1
    have hxi := (List.getElem?_eq_some_iff.1 h1).2
    by_cases hb : betW w x = true
    · rw [if_pos hb]
      have hw : w ∈ l.set i w := List.mem_iff_getElem?.2 ⟨i, by simp [hi]⟩
      refine ⟨fun y hy => (List.mem_or_eq_of_mem_set hy), ⟨w, hw, rfl, rfl, hrefl w⟩, fun y hy => ?_⟩
      obtain ⟨j, hj, hyj⟩ := List.mem_iff_getElem.1 hy
      by_cases e : i = j
      · subst e
        have : x = y := by rw [← hxi, hyj]
        subst this
        exact .inr ⟨h2.symm, h3.symm, hb, hw⟩
      · exact .inl (List.mem_iff_getElem?.2 ⟨j, by rw [List.getElem?_set, if_neg e, ← hyj]; exact List.getElem?_eq_getElem hj⟩)
    · rw [if_neg hb]
      have : l.set i x = l := by
        apply List.ext_getElem?
        intro k
        rw [List.getElem?_set]
        split
        · rename_i e; subst e; exact h1.symm
        · rfl
      rw [this]
      exact ⟨fun y hy => .inl hy, ⟨x, List.mem_of_getElem? h1, h2, h3, hb⟩, fun y hy => .inl hy⟩
  · rw [h2]
    exact ⟨fun y hy => by simpa using hy, ⟨w, by simp, rfl, rfl, hrefl w⟩, fun y hy => .inl (by simp [hy])⟩
/-- What is kept of the walks of so many steps: each is one of states, and each of those that were seen is no less than one of them. -/
structure Kept (E : List Arc) (fr n x0 t h : Nat) (S : List Nat → Nat → Nat → Prop) (l : List Wlk) : Prop where
  a : ∀ w ∈ l, ∃ ys s c, RW E fr n x0 h w ys s c ∧ s / n ≤ t
  b : ∀ ys s c, S ys s c → ∃ w ∈ l, ∃ ys' c', RW E fr n x0 h w ys' s c' ∧ (c' < c ∨ c' = c ∧ ¬ lexlt (ys.map (· % n)) (ys'.map (· % n)))
omit hls hth in
theorem Kept.keep {E : List Arc} {t h : Nat} (h0 : 0 < n) {S : List Nat → Nat → Nat → Prop} {l : List Wlk} (k : Kept E fr n x0 t h S l) {w : Wlk} {ys : List Nat} {s co : Nat} (r : RW E fr n x0 h w ys s co) (hs : s / n ≤ t) : Kept E fr n x0 t h (fun zs s' d => S zs s' d ∨ zs = ys ∧ s' = s ∧ d = co) (keepN l w) := by
  obtain ⟨k1, ⟨y, y1, y2, y3, y4⟩, k3⟩ := keepN_spec l w
  have code : ∀ {w w' : Wlk} {ys ys' : List Nat} {s s' c c' : Nat}, RW E fr n x0 h w ys s c → RW E fr n x0 h w' ys' s' c' → lastW w = lastW w' → w.D = w'.D → s = s' := by
    intro w w' ys ys' s s' c c' r r' e1 e2
    rw [← r.code, ← r'.code]
    unfold codeW
    rw [e1, e2]
  have hal : ∀ y ∈ keepN l w, ∃ ys s c, RW E fr n x0 h y ys s c ∧ s / n ≤ t := by
    intro y hy
    rcases k1 y hy with h1 | rfl
    · exact k.a y h1
    · exact ⟨ys, s, co, r, hs⟩
  refine ⟨hal, ?_⟩
  rintro zs s' d (hS | ⟨rfl, rfl, rfl⟩)
  · obtain ⟨x, x1, ys', c', x2, x3⟩ := k.b _ _ _ hS
    rcases k3 x x1 with h1 | ⟨h1, h2, h3, h4⟩
    · exact ⟨x, h1, ys', c', x2, x3⟩
    · have := code r x2 h1 h2
      subst this
      refine ⟨w, h4, ys, co, r, ?_⟩
      have hb := (r.bet x2).1 h3
      rcases hb with hb | ⟨rfl, hb⟩
      · rcases x3 with x3 | ⟨rfl, _⟩
        · exact .inl (by omega)
        · exact .inl hb
      · rcases x3 with x3 | ⟨rfl, x3⟩
        · exact .inl x3
        · refine .inr ⟨rfl, fun hc => x3 (lexlt_trans hc hb)⟩
  · obtain ⟨ys2, s2, c2, r2, hs2⟩ := hal y y1
    have := code r2 r y2 y3
    subst this
    refine ⟨y, y1, ys2, c2, r2, ?_⟩
    have hb : ¬ _ := fun q => y4 ((r.bet r2).2 q)
    rcases Nat.lt_trichotomy c2 d with h1 | h1 | h1
    · exact .inl h1
    · exact .inr ⟨h1, fun q => hb (.inr ⟨h1.symm, q⟩)⟩
    · exact absurd (.inl h1) hb
omit hls hth in
theorem Kept.less {E : List Arc} {t h : Nat} {S S' : List Nat → Nat → Nat → Prop} {l : List Wlk} (k : Kept E fr n x0 t h S l) (hS : ∀ ys s c, S' ys s c → S ys s c) : Kept E fr n x0 t h S' l := ⟨k.a, fun ys s c q => k.b ys s c (hS _ _ _ q)⟩
end
end Go.Proofs.Ytgcnlmcpmocbhaa

/- The reference finds the least walk. No program. -/
namespace Go.Proofs.Ytgcnlmcpmocbhaa
open Go Go.Am Go.Wk

theorem ndI_inj : ∀ {a b : List Nat}, ndI a = ndI b → a = b
  | [], [], _ => rfl
  | [], _ :: _, h => by simp [ndI] at h
  | _ :: _, [], h => by simp [ndI] at h
  | x :: a, y :: b, h => by
    unfold ndI at h
    rw [List.map_cons, List.map_cons] at h
    injection h with h1 h2
    rw [ndI_inj (a := a) (b := b) h2, Int.ofNat.inj h1]
theorem RW.uniq {E : List Arc} {fr n x0 h h' : Nat} {w : Wlk} {ys ys' : List Nat} {s s' c c' : Nat} (r : RW E fr n x0 h w ys s c) (r' : RW E fr n x0 h' w ys' s' c') : s = s' ∧ c = c' ∧ ys.map (· % n) = ys'.map (· % n) := by
  refine ⟨by rw [← r.code, ← r'.code], by have := r.C; have := r'.C; omega, ?_⟩
  have h1 := r.N
  rw [r'.N] at h1
  injection h1 with _ h1
  exact (ndI_inj h1).symm
theorem Kept.less' {E : List Arc} {fr n x0 t h : Nat} {S S' : List Nat → Nat → Nat → Prop} {l : List Wlk} (k : Kept E fr n x0 t h S l) (hS : ∀ ys s c, S' ys s c → ∃ zs, zs.map (· % n) = ys.map (· % n) ∧ S zs s c) : Kept E fr n x0 t h S' l := by
  refine ⟨k.a, fun ys s c q => ?_⟩
  obtain ⟨zs, h1, h2⟩ := hS _ _ _ q
  have := k.b _ _ _ h2
  rw [h1] at this
  exact this
section
variable {l : List Lnk} {th : List Int} {n fr x0 : Nat} {c : Con} (hls : ∀ x ∈ l, okLk n x) (hth : c.Thru = th) (h0 : 0 < n)
def candW (th : List Int) (n : Nat) (c : Con) (x : Lnk) (ys : List Nat) (s co : Nat) (zs : List Nat) (s' d : Nat) : Prop :=
  x.From = ((s % n : Nat) : Int) ∧ usableN x c = true ∧ zs = ys ++ [entN th n x.To.toNat (s / n)] ∧ s' = entN th n x.To.toNat (s / n) ∧ d = co + x.Cost.toNat
include hls in
theorem usk : ∀ x ∈ l.filter (fun x => usableN x c), okLk n x := fun x hx => hls x (List.mem_filter.1 hx).1
include hls hth h0
theorem linkR_kept {h : Nat} {S : List Nat → Nat → Nat → Prop} {nx : List Wlk} (k : Kept (arcsN (l.filter fun x => usableN x c) th n) fr n x0 th.length (h + 1) S nx) {w : Wlk} {ys : List Nat} {s co : Nat} (r : RW (arcsN (l.filter fun x => usableN x c) th n) fr n x0 h w ys s co) (hs : s / n ≤ th.length) {x : Lnk} (hx : x ∈ l) :
    Kept (arcsN (l.filter fun x => usableN x c) th n) fr n x0 th.length (h + 1) (fun zs s' d => S zs s' d ∨ candW th n c x ys s co zs s' d) (linkR c w nx x) := by
  unfold linkR
  split
  · rename_i hc
    obtain ⟨r1, r2⟩ := r.step (usk hls) hth hs (List.mem_filter.2 ⟨hx, hc.2⟩) hc.1
    refine (k.keep h0 r1 r2).less fun zs s' d q => ?_
    rcases q with q | ⟨_, _, q3, q4, q5⟩
    · exact .inl q
    · exact .inr ⟨q3, q4, q5⟩
  · rename_i hc
    refine k.less fun zs s' d q => ?_
    rcases q with q | ⟨q1, q2, _⟩
    · exact q
    · exact absurd ⟨by rw [q1, r.L], q2⟩ hc
theorem linksR_kept {h : Nat} {w : Wlk} {ys : List Nat} {s co : Nat} (r : RW (arcsN (l.filter fun x => usableN x c) th n) fr n x0 h w ys s co) (hs : s / n ≤ th.length) : ∀ {l' : List Lnk}, (∀ x ∈ l', x ∈ l) → ∀ {S : List Nat → Nat → Nat → Prop} {nx : List Wlk}, Kept (arcsN (l.filter fun x => usableN x c) th n) fr n x0 th.length (h + 1) S nx →
    Kept (arcsN (l.filter fun x => usableN x c) th n) fr n x0 th.length (h + 1) (fun zs s' d => S zs s' d ∨ ∃ x ∈ l', candW th n c x ys s co zs s' d) (linksR l' c nx w) := by
  intro l'
  induction l' with
  | nil => intro _ S nx k; exact k.less fun zs s' d q => q.elim id fun ⟨x, hx, _⟩ => by simp at hx
  | cons x l' ih =>
    intro hl S nx k
    refine (ih (fun y hy => hl y (List.mem_cons_of_mem _ hy)) (linkR_kept hls hth h0 k r hs (hl x (by simp)))).less fun zs s' d q => ?_
    rcases q with q | ⟨y, hy, q⟩
    · exact .inl (.inl q)
    · rcases List.mem_cons.1 hy with rfl | hy
      · exact .inl (.inr q)
      · exact .inr ⟨y, hy, q⟩
theorem nextR_kept {h : Nat} : ∀ {A : List Wlk}, (∀ w ∈ A, ∃ ys s co, RW (arcsN (l.filter fun x => usableN x c) th n) fr n x0 h w ys s co ∧ s / n ≤ th.length) → ∀ {S : List Nat → Nat → Nat → Prop} {nx : List Wlk}, Kept (arcsN (l.filter fun x => usableN x c) th n) fr n x0 th.length (h + 1) S nx →
    Kept (arcsN (l.filter fun x => usableN x c) th n) fr n x0 th.length (h + 1) (fun zs s' d => S zs s' d ∨ ∃ w ∈ A, ∃ ys s co, RW (arcsN (l.filter fun x => usableN x c) th n) fr n x0 h w ys s co ∧ ∃ x ∈ l, candW th n c x ys s co zs s' d) (A.foldl (linksR l c) nx) := by
  intro A
  induction A with
  | nil => intro _ S nx k; exact k.less fun zs s' d q => q.elim id fun ⟨x, hx, _⟩ => by simp at hx
  | cons w A ih =>
    intro hA S nx k
    obtain ⟨ys, s, co, r, hs⟩ := hA w (by simp)
    refine (ih (fun y hy => hA y (List.mem_cons_of_mem _ hy)) (linksR_kept hls hth h0 r hs (fun _ hx => hx) k)).less' fun zs s' d q => ?_
    rcases q with q | ⟨y, hy, q⟩
    · exact ⟨zs, rfl, .inl (.inl q)⟩
    · rcases List.mem_cons.1 hy with rfl | hy
      · obtain ⟨ys', s2, co', r', x, hx, q1, q2, q3, q4, q5⟩ := q
        obtain ⟨rfl, rfl, e⟩ := r.uniq r'
        refine ⟨ys ++ [entN th n x.To.toNat (s / n)], ?_, .inl (.inr ⟨x, hx, q1, q2, rfl, q4, q5⟩)⟩
        rw [q3, List.map_append, List.map_append, e]
      · exact ⟨zs, rfl, .inr ⟨y, hy, q⟩⟩
theorem next_kept {h : Nat} {A : List Wlk} (k : Kept (arcsN (l.filter fun x => usableN x c) th n) fr n x0 th.length h (fun ys s d => W (arcsN (l.filter fun x => usableN x c) th n) x0 ys d s ∧ ys.length = h) A) :
    Kept (arcsN (l.filter fun x => usableN x c) th n) fr n x0 th.length (h + 1) (fun ys s d => W (arcsN (l.filter fun x => usableN x c) th n) x0 ys d s ∧ ys.length = h + 1) (nextR l c A) := by
  have hn := nextR_kept hls hth h0 (fr := fr) (x0 := x0) (h := h) (A := A) k.a (S := fun _ _ _ => False) (nx := []) ⟨fun w hw => by simp at hw, fun _ _ _ q => q.elim⟩
  refine ⟨hn.a, ?_⟩
  rintro zs s d ⟨hw, hl⟩
  obtain ⟨zs0, y, rfl⟩ : ∃ zs0 y, zs = zs0 ++ [y] := ⟨zs.dropLast, zs.getLast (by intro e; rw [e] at hl; simp at hl), (List.dropLast_concat_getLast _).symm⟩
  obtain ⟨rfl, s0, d0, a, w1, w2, rfl⟩ := hw.snoc_inv
  simp at hl
  obtain ⟨w, hwA, ys', c', r, hr⟩ := k.b _ _ _ ⟨w1, hl⟩
  obtain ⟨_, x, x1, x2, x3, x4, x5, x6, x7⟩ := arc_inv (usk hls) w2
  obtain ⟨xm, xu⟩ := List.mem_filter.1 x1
  obtain ⟨w', hw', ys2, c2, r2, hr2⟩ := hn.b (ys' ++ [y]) y (c' + a) (.inr ⟨w, hwA, ys', s0, c', r, x, xm, x5, xu, by rw [x3], x3, by omega⟩)
  refine ⟨w', hw', ys2, c2, r2, ?_⟩
  have hlen : (ys'.map (· % n)).length = (zs0.map (· % n)).length := by simp [r.len, hl]
  have hlx := fun a b : Nat => lexlt_snoc (a := ys'.map (· % n)) (b := zs0.map (· % n)) a b hlen
  have key : c' = d0 → c2 = c' + a → ¬ lexlt ((zs0 ++ [y]).map (· % n)) (ys2.map (· % n)) := by
    rintro rfl rfl hc
    rcases hr with hr | ⟨_, hr⟩
    · omega
    rcases hr2 with hr2 | ⟨_, hr2⟩
    · omega
    rcases lexlt_tri (ys'.map (· % n)) (zs0.map (· % n)) with h1 | h1 | h1
    · apply hr2
      refine lexlt_trans ?_ hc
      simp only [List.map_append, List.map_cons, List.map_nil]
      exact (hlx _ _).2 (.inl h1)
    · apply hr2
      simp only [List.map_append, List.map_cons, List.map_nil] at hc ⊢
      rw [h1]
      exact hc
    · exact hr h1
  have b1 : c' ≤ d0 := by omega
  have b2 : c2 ≤ c' + a := by omega
  rcases Nat.lt_or_ge c2 (d0 + a) with h1 | h1
  · exact .inl h1
  · exact .inr ⟨by omega, key (by omega) (by omega)⟩
end
/-- The least walk to z of less than h steps, if there is one. -/
def BestLt (E : List Arc) (fr n x0 z h : Nat) : Option Wlk → Prop
  | none => ∀ ys d, W E x0 ys d z → h ≤ ys.length
  | some w => ∃ ys c, RW E fr n x0 ys.length w ys z c ∧ ys.length < h ∧ ∀ zs d, W E x0 zs d z → zs.length < h → c < d ∨ c = d ∧ (ys.length < zs.length ∨ ys.length = zs.length ∧ ¬ lexlt (zs.map (· % n)) (ys.map (· % n)))
theorem nodup_inj {α : Type} {f : α → Nat} : ∀ {A : List α}, (A.map f).Nodup → ∀ {a b : α}, a ∈ A → b ∈ A → f a = f b → a = b := by
  intro A
  induction A with
  | nil => intro _ a b h; simp at h
  | cons x A ih =>
    intro hd a b ha hb e
    rw [List.map_cons, List.nodup_cons] at hd
    rcases List.mem_cons.1 ha with h1 | h1 <;> rcases List.mem_cons.1 hb with h2 | h2
    · rw [h1, h2]
    · exact absurd (List.mem_map.2 ⟨b, h2, by rw [← e, h1]⟩) hd.1
    · exact absurd (List.mem_map.2 ⟨a, h1, by rw [e, h2]⟩) hd.1
    · exact ih hd.2 h1 h2 e
theorem bestR_no {to : Int} {t : Nat} : ∀ {A : List Wlk} {b : Option Wlk}, (∀ w ∈ A, ¬ (lastW w = to ∧ w.D = t)) → bestR to t b A = b := by
  intro A
  induction A with
  | nil => intro b _; rfl
  | cons w A ih =>
    intro b h
    unfold bestR at ih ⊢
    rw [List.foldl_cons]
    have : bestS to t b w = b := by
      unfold bestS
      rw [if_neg]
      rintro ⟨h1, h2, _⟩
      exact h w (by simp) ⟨h1, h2⟩
    rw [this]
    exact ih fun y hy => h y (List.mem_cons_of_mem _ hy)
theorem bestR_one {n : Nat} {to : Int} {t : Nat} : ∀ {A : List Wlk} {b : Option Wlk}, (A.map (codeW n)).Nodup → ∀ w ∈ A, lastW w = to → w.D = t → bestR to t b A = if lessB b w = true then some w else b := by
  intro A
  induction A with
  | nil => intro b _ w hw; simp at hw
  | cons x A ih =>
    intro b hd w hw h1 h2
    rw [List.map_cons, List.nodup_cons] at hd
    rcases List.mem_cons.1 hw with rfl | hw
    · have hno : bestR to t (bestS to t b w) A = bestS to t b w := bestR_no fun y hy ⟨e1, e2⟩ => hd.1 (List.mem_map.2 ⟨y, hy, by unfold codeW; rw [e1, e2, h1, h2]⟩)
      show bestR to t (bestS to t b w) A = _
      rw [hno]
      unfold bestS
      by_cases hl : lessB b w = true
      · rw [if_pos ⟨h1, h2, hl⟩, if_pos hl]
      · rw [if_neg (fun q => hl q.2.2), if_neg hl]
    · show bestR to t (bestS to t b x) A = _
      rw [ih hd.2 w hw h1 h2]
      have : bestS to t b x = b := by
        unfold bestS
        rw [if_neg]
        rintro ⟨e1, e2, _⟩
        exact hd.1 (List.mem_map.2 ⟨w, hw, by unfold codeW; rw [e1, e2, h1, h2]⟩)
      rw [this]
theorem BestLt.step {E : List Arc} {fr n x0 to t h : Nat} (h0 : 0 < n) (hto : to < n) {b : Option Wlk} (hb : BestLt E fr n x0 (t * n + to) h b) {A : List Wlk} (k : Kept E fr n x0 t h (fun ys s d => W E x0 ys d s ∧ ys.length = h) A) (hd : (A.map (codeW n)).Nodup) : BestLt E fr n x0 (t * n + to) (h + 1) (bestR (to : Int) t b A) := by
  have zd : (t * n + to) / n = t := by rw [Nat.mul_comm, Nat.mul_add_div h0, Nat.div_eq_of_lt hto]; rfl
  have zm : (t * n + to) % n = to := by rw [Nat.mul_comm, Nat.mul_add_mod, Nat.mod_eq_of_lt hto]
  by_cases hw : ∃ w ∈ A, codeW n w = t * n + to
  · obtain ⟨w, hwA, hc⟩ := hw
    obtain ⟨ys, s, c, r, _⟩ := k.a w hwA
    have hs : s = t * n + to := by rw [← r.code, hc]
    subst hs
    rw [bestR_one hd w hwA (by rw [r.L, zm]) (by rw [r.D, zd])]
    have hmin : ∀ zs d, W E x0 zs d (t * n + to) → zs.length = h → c < d ∨ c = d ∧ ¬ lexlt (zs.map (· % n)) (ys.map (· % n)) := by
      intro zs d h1 h2
      obtain ⟨w', hw', ys', c', r', hr'⟩ := k.b _ _ _ ⟨h1, h2⟩
      have : w = w' := by
        exact nodup_inj hd hwA hw' (by rw [r.code, r'.code])
      subst this
      obtain ⟨_, rfl, e⟩ := r.uniq r'
      rw [e]
      exact hr'
    have rl := r.len
    rw [← rl] at r
    by_cases hl : lessB b w = true
    · rw [if_pos hl]
      refine ⟨ys, c, r, by omega, fun zs d h1 h2 => ?_⟩
      by_cases e : zs.length = h
      · have := hmin zs d h1 e
        rcases this with h3 | ⟨h3, h4⟩
        · exact .inl h3
        · exact .inr ⟨h3, .inr ⟨by omega, h4⟩⟩
      · cases b with
        | none => have := hb zs d h1; omega
        | some q =>
          obtain ⟨us, cq, rq, h3, h4⟩ := hb
          unfold lessB at hl
          simp only [decide_eq_true_eq] at hl
          rw [r.C, rq.C] at hl
          have := h4 zs d h1 (by omega)
          omega
    · rw [if_neg hl]
      cases b with
      | none => exact absurd rfl hl
      | some q =>
        obtain ⟨us, cq, rq, h3, h4⟩ := hb
        unfold lessB at hl
        simp only [decide_eq_true_eq] at hl
        rw [r.C, rq.C] at hl
        refine ⟨us, cq, rq, by omega, fun zs d h1 h2 => ?_⟩
        by_cases e : zs.length = h
        · have := hmin zs d h1 e
          omega
        · exact h4 zs d h1 (by omega)
  · have hnw : ∀ zs d, W E x0 zs d (t * n + to) → zs.length ≠ h := by
      intro zs d h1 h2
      obtain ⟨w', hw', ys', c', r', _⟩ := k.b _ _ _ ⟨h1, h2⟩
      exact hw ⟨w', hw', r'.code⟩
    rw [bestR_no (fun w hwA ⟨e1, e2⟩ => hw ⟨w, hwA, by unfold codeW; rw [e1, e2]; simp⟩)]
    cases b with
    | none =>
      intro ys d h1
      have := hb ys d h1
      have := hnw ys d h1
      omega
    | some q =>
      obtain ⟨us, cq, rq, h3, h4⟩ := hb
      exact ⟨us, cq, rq, by omega, fun zs d h1 h2 => h4 zs d h1 (by have := hnw zs d h1; omega)⟩
theorem loopR_best {l : List Lnk} {n fr x0 to : Nat} {c : Con} (hls : ∀ x ∈ l, okLk n x) (h0 : 0 < n) (hto : to < n) (sz : Nat) (b0 : Option Wlk) (A0 : List Wlk) : ∀ (f h : Nat) (A : List Wlk) (b : Option Wlk), f + h = sz + 1 → h ≤ sz → (∀ j, j < h → j < sz ∧ limH c.Hops j) →
    Kept (arcsN (l.filter fun x => usableN x c) c.Thru n) fr n x0 c.Thru.length h (fun ys s d => W (arcsN (l.filter fun x => usableN x c) c.Thru n) x0 ys d s ∧ ys.length = h) A → okNx n c.Thru.length h A → BestLt (arcsN (l.filter fun x => usableN x c) c.Thru n) fr n x0 (c.Thru.length * n + to) h b →
    match loopR l c (to : Int) sz f h A b with
    | none => ∀ ys d, W (arcsN (l.filter fun x => usableN x c) c.Thru n) x0 ys d (c.Thru.length * n + to) → ¬ (ys.length < sz ∧ limH c.Hops ys.length)
    | some w => ∃ ys co, RW (arcsN (l.filter fun x => usableN x c) c.Thru n) fr n x0 ys.length w ys (c.Thru.length * n + to) co ∧ Best (arcsN (l.filter fun x => usableN x c) c.Thru n) (· % n) (fun k => k < sz ∧ limH c.Hops k) x0 (c.Thru.length * n + to) ys co := by
  have fin : ∀ (h : Nat) (b : Option Wlk), (∀ j, j < h → j < sz ∧ limH c.Hops j) → BestLt (arcsN (l.filter fun x => usableN x c) c.Thru n) fr n x0 (c.Thru.length * n + to) h b → (∀ ys d, W (arcsN (l.filter fun x => usableN x c) c.Thru n) x0 ys d (c.Thru.length * n + to) → (ys.length < sz ∧ limH c.Hops ys.length) → ys.length < h) →
    match b with
    | none => ∀ ys d, W (arcsN (l.filter fun x => usableN x c) c.Thru n) x0 ys d (c.Thru.length * n + to) → ¬ (ys.length < sz ∧ limH c.Hops ys.length)
    | some w => ∃ ys co, RW (arcsN (l.filter fun x => usableN x c) c.Thru n) fr n x0 ys.length w ys (c.Thru.length * n + to) co ∧ Best (arcsN (l.filter fun x => usableN x c) c.Thru n) (· % n) (fun k => k < sz ∧ limH c.Hops k) x0 (c.Thru.length * n + to) ys co := by
    intro h b hj hb hl
    cases b with
    | none =>
      intro ys d hw hlm
      have := hb ys d hw
      have := hl ys d hw hlm
      omega
    | some w =>
      obtain ⟨ys, co, r, h1, h2⟩ := hb
      exact ⟨ys, co, r, r.wk, hj _ h1, fun zs d hw hlm => h2 zs d hw (hl zs d hw hlm)⟩
  intro f
  induction f with
  | zero => intro h A b h1 h2; omega
  | succ f ih =>
    intro h A b h1 h2 hj k ok hb
    simp only [loopR]
    by_cases hc : A ≠ [] ∧ h < sz ∧ (c.Hops = 0 ∨ (h : Int) ≤ c.Hops)
    · rw [if_pos hc]
      refine ih (h + 1) _ _ (by omega) (by omega) (fun j hj' => ?_) (next_kept hls rfl h0 k) (nextR_ok rfl hls ok.w) (hb.step h0 hto k ok.nd)
      by_cases e : j = h
      · subst e; exact ⟨hc.2.1, hc.2.2⟩
      · exact hj j (by omega)
    · rw [if_neg hc]
      refine fin h b hj hb fun ys d hw hlm => ?_
      rcases Nat.lt_or_ge ys.length h with h3 | h3
      · exact h3
      · by_cases hA : A = []
        · obtain ⟨y, a, b', w1, w2, _⟩ := (show W (arcsN (l.filter fun x => usableN x c) c.Thru n) x0 (ys.take h ++ ys.drop h) d _ by rw [List.take_append_drop]; exact hw).split
          obtain ⟨w, hwA, _⟩ := k.b _ _ _ ⟨w1, by simp; omega⟩
          rw [hA] at hwA
          simp at hwA
        · exfalso
          apply hc
          refine ⟨hA, by omega, limH_mono _ _ _ h3 hlm.2⟩
end Go.Proofs.Ytgcnlmcpmocbhaa

/- The reference's Route, by the program. -/
namespace Go.Proofs.Ytgcnlmcpmocbhaa
open Go Go.Am Go.Wk

def bC : Option Wlk → List AVal
  | none => [.sl 1 [] .sh, .int .i64 0, .int .i64 0]
  | some w => ceW w
theorem firstW_ok {n : Nat} {fr : Int} (h0 : 0 ≤ fr) (h1 : fr < n) (c : Con) : okW n c.Thru.length 0 (firstW fr c) := by
  refine ⟨rfl, by simpa [lastW, firstW] using h0, by simpa [lastW, firstW] using h1, by simp [firstW], by simp [firstW], ?_⟩
  simp only [firstW]
  split
  · rename_i e
    have := (List.getElem?_eq_some_iff.1 e).1
    omega
  · omega
/-- The first loop of a code. -/
def firstLoop : Code → Option Code
  | .loop c => some c
  | .seq a b => (firstLoop a).orElse fun _ => firstLoop b
  | .block _ c => firstLoop c
  | .cond _ a b => (firstLoop a).orElse fun _ => firstLoop b
  | .scope c => firstLoop c
  | _ => none
def loopIn (c : Code) : Code := (firstLoop c).getD .skip
structure OS where
  h : Nat
  A : List Wlk
  b : Option Wlk
structure WS where
  j : Nat
  nx : List Wlk
  b : Option Wlk
structure LS where
  i : Nat
  nx : List Wlk
  loc : Nat
theorem loopR_stop {l : List Lnk} {c : Con} {to : Int} {sz h : Nat} {A : List Wlk} {b : Option Wlk} (hc : ¬ (A ≠ [] ∧ h < sz ∧ (c.Hops = 0 ∨ (h : Int) ≤ c.Hops))) : ∀ f, loopR l c to sz f h A b = b
  | 0 => rfl
  | f + 1 => by simp only [loopR]; rw [if_neg hc]
theorem loopR_go {l : List Lnk} {c : Con} {to : Int} {sz h : Nat} {A : List Wlk} {b : Option Wlk} (hc : A ≠ [] ∧ h < sz ∧ (c.Hops = 0 ∨ (h : Int) ≤ c.Hops)) : loopR l c to sz (sz + 1 - h) h A b = loopR l c to sz (sz + 1 - (h + 1)) (h + 1) (nextR l c A) (bestR to c.Thru.length b A) := by
  obtain ⟨f, hf⟩ : ∃ f, sz + 1 - h = f + 1 := ⟨sz - h, by omega⟩
  rw [hf, show sz + 1 - (h + 1) = f by omega]
  simp only [loopR]
  rw [if_pos hc]
theorem bC_le (m : Nat) (b : Option Wlk) : LeCells m (bC b) (bC b) := by cases b <;> simp [bC, ceW, LeCells]
def nxV (nx : List Wlk) : Nat → AVal
  | 0 => .sl 0 [] .full
  | 1 => .osl 4 0 nx.length none 3
  | _ => .osl 3 0 nx.length none 3
def HL (c : Con) (b : Option Wlk) (w : Wlk) (nx : List Wlk) : Nat → List (List AVal)
  | 0 => [cellsC c, [], bC b, ceW w]
  | 1 => [cellsC c, [], bC b, ceW w, rowC ceW nx]
  | _ => [cellsC c, [], bC b, rowC ceW nx, ceW w]
/-- What the slots hold around the links. -/
def slL (l : List Lnk) (N : Nat) (to : Int) (b : Option Wlk) (h : Nat) (A : List Wlk) (j : Nat) (nx : List Wlk) (loc : Nat) : List (Nat × AVal) :=
  [(0, .int .i64 N), (1, .sl 13 (l.map encL) .sh), (3, .int .i64 to), (9, .ptr 0 0), (16, .ptr 2 0), (17, .bool b.isSome), (18, .int .i64 h), (19, nxV nx loc), (96, .sl 3 (A.map encW) .sh), (97, .int .i64 A.length), (98, .int .i64 j)]
def holds (t : Nat → AVal) (L : List (Nat × AVal)) : Prop := ∀ p ∈ L, t p.1 = p.2
theorem bC_tree (b : Option Wlk) : (bC b).all AVal.tree = true := by cases b <;> rfl
theorem treeCS {σ : Nat → Nat} {N n : Nat} {cs : List AVal} (h : cs.all AVal.tree = true) : LeCellsS σ N n cs cs := treeCellsS h
set_option maxHeartbeats 16000000 in
set_option maxRecDepth 10000 in
theorem c16l (l : List Lnk) (m : Nat) (hm : l.length = m) (hm2 : m ≤ 1024) (c : Con) (p : Nat) (hp : c.Avoid.length = p) (hp2 : p < 9223372036854775807) (N : Nat) (hN2 : N ≤ 128) (t : Nat) (ht : c.Thru.length = t) (ht3 : t ≤ 64) (hlk : ∀ x ∈ l, okLk N x) (to : Int)
    (h : Nat) (hh : h ≤ 8320) (A : List Wlk) (j : Nat) (b : Option Wlk) (w : Wlk) (hw : okW N t h w) (nx0 : List Wlk) (hn0 : okNx N t (h + 1) nx0) (loc0 : Nat) (hl0 : loc0 = 0 ∧ nx0 = [] ∨ loc0 = 2 ∧ nx0 ≠ [])
    (Q : APost) (hQ : ∀ (u : Nat → AVal) (nx : List Wlk) (loc : Nat), holds u (slL l N to b h A j nx loc) → nx = linksR l c nx0 w → okNx N t (h + 1) nx → (loc = 0 ∧ nx = [] ∨ loc = 1 ∧ nx ≠ [] ∨ loc = 2 ∧ nx ≠ []) → Q (.exit 4) ⟨u, HL c b w nx loc⟩) (body : Code) (hb : loopIn (loopIn (loopIn (Try.f16.body.getD .skip))) = body) (s : ASt)
    (hs : Le 0 s (slL l N to b h A j nx0 loc0 ++ [(21, .ptr (if loc0 = 2 then 4 else 3) 0), (129, .sl 13 (l.map encL) .sh), (130, .int .i64 m), (131, .int .i64 0)]) (HL c b w nx0 loc0)) : LoopK Try.prog 166 0 body Q s := by
  unfold Try.f16 at hb
  simp only [loopIn, Option.getD_some, firstLoop, Option.orElse_none, Option.orElse_some] at hb
  subst hb
  have hble := fun q b => bC_le q b
  have h10 := fun x H => (c10 x c p hp hp2).up' H (by simp [noid, noid0]) rfl
  have hrle := fun q l => eWe.rowLe q l
  obtain ⟨hwl, hwg⟩ := lastW_get hw
  have hwlen := hw.len
  refine LoopK.introS (tr := [30000019000007]) mixed (by kernel_rfl)
    (fun s : LS => slL l N to b h A j s.nx s.loc ++ [(21, .ptr (if s.loc = 2 then 4 else 3) 0), (129, .sl 13 (l.map encL) .sh), (130, .int .i64 m), (131, .int .i64 s.i)])
    (fun s => HL c b w s.nx s.loc)
    (fun s => s.i ≤ m ∧ okNx N t (h + 1) s.nx ∧ linksR l c nx0 w = (l.drop s.i).foldl (linkR c w) s.nx ∧ (s.loc = 0 ∧ s.nx = [] ∨ s.loc = 1 ∧ s.nx ≠ [] ∨ s.loc = 2 ∧ s.nx ≠ [])) (fun s => m - s.i) ⟨0, nx0, loc0⟩ ?_ hs ?_
  · exact ⟨Nat.zero_le _, hn0, rfl, hl0.elim .inl fun q => .inr (.inr q)⟩
  · clear hs
    rintro ⟨i, nx, loc⟩ ⟨i1, i2, i3, i4⟩
    simp only at i1 i2 i3 i4
    generalize hPQ : LoopPostS _ _ _ _ _ _ _ = PQ
    by_cases hi : i < m
    case neg =>
      have hle : l.length ≤ i := by omega
      rw [List.drop_eq_nil_of_le hle] at i3
      have q := fun u hu => hQ u nx loc hu i3.symm i2 i4
      simp only [slL]
      simp [hi]
      rw [← hPQ]
      simp only [LoopPostS]
      refine q _ ?_
      intro p hp
      simp only [slL, List.mem_cons, List.not_mem_nil, or_false] at hp
      rcases hp with rfl | rfl | rfl | rfl | rfl | rfl | rfl | rfl | rfl | rfl | rfl <;> simp
    obtain ⟨x, hx⟩ : ∃ x, l[i]? = some x := ⟨_, List.getElem?_eq_getElem (by omega)⟩
    have hxok := hlk x (List.mem_of_getElem? hx)
    have hd : l.drop i = x :: l.drop (i + 1) := by
      obtain ⟨k1, k2⟩ := List.getElem?_eq_some_iff.1 hx
      rw [List.drop_eq_getElem_cons k1, k2]
    rw [hd, List.foldl_cons] at i3
    have hu := h10 x
    have w3 : IntKind.i64.wrap ((i : Int) + 1) = i + 1 := wrap_in (by omega)
    have hgN : w.N.getD h 0 = lastW w := hwl
    have hih : h < w.N.length := by omega
    have h34 := fun H => (c34 w (by omega) ⟨hw.c0, by have := hw.c1; omega⟩ x (by obtain ⟨_, _, _, _, q5, q6⟩ := hxok; omega) c (by have := hw.d; omega)).up' H (by simp [noid, noid0, ceW]) (by simp [noid, noid0, ceW])
    have hwo := hw.step hxok ht
    have hko := i2.keep hwo
    obtain ⟨w', hw'⟩ : ∃ w', w' = stepW w x c := ⟨_, rfl⟩
    have hwl' := hwo.len
    have hlen := i2.length
    have hlb : N * (t + 1) ≤ 128 * 65 := Nat.mul_le_mul hN2 (by omega)
    have hwn : ∀ y ∈ nx, 0 < y.N.length ∧ y.N.length < 1000000 := fun y hy => by have := (i2.w y hy).len; omega
    rw [← hw'] at h34 hko hwl'
    have hlk0 : ¬ (x.From = lastW w ∧ usableN x c = true) → linkR c w nx x = nx := fun q => by unfold linkR; rw [if_neg q]
    have hlk1 : (x.From = lastW w ∧ usableN x c = true) → linkR c w nx x = keepN nx w' := fun q => by unfold linkR; rw [if_pos q, ← hw']
    rcases i4 with ⟨rfl, hnil⟩ | ⟨rfl, hnil⟩ | ⟨rfl, hnil⟩
    · simp only [slL, HL, nxV] at *
      by_cases f1 : x.From = lastW w
      case neg =>
        rw [hlk0 (fun q => f1 q.1)] at i3
        simp [hi, hm, hx, gE hx, ceW, hih, hwg, gE hwg, f1, w3]
        rw [← hPQ]
        simp only [LoopPostS]
        exact ⟨⟨i + 1, nx, 0⟩, ⟨by simp only; omega, i2, i3, .inl ⟨rfl, hnil⟩⟩, by simp only; omega, .inl (by simp [ceW, hble, hrle])⟩
      by_cases f2 : usableN x c = true
      case neg =>
        have f2' : usableN x c = false := by simpa using f2
        rw [f2'] at hu
        rw [hlk0 (fun q => f2 q.2)] at i3
        simp [hi, hm, hx, gE hx, ceW, hih, hwg, gE hwg, f1]
        refine ⟨_, _, .inl (by simpa using hu _), by simp, ?_⟩
        simp [w3]
        rw [← hPQ]
        simp only [LoopPostS]
        exact ⟨⟨i + 1, nx, 0⟩, ⟨by simp only; omega, i2, i3, .inl ⟨rfl, hnil⟩⟩, by simp only; omega, .inl (by simp [ceW, hble, hrle])⟩
      rw [hlk1 ⟨f1, f2⟩] at i3
      rw [f2] at hu
      have hk := (c33n w' (by omega) (by omega)).upAll [cellsC c, [], bC b, ceW w, cellsL x] rfl (by simp [noid, noid0, ceW]) rfl
      have hkk : keepN nx w' = [w'] := by rw [hnil]; rfl
      rw [hkk] at hko i3
      simp [hi, hm, hx, gE hx, ceW, hih, hwg, gE hwg, f1]
      refine ⟨_, _, .inl (by simpa using hu _), by simp, ?_⟩
      simp
      refine ⟨_, _, .inl (by simpa [ceW] using h34 _), by simp, ?_⟩
      simp
      refine ⟨_, _, .inl (by simpa [ren, ren0, grow, ceW] using hk), by simp, ?_⟩
      have t1 : ∀ l : List Wlk, LeCellsS (swp 4 6) 7 5 (rowC ceW l) (rowC ceW l) := fun l => treeCS (eWe.rowTree l)
      have t2 : LeCellsS (swp 4 6) 7 5 (bC b) (bC b) := treeCS (bC_tree b)
      simp [w3]
      rw [← hPQ]
      simp only [LoopPostS]
      refine ⟨⟨i + 1, [w'], 1⟩, ⟨by simp only; omega, hko, i3, by simp⟩, by simp only; omega, .inr ⟨4, 6, by simp, by simp, by simp, by simp, by simp, ?_, ?_⟩⟩
      · simp [slL, nxV, LeLookS, ren, ren0, swp]
      · simp [HL, LeBoxesS, swpH, t1, t2, LeCellsS, ceW, ren, ren0, swp]
    · simp only [slL, HL, nxV] at *
      by_cases f1 : x.From = lastW w
      case neg =>
        rw [hlk0 (fun q => f1 q.1)] at i3
        simp [hi, hm, hx, gE hx, ceW, hih, hwg, gE hwg, f1, w3]
        rw [← hPQ]
        simp only [LoopPostS]
        exact ⟨⟨i + 1, nx, 1⟩, ⟨by simp only; omega, i2, i3, .inr (.inl ⟨rfl, hnil⟩)⟩, by simp only; omega, .inl (by simp [ceW, hble, hrle])⟩
      by_cases f2 : usableN x c = true
      case neg =>
        have f2' : usableN x c = false := by simpa using f2
        rw [f2'] at hu
        rw [hlk0 (fun q => f2 q.2)] at i3
        simp [hi, hm, hx, gE hx, ceW, hih, hwg, gE hwg, f1]
        refine ⟨_, _, .inl (by simpa using hu _), by simp, ?_⟩
        simp [w3]
        rw [← hPQ]
        simp only [LoopPostS]
        exact ⟨⟨i + 1, nx, 1⟩, ⟨by simp only; omega, i2, i3, .inr (.inl ⟨rfl, hnil⟩)⟩, by simp only; omega, .inl (by simp [ceW, hble, hrle])⟩
      rw [hlk1 ⟨f1, f2⟩] at i3
      rw [f2] at hu
      have hml : 0 < nx.length := List.length_pos_iff.2 hnil
      rcases keepN_cases nx w' with ⟨k, y, y1, y2, y3, y4⟩ | ⟨y1, y2⟩
      · have hk := (c33s nx nx.length rfl hml (by omega) w' (by omega) (by omega) hwn ⟨y, List.mem_of_getElem? y1, y2, y3⟩).at (H := [cellsC c, [], bC b, ceW w, rowC ceW nx, cellsL x]) (id := 4) rfl (eWe.rowNoid _) (eWe.rowNoid _) (by simp [low, low0, ceW]) rfl
        simp [hi, hm, hx, gE hx, ceW, hih, hwg, gE hwg, f1]
        refine ⟨_, _, .inl (by simpa using hu _), by simp, ?_⟩
        simp
        refine ⟨_, _, .inl (by simpa [ceW] using h34 _), by simp, ?_⟩
        simp
        refine ⟨_, _, .inl (by simpa [ren, ren0, ceW] using hk), by simp, ?_⟩
        have hkl : (keepN nx w').length = nx.length := by rw [y4]; simp
        have hke : keepN nx w' ≠ [] := by intro e; rw [e] at hkl; simp at hkl; omega
        simp [w3]
        rw [← hPQ]
        simp only [LoopPostS]
        exact ⟨⟨i + 1, keepN nx w', 1⟩, ⟨by simp only; omega, hko, i3, by simp [hke]⟩, by simp only; omega, .inl (by simp [slL, HL, nxV, ceW, hble, hrle, hkl])⟩
      · have hk := (c33m nx nx.length rfl hml (by omega) w' (by omega) (by omega) hwn y1).atNews (H := [cellsC c, [], bC b, ceW w, rowC ceW nx, cellsL x]) (id := 4) rfl (eWe.rowNoid _) rfl (by simp [eWe.rowNoid]) (by simp [low, low0, ceW]) rfl
        simp [hi, hm, hx, gE hx, ceW, hih, hwg, gE hwg, f1]
        refine ⟨_, _, .inl (by simpa using hu _), by simp, ?_⟩
        simp
        refine ⟨_, _, .inl (by simpa [ceW] using h34 _), by simp, ?_⟩
        simp
        refine ⟨_, _, .inl (by simpa [ren, ren0, grow, ceW] using hk), by simp, ?_⟩
        rw [y2] at hko i3
        have t1 : ∀ l : List Wlk, LeCellsS (swp 4 7) 8 5 (rowC ceW l) (rowC ceW l) := fun l => treeCS (eWe.rowTree l)
        have t2 : LeCellsS (swp 4 7) 8 5 (bC b) (bC b) := treeCS (bC_tree b)
        simp [w3]
        rw [← hPQ]
        simp only [LoopPostS]
        refine ⟨⟨i + 1, nx ++ [w'], 1⟩, ⟨by simp only; omega, hko, i3, by simp⟩, by simp only; omega, .inr ⟨4, 7, by simp, by simp, by simp, by simp, by simp, ?_, ?_⟩⟩
        · simp [slL, nxV, LeLookS, ren, ren0, swp]
        · simp [HL, LeBoxesS, swpH, t1, t2, LeCellsS, ceW, ren, ren0, swp]
    · simp only [slL, HL, nxV] at *
      by_cases f1 : x.From = lastW w
      case neg =>
        rw [hlk0 (fun q => f1 q.1)] at i3
        simp [hi, hm, hx, gE hx, ceW, hih, hwg, gE hwg, f1, w3]
        rw [← hPQ]
        simp only [LoopPostS]
        exact ⟨⟨i + 1, nx, 2⟩, ⟨by simp only; omega, i2, i3, .inr (.inr ⟨rfl, hnil⟩)⟩, by simp only; omega, .inl (by simp [ceW, hble, hrle])⟩
      by_cases f2 : usableN x c = true
      case neg =>
        have f2' : usableN x c = false := by simpa using f2
        rw [f2'] at hu
        rw [hlk0 (fun q => f2 q.2)] at i3
        simp [hi, hm, hx, gE hx, ceW, hih, hwg, gE hwg, f1]
        refine ⟨_, _, .inl (by simpa using hu _), by simp, ?_⟩
        simp [w3]
        rw [← hPQ]
        simp only [LoopPostS]
        exact ⟨⟨i + 1, nx, 2⟩, ⟨by simp only; omega, i2, i3, .inr (.inr ⟨rfl, hnil⟩)⟩, by simp only; omega, .inl (by simp [ceW, hble, hrle])⟩
      rw [hlk1 ⟨f1, f2⟩] at i3
      rw [f2] at hu
      have hml : 0 < nx.length := List.length_pos_iff.2 hnil
      rcases keepN_cases nx w' with ⟨k, y, y1, y2, y3, y4⟩ | ⟨y1, y2⟩
      · have hk := (c33s nx nx.length rfl hml (by omega) w' (by omega) (by omega) hwn ⟨y, List.mem_of_getElem? y1, y2, y3⟩).at (H := [cellsC c, [], bC b, rowC ceW nx, ceW w, cellsL x]) (id := 3) rfl (eWe.rowNoid _) (eWe.rowNoid _) (by simp [low, low0, ceW]) rfl
        simp [hi, hm, hx, gE hx, ceW, hih, hwg, gE hwg, f1]
        refine ⟨_, _, .inl (by simpa using hu _), by simp, ?_⟩
        simp
        refine ⟨_, _, .inl (by simpa [ceW] using h34 _), by simp, ?_⟩
        simp
        refine ⟨_, _, .inl (by simpa [ren, ren0, ceW] using hk), by simp, ?_⟩
        have hkl : (keepN nx w').length = nx.length := by rw [y4]; simp
        have hke : keepN nx w' ≠ [] := by intro e; rw [e] at hkl; simp at hkl; omega
        simp [w3]
        rw [← hPQ]
        simp only [LoopPostS]
        exact ⟨⟨i + 1, keepN nx w', 2⟩, ⟨by simp only; omega, hko, i3, by simp [hke]⟩, by simp only; omega, .inl (by simp [slL, HL, nxV, ceW, hble, hrle, hkl])⟩
      · have hk := (c33m nx nx.length rfl hml (by omega) w' (by omega) (by omega) hwn y1).atNews (H := [cellsC c, [], bC b, rowC ceW nx, ceW w, cellsL x]) (id := 3) rfl (eWe.rowNoid _) rfl (by simp [eWe.rowNoid]) (by simp [low, low0, ceW]) rfl
        simp [hi, hm, hx, gE hx, ceW, hih, hwg, gE hwg, f1]
        refine ⟨_, _, .inl (by simpa using hu _), by simp, ?_⟩
        simp
        refine ⟨_, _, .inl (by simpa [ceW] using h34 _), by simp, ?_⟩
        simp
        refine ⟨_, _, .inl (by simpa [ren, ren0, grow, ceW] using hk), by simp, ?_⟩
        rw [y2] at hko i3
        have t1 : ∀ l : List Wlk, LeCellsS (swp 3 7) 8 5 (rowC ceW l) (rowC ceW l) := fun l => treeCS (eWe.rowTree l)
        have t2 : LeCellsS (swp 3 7) 8 5 (bC b) (bC b) := treeCS (bC_tree b)
        simp [w3]
        rw [← hPQ]
        simp only [LoopPostS]
        refine ⟨⟨i + 1, nx ++ [w'], 2⟩, ⟨by simp only; omega, hko, i3, by simp⟩, by simp only; omega, .inr ⟨3, 7, by simp, by simp, by simp, by simp, by simp, ?_, ?_⟩⟩
        · simp [slL, nxV, LeLookS, ren, ren0, swp]
        · simp [HL, LeBoxesS, swpH, t1, t2, LeCellsS, ceW, ren, ren0, swp]
end Go.Proofs.Ytgcnlmcpmocbhaa
