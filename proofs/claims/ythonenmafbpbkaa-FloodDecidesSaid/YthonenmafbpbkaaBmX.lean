/- The abstract machine, part twenty-four: a variable lent to a call that only reads; loops in which variables change their places. -/
import Derived.Test.YthonenmafbpbkaaBmV
namespace Go.Am
open Go
def swp (p q i : Nat) : Nat := if i = p then q else if i = q then p else i
theorem swp_swp (p q i : Nat) : swp p q (swp p q i) = i := by
 unfold swp
 repeat' split
 all_goals omega
theorem swp_lt {p q i N : Nat} (hp : p < N) (hq : q < N) (hi : i < N) : swp p q i < N := by
 unfold swp
 repeat' split
 all_goals omega
theorem swp_low {p q i m : Nat} (hp : m ≤ p) (hq : m ≤ q) (hi : i < m) : swp p q i = i := by
 unfold swp
 repeat' split
 all_goals omega
def swpH (p q : Nat) (H : List (List AVal)) : List (List AVal) := (H.set p (H.getD q [])).set q (H.getD p [])
theorem swpH_get {p q : Nat} {H : List (List AVal)} (hp : p < H.length) (hq : q < H.length) (i : Nat) : (swpH p q H)[i]? = H[swp p q i]? := by
 unfold swpH swp
 rw [List.getElem?_set]
 by_cases e1 : q = i
 · subst e1
   rw [if_pos rfl, if_pos (by simpa using hq)]
   by_cases e2 : q = p
   · subst e2; rw [if_pos rfl]; simp [List.getD_eq_getElem?_getD, hp]
   · rw [if_neg e2, if_pos rfl]; simp [List.getD_eq_getElem?_getD, hp]
 · rw [if_neg e1, List.getElem?_set]
   by_cases e2 : p = i
   · subst e2
     rw [if_pos rfl, if_pos hp, if_pos rfl]; simp [List.getD_eq_getElem?_getD, hq]
   · rw [if_neg e2, if_neg (fun e => e2 e.symm), if_neg (fun e => e1 e.symm)]
def LeLookS (σ : Nat → Nat) (N n : Nat) (t : Nat → AVal) : List (Nat × AVal) → Prop
 | [] => True
 | (d, x) :: l => LeV (ren σ (t d)) x ∧ low N (t d) = true ∧ low n x = true ∧ LeLookS σ N n t l
def LeCellsS (σ : Nat → Nat) (N n : Nat) : List AVal → List AVal → Prop
 | _, [] => True
 | y :: ys, x :: xs => LeV (ren σ y) x ∧ low N y = true ∧ low n x = true ∧ LeCellsS σ N n ys xs
 | [], _ :: _ => False
def LeBoxesS (σ : Nat → Nat) (N n : Nat) : List (List AVal) → List (List AVal) → Prop
 | _, [] => True
 | c :: cs, d :: ds => LeCellsS σ N n c d ∧ LeBoxesS σ N n cs ds
 | [], d :: ds => d = [] ∧ LeBoxesS σ N n [] ds
theorem LeLookS_get {σ : Nat → Nat} {N n : Nat} {t : Nat → AVal} : ∀ {l : List (Nat × AVal)}, LeLookS σ N n t l → ∀ i, look l i = .undef ∨ (LeV (ren σ (t i)) (look l i) ∧ low N (t i) = true ∧ low n (look l i) = true) := by
 intro l
 induction l with
 | nil => intro _ i; exact .inl rfl
 | cons p l ih =>
   intro h i
   obtain ⟨d, x⟩ := p
   obtain ⟨h1, h2, h3, h4⟩ := h
   simp only [look]
   split
   · rename_i e; subst e; exact .inr ⟨h1, h2, h3⟩
   · exact ih h4 i
theorem LeCellsS_get {σ : Nat → Nat} {N n : Nat} : ∀ {ys xs : List AVal}, LeCellsS σ N n ys xs → xs.length ≤ ys.length ∧ ∀ (j : Nat) (y x : AVal), ys[j]? = some y → xs[j]? = some x → LeV (ren σ y) x ∧ low N y = true ∧ low n x = true := by
 intro ys
 induction ys with
 | nil => intro xs h; cases xs with | nil => exact ⟨Nat.le_refl _, by simp⟩ | cons => exact h.elim
 | cons y ys ih =>
   intro xs h
   cases xs with
   | nil => exact ⟨by simp, by simp⟩
   | cons x xs =>
     obtain ⟨h1, h2, h3, h4⟩ := h
     obtain ⟨g1, g2⟩ := ih h4
     refine ⟨by simpa using g1, fun j a b ha hb => ?_⟩
     cases j with
     | zero => simp at ha hb; subst ha hb; exact ⟨h1, h2, h3⟩
     | succ j => exact g2 j a b (by simpa using ha) (by simpa using hb)
theorem LeBoxesS_nil {σ : Nat → Nat} {N n : Nat} : ∀ {ds : List (List AVal)}, LeBoxesS σ N n [] ds → ∀ d ∈ ds, d = [] := by
 intro ds
 induction ds with
 | nil => simp
 | cons d ds ih =>
   intro h x hx
   rcases List.mem_cons.1 hx with rfl | hx
   · exact h.1
   · exact ih h.2 x hx
theorem LeBoxesS_get {σ : Nat → Nat} {N n : Nat} : ∀ {cs ds : List (List AVal)}, LeBoxesS σ N n cs ds → ∀ (id : Nat) (d : List AVal), ds[id]? = some d → d ≠ [] → ∃ c, cs[id]? = some c ∧ LeCellsS σ N n c d := by
 intro cs
 induction cs with
 | nil => intro ds h id d hd hne; exact (hne (LeBoxesS_nil h d (List.mem_of_getElem? hd))).elim
 | cons c cs ih =>
   intro ds h id b hb hne
   cases ds with
   | nil => simp at hb
   | cons d ds =>
     cases id with
     | zero => simp at hb; subst hb; exact ⟨c, rfl, h.1⟩
     | succ id =>
       obtain ⟨c', h1, h2⟩ := ih h.2 id b (by simpa using hb) hne
       exact ⟨c', by simpa using h1, h2⟩
section
variable {P : Program} {n m : Nat} {G0 : Gh} {w0 : World} {s : ASt} {G : Gh} {a : Act} {w : World}
theorem R.swapLe (h : R n m G0 w0 s G a w) {p q : Nat} (hp : m ≤ p) (hq : m ≤ q) (hpl : p < s.H.length) (hql : q < s.H.length) {l : List (Nat × AVal)} {H' : List (List AVal)} (hm : m ≤ H'.length)
   (hl : LeLookS (swp p q) s.H.length H'.length s.t l) (hb : LeBoxesS (swp p q) s.H.length H'.length (swpH p q s.H) H') : ∃ G', R n m G0 w0 ⟨look l, H'⟩ G' a w := by
 let G' : Gh := ⟨G.F, fun i => G.r (swp p q i), fun b => match G.K b with
   | some (.box i) => some (.box (swp p q i))
   | some (.cell i j) => some (.cell (swp p q i) j)
   | x => x⟩
 have kbox : ∀ b i, G.K b = some (.box i) → G'.K b = some (.box (swp p q i)) := fun b i e => by
   show (match G.K b with | some (.box i) => some (Pos.box (swp p q i)) | some (.cell i j) => some (.cell (swp p q i) j) | x => x) = _
   rw [e]
 have kcell : ∀ b i j, G.K b = some (.cell i j) → G'.K b = some (.cell (swp p q i) j) := fun b i j e => by
   show (match G.K b with | some (.box i) => some (Pos.box (swp p q i)) | some (.cell i j) => some (.cell (swp p q i) j) | x => x) = _
   rw [e]
 have koth : ∀ b, (∀ i, G.K b ≠ some (.box i)) → (∀ i j, G.K b ≠ some (.cell i j)) → G'.K b = G.K b := fun b e1 e2 => by
   show (match G.K b with | some (.box i) => some (Pos.box (swp p q i)) | some (.cell i j) => some (.cell (swp p q i) j) | x => x) = _
   split
   · rename_i i e; exact (e1 i e).elim
   · rename_i i j e; exact (e2 i j e).elim
   · rfl
 have hrep : ∀ {y : AVal} {v : Value}, Rep s.H.length G.r G.F y v → low s.H.length y = true → Rep s.H.length G'.r G'.F (ren (swp p q) y) v := fun hy hlo =>
   ren_rep (fun i hi => swp_lt hpl hql hi) (fun i _ => by show G.r (swp p q (swp p q i)) = G.r i; rw [swp_swp]) hy hlo
 have hown : ∀ (P1 P2 : Pos) (y : AVal) (v : Value), (∀ b, G.K b = some P1 → G'.K b = some P2) → OwnAt G w P1 y v → OwnAt G' w P2 (ren (swp p q) y) v := by
   intro P1 P2 y v hk ho
   by_cases e : (ren (swp p q) y).isOwn = true
   · rw [ren_own e]
     intro k xs ad len cap f1 f2 f3
     obtain ⟨g1, g2⟩ := ho k xs ad len cap f1 f2 f3
     exact ⟨hk _ g1, g2⟩
   · exact OwnAt.of_not (by simpa using e)
 refine ⟨G', h.sz, fun i hi => ?_, h.dfr0.same (fun b e => by rw [koth b (fun i e' => by rw [e] at e'; cases e') (fun i j e' => by rw [e] at e'; cases e')]; exact e), h.clean, ⟨h.ext.os, h.ext.tape, h.ext.output, h.ext.size, fun i hi => ?_, h.ext.mono, fun b hbs ht => ?_⟩, hm, ⟨h.sr.frz, fun id cs' hid hne => ?_, fun b hbs => ?_⟩, fun i v hv => ?_⟩
 · rcases LeLookS_get hl i with e | ⟨e1, e2, e3⟩
   · exact e
   · rw [h.out i hi] at e1
     have e1' : LeV .undef (look l i) := e1
     unfold LeV at e1'
     split at e1'
     · exact e1'.elim
     · unfold LeS at e1'
       split at e1'
       · assumption
       · exact e1'.elim
       · exact e1'.elim
       · exact e1'.elim
       · exact e1'.symm
 · show G.r (swp p q i) = G0.r i
   rw [swp_low hp hq hi]
   exact h.ext.rho i hi
 · obtain ⟨e1, e2, e3⟩ := h.ext.old b hbs ht
   refine ⟨e1, ?_, e3⟩
   rw [koth b (fun i e => ht (.inl ⟨i, by rw [← e2]; exact e⟩)) (fun i j e => ht (.inr ⟨i, j, by rw [← e2]; exact e⟩))]
   exact e2
 · obtain ⟨c, hc, hle⟩ := LeBoxesS_get hb id cs' hid hne
   rw [swpH_get hpl hql] at hc
   obtain ⟨l1, l2⟩ := LeCellsS_get hle
   have hcne : c ≠ [] := by
     rintro rfl
     exact hne (List.eq_nil_of_length_eq_zero (by simpa using l1))
   obtain ⟨cc, T, h1, h2, h3, h4, h5⟩ := h.sr.box _ c hc hcne
   refine ⟨cc, T, h1, ⟨by omega, h2.2⟩, ?_, h4, fun j x v hx hv => ?_⟩
   · have := kbox _ _ h3
     rw [swp_swp] at this
     exact this
   · have hj : j < c.length := Nat.lt_of_lt_of_le (List.getElem?_eq_some_iff.1 hx).1 l1
     have hy : c[j]? = some c[j] := List.getElem?_eq_getElem hj
     obtain ⟨q1, q2, q3⟩ := l2 j _ x hy hx
     obtain ⟨r1, r2⟩ := h5 j _ v hy hv
     obtain ⟨z1, z2⟩ := LeV_sound (p := .cell id j) (w := w) q1 (hrep r1 q2) (hown _ _ _ _ (fun b e => by have := kcell b _ _ e; rwa [swp_swp] at this) r2)
     exact ⟨low_rep z1 q3, z2⟩
 · rw [koth b (fun i e => by rw [h.sr.new b hbs] at e; cases e) (fun i j e => by rw [h.sr.new b hbs] at e; cases e)]
   exact h.sr.new b hbs
 · rcases LeLookS_get hl i with e | ⟨e1, e2, e3⟩
   · show Rep H'.length G'.r G'.F (look l i) v ∧ OwnAt G' w (.tmp i) (look l i) v
     rw [e]; exact ⟨.undef v, OwnAt.of_not rfl⟩
   · obtain ⟨r1, r2⟩ := h.tmp i v hv
     obtain ⟨z1, z2⟩ := LeV_sound (p := .tmp i) (w := w) e1 (hrep r1 e2) (hown _ _ _ _ (fun b e => by rw [koth b (fun i e' => by rw [e] at e'; cases e') (fun i j e' => by rw [e] at e'; cases e')]; exact e) r2)
     exact ⟨low_rep z1 e3, z2⟩
def LoopPostS {ι : Type} (m : Nat) (T : ι → List (Nat × AVal)) (H : ι → List (List AVal)) (Inv : ι → Prop) (f : ι → Nat) (μ : Nat) (Q : APost) : APost
 | .normal, s => ∃ j, Inv j ∧ f j < μ ∧ (Le m s (T j) (H j) ∨ ∃ p q, m ≤ p ∧ m ≤ q ∧ p < s.H.length ∧ q < s.H.length ∧ m ≤ (H j).length ∧ LeLookS (swp p q) s.H.length (H j).length s.t (T j) ∧ LeBoxesS (swp p q) s.H.length (H j).length (swpH p q s.H) (H j))
 | e, s => Q e s
theorem LoopK.introS {P : Program} {tr : List Nat} {n m : Nat} {body : Code} {Q : APost} {s : ASt} (hmx : P.follows .mixedOrders = true) (hg : good tr n body = true) {ι : Type} (T : ι → List (Nat × AVal)) (H : ι → List (List AVal)) (Inv : ι → Prop) (f : ι → Nat) (i0 : ι)
   (h0 : Inv i0) (hle : Le m s (T i0) (H i0)) (hround : ∀ i, Inv i → awp P tr n m body (LoopPostS m T H Inv f (f i) Q) ⟨look (T i), H i⟩) : LoopK P n m body Q s := by
 intro ρ hρ kk G0 w0 G a w hR
 refine wpIn_loop_ix (fun k a w => ∃ i G, f i = k ∧ Inv i ∧ R n m G0 w0 ⟨look (T i), H i⟩ G a w) (f i0) ⟨i0, G, rfl, h0, hR.weaken hle.st⟩ ?_
 rintro k a w ⟨i, G, rfl, hi, hR⟩
 refine wpIn_mono (awp_sound hmx body _ _ hg (hround i hi) ρ hρ kk G0 w0 G a w hR) ?_
 intro e a' w' he
 cases e with
 | normal =>
   obtain ⟨s', G', hR', j, hj, hlt, hle'⟩ := he
   rcases hle' with hle' | ⟨p, q, q1, q2, q3, q4, q5, q6, q7⟩
   · exact ⟨f j, hlt, j, G', rfl, hj, hR'.weaken hle'.st⟩
   · obtain ⟨G2, hR2⟩ := hR'.swapLe q1 q2 q3 q4 q5 q6 q7
     exact ⟨f j, hlt, j, G2, rfl, hj, hR2⟩
 | exit id => exact he
 | ret => exact he
 | goto l => exact he
 | panic c => exact he
 | outgrown => exact he
end
end Go.Am
