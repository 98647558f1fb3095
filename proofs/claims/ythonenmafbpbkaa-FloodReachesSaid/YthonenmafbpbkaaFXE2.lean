import Derived.Test.YthonenmafbpbkaaFXDS35
import Derived.Test.YthonenmafbpbkaaBmY
set_option linter.unusedSimpArgs false
set_option linter.unusedVariables false
namespace Go.Proofs.Ythonenmafbpbkaa
open Go Go.Am
set_option linter.unusedSimpArgs false
end Go.Proofs.Ythonenmafbpbkaa

namespace Go.Proofs.Ythonenmafbpbkaa
open Go Go.Am
set_option linter.unusedSimpArgs false
end Go.Proofs.Ythonenmafbpbkaa

namespace Go.Proofs.Ythonenmafbpbkaa
open Go Go.Am
set_option linter.unusedSimpArgs false
end Go.Proofs.Ythonenmafbpbkaa

namespace Go.Proofs.Ythonenmafbpbkaa
open Go Go.Am
set_option linter.unusedSimpArgs false
def withSA (l : Lsa) (y z : Int) : Lsa := { l with H := { l.H with Sum := y, Age := z } }
theorem bodyB_withSA (l : Lsa) (y z : Int) : bodyB (withSA l y z) = bodyB l := by simp [bodyB, withSA]
theorem chkH_iff (h : Hdr) : chkH h = 0 ↔ inR h.Ty 1 5 = true ∧ ¬ (h.Router = 0 ∨ inR h.Seq 1 2147483647 = false ∨ inR h.Age 0 3600 = false ∨ inR h.Sum 0 65535 = false ∨ inR h.Len 0 (if hasP h.Ty = true then 32 else 0) = false) ∧
   ¬ (h.Ty = 1 ∧ h.ID ≠ h.Router) ∧ ¬ ((h.Ty = 3 ∨ h.Ty = 5) ∧ validP h.ID h.Len = false) ∧ ¬ ((h.Ty = 2 ∨ h.Ty = 4) ∧ h.ID = 0) := by
 unfold chkH
 by_cases a1 : inR h.Ty 1 5 = false
 · rw [if_pos a1]; simp [a1]
 rw [if_neg a1]
 have b1 : inR h.Ty 1 5 = true := by simpa using a1
 by_cases a2 : h.Router = 0 ∨ inR h.Seq 1 2147483647 = false ∨ inR h.Age 0 3600 = false ∨ inR h.Sum 0 65535 = false ∨ inR h.Len 0 (if hasP h.Ty = true then 32 else 0) = false
 · rw [if_pos a2]; constructor
   · intro h; cases h
   · intro h; exact (h.2.1 a2).elim
 rw [if_neg a2]
 by_cases a3 : h.Ty = 1 ∧ h.ID ≠ h.Router
 · rw [if_pos a3]; constructor
   · intro h; cases h
   · intro h; exact (h.2.2.1 a3).elim
 rw [if_neg a3]
 by_cases a4 : (h.Ty = 3 ∨ h.Ty = 5) ∧ validP h.ID h.Len = false
 · rw [if_pos a4]; constructor
   · intro h; cases h
   · intro h; exact (h.2.2.2.1 a4).elim
 rw [if_neg a4]
 by_cases a5 : (h.Ty = 2 ∨ h.Ty = 4) ∧ h.ID = 0
 · rw [if_pos a5]; constructor
   · intro h; cases h
   · intro h; exact (h.2.2.2.2 a5).elim
 · rw [if_neg a5]
   exact ⟨fun _ => ⟨b1, a2, a3, a4, a5⟩, fun _ => rfl⟩
theorem chkA_withSA {l : Lsa} {y z : Int} (hc : chkA l = 0) (hy : 0 ≤ y ∧ y ≤ 65535) (hz : 0 ≤ z ∧ z ≤ 3600) : chkA (withSA l y z) = 0 := by
 obtain ⟨c1, c2, c3, c4⟩ := chkA_parts hc
 obtain ⟨_, _, _, f3, f4, _⟩ := chkH_ok c1
 have e1 : inR l.H.Age 0 3600 = true := (inR_iff _ _ _).2 f3
 have e2 : inR l.H.Sum 0 65535 = true := (inR_iff _ _ _).2 f4
 have e3 : inR z 0 3600 = true := (inR_iff _ _ _).2 hz
 have e4 : inR y 0 65535 = true := (inR_iff _ _ _).2 hy
 have hH : chkH (withSA l y z).H = 0 := by
   rw [chkH_iff] at c1 ⊢
   obtain ⟨g1, g2, g3⟩ := c1
   refine ⟨g1, ?_, g3⟩
   intro hh
   refine g2 ?_
   rcases hh with h | h | h | h | h
   · exact .inl h
   · exact .inr (.inl h)
   · rw [show (withSA l y z).H.Age = z from rfl, e3] at h; cases h
   · rw [show (withSA l y z).H.Sum = y from rfl, e4] at h; cases h
   · exact .inr (.inr (.inr (.inr h)))
 unfold chkA at hc ⊢
 rw [if_neg (by simp [hH])]
 rw [if_neg (by simp [c1])] at hc
 exact hc
theorem sumsL_app (n : Int) (sk : Int) : ∀ (a b : List Int) (i : Nat) (s : Int × Int), sumsL n sk (a ++ b) i s = sumsL n sk b (i + a.length) (sumsL n sk a i s) := by
 intro a
 induction a with
 | nil => intro b i s; rfl
 | cons x a ih => intro b i s; simp only [List.cons_append, sumsL, List.length_cons]; rw [ih, show i + 1 + a.length = i + (a.length + 1) by omega]
theorem fletch_skip (p q x y : List Int) (hp : p.length = 14) (hx : x.length = 2) (hy : y.length = 2) (hq : q.length < 1000000) : fletch (p ++ (x ++ q)) 14 = fletch (p ++ (y ++ q)) 14 := by
 have key : ∀ z : List Int, z.length = 2 → ∀ (n : Int) (s : Int × Int), sumsL n 14 z 14 s = s := by
   intro z hz n s
   match z, hz with
   | [a, b], _ =>
     have w : IntKind.i64.wrap (14 + 1) = 15 := by decide
     simp only [sumsL, sumStep, w]
     rw [if_pos ⟨by decide, .inr (by decide)⟩, if_pos ⟨by decide, .inl (by decide)⟩]
 have hl : (p ++ (x ++ q)).length = (p ++ (y ++ q)).length := by simp [hx, hy]
 have hs : ∀ n : Int, sumsL n 14 (p ++ (x ++ q)) 0 (0, 0) = sumsL n 14 (p ++ (y ++ q)) 0 (0, 0) := by
   intro n
   rw [sumsL_app, sumsL_app, sumsL_app, sumsL_app, hp, Nat.zero_add, key x hx, key y hy, hx, hy]
 unfold fletch
 rw [hl, hs]
def hdrP (h : Hdr) : List Int := numB 1 (U h.Ty) ++ numB 1 (U h.Len) ++ numB 4 (U h.ID) ++ numB 4 (U h.Router) ++ numB 4 (U h.Seq)
theorem bytesA_split (l : Lsa) : (bytesA l).drop 2 = hdrP l.H ++ (numB 2 (U l.H.Sum) ++ (numB 2 (U (bodyB l).length) ++ bodyB l)) := by
 have e : bytesA l = numB 2 (U l.H.Age) ++ (hdrP l.H ++ (numB 2 (U l.H.Sum) ++ (numB 2 (U (bodyB l).length) ++ bodyB l))) := by simp [bytesA, hdrB, hdrP, List.append_assoc]
 rw [e, List.drop_append_of_le_length (by simp [numB_len]), List.drop_of_length_le (by simp [numB_len]), List.nil_append]
theorem sumA_withSA (l : Lsa) (hl : l.Links.length ≤ 64) (ha : l.Att.length ≤ 64) (y z : Int) : sumA (withSA l y z) = sumA l := by
 have := bodyB_len l hl ha
 unfold sumA
 rw [bytesA_split, bytesA_split, bodyB_withSA]
 exact congrArg Prod.fst (fletch_skip (hdrP l.H) (numB 2 (U (bodyB l).length) ++ bodyB l) _ _ (by simp [hdrP, numB_len]) (numB_len _ _) (numB_len _ _) (by simp [numB_len]; omega))
theorem sumA_in (l : Lsa) (hl : l.Links.length ≤ 64) (ha : l.Att.length ≤ 64) : 0 ≤ sumA l ∧ sumA l ≤ 65535 := by
 have hlen := bytesA_len l hl ha
 have hlo : 20 ≤ (bytesA l).length := by simp only [bytesA, List.length_append, hdrB_len, numB_len]; omega
 have hf := fletch_plain (b := (bytesA l).drop 2) (isB_drop (isB_bytesA l) 2) (by simp; omega) 14 (by simp; omega) _ _ _ rfl rfl rfl
 unfold sumA
 rw [show (14 : Int) = ((14 : Nat) : Int) from rfl, hf]
 simp only
 generalize (sumsL ((bytesA l).drop 2).length ((14 : Nat) : Int) ((bytesA l).drop 2) 0 (0, 0)).1 = s0
 generalize (sumsL ((bytesA l).drop 2).length ((14 : Nat) : Int) ((bytesA l).drop 2) 0 (0, 0)).2 = s1
 generalize (((((bytesA l).drop 2).length : Int) - ((14 : Nat) : Int) - 1) % 255 * s0 - s1 - 1) = e
 have := Int.emod_nonneg e (show (255 : Int) ≠ 0 by decide)
 have := Int.emod_lt_of_pos e (show (0 : Int) < 255 by decide)
 generalize e % 255 = r at *
 omega
theorem okA_withSA {l : Lsa} (ok : okA l) {y z : Int} (hy : inI y) (hz : inI z) : okA (withSA l y z) := by
 obtain ⟨⟨h1, h2, h3, h4, h5, h6, h7⟩, rest⟩ := ok
 exact ⟨⟨h1, h2, h3, h4, h5, hz, hy⟩, rest⟩
theorem sealed_age {l : Lsa} (ok : okA l) (hc : chkA l = 0) {z : Int} (hz : 0 ≤ z ∧ z ≤ 3600) : okA (withSA l (sumA l) z) ∧ chkA (withSA l (sumA l) z) = 0 ∧ (withSA l (sumA l) z).H.Sum = sumA (withSA l (sumA l) z) := by
 obtain ⟨hl, ha⟩ := chkA_len hc
 have hs := sumA_in l hl ha
 exact ⟨okA_withSA ok (by unfold inI; omega) (by unfold inI; omega), chkA_withSA hc hs hz, (sumA_withSA l hl ha _ _).symm⟩
theorem sealed_seal {l : Lsa} (ok : okA l) (hc : chkA l = 0) : okA (sealA l) ∧ chkA (sealA l) = 0 ∧ (sealA l).H.Sum = sumA (sealA l) := by
 obtain ⟨_, _, _, f3, _⟩ := chkH_ok (chkA_parts hc).1
 exact sealed_age ok hc f3
def tyI : Bool × List CTy := (false, [.int .i64])
theorem rd_i {x : AVal} (h : RdA tyI x) : ∃ n : Int, x = .int .i64 n ∧ inI n := by
 obtain ⟨cs, h1, h2⟩ := h
 obtain ⟨n, r, rfl, h3, w⟩ := Rds_int h2
 obtain rfl := Rds_nil h3
 simp [tyI] at h1
 exact ⟨n, h1.symm, wf_i64 w⟩
end Go.Proofs.Ythonenmafbpbkaa

namespace Go.Proofs.Ythonenmafbpbkaa
open Go Go.Am
set_option linter.unusedSimpArgs false
end Go.Proofs.Ythonenmafbpbkaa

namespace Go.Proofs.Ythonenmafbpbkaa
open Go Go.Am
theorem cmpH_less (a b : Hdr) (h : a.Seq < b.Seq) : cmpH a b ≠ 1 := by
 have : cmpI a.Seq b.Seq = -1 := by unfold cmpI; rw [if_pos h]
 simp [cmpH, orL_two, this]
theorem cmpY_zero (a b : LKey) : cmpY a b = 0 ↔ a = b := by
 obtain ⟨a1, a2, a3, a4⟩ := a
 obtain ⟨b1, b2, b3, b4⟩ := b
 have z1 := cmpI_zero a1 b1
 have z2 := cmpI_zero a2 b2
 have z3 := cmpI_zero a3 b3
 have z4 := cmpI_zero a4 b4
 simp only [cmpY, orL, LKey.mk.injEq]
 by_cases h1 : cmpI a1 b1 = 0
 · by_cases h2 : cmpI a2 b2 = 0
   · by_cases h3 : cmpI a3 b3 = 0
     · by_cases h4 : cmpI a4 b4 = 0
       · simp_all
       · simp_all
     · simp_all
   · simp_all
 · simp_all
theorem cmpY_neg (a b : LKey) : cmpY b a = - cmpY a b := by
 simp only [cmpY, orL]
 rw [cmpI_neg a.Ty b.Ty, cmpI_neg a.ID b.ID, cmpI_neg a.Len b.Len, cmpI_neg a.Router b.Router]
 simp only [Int.neg_eq_zero]
 split
 · split
   · split
     · split <;> simp_all
     · rfl
   · rfl
 · rfl
theorem cmpI_lt {a b : Int} : cmpI a b < 0 ↔ a < b := by
 unfold cmpI; split
 · omega
 · split <;> omega
def ltY (a b : LKey) : Prop := cmpY a b < 0
instance (a b : LKey) : Decidable (ltY a b) := inferInstanceAs (Decidable (_ < _))
theorem ltY_iff (a b : LKey) : ltY a b ↔ a.Ty < b.Ty ∨ (a.Ty = b.Ty ∧ (a.ID < b.ID ∨ (a.ID = b.ID ∧ (a.Len < b.Len ∨ (a.Len = b.Len ∧ a.Router < b.Router))))) := by
 simp only [ltY, cmpY, orL]
 have z := fun a b => cmpI_zero a b
 have l := fun a b => @cmpI_lt a b
 split
 · rename_i h1; rw [z] at h1
   split
   · rename_i h2; rw [z] at h2
     split
     · rename_i h3; rw [z] at h3
       split
       · rename_i h4; rw [z] at h4; omega
       · rw [l]; omega
     · rename_i h3; rw [z] at h3; rw [l]; omega
   · rename_i h2; rw [z] at h2; rw [l]; omega
 · rename_i h1; rw [z] at h1; rw [l]; omega
theorem ltY_trans {a b c : LKey} (h : ltY a b) (k : ltY b c) : ltY a c := by
 rw [ltY_iff] at *; omega
theorem ltY_irrefl (a : LKey) : ¬ ltY a a := by rw [ltY_iff]; omega
theorem ltY_ne {a b : LKey} (h : ltY a b) : a ≠ b := by rintro rfl; exact ltY_irrefl _ h
theorem ltY_tri (a b : LKey) : ltY a b ∨ a = b ∨ ltY b a := by
 by_cases h : ltY a b
 · exact .inl h
 · by_cases e : a = b
   · exact .inr (.inl e)
   · refine .inr (.inr ?_)
     have h0 : cmpY a b ≠ 0 := fun x => e ((cmpY_zero a b).1 x)
     have h1 : cmpY b a = - cmpY a b := cmpY_neg a b
     unfold ltY at *
     omega
theorem ltY_asymm {a b : LKey} (h : ltY a b) : ¬ ltY b a := fun k => ltY_irrefl _ (ltY_trans h k)
def keyA (l : Lsa) : LKey := keyH l.H
def asc (db : List Lsa) : Prop := db.Pairwise fun x y => ltY (keyA x) (keyA y)
theorem asc_inj {db : List Lsa} (h : asc db) {x y : Lsa} (hx : x ∈ db) (hy : y ∈ db) (e : keyA x = keyA y) : x = y := by
 induction db with
 | nil => cases hx
 | cons z zs ih =>
   simp only [asc, List.pairwise_cons] at h
   rcases List.mem_cons.1 hx with rfl | hx
   · rcases List.mem_cons.1 hy with rfl | hy
     · rfl
     · exact absurd (h.1 y hy) (by rw [e]; exact ltY_irrefl _)
   · rcases List.mem_cons.1 hy with e2 | hy
     · exact absurd (h.1 x hx) (by rw [e, e2]; exact ltY_irrefl _)
     · exact ih h.2 hx hy
def hasK (k : LKey) (l : Lsa) : Bool := decide (keyA l = k)
def getD_ (db : List Lsa) (k : LKey) : Lsa × Bool := match db.find? (hasK k) with
 | some l => (l, true)
 | none => (lsa0, false)
def putW (l : Lsa) : List Lsa → List Lsa
 | [] => [l]
 | x :: xs => if ltY (keyA l) (keyA x) then l :: x :: xs else if keyA l = keyA x then l :: xs else x :: putW l xs
theorem posF_cons {α : Type} (p : α → Bool) (x : α) (xs : List α) : posF p (x :: xs) = if p x = true then 0 else posF p xs + 1 := by
 unfold posF
 rw [List.takeWhile_cons]
 cases p x <;> simp
theorem putW_mem {l : Lsa} : ∀ {db : List Lsa}, asc db → ∀ y, y ∈ putW l db ↔ y = l ∨ (y ∈ db ∧ keyA y ≠ keyA l) := by
 intro db
 induction db with
 | nil => intro _ y; simp [putW]
 | cons x xs ih =>
   intro h y
   simp only [asc, List.pairwise_cons] at h
   simp only [putW]
   split
   · rename_i h1
     have hx : ∀ z ∈ x :: xs, keyA z ≠ keyA l := by
       intro z hz
       rcases List.mem_cons.1 hz with rfl | hz
       · exact fun e => ltY_ne h1 e.symm
       · exact fun e => ltY_ne (ltY_trans h1 (h.1 z hz)) e.symm
     constructor
     · intro hy
       rcases List.mem_cons.1 hy with rfl | hy
       · exact .inl rfl
       · exact .inr ⟨hy, hx y hy⟩
     · rintro (rfl | ⟨hy, _⟩)
       · simp
       · exact List.mem_cons_of_mem _ hy
   · split
     · rename_i h1 h2
       constructor
       · intro hy
         rcases List.mem_cons.1 hy with rfl | hy
         · exact .inl rfl
         · exact .inr ⟨List.mem_cons_of_mem _ hy, by rw [h2]; exact fun e => ltY_ne (h.1 y hy) e.symm⟩
       · rintro (rfl | ⟨hy, hk⟩)
         · simp
         · rcases List.mem_cons.1 hy with rfl | hy
           · exact (hk h2.symm).elim
           · exact List.mem_cons_of_mem _ hy
     · rename_i h1 h2
       rw [List.mem_cons, ih h.2]
       constructor
       · rintro (rfl | rfl | ⟨hy, hk⟩)
         · exact .inr ⟨by simp, fun e => h2 e.symm⟩
         · exact .inl rfl
         · exact .inr ⟨List.mem_cons_of_mem _ hy, hk⟩
       · rintro (rfl | ⟨hy, hk⟩)
         · exact .inr (.inl rfl)
         · rcases List.mem_cons.1 hy with rfl | hy
           · exact .inl rfl
           · exact .inr (.inr ⟨hy, hk⟩)
theorem putW_asc {l : Lsa} : ∀ {db : List Lsa}, asc db → asc (putW l db) := by
 intro db
 induction db with
 | nil => intro _; simp [putW, asc]
 | cons x xs ih =>
   intro h
   have h0 := h
   simp only [asc, List.pairwise_cons] at h
   simp only [putW]
   split
   · rename_i h1
     simp only [asc]
     rw [List.pairwise_cons]
     refine ⟨fun z hz => ?_, h0⟩
     rcases List.mem_cons.1 hz with rfl | hz
     · exact h1
     · exact ltY_trans h1 (h.1 z hz)
   · split
     · rename_i h1 h2
       simp only [asc]
       rw [List.pairwise_cons]
       exact ⟨fun z hz => by rw [h2]; exact h.1 z hz, h.2⟩
     · rename_i h1 h2
       simp only [asc]
       rw [List.pairwise_cons]
       refine ⟨fun z hz => ?_, ih h.2⟩
       rcases (putW_mem h.2 z).1 hz with rfl | ⟨hz, _⟩
       · rcases ltY_tri (keyA z) (keyA x) with k | k | k
         · exact (h1 k).elim
         · exact (h2 k).elim
         · exact k
       · exact h.1 z hz
theorem find_mem {db : List Lsa} (h : asc db) {k : LKey} {x : Lsa} : db.find? (hasK k) = some x ↔ x ∈ db ∧ keyA x = k := by
 constructor
 · intro e
   exact ⟨List.mem_of_find?_eq_some e, by simpa [hasK] using List.find?_some e⟩
 · rintro ⟨hx, e⟩
   cases hf : db.find? (hasK k) with
   | none =>
     have := List.find?_eq_none.1 hf x hx
     simp [hasK, e] at this
   | some y =>
     have hy := List.mem_of_find?_eq_some hf
     have ky : keyA y = k := by simpa [hasK] using List.find?_some hf
     rw [asc_inj h hx hy (e.trans ky.symm)]
theorem find_none {db : List Lsa} {k : LKey} : db.find? (hasK k) = none ↔ ∀ x ∈ db, keyA x ≠ k := by
 rw [List.find?_eq_none]
 simp [hasK]
def ageS (s a : Int) : Int := if 0 < s ∧ a < 3600 then (if 3600 - a ≤ s then 3600 else a + s) else a
def cmpD (db : List Lsa) (h : Hdr) : Int := match db.find? (hasK (keyH h)) with
 | some x => cmpH h x.H
 | none => 1
def stepN (db : List Lsa) (x : Lsa) : List Lsa := if cmpD db x.H = 1 then putW x db else db
structure SeenN (done db : List Lsa) : Prop where
  asc : asc db
  mem : ∀ x ∈ db, x ∈ done
  cov : ∀ y ∈ done, ∃ x ∈ db, keyA x = keyA y ∧ y.H.Seq ≤ x.H.Seq
theorem SeenN.nil : SeenN [] [] := ⟨by simp [Proofs.Ythonenmafbpbkaa.asc], by simp, by simp⟩
theorem SeenN.step {done db : List Lsa} (h : SeenN done db) {x : Lsa} (hne : ∀ y ∈ done, ¬ (keyA y = keyA x ∧ y.H.Seq = x.H.Seq)) : SeenN (done ++ [x]) (stepN db x) := by
 unfold stepN cmpD
 cases hf : db.find? (hasK (keyH x.H)) with
 | none =>
   have hn : ∀ y ∈ db, keyA y ≠ keyA x := find_none.1 hf
   simp only [if_true]
   refine ⟨putW_asc h.asc, fun y hy => ?_, fun y hy => ?_⟩
   · rcases (putW_mem h.asc y).1 hy with rfl | ⟨hy, _⟩
     · simp
     · simp [h.mem y hy]
   · rcases List.mem_append.1 hy with hy | hy
     · obtain ⟨z, hz, e1, e2⟩ := h.cov y hy
       exact ⟨z, (putW_mem h.asc z).2 (.inr ⟨hz, hn z hz⟩), e1, e2⟩
     · obtain rfl := List.mem_singleton.1 hy
       exact ⟨y, (putW_mem h.asc y).2 (.inl rfl), rfl, Int.le_refl _⟩
 | some z =>
   obtain ⟨hz, ez⟩ := (find_mem h.asc).1 hf
   have ez : keyA z = keyA x := ez
   have hs : z.H.Seq ≠ x.H.Seq := fun e => hne z (h.mem z hz) ⟨ez, e⟩
   simp only
   by_cases hc : cmpH x.H z.H = 1
   · rw [if_pos hc]
     have hlt : z.H.Seq < x.H.Seq := by
       rcases Int.lt_or_gt_of_ne hs with k | k
       · exact k
       · exact (cmpH_less _ _ k hc).elim
     refine ⟨putW_asc h.asc, fun y hy => ?_, fun y hy => ?_⟩
     · rcases (putW_mem h.asc y).1 hy with rfl | ⟨hy, _⟩
       · simp
       · simp [h.mem y hy]
     · rcases List.mem_append.1 hy with hy | hy
       · obtain ⟨u, hu, e1, e2⟩ := h.cov y hy
         by_cases e : keyA u = keyA x
         · obtain rfl := asc_inj h.asc hu hz (e.trans ez.symm)
           exact ⟨x, (putW_mem h.asc x).2 (.inl rfl), e.symm.trans e1, by omega⟩
         · exact ⟨u, (putW_mem h.asc u).2 (.inr ⟨hu, e⟩), e1, e2⟩
       · obtain rfl := List.mem_singleton.1 hy
         exact ⟨y, (putW_mem h.asc y).2 (.inl rfl), rfl, Int.le_refl _⟩
   · rw [if_neg hc]
     have hlt : x.H.Seq < z.H.Seq := by
       rcases Int.lt_or_gt_of_ne hs with k | k
       · exact (hc (cmpH_seq _ _ k)).elim
       · exact k
     refine ⟨h.asc, fun y hy => by simp [h.mem y hy], fun y hy => ?_⟩
     rcases List.mem_append.1 hy with hy | hy
     · exact h.cov y hy
     · obtain rfl := List.mem_singleton.1 hy
       exact ⟨z, hz, ez, by omega⟩
theorem nodup_len {α : Type} [DecidableEq α] : ∀ (a b : List α), a.Pairwise (· ≠ ·) → (∀ x ∈ a, x ∈ b) → a.length ≤ b.length
 | [], _, _, _ => Nat.zero_le _
 | x :: xs, b, h, k => by
   rw [List.pairwise_cons] at h
   have hx := k x (by simp)
   have := nodup_len xs (b.erase x) h.2 (fun y hy => (List.mem_erase_of_ne (h.1 y hy).symm).2 (k y (List.mem_cons_of_mem _ hy)))
   rw [List.length_erase_of_mem hx] at this
   have hp : 0 < b.length := List.length_pos_of_mem hx
   simp only [List.length_cons]
   omega
theorem SeenN.len {done db : List Lsa} (h : SeenN done db) : db.length ≤ done.length := by
 exact nodup_len db done (h.asc.imp fun {a b} k => fun e => ltY_ne k (by rw [e])) h.mem
theorem eA : Enc cellsA 15 where
  pos := by omega
  len x := rfl
  dis x := rfl
  tree x := by
    simp [AVal.tree]
end Go.Proofs.Ythonenmafbpbkaa

namespace Go.Proofs.Ythonenmafbpbkaa
open Go Go.Am
set_option maxHeartbeats 1000000 in
set_option maxRecDepth 10000 in
theorem c55b (l : List Lnk) (s1 : l.length * 24 ≤ 140737488355328) : CFun Try.prog 110 [.sl 4 (l.map encK) .sh] [] (.sl 4 (l.map encK) .sh) [] := by
 refine CFun.intro (tr := []) (fz := []) (n := 8) (rs := [.tmp 2]) Try.func110 rfl (by kernel_rfl) rfl rfl mixed (by kernel_rfl) (by simp) (by simp) ?_
 have s2 : l.length ≤ 140737488355328 := by omega
 cases l with
 | nil => simp
 | cons x xs =>
   simp only [List.length_cons] at s1 s2
   simp [s1, s2]
set_option maxHeartbeats 1000000 in
set_option maxRecDepth 10000 in
theorem c56b (l : List Int) (s1 : l.length * 4 ≤ 140737488355328) : CFun Try.prog 111 [.sl 1 (l.map enc32) .sh] [] (.sl 1 (l.map enc32) .sh) [] := by
 refine CFun.intro (tr := []) (fz := []) (n := 8) (rs := [.tmp 2]) Try.func111 rfl (by kernel_rfl) rfl rfl mixed (by kernel_rfl) (by simp) (by simp) ?_
 have s2 : l.length ≤ 140737488355328 := by omega
 cases l with
 | nil => simp
 | cons x xs =>
   simp only [List.length_cons] at s1 s2
   simp [s1, s2]
def okL (l : Lsa) : Prop := l.Links.length * 24 ≤ 140737488355328 ∧ l.Att.length * 4 ≤ 140737488355328
set_option maxHeartbeats 2000000 in
set_option maxRecDepth 10000 in
theorem f86 (l : Lsa) (ok : okL l) : CFun Try.prog 96 [encA l] [] (encA l) [] := by
 refine CFun.intro (tr := []) (fz := []) (n := 12) (rs := [.cell 2 61]) Try.func96 rfl (by kernel_rfl) rfl rfl mixed (by kernel_rfl) (by simp) (by simp) ?_
 have h1 := fun H => (c55b l.Links ok.1).up' H rfl rfl
 have h2 := fun H => (c56b l.Att ok.2).up' H rfl rfl
 simp
 refine ⟨_, _, .inl (h1 _), by simp, ?_⟩
 simp
 refine ⟨_, _, .inl (h2 _), by simp, ?_⟩
 simp
theorem keyY_iff (a b : LKey) : ((a.Ty == b.Ty) && ((a.ID == b.ID) && ((a.Len == b.Len) && (a.Router == b.Router)))) = decide (a = b) := by
 cases a; cases b
 rw [Bool.eq_iff_iff]
 simp
set_option maxHeartbeats 2000000 in
set_option maxRecDepth 10000 in
theorem f98 (k : LKey) (l : Lsa) : CFun Try.prog 95 [.agg (cellsY k), encA l] [] (.bool (hasK k l)) [] := by
 refine CFun.intro (tr := []) (fz := []) (n := 11) (rs := [.tmp 4]) Try.func95 rfl (by kernel_rfl) rfl rfl mixed (by kernel_rfl) (by simp) (by simp) ?_
 have h1 := fun H => (c25 l.H).up' H rfl rfl
 have hk : hasK k l = _ := (keyY_iff (keyH l.H) k).symm
 rw [hk]
 generalize keyH l.H = q at h1
 simp
 refine ⟨_, _, .inl (h1 _), by simp, ?_⟩
 simp
end Go.Proofs.Ythonenmafbpbkaa
