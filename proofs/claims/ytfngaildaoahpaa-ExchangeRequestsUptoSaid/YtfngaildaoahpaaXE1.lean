import Derived.Test.YtfngaildaoahpaaXDS34
import Derived.Test.YtfngaildaoahpaaAmY
set_option linter.unusedSimpArgs false
set_option linter.unusedVariables false
namespace Go.Proofs.Ytfngaildaoahpaa
open Go Go.Am
set_option linter.unusedSimpArgs false
end Go.Proofs.Ytfngaildaoahpaa

namespace Go.Proofs.Ytfngaildaoahpaa
open Go Go.Am
set_option linter.unusedSimpArgs false
end Go.Proofs.Ytfngaildaoahpaa

namespace Go.Proofs.Ytfngaildaoahpaa
open Go Go.Am
set_option linter.unusedSimpArgs false
end Go.Proofs.Ytfngaildaoahpaa

namespace Go.Proofs.Ytfngaildaoahpaa
open Go Go.Am
set_option linter.unusedSimpArgs false
end Go.Proofs.Ytfngaildaoahpaa

namespace Go.Proofs.Ytfngaildaoahpaa
open Go Go.Am
set_option linter.unusedSimpArgs false
def tyI : Bool × List CTy := (false, [.int .i64])
theorem rd_i {x : AVal} (h : RdA tyI x) : ∃ n : Int, x = .int .i64 n ∧ inI n := by
 obtain ⟨cs, h1, h2⟩ := h
 obtain ⟨n, r, rfl, h3, w⟩ := Rds_int h2
 obtain rfl := Rds_nil h3
 simp [tyI] at h1
 exact ⟨n, h1.symm, wf_i64 w⟩
end Go.Proofs.Ytfngaildaoahpaa

namespace Go.Proofs.Ytfngaildaoahpaa
open Go Go.Am
set_option linter.unusedSimpArgs false
end Go.Proofs.Ytfngaildaoahpaa

namespace Go.Proofs.Ytfngaildaoahpaa
open Go Go.Am
theorem cmpH_less (a b : Hdr) (h : a.Seq < b.Seq) : cmpH a b ≠ 1 := by
 have : cmpI a.Seq b.Seq = -1 := by unfold cmpI; rw [if_pos h]
 simp [cmpH, orL_two, this]
theorem cmpY_zero (a b : LKey) : cmpY a b = 0 ↔ a = b := by
 obtain ⟨a1, a2, a3, a4⟩ := a
 obtain ⟨b1, b2, b3, b4⟩ := b
 have z1 := cmpI_zero a1 b1
 have z2 := cmpI_zero a2 b2
 have z3 := cmpI_zero a3 b3
 have z4 := cmpI_zero a4 b4
 simp only [cmpY, orL, LKey.mk.injEq]
 by_cases h1 : cmpI a1 b1 = 0
 · by_cases h2 : cmpI a2 b2 = 0
   · by_cases h3 : cmpI a3 b3 = 0
     · by_cases h4 : cmpI a4 b4 = 0
       · simp_all
       · simp_all
     · simp_all
   · simp_all
 · simp_all
theorem cmpY_neg (a b : LKey) : cmpY b a = - cmpY a b := by
 simp only [cmpY, orL]
 rw [cmpI_neg a.Ty b.Ty, cmpI_neg a.ID b.ID, cmpI_neg a.Len b.Len, cmpI_neg a.Router b.Router]
 simp only [Int.neg_eq_zero]
 split
 · split
   · split
     · split <;> simp_all
     · rfl
   · rfl
 · rfl
theorem cmpI_lt {a b : Int} : cmpI a b < 0 ↔ a < b := by
 unfold cmpI; split
 · omega
 · split <;> omega
def ltY (a b : LKey) : Prop := cmpY a b < 0
instance (a b : LKey) : Decidable (ltY a b) := inferInstanceAs (Decidable (_ < _))
theorem ltY_iff (a b : LKey) : ltY a b ↔ a.Ty < b.Ty ∨ (a.Ty = b.Ty ∧ (a.ID < b.ID ∨ (a.ID = b.ID ∧ (a.Len < b.Len ∨ (a.Len = b.Len ∧ a.Router < b.Router))))) := by
 simp only [ltY, cmpY, orL]
 have z := fun a b => cmpI_zero a b
 have l := fun a b => @cmpI_lt a b
 split
 · rename_i h1; rw [z] at h1
   split
   · rename_i h2; rw [z] at h2
     split
     · rename_i h3; rw [z] at h3
       split
       · rename_i h4; rw [z] at h4; omega
       · rw [l]; omega
     · rename_i h3; rw [z] at h3; rw [l]; omega
   · rename_i h2; rw [z] at h2; rw [l]; omega
 · rename_i h1; rw [z] at h1; rw [l]; omega
theorem ltY_trans {a b c : LKey} (h : ltY a b) (k : ltY b c) : ltY a c := by
 rw [ltY_iff] at *; omega
theorem ltY_irrefl (a : LKey) : ¬ ltY a a := by rw [ltY_iff]; omega
theorem ltY_ne {a b : LKey} (h : ltY a b) : a ≠ b := by rintro rfl; exact ltY_irrefl _ h
theorem ltY_tri (a b : LKey) : ltY a b ∨ a = b ∨ ltY b a := by
 by_cases h : ltY a b
 · exact .inl h
 · by_cases e : a = b
   · exact .inr (.inl e)
   · refine .inr (.inr ?_)
     have h0 : cmpY a b ≠ 0 := fun x => e ((cmpY_zero a b).1 x)
     have h1 : cmpY b a = - cmpY a b := cmpY_neg a b
     unfold ltY at *
     omega
theorem ltY_asymm {a b : LKey} (h : ltY a b) : ¬ ltY b a := fun k => ltY_irrefl _ (ltY_trans h k)
def keyA (l : Lsa) : LKey := keyH l.H
def asc (db : List Lsa) : Prop := db.Pairwise fun x y => ltY (keyA x) (keyA y)
def sealE (l : Lsa) : Int := if chkA l ≠ 0 then chkA l else if l.H.Sum ≠ sumA l then 13 else 0
def rowsE : Option Lsa → List Lsa → Int
 | _, [] => 0
 | p, x :: xs => if sealE x ≠ 0 then sealE x else if (match p with | some y => decide (0 ≤ cmpY (keyA y) (keyA x)) | none => false) = true then 16 else rowsE (some x) xs
def chkD (db : List Lsa) : Int := if 2000 < db.length then 4 else rowsE none db
theorem asc_inj {db : List Lsa} (h : asc db) {x y : Lsa} (hx : x ∈ db) (hy : y ∈ db) (e : keyA x = keyA y) : x = y := by
 induction db with
 | nil => cases hx
 | cons z zs ih =>
   simp only [asc, List.pairwise_cons] at h
   rcases List.mem_cons.1 hx with rfl | hx
   · rcases List.mem_cons.1 hy with rfl | hy
     · rfl
     · exact absurd (h.1 y hy) (by rw [e]; exact ltY_irrefl _)
   · rcases List.mem_cons.1 hy with e2 | hy
     · exact absurd (h.1 x hx) (by rw [e, e2]; exact ltY_irrefl _)
     · exact ih h.2 hx hy
def hasK (k : LKey) (l : Lsa) : Bool := decide (keyA l = k)
def getD_ (db : List Lsa) (k : LKey) : Lsa × Bool := match db.find? (hasK k) with
 | some l => (l, true)
 | none => (lsa0, false)
def putW (l : Lsa) : List Lsa → List Lsa
 | [] => [l]
 | x :: xs => if ltY (keyA l) (keyA x) then l :: x :: xs else if keyA l = keyA x then l :: xs else x :: putW l xs
theorem posF_cons {α : Type} (p : α → Bool) (x : α) (xs : List α) : posF p (x :: xs) = if p x = true then 0 else posF p xs + 1 := by
 unfold posF
 rw [List.takeWhile_cons]
 cases p x <;> simp
theorem putW_mem {l : Lsa} : ∀ {db : List Lsa}, asc db → ∀ y, y ∈ putW l db ↔ y = l ∨ (y ∈ db ∧ keyA y ≠ keyA l) := by
 intro db
 induction db with
 | nil => intro _ y; simp [putW]
 | cons x xs ih =>
   intro h y
   simp only [asc, List.pairwise_cons] at h
   simp only [putW]
   split
   · rename_i h1
     have hx : ∀ z ∈ x :: xs, keyA z ≠ keyA l := by
       intro z hz
       rcases List.mem_cons.1 hz with rfl | hz
       · exact fun e => ltY_ne h1 e.symm
       · exact fun e => ltY_ne (ltY_trans h1 (h.1 z hz)) e.symm
     constructor
     · intro hy
       rcases List.mem_cons.1 hy with rfl | hy
       · exact .inl rfl
       · exact .inr ⟨hy, hx y hy⟩
     · rintro (rfl | ⟨hy, _⟩)
       · simp
       · exact List.mem_cons_of_mem _ hy
   · split
     · rename_i h1 h2
       constructor
       · intro hy
         rcases List.mem_cons.1 hy with rfl | hy
         · exact .inl rfl
         · exact .inr ⟨List.mem_cons_of_mem _ hy, by rw [h2]; exact fun e => ltY_ne (h.1 y hy) e.symm⟩
       · rintro (rfl | ⟨hy, hk⟩)
         · simp
         · rcases List.mem_cons.1 hy with rfl | hy
           · exact (hk h2.symm).elim
           · exact List.mem_cons_of_mem _ hy
     · rename_i h1 h2
       rw [List.mem_cons, ih h.2]
       constructor
       · rintro (rfl | rfl | ⟨hy, hk⟩)
         · exact .inr ⟨by simp, fun e => h2 e.symm⟩
         · exact .inl rfl
         · exact .inr ⟨List.mem_cons_of_mem _ hy, hk⟩
       · rintro (rfl | ⟨hy, hk⟩)
         · exact .inr (.inl rfl)
         · rcases List.mem_cons.1 hy with rfl | hy
           · exact .inl rfl
           · exact .inr (.inr ⟨hy, hk⟩)
theorem putW_asc {l : Lsa} : ∀ {db : List Lsa}, asc db → asc (putW l db) := by
 intro db
 induction db with
 | nil => intro _; simp [putW, asc]
 | cons x xs ih =>
   intro h
   have h0 := h
   simp only [asc, List.pairwise_cons] at h
   simp only [putW]
   split
   · rename_i h1
     simp only [asc]
     rw [List.pairwise_cons]
     refine ⟨fun z hz => ?_, h0⟩
     rcases List.mem_cons.1 hz with rfl | hz
     · exact h1
     · exact ltY_trans h1 (h.1 z hz)
   · split
     · rename_i h1 h2
       simp only [asc]
       rw [List.pairwise_cons]
       exact ⟨fun z hz => by rw [h2]; exact h.1 z hz, h.2⟩
     · rename_i h1 h2
       simp only [asc]
       rw [List.pairwise_cons]
       refine ⟨fun z hz => ?_, ih h.2⟩
       rcases (putW_mem h.2 z).1 hz with rfl | ⟨hz, _⟩
       · rcases ltY_tri (keyA z) (keyA x) with k | k | k
         · exact (h1 k).elim
         · exact (h2 k).elim
         · exact k
       · exact h.1 z hz
theorem find_mem {db : List Lsa} (h : asc db) {k : LKey} {x : Lsa} : db.find? (hasK k) = some x ↔ x ∈ db ∧ keyA x = k := by
 constructor
 · intro e
   exact ⟨List.mem_of_find?_eq_some e, by simpa [hasK] using List.find?_some e⟩
 · rintro ⟨hx, e⟩
   cases hf : db.find? (hasK k) with
   | none =>
     have := List.find?_eq_none.1 hf x hx
     simp [hasK, e] at this
   | some y =>
     have hy := List.mem_of_find?_eq_some hf
     have ky : keyA y = k := by simpa [hasK] using List.find?_some hf
     rw [asc_inj h hx hy (e.trans ky.symm)]
theorem find_none {db : List Lsa} {k : LKey} : db.find? (hasK k) = none ↔ ∀ x ∈ db, keyA x ≠ k := by
 rw [List.find?_eq_none]
 simp [hasK]
def cmpD (db : List Lsa) (h : Hdr) : Int := match db.find? (hasK (keyH h)) with
 | some x => cmpH h x.H
 | none => 1
def stepN (db : List Lsa) (x : Lsa) : List Lsa := if cmpD db x.H = 1 then putW x db else db
structure SeenN (done db : List Lsa) : Prop where
  asc : asc db
  mem : ∀ x ∈ db, x ∈ done
  cov : ∀ y ∈ done, ∃ x ∈ db, keyA x = keyA y ∧ y.H.Seq ≤ x.H.Seq
theorem SeenN.nil : SeenN [] [] := ⟨by simp [Proofs.Ytfngaildaoahpaa.asc], by simp, by simp⟩
theorem SeenN.step {done db : List Lsa} (h : SeenN done db) {x : Lsa} (hne : ∀ y ∈ done, ¬ (keyA y = keyA x ∧ y.H.Seq = x.H.Seq)) : SeenN (done ++ [x]) (stepN db x) := by
 unfold stepN cmpD
 cases hf : db.find? (hasK (keyH x.H)) with
 | none =>
   have hn : ∀ y ∈ db, keyA y ≠ keyA x := find_none.1 hf
   simp only [if_true]
   refine ⟨putW_asc h.asc, fun y hy => ?_, fun y hy => ?_⟩
   · rcases (putW_mem h.asc y).1 hy with rfl | ⟨hy, _⟩
     · simp
     · simp [h.mem y hy]
   · rcases List.mem_append.1 hy with hy | hy
     · obtain ⟨z, hz, e1, e2⟩ := h.cov y hy
       exact ⟨z, (putW_mem h.asc z).2 (.inr ⟨hz, hn z hz⟩), e1, e2⟩
     · obtain rfl := List.mem_singleton.1 hy
       exact ⟨y, (putW_mem h.asc y).2 (.inl rfl), rfl, Int.le_refl _⟩
 | some z =>
   obtain ⟨hz, ez⟩ := (find_mem h.asc).1 hf
   have ez : keyA z = keyA x := ez
   have hs : z.H.Seq ≠ x.H.Seq := fun e => hne z (h.mem z hz) ⟨ez, e⟩
   simp only
   by_cases hc : cmpH x.H z.H = 1
   · rw [if_pos hc]
     have hlt : z.H.Seq < x.H.Seq := by
       rcases Int.lt_or_gt_of_ne hs with k | k
       · exact k
       · exact (cmpH_less _ _ k hc).elim
     refine ⟨putW_asc h.asc, fun y hy => ?_, fun y hy => ?_⟩
     · rcases (putW_mem h.asc y).1 hy with rfl | ⟨hy, _⟩
       · simp
       · simp [h.mem y hy]
     · rcases List.mem_append.1 hy with hy | hy
       · obtain ⟨u, hu, e1, e2⟩ := h.cov y hy
         by_cases e : keyA u = keyA x
         · obtain rfl := asc_inj h.asc hu hz (e.trans ez.symm)
           exact ⟨x, (putW_mem h.asc x).2 (.inl rfl), e.symm.trans e1, by omega⟩
         · exact ⟨u, (putW_mem h.asc u).2 (.inr ⟨hu, e⟩), e1, e2⟩
       · obtain rfl := List.mem_singleton.1 hy
         exact ⟨y, (putW_mem h.asc y).2 (.inl rfl), rfl, Int.le_refl _⟩
   · rw [if_neg hc]
     have hlt : x.H.Seq < z.H.Seq := by
       rcases Int.lt_or_gt_of_ne hs with k | k
       · exact (hc (cmpH_seq _ _ k)).elim
       · exact k
     refine ⟨h.asc, fun y hy => by simp [h.mem y hy], fun y hy => ?_⟩
     rcases List.mem_append.1 hy with hy | hy
     · exact h.cov y hy
     · obtain rfl := List.mem_singleton.1 hy
       exact ⟨z, hz, ez, by omega⟩
theorem nodup_len {α : Type} [DecidableEq α] : ∀ (a b : List α), a.Pairwise (· ≠ ·) → (∀ x ∈ a, x ∈ b) → a.length ≤ b.length
 | [], _, _, _ => Nat.zero_le _
 | x :: xs, b, h, k => by
   rw [List.pairwise_cons] at h
   have hx := k x (by simp)
   have := nodup_len xs (b.erase x) h.2 (fun y hy => (List.mem_erase_of_ne (h.1 y hy).symm).2 (k y (List.mem_cons_of_mem _ hy)))
   rw [List.length_erase_of_mem hx] at this
   have hp : 0 < b.length := List.length_pos_of_mem hx
   simp only [List.length_cons]
   omega
theorem SeenN.len {done db : List Lsa} (h : SeenN done db) : db.length ≤ done.length := by
 exact nodup_len db done (h.asc.imp fun {a b} k => fun e => ltY_ne k (by rw [e])) h.mem
def okD (l : Lsa) : Prop := okA l ∧ l.Links.length * 24 ≤ 140737488355328 ∧ l.Att.length * 4 ≤ 140737488355328
theorem dec_A {ts : List CTy} {cs : List AVal} (h : Rds (csA ++ ts) cs) : ∃ (x : Lsa) (r : List AVal), cs = cellsA x ++ r ∧ okD x ∧ Rds ts r := by
 have h2 : Rds (csH ++ ([.bool, .bool, .sl true 24 csL, .sl false 4 [.int .u32], .int .i64, .bool, .int .u32, .int .i64] ++ ts)) cs := by simpa [csA] using h
 obtain ⟨hd, r, rfl, okh, k0⟩ := dec_H h2
 obtain ⟨b1, r, rfl, k1⟩ := Rds_bool k0
 obtain ⟨b2, r, rfl, k2⟩ := Rds_bool k1
 obtain ⟨ls, r, rfl, k3, z1⟩ := Rds_sl (enc := fun x : { x : Lnk // okK x } => encK x.1) k2 (fun y cs e h => by
   obtain ⟨x, hx⟩ := dec_K h
   exact ⟨x, e.trans hx⟩)
 obtain ⟨at_, r, rfl, k4, z2⟩ := Rds_sl (enc := fun x : { x : Int // inW x } => enc32 x.1) k3 (fun y cs e h => by
   obtain ⟨a, r, rfl, h3, w⟩ := Rds_int h
   obtain rfl := Rds_nil h3
   simp at e
   exact ⟨⟨a, wf_u32 w⟩, e.symm⟩)
 obtain ⟨co, r, rfl, k5, w1⟩ := Rds_int k4
 obtain ⟨se, r, rfl, k6⟩ := Rds_bool k5
 obtain ⟨fw, r, rfl, k7, w2⟩ := Rds_int k6
 obtain ⟨tg, r, rfl, k8, w3⟩ := Rds_int k7
 refine ⟨⟨hd, b1, b2, ls.map (·.1), at_.map (·.1), co, se, fw, tg⟩, r, ?_, ⟨⟨okh, fun x hx => ?_, fun x hx => ?_, wf_i64 w1, wf_u32 w2, wf_i64 w3, by simp only [reachBytes] at z1; simp; omega, by simp only [reachBytes] at z2; simp; omega⟩, by simp only [reachBytes] at z1; simp; omega, by simp only [reachBytes] at z2; simp; omega⟩, k8⟩
 · simp [csL, Function.comp_def]
 · obtain ⟨y, _, rfl⟩ := List.mem_map.1 hx
   exact y.2
 · obtain ⟨y, _, rfl⟩ := List.mem_map.1 hx
   exact y.2
theorem eA : Enc cellsA 15 where
  pos := by omega
  len x := rfl
  dis x := rfl
  tree x := by
    simp [AVal.tree]
end Go.Proofs.Ytfngaildaoahpaa
