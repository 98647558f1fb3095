import Derived.Test.YthonenmafbpbkaaFXDS35
import Derived.Test.YthonenmafbpbkaaBmY
set_option linter.unusedSimpArgs false
set_option linter.unusedVariables false
namespace Go.Proofs.Ythonenmafbpbkaa
open Go Go.Am
set_option linter.unusedSimpArgs false
end Go.Proofs.Ythonenmafbpbkaa

namespace Go.Proofs.Ythonenmafbpbkaa
open Go Go.Am
set_option linter.unusedSimpArgs false
end Go.Proofs.Ythonenmafbpbkaa

namespace Go.Proofs.Ythonenmafbpbkaa
open Go Go.Am
set_option linter.unusedSimpArgs false
end Go.Proofs.Ythonenmafbpbkaa

namespace Go.Proofs.Ythonenmafbpbkaa
open Go Go.Am
set_option linter.unusedSimpArgs false
def tyI : Bool × List CTy := (false, [.int .i64])
theorem rd_i {x : AVal} (h : RdA tyI x) : ∃ n : Int, x = .int .i64 n ∧ inI n := by
 obtain ⟨cs, h1, h2⟩ := h
 obtain ⟨n, r, rfl, h3, w⟩ := Rds_int h2
 obtain rfl := Rds_nil h3
 simp [tyI] at h1
 exact ⟨n, h1.symm, wf_i64 w⟩
end Go.Proofs.Ythonenmafbpbkaa

namespace Go.Proofs.Ythonenmafbpbkaa
open Go Go.Am
set_option linter.unusedSimpArgs false
end Go.Proofs.Ythonenmafbpbkaa

namespace Go.Proofs.Ythonenmafbpbkaa
open Go Go.Am
theorem cmpY_zero (a b : LKey) : cmpY a b = 0 ↔ a = b := by
 obtain ⟨a1, a2, a3, a4⟩ := a
 obtain ⟨b1, b2, b3, b4⟩ := b
 have z1 := cmpI_zero a1 b1
 have z2 := cmpI_zero a2 b2
 have z3 := cmpI_zero a3 b3
 have z4 := cmpI_zero a4 b4
 simp only [cmpY, orL, LKey.mk.injEq]
 by_cases h1 : cmpI a1 b1 = 0
 · by_cases h2 : cmpI a2 b2 = 0
   · by_cases h3 : cmpI a3 b3 = 0
     · by_cases h4 : cmpI a4 b4 = 0
       · simp_all
       · simp_all
     · simp_all
   · simp_all
 · simp_all
theorem cmpY_neg (a b : LKey) : cmpY b a = - cmpY a b := by
 simp only [cmpY, orL]
 rw [cmpI_neg a.Ty b.Ty, cmpI_neg a.ID b.ID, cmpI_neg a.Len b.Len, cmpI_neg a.Router b.Router]
 simp only [Int.neg_eq_zero]
 split
 · split
   · split
     · split <;> simp_all
     · rfl
   · rfl
 · rfl
theorem cmpI_lt {a b : Int} : cmpI a b < 0 ↔ a < b := by
 unfold cmpI; split
 · omega
 · split <;> omega
def ltY (a b : LKey) : Prop := cmpY a b < 0
instance (a b : LKey) : Decidable (ltY a b) := inferInstanceAs (Decidable (_ < _))
theorem ltY_iff (a b : LKey) : ltY a b ↔ a.Ty < b.Ty ∨ (a.Ty = b.Ty ∧ (a.ID < b.ID ∨ (a.ID = b.ID ∧ (a.Len < b.Len ∨ (a.Len = b.Len ∧ a.Router < b.Router))))) := by
 simp only [ltY, cmpY, orL]
 have z := fun a b => cmpI_zero a b
 have l := fun a b => @cmpI_lt a b
 split
 · rename_i h1; rw [z] at h1
   split
   · rename_i h2; rw [z] at h2
     split
     · rename_i h3; rw [z] at h3
       split
       · rename_i h4; rw [z] at h4; omega
       · rw [l]; omega
     · rename_i h3; rw [z] at h3; rw [l]; omega
   · rename_i h2; rw [z] at h2; rw [l]; omega
 · rename_i h1; rw [z] at h1; rw [l]; omega
theorem ltY_trans {a b c : LKey} (h : ltY a b) (k : ltY b c) : ltY a c := by
 rw [ltY_iff] at *; omega
theorem ltY_irrefl (a : LKey) : ¬ ltY a a := by rw [ltY_iff]; omega
theorem ltY_ne {a b : LKey} (h : ltY a b) : a ≠ b := by rintro rfl; exact ltY_irrefl _ h
theorem ltY_tri (a b : LKey) : ltY a b ∨ a = b ∨ ltY b a := by
 by_cases h : ltY a b
 · exact .inl h
 · by_cases e : a = b
   · exact .inr (.inl e)
   · refine .inr (.inr ?_)
     have h0 : cmpY a b ≠ 0 := fun x => e ((cmpY_zero a b).1 x)
     have h1 : cmpY b a = - cmpY a b := cmpY_neg a b
     unfold ltY at *
     omega
theorem ltY_asymm {a b : LKey} (h : ltY a b) : ¬ ltY b a := fun k => ltY_irrefl _ (ltY_trans h k)
def keyA (l : Lsa) : LKey := keyH l.H
def asc (db : List Lsa) : Prop := db.Pairwise fun x y => ltY (keyA x) (keyA y)
theorem posF_cons {α : Type} (p : α → Bool) (x : α) (xs : List α) : posF p (x :: xs) = if p x = true then 0 else posF p xs + 1 := by
 unfold posF
 rw [List.takeWhile_cons]
 cases p x <;> simp
structure SeenN (done db : List Lsa) : Prop where
  asc : asc db
  mem : ∀ x ∈ db, x ∈ done
  cov : ∀ y ∈ done, ∃ x ∈ db, keyA x = keyA y ∧ y.H.Seq ≤ x.H.Seq
theorem SeenN.nil : SeenN [] [] := ⟨by simp [Proofs.Ythonenmafbpbkaa.asc], by simp, by simp⟩
theorem nodup_len {α : Type} [DecidableEq α] : ∀ (a b : List α), a.Pairwise (· ≠ ·) → (∀ x ∈ a, x ∈ b) → a.length ≤ b.length
 | [], _, _, _ => Nat.zero_le _
 | x :: xs, b, h, k => by
   rw [List.pairwise_cons] at h
   have hx := k x (by simp)
   have := nodup_len xs (b.erase x) h.2 (fun y hy => (List.mem_erase_of_ne (h.1 y hy).symm).2 (k y (List.mem_cons_of_mem _ hy)))
   rw [List.length_erase_of_mem hx] at this
   have hp : 0 < b.length := List.length_pos_of_mem hx
   simp only [List.length_cons]
   omega
theorem SeenN.len {done db : List Lsa} (h : SeenN done db) : db.length ≤ done.length := by
 exact nodup_len db done (h.asc.imp fun {a b} k => fun e => ltY_ne k (by rw [e])) h.mem
end Go.Proofs.Ythonenmafbpbkaa

namespace Go.Proofs.Ythonenmafbpbkaa
open Go Go.Am
theorem keyY_iff (a b : LKey) : ((a.Ty == b.Ty) && ((a.ID == b.ID) && ((a.Len == b.Len) && (a.Router == b.Router)))) = decide (a = b) := by
 cases a; cases b
 rw [Bool.eq_iff_iff]
 simp
end Go.Proofs.Ythonenmafbpbkaa
