import Derived.Test.YthonenmafbpbkaaFXDS41
import Derived.Test.YthonenmafbpbkaaBmY
set_option linter.unusedSimpArgs false
set_option linter.unusedVariables false
namespace Go.Proofs.Ythonenmafbpbkaa
open Go Go.Am
theorem cmpI_lt {a b : Int} : cmpI a b < 0 ↔ a < b := by
 unfold cmpI; split
 · omega
 · split <;> omega
def ltY (a b : LKey) : Prop := cmpY a b < 0
instance (a b : LKey) : Decidable (ltY a b) := inferInstanceAs (Decidable (_ < _))
theorem ltY_iff (a b : LKey) : ltY a b ↔ a.Ty < b.Ty ∨ (a.Ty = b.Ty ∧ (a.ID < b.ID ∨ (a.ID = b.ID ∧ (a.Len < b.Len ∨ (a.Len = b.Len ∧ a.Router < b.Router))))) := by
 simp only [ltY, cmpY, orL]
 have z := fun a b => cmpI_zero a b
 have l := fun a b => @cmpI_lt a b
 split
 · rename_i h1; rw [z] at h1
   split
   · rename_i h2; rw [z] at h2
     split
     · rename_i h3; rw [z] at h3
       split
       · rename_i h4; rw [z] at h4; omega
       · rw [l]; omega
     · rename_i h3; rw [z] at h3; rw [l]; omega
   · rename_i h2; rw [z] at h2; rw [l]; omega
 · rename_i h1; rw [z] at h1; rw [l]; omega
theorem ltY_irrefl (a : LKey) : ¬ ltY a a := by rw [ltY_iff]; omega
theorem ltY_ne {a b : LKey} (h : ltY a b) : a ≠ b := by rintro rfl; exact ltY_irrefl _ h
def keyA (l : Lsa) : LKey := keyH l.H
def asc (db : List Lsa) : Prop := db.Pairwise fun x y => ltY (keyA x) (keyA y)
structure SeenN (done db : List Lsa) : Prop where
  asc : asc db
  mem : ∀ x ∈ db, x ∈ done
  cov : ∀ y ∈ done, ∃ x ∈ db, keyA x = keyA y ∧ y.H.Seq ≤ x.H.Seq
theorem nodup_len {α : Type} [DecidableEq α] : ∀ (a b : List α), a.Pairwise (· ≠ ·) → (∀ x ∈ a, x ∈ b) → a.length ≤ b.length
 | [], _, _, _ => Nat.zero_le _
 | x :: xs, b, h, k => by
   rw [List.pairwise_cons] at h
   have hx := k x (by simp)
   have := nodup_len xs (b.erase x) h.2 (fun y hy => (List.mem_erase_of_ne (h.1 y hy).symm).2 (k y (List.mem_cons_of_mem _ hy)))
   rw [List.length_erase_of_mem hx] at this
   have hp : 0 < b.length := List.length_pos_of_mem hx
   simp only [List.length_cons]
   omega
theorem SeenN.len {done db : List Lsa} (h : SeenN done db) : db.length ≤ done.length := by
 exact nodup_len db done (h.asc.imp fun {a b} k => fun e => ltY_ne k (by rw [e])) h.mem
end Go.Proofs.Ythonenmafbpbkaa

namespace Go.Proofs.Ythonenmafbpbkaa
open Go Go.Am
theorem keyY_iff (a b : LKey) : ((a.Ty == b.Ty) && ((a.ID == b.ID) && ((a.Len == b.Len) && (a.Router == b.Router)))) = decide (a = b) := by
 cases a; cases b
 rw [Bool.eq_iff_iff]
 simp
end Go.Proofs.Ythonenmafbpbkaa

namespace Go.Proofs.Ythonenmafbpbkaa
open Go Go.Am
end Go.Proofs.Ythonenmafbpbkaa

namespace Go.Proofs.Ythonenmafbpbkaa
open Go Go.Am
end Go.Proofs.Ythonenmafbpbkaa
