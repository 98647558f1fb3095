/- The abstract machine, part twenty-nine: tables of contracts for runs. -/
import Derived.Test.YtgcnlmcpmocbhaaAmZ
namespace Go.Am
open Go

/-- Contracts that name no variable. -/
abbrev Tbl := List (FuncId × List AVal × AVal)
def tbl : Tbl → CallF
  | [], _, _, _ => none
  | e :: l, f, args, H => if e.1 = f ∧ eqL (eqV 40) args e.2.1 = true then some (e.2.2, H) else tbl l f args H
theorem tbl_ok {P : Program} : ∀ {l : Tbl}, (∀ e ∈ l, CFun P e.1 e.2.1 [] e.2.2 [] ∧ e.2.1.all noid = true ∧ noid e.2.2 = true) → CallOk P (tbl l)
  | [], _, f, args, H, x, H', h => by cases h
  | e :: l, hl, f, args, H, x, H', h => by
    simp only [tbl] at h
    split at h
    · rename_i hc
      obtain ⟨e1, e2⟩ := hc
      injection h with h
      injection h with h1 h2
      subst h1 h2 e1
      rw [eqL_sound (eqV_sound 40) e2]
      obtain ⟨k1, k2, k3⟩ := hl e (by simp)
      exact k1.up' H k2 k3
    · exact tbl_ok (fun e he => hl e (List.mem_cons_of_mem _ he)) f args H x H' h
/-- Contracts that name one variable, the first argument's, and leave it. -/
abbrev Tbl1 := List (FuncId × List AVal × List AVal × AVal)
def tbl1 : Tbl1 → CallF
  | [], _, _, _ => none
  | e :: l, f, args, H => match args with
    | .ptr id 0 :: as => if e.1 = f ∧ eqL (eqV 40) as e.2.1 = true ∧ eqL (eqV 40) (H.getD id []) e.2.2.1 = true ∧ id < H.length then some (e.2.2.2, H) else tbl1 l f args H
    | _ => none
theorem noid_low1 : ∀ {l : List AVal}, l.all noid = true → l.all (low 1) = true := by
  intro l h
  rw [List.all_eq_true] at h ⊢
  intro x hx
  exact noid_low (h x hx)
theorem noid_maps {ρ : Nat → Nat} : ∀ {l : List AVal}, l.all noid = true → l.map (ren ρ) = l
  | [], _ => rfl
  | x :: l, h => by
    simp only [List.all_cons, Bool.and_eq_true] at h
    rw [List.map_cons, noid_ren h.1, noid_maps h.2]
theorem tbl1_ok {P : Program} : ∀ {l : Tbl1}, (∀ e ∈ l, CFun P e.1 (.ptr 0 0 :: e.2.1) [e.2.2.1] e.2.2.2 [e.2.2.1] ∧ e.2.1.all noid = true ∧ e.2.2.1.all noid0 = true ∧ noid e.2.2.2 = true) → CallOk P (tbl1 l)
  | [], _, f, args, H, x, H', h => by cases h
  | e :: l, hl, f, args, H, x, H', h => by
    simp only [tbl1] at h
    split at h
    case h_2 => cases h
    rename_i id as
    split at h
    · rename_i hc
      obtain ⟨e1, e2, e3, e4⟩ := hc
      injection h with h
      injection h with h1 h2
      subst h1 h2 e1
      rw [eqL_sound (eqV_sound 40) e2]
      obtain ⟨k1, k2, k3, k4⟩ := hl e (by simp)
      have hg : H[id]? = some e.2.2.1 := by
        rw [← eqL_sound (eqV_sound 40) e3]
        simp [List.getD_eq_getElem?_getD, List.getElem?_eq_getElem e4]
      have := k1.at hg k3 k3 (by simp only [List.all_cons, Bool.and_eq_true]; exact ⟨rfl, noid_low1 k2⟩) (noid_low k4)
      rw [List.map_cons, noid_maps k2, noid_ren k4] at this
      have hs : H.set id e.2.2.1 = H := by
        apply List.ext_getElem?
        intro j
        rw [List.getElem?_set]
        split
        · rename_i hj
          subst hj
          rw [hg]
        · rfl
      rw [hs] at this
      exact this
    · exact tbl1_ok (fun e he => hl e (List.mem_cons_of_mem _ he)) f _ H x H' h
@[simp] theorem av_nilp {t : Nat → AVal} : av t (.const (.pointer none)) = .nilp := Eq.trans rfl rfl
@[simp] theorem apn_eql {e : Bool} : apn true e .eql = some (.bool e) := rfl
@[simp] theorem apn_neq {e : Bool} : apn true e .neq = some (.bool (!e)) := rfl
end Go.Am
