/- The abstract machine, part thirty-one: a contract among two variables, at any two. -/
import Derived.Test.YthonenmafbpbkaaBmAD
namespace Go.Am
open Go

theorem ren0_lowN {n : Nat} {ρ ρ' : Nat → Nat} {x : AVal} (h : low0 n x = true) (e : ∀ k, k < n → ρ k = ρ' k) : ren0 ρ x = ren0 ρ' x := by
  cases x with
  | ptr id off => simp [low0] at h; simp [ren0, e id h]
  | osl id off len cap k => simp [low0] at h; simp [ren0, e id h]
  | mix cs =>
    have hm : cs.map (ren00 ρ) = cs.map (ren00 ρ') := List.map_congr_left fun y hy => by
      have hy' := List.all_eq_true.1 (by simpa only [low0] using h) y hy
      cases y with
      | ptr id off => simp [low00] at hy'; simp [ren00, e id hy']
      | osl id off len cap k => simp [low00] at hy'; simp [ren00, e id hy']
      | _ => rfl
    simp only [ren0, hm]
  | _ => rfl
def two (i j k : Nat) : Nat := if k = 0 then i else j
theorem CFun.at2 {P : Program} {f : FuncId} {args : List AVal} {x : AVal} {c0 c1 d0 d1 : List AVal} (h : CFun P f args [c0, c1] x [d0, d1]) {H : List (List AVal)} {i j : Nat} (hij : i ≠ j) (hi : H[i]? = some (c0.map (ren0 (two i j)))) (hj : H[j]? = some (c1.map (ren0 (two i j))))
    (l0 : c0.all (low0 2) = true) (l1 : c1.all (low0 2) = true) (m0 : d0.all (low0 2) = true) (m1 : d1.all (low0 2) = true) (ha : args.all (low 2) = true) (hx : noid x = true) :
    CFun P f (args.map (ren (two i j))) H x ((H.set i (d0.map (ren0 (two i j)))).set j (d1.map (ren0 (two i j)))) := by
  have hil := (List.getElem?_eq_some_iff.1 hi).1
  have hjl := (List.getElem?_eq_some_iff.1 hj).1
  have t0 : two i j 0 = i := rfl
  have t1 : two i j 1 = j := rfl
  have hg : ∀ ds : List AVal, ds.all (low0 2) = true → ds.map (ren0 (grow (two i j) 2 H.length)) = ds.map (ren0 (two i j)) := by
    intro ds hds
    refine List.map_congr_left fun y hy => ?_
    exact ren0_lowN (List.all_eq_true.1 hds y hy) (fun k hk => by simp [grow, hk])
  have := h.lift (two i j) (H := H) (H' := (H.set i (d0.map (ren0 (two i j)))).set j (d1.map (ren0 (two i j)))) (fun k hk => ?_) (fun a b ha hb e => ?_) (fun k cs hk => ?_) ha (by simp) (fun k cs hk => ?_) (fun k hk hne => ?_) (noid_low hx)
  · rwa [noid_ren hx] at this
  · have : k = 0 ∨ k = 1 := by simp at hk; omega
    rcases this with rfl | rfl
    · exact hil
    · exact hjl
  · have h1 : a = 0 ∨ a = 1 := by simp at ha; omega
    have h2 : b = 0 ∨ b = 1 := by simp at hb; omega
    rcases h1 with rfl | rfl <;> rcases h2 with rfl | rfl
    · rfl
    · exact (hij e).elim
    · exact (hij e.symm).elim
    · rfl
  · match k, hk with
    | 0, hk => simp at hk; subst hk; exact ⟨hi, l0⟩
    | 1, hk => simp at hk; subst hk; exact ⟨hj, l1⟩
  · match k, hk with
    | 0, hk =>
      simp at hk; subst hk
      refine ⟨?_, m0⟩
      show ((H.set i _).set j _)[grow (two i j) 2 H.length 0]? = some (List.map (ren0 (grow (two i j) 2 H.length)) d0)
      rw [hg d0 m0]
      show ((H.set i _).set j _)[i]? = _
      rw [List.getElem?_set_ne (fun e => hij e.symm), List.getElem?_set_self hil]
    | 1, hk =>
      simp at hk; subst hk
      refine ⟨?_, m1⟩
      show ((H.set i _).set j _)[grow (two i j) 2 H.length 1]? = some (List.map (ren0 (grow (two i j) 2 H.length)) d1)
      rw [hg d1 m1]
      show ((H.set i _).set j _)[j]? = _
      rw [List.getElem?_set_self (by simpa using hjl)]
  · have e0 : i ≠ k := hne 0 (by simp)
    have e1 : j ≠ k := hne 1 (by simp)
    rw [List.getElem?_set_ne e1, List.getElem?_set_ne e0]
theorem ren00_id (x : AVal) : ren00 id x = x := by cases x <;> rfl
theorem ren0_id (x : AVal) : ren0 id x = x := by
  cases x with
  | mix cs =>
    have : cs.map (ren00 id) = cs := (List.map_congr_left fun y _ => ren00_id y).trans (List.map_id cs)
    simp only [ren0, this]
  | _ => rfl
theorem ren0_ids (cs : List AVal) : cs.map (ren0 id) = cs := (List.map_congr_left fun y _ => ren0_id y).trans (List.map_id cs)
theorem ren_id (x : AVal) : ren id x = x := by
  cases x with
  | tup vs => simp only [ren, ren0_ids]
  | fn f fs cs => simp only [ren, ren0_ids]
  | mix cs => exact ren0_id (.mix cs)
  | _ => rfl
/-- A contract that makes no variable, with others behind its own. -/
theorem CFun.app {P : Program} {f : FuncId} {args : List AVal} {H0 H0' : List (List AVal)} {x : AVal} (h : CFun P f args H0 x H0') (hl : H0'.length = H0.length) (ha : args.all (low H0.length) = true)
    (h1 : (H0.all fun cs => cs.all (low0 H0.length)) = true) (h2 : (H0'.all fun cs => cs.all (low0 H0.length)) = true) (hx : noid x = true) (Z : List (List AVal)) : CFun P f args (H0 ++ Z) x (H0' ++ Z) := by
  have hm : args.map (ren id) = args := (List.map_congr_left fun y _ => ren_id y).trans (List.map_id args)
  have := h.lift id (H := H0 ++ Z) (H' := H0' ++ Z) (fun i hi => by simp; omega) (fun i j _ _ e => e)
    (fun i cs hi => by
      have hlt := (List.getElem?_eq_some_iff.1 hi).1
      refine ⟨?_, List.all_eq_true.1 h1 cs (List.mem_of_getElem? hi)⟩
      rw [ren0_ids]
      show (H0 ++ Z)[i]? = _
      rw [List.getElem?_append_left hlt]
      exact hi)
    ha (by simp [hl])
    (fun i cs hi => by
      have hlt := (List.getElem?_eq_some_iff.1 hi).1
      have hlo := List.all_eq_true.1 h2 cs (List.mem_of_getElem? hi)
      have hg : grow id H0.length (H0 ++ Z).length i = i := by simp [grow]; omega
      refine ⟨?_, by rw [hl]; exact hlo⟩
      have e : cs.map (ren0 (grow id H0.length (H0 ++ Z).length)) = cs := by
        refine (List.map_congr_left fun y hy => ?_).trans (ren0_ids cs)
        exact ren0_lowN (List.all_eq_true.1 hlo y hy) (fun k hk => by simp [grow, hk])
      rw [hg, e, List.getElem?_append_left hlt]
      exact hi)
    (fun j hj hne => by
      have hge : H0.length ≤ j := by
        rcases Nat.lt_or_ge j H0.length with q | q
        · exact absurd rfl (hne j q)
        · exact q
      rw [List.getElem?_append_right (by omega), List.getElem?_append_right hge, hl])
    (noid_low hx)
  rwa [noid_ren hx, hm] at this
end Go.Am
