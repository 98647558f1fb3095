import Derived.Test.YtlpgadlfpigbhaaL20
set_option linter.unusedSimpArgs false
set_option linter.unusedVariables false
namespace Go.Proofs.Ytlpgadlfpigbhaa
open Go Go.Am

/-- A valid list: what Check demands. -/
theorem chk_ok : ∀ (l : List LR) (p : Option LR), chkL p l = 0 → (∀ r ∈ l, 16 ≤ r.From ∧ r.From ≤ r.To ∧ r.To ≤ 1048575) ∧ l.Pairwise (fun a b => a.To + 1 < b.From) ∧ ∀ q, p = some q → ∀ r ∈ l, q.To + 1 < r.From := by
  intro l
  induction l with
  | nil => intro p _; simp
  | cons r rs ih =>
    intro p h
    simp only [chkL] at h
    split at h
    · omega
    · split at h
      · omega
      · have key : chkL (some r) rs = 0 ∧ ∀ q, p = some q → q.To + 1 < r.From := by
          split at h
          · rename_i q
            split at h
            · omega
            · exact ⟨h, fun q' hq => by injection hq with hq; subst hq; omega⟩
          · exact ⟨h, by simp⟩
        obtain ⟨h1, h2, h3⟩ := ih _ key.1
        refine ⟨fun x hx => ?_, ?_, fun q hq x hx => ?_⟩
        · rcases List.mem_cons.1 hx with rfl | hx
          · omega
          · exact h1 x hx
        · exact List.pairwise_cons.2 ⟨fun b hb => h3 r rfl b hb, h2⟩
        · have := key.2 q hq
          rcases List.mem_cons.1 hx with rfl | hx
          · exact this
          · have := h3 r rfl x hx
            omega
theorem ok_of_chk {l : List LR} (h : chk l = 0) : (∀ r ∈ l, 16 ≤ r.From ∧ r.From ≤ r.To ∧ r.To ≤ 1048575) ∧ l.Pairwise (fun a b => a.To + 1 < b.From) :=
  ⟨(chk_ok l none h).1, (chk_ok l none h).2.1⟩

theorem rtk_succ : ∀ (l : List LR) (i : Nat), (∀ r ∈ l, r.From ≤ r.To) → i ≠ 0 → rtk l i = l := by
  intro l
  induction l with
  | nil => intro i _ _; rfl
  | cons r rs ih =>
    intro i h hi
    simp only [rtk, hi, if_false]
    rw [ih (i + 1) (fun x hx => h x (by simp [hx])) (by omega), if_pos (h r (by simp))]
    rfl

theorem take_same (l : List LR) : rtakeL l = takeL l := by
  unfold rtakeL takeL
  split
  · rename_i h
    cases l with
    | nil => rfl
    | cons r rs =>
      obtain ⟨h1, _⟩ := ok_of_chk h
      have hr := h1 r (by simp)
      have w : IntKind.i64.wrap (r.From + 1) = r.From + 1 := wrap_in (by omega)
      simp only [rtk, if_true, w]
      rw [rtk_succ rs 1 (fun x hx => (h1 x (by simp [hx])).2.1) (by omega)]
      by_cases e : r.From = r.To
      · rw [if_neg (by omega), if_pos e]; rfl
      · rw [if_pos (by omega), if_neg e]; rfl
  · rfl

/-- Giving back, element by element. -/
def gR (x : Int) : List LR → List LR
  | [] => [⟨x, x⟩]
  | r :: rs => if r.To < x - 1 then r :: gR x rs else if r.To = x - 1 then (match rs with
    | s :: ss => if s.From = x + 1 then ⟨r.From, s.To⟩ :: ss else ⟨r.From, x⟩ :: s :: ss
    | [] => [⟨r.From, x⟩]) else if r.From = x + 1 then ⟨x, r.To⟩ :: rs else ⟨x, x⟩ :: r :: rs

theorem posL_shift (x : Int) (l : List LR) (i : Nat) : posL x l i = posL x l 0 + i := by
  induction l generalizing i with
  | nil => simp [posL]
  | cons r rs ih =>
    simp only [posL]
    split
    · rw [ih (i + 1), ih (0 + 1)]; omega
    · omega

def gOut (l : List LR) (x : Int) : List LR := l.take (giveFrom l x (posL x l 0)).1 ++ [⟨(giveFrom l x (posL x l 0)).2, (giveTo l x (posL x l 0)).2⟩] ++ l.drop (giveTo l x (posL x l 0)).1

theorem gOut_gR (x : Int) : ∀ (l : List LR), (∀ r ∈ l, r.From ≤ r.To) → l.Pairwise (fun a b => a.To + 1 < b.From) → (∀ r ∈ l, ¬ (r.From ≤ x ∧ x ≤ r.To)) → gOut l x = gR x l := by
  intro l
  induction l with
  | nil => intro _ _ _; simp [gOut, posL, giveFrom, giveTo, gR]
  | cons r rs ih =>
    intro h1 h2 h3
    have hr := h1 r (by simp)
    have hx := h3 r (by simp)
    obtain ⟨hp, h2'⟩ := List.pairwise_cons.1 h2
    have ih' := ih (fun y hy => h1 y (by simp [hy])) h2' (fun y hy => h3 y (by simp [hy]))
    simp only [gR]
    by_cases c1 : r.To < x - 1
    · rw [if_pos c1, ← ih']
      have e : posL x (r :: rs) 0 = posL x rs 0 + 1 := by
        simp only [posL]; rw [if_pos (by omega), posL_shift]
      have et : giveTo (r :: rs) x (posL x rs 0 + 1) = ((giveTo rs x (posL x rs 0)).1 + 1, (giveTo rs x (posL x rs 0)).2) := by
        simp only [giveTo, List.getElem?_cons_succ]
        split
        · split <;> rfl
        · rfl
      have ef : giveFrom (r :: rs) x (posL x rs 0 + 1) = ((giveFrom rs x (posL x rs 0)).1 + 1, (giveFrom rs x (posL x rs 0)).2) := by
        cases posL x rs 0 with
        | zero =>
          have : ¬ r.To = x - 1 := by omega
          simp [giveFrom, this]
        | succ j =>
          simp only [giveFrom, List.getElem?_cons_succ]
          split
          · split <;> rfl
          · rfl
      simp only [gOut, e, et, ef]
      rfl
    · rw [if_neg c1]
      by_cases c2 : r.To = x - 1
      · rw [if_pos c2]
        have e0 : posL x rs 0 = 0 := by
          cases rs with
          | nil => rfl
          | cons s ss =>
            have a := hp s (by simp)
            have b := h1 s (by simp)
            simp only [posL]
            rw [if_neg (by omega)]
        have e : posL x (r :: rs) 0 = 1 := by
          simp only [posL]; rw [if_pos (by omega), posL_shift, e0]
        simp only [gOut, e]
        have ef : giveFrom (r :: rs) x 1 = (0, r.From) := by simp [giveFrom, c2]
        rw [ef]
        cases rs with
        | nil => simp [giveTo]
        | cons s ss =>
          by_cases c3 : s.From = x + 1
          · simp [giveTo, c3]
          · simp [giveTo, c3]
      · rw [if_neg c2]
        have e : posL x (r :: rs) 0 = 0 := by
          simp only [posL]; rw [if_neg (by omega)]
        simp only [gOut, e]
        by_cases c3 : r.From = x + 1
        · simp [giveFrom, giveTo, c3]
        · simp [giveFrom, giveTo, c3]

theorem rg_far (x : Int) : ∀ (l : List LR) (s : List LR × Int × Int), (∀ r ∈ l, r.From ≤ r.To) → (∀ r ∈ l, x + 1 < r.From) → l.foldl (rgF x) s = s ∧ (l.filter fun r => decide (x + 1 < r.From)) = l := by
  intro l
  induction l with
  | nil => intro s _ _; exact ⟨rfl, rfl⟩
  | cons r rs ih =>
    intro s h1 h2
    have a := h1 r (by simp)
    have b := h2 r (by simp)
    have e : rgF x s r = s := by
      simp only [rgF]
      rw [if_neg (by omega), if_neg (by omega), if_neg (by omega)]
    simp only [List.foldl_cons, e]
    obtain ⟨i1, i2⟩ := ih s (fun y hy => h1 y (by simp [hy])) (fun y hy => h2 y (by simp [hy]))
    exact ⟨i1, by rw [List.filter_cons_of_pos (by simpa using b), i2]⟩

theorem rg_out (x : Int) : ∀ (l : List LR) (out : List LR) (a b : Int), l.foldl (rgF x) (out, a, b) = (out ++ (l.foldl (rgF x) ([], a, b)).1, (l.foldl (rgF x) ([], a, b)).2) := by
  intro l
  induction l with
  | nil => intro out a b; simp
  | cons r rs ih =>
    intro out a b
    have e : ∀ out, rgF x (out, a, b) r = (out ++ (rgF x ([], a, b) r).1, (rgF x ([], a, b) r).2) := by
      intro out
      simp only [rgF]
      split
      · simp
      · split
        · simp
        · split <;> simp
    simp only [List.foldl_cons]
    rw [e out]
    rcases h : rgF x ([], a, b) r with ⟨o2, a2, b2⟩
    simp only
    rw [ih (out ++ o2), ih o2]
    simp

theorem rgOut_gR (x : Int) : ∀ (l : List LR), (∀ r ∈ l, r.From ≤ r.To) → l.Pairwise (fun a b => a.To + 1 < b.From) → (∀ r ∈ l, ¬ (r.From ≤ x ∧ x ≤ r.To)) → rgOut l x = gR x l := by
  intro l
  induction l with
  | nil => intro _ _ _; rfl
  | cons r rs ih =>
    intro h1 h2 h3
    have hr := h1 r (by simp)
    have hx := h3 r (by simp)
    obtain ⟨hp, h2'⟩ := List.pairwise_cons.1 h2
    have ih' := ih (fun y hy => h1 y (by simp [hy])) h2' (fun y hy => h3 y (by simp [hy]))
    simp only [gR]
    by_cases c1 : r.To < x - 1
    · rw [if_pos c1, ← ih']
      have e : rgF x ([], x, x) r = ([r], x, x) := by simp [rgF, c1]
      have ho := rg_out x rs [r] x x
      simp only [rgOut, rgL, List.foldl_cons, e, ho]
      rw [List.filter_cons_of_neg (by simp; omega)]
      rfl
    · rw [if_neg c1]
      by_cases c2 : r.To = x - 1
      · rw [if_pos c2]
        have e : rgF x ([], x, x) r = ([], r.From, x) := by simp [rgF, c2]
        simp only [rgOut, rgL, List.foldl_cons, e]
        rw [List.filter_cons_of_neg (by simp; omega)]
        cases rs with
        | nil => rfl
        | cons s ss =>
          have a := hp s (by simp)
          have b := h1 s (by simp)
          have hss : ∀ y ∈ ss, x + 1 < y.From := by
            intro y hy
            have := (List.pairwise_cons.1 h2').1 y hy
            omega
          by_cases c3 : s.From = x + 1
          · have e2 : rgF x ([], r.From, x) s = ([], r.From, s.To) := by
              simp only [rgF]
              rw [if_neg (by omega), if_neg (by omega), if_pos c3]
            simp only [List.foldl_cons, e2]
            obtain ⟨f1, f2⟩ := rg_far x ss ([], r.From, s.To) (fun y hy => h1 y (by simp [hy])) hss
            rw [f1, List.filter_cons_of_neg (by simp; omega), f2]
            simp [c3]
          · obtain ⟨f1, f2⟩ := rg_far x (s :: ss) ([], r.From, x) (fun y hy => h1 y (by simp at hy; rcases hy with rfl | hy <;> simp [*])) (fun y hy => by
              rcases List.mem_cons.1 hy with rfl | hy
              · omega
              · exact hss y hy)
            rw [f1, f2]
            simp [c3]
      · rw [if_neg c2]
        have hrs : ∀ y ∈ rs, x + 1 < y.From := by
          intro y hy
          have := hp y hy
          omega
        by_cases c3 : r.From = x + 1
        · have e : rgF x ([], x, x) r = ([], x, r.To) := by
            simp only [rgF]
            rw [if_neg (by omega), if_neg (by omega), if_pos c3]
          obtain ⟨f1, f2⟩ := rg_far x rs ([], x, r.To) (fun y hy => h1 y (by simp [hy])) hrs
          simp only [rgOut, rgL, List.foldl_cons, e, f1]
          rw [List.filter_cons_of_neg (by simp; omega), f2, if_pos c3]
          rfl
        · obtain ⟨f1, f2⟩ := rg_far x (r :: rs) ([], x, x) h1 (fun y hy => by
              rcases List.mem_cons.1 hy with rfl | hy
              · omega
              · exact hrs y hy)
          simp only [rgOut, rgL, f1, f2]
          rw [if_neg c3]
          rfl

theorem give_same (l : List LR) (x : Int) : rgiveL l x = giveL l x := by
  unfold rgiveL giveL
  split
  · rfl
  · rename_i h
    split
    · rfl
    · split
      · rfl
      · rename_i h2
        obtain ⟨o1, o2⟩ := ok_of_chk (l := l) (by omega)
        have hno : ∀ r ∈ l, ¬ (r.From ≤ x ∧ x ≤ r.To) := by
          intro r hr hc
          apply h2
          have hz : chk l = 0 := by omega
          simp only [has, hz, decide_true, Bool.true_and, List.any_eq_true]
          exact ⟨r, hr, by simp [hc.1, hc.2]⟩
        have e1 := rgOut_gR x l (fun r hr => (o1 r hr).2.1) o2 hno
        have e2 := gOut_gR x l (fun r hr => (o1 r hr).2.1) o2 hno
        rw [e1, ← e2]
        rfl
end Go.Proofs.Ytlpgadlfpigbhaa
