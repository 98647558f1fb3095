import Derived.Test.YtlpgadlfpigbhaaL23
set_option linter.unusedSimpArgs false
set_option linter.unusedVariables false
namespace Go.Proofs.Ytlpgadlfpigbhaa
open Go Go.Am

/-- A valid list of ranges. -/
def okL (l : List LR) : Prop := (∀ r ∈ l, 16 ≤ r.From ∧ r.From ≤ r.To ∧ r.To ≤ 1048575) ∧ l.Pairwise (fun a b => a.To + 1 < b.From)
theorem okL_cons {r : LR} {rs : List LR} : okL (r :: rs) ↔ (16 ≤ r.From ∧ r.From ≤ r.To ∧ r.To ≤ 1048575) ∧ (∀ s ∈ rs, r.To + 1 < s.From) ∧ okL rs := by
  simp only [okL, List.pairwise_cons, List.mem_cons, forall_eq_or_imp]
  constructor
  · rintro ⟨⟨a, b⟩, c, d⟩; exact ⟨a, c, b, d⟩
  · rintro ⟨a, c, b, d⟩; exact ⟨⟨a, b⟩, c, d⟩
theorem okL_nil : okL [] := ⟨by simp, List.Pairwise.nil⟩

theorem chkL_of_ok : ∀ (l : List LR) (p : Option LR), okL l → (∀ q, p = some q → ∀ r ∈ l, q.To + 1 < r.From) → chkL p l = 0 := by
  intro l
  induction l with
  | nil => intro p _ _; rfl
  | cons r rs ih =>
    intro p h hp
    obtain ⟨h1, h2, h3⟩ := okL_cons.1 h
    have hn := ih (some r) h3 (fun q hq s hs => by injection hq with hq; subst hq; exact h2 s hs)
    simp only [chkL]
    rw [if_neg (by omega), if_neg (by omega)]
    split
    · rename_i q
      rw [if_neg (by have := hp q rfl r (by simp); omega)]
      exact hn
    · exact hn
theorem chk_iff (l : List LR) : chk l = 0 ↔ okL l :=
  ⟨fun h => ok_of_chk h, fun h => chkL_of_ok l none h (by simp)⟩

/-- A label is in the list. -/
def mem (l : List LR) (x : Int) : Prop := ∃ r ∈ l, r.From ≤ x ∧ x ≤ r.To
theorem has_iff {l : List LR} (h : okL l) (x : Int) : has l x = true ↔ mem l x := by
  simp [has, (chk_iff l).2 h, mem]
theorem mem_cons {r : LR} {rs : List LR} {x : Int} : mem (r :: rs) x ↔ (r.From ≤ x ∧ x ≤ r.To) ∨ mem rs x := by
  simp [mem]
theorem mem_nil {x : Int} : ¬ mem [] x := by simp [mem]

theorem gR_ok (x : Int) (hx : 16 ≤ x ∧ x ≤ 1048575) : ∀ (l : List LR), okL l → ¬ mem l x → (okL (gR x l) ∧ ∀ m, mem (gR x l) m ↔ mem l m ∨ m = x) ∧ ∀ b : Int, b < x → (∀ s ∈ l, b < s.From) → ∀ s ∈ gR x l, b < s.From := by
  intro l
  induction l with
  | nil =>
    intro _ _
    refine ⟨⟨okL_cons.2 ⟨⟨hx.1, Int.le_refl _, hx.2⟩, by simp, okL_nil⟩, fun m => ?_⟩, fun b hb _ s hs => ?_⟩
    · simp only [gR, mem_cons, mem_nil, or_false, false_or]; omega
    · simp [gR] at hs; subst hs; exact hb
  | cons r rs ih =>
    intro h hn
    obtain ⟨h1, h2, h3⟩ := okL_cons.1 h
    rw [mem_cons] at hn
    have hn1 : ¬ (r.From ≤ x ∧ x ≤ r.To) := fun h => hn (.inl h)
    have hn2 : ¬ mem rs x := fun h => hn (.inr h)
    obtain ⟨⟨i1, i2⟩, i3⟩ := ih h3 hn2
    simp only [gR]
    by_cases c1 : r.To < x - 1
    · rw [if_pos c1]
      refine ⟨⟨okL_cons.2 ⟨h1, i3 (r.To + 1) (by omega) h2, i1⟩, fun m => ?_⟩, fun b hb hs s hm => ?_⟩
      · rw [mem_cons, mem_cons, i2]
        constructor
        · rintro (h | h | h) <;> simp [h]
        · rintro ((h | h) | h) <;> simp [h]
      · rcases List.mem_cons.1 hm with rfl | hm
        · exact hs _ (by simp)
        · exact i3 b hb (fun s hs' => hs s (by simp [hs'])) s hm
    · rw [if_neg c1]
      by_cases c2 : r.To = x - 1
      · rw [if_pos c2]
        cases rs with
        | nil =>
          refine ⟨⟨okL_cons.2 ⟨⟨h1.1, by simp only; omega, hx.2⟩, by simp, okL_nil⟩, fun m => ?_⟩, fun b hb hs s hm => ?_⟩
          · simp only [mem_cons, mem_nil, or_false]; omega
          · simp at hm; subst hm; exact hs r (by simp)
        | cons s ss =>
          obtain ⟨g1, g2, g3⟩ := okL_cons.1 h3
          have hrs := h2 s (by simp)
          by_cases c3 : s.From = x + 1
          · simp only [c3, if_true]
            refine ⟨⟨okL_cons.2 ⟨⟨h1.1, by simp only; omega, g1.2.2⟩, fun t ht => g2 t ht, g3⟩, fun m => ?_⟩, fun b hb hs t hm => ?_⟩
            · simp only [mem_cons]
              constructor
              · rintro (h | h)
                · by_cases e1 : m ≤ r.To
                  · exact .inl (.inl ⟨h.1, e1⟩)
                  · by_cases e2 : m = x
                    · exact .inr e2
                    · exact .inl (.inr (.inl ⟨by omega, h.2⟩))
                · exact .inl (.inr (.inr h))
              · rintro ((h | h | h) | h)
                · exact .inl ⟨h.1, by omega⟩
                · exact .inl ⟨by omega, h.2⟩
                · exact .inr h
                · exact .inl ⟨by omega, by omega⟩
            · rcases List.mem_cons.1 hm with rfl | hm
              · exact hs r (by simp)
              · exact hs t (by simp [hm])
          · simp only [c3, if_false]
            have hsx : x + 1 < s.From := by
              have : ¬ (s.From ≤ x ∧ x ≤ s.To) := fun h => hn2 (mem_cons.2 (.inl h))
              omega
            refine ⟨⟨okL_cons.2 ⟨⟨h1.1, by simp only; omega, hx.2⟩, fun t ht => ?_, h3⟩, fun m => ?_⟩, fun b hb hs t hm => ?_⟩
            · rcases List.mem_cons.1 ht with rfl | ht
              · exact hsx
              · have := g2 t ht; simp only; omega
            · simp only [mem_cons]
              constructor
              · rintro (h | h)
                · by_cases e2 : m = x
                  · exact .inr e2
                  · exact .inl (.inl ⟨h.1, by omega⟩)
                · exact .inl (.inr h)
              · rintro ((h | h) | h)
                · exact .inl ⟨h.1, by omega⟩
                · exact .inr h
                · exact .inl ⟨by omega, by omega⟩
            · rcases List.mem_cons.1 hm with rfl | hm
              · exact hs r (by simp)
              · exact hs t (by simp [hm])
      · rw [if_neg c2]
        by_cases c3 : r.From = x + 1
        · rw [if_pos c3]
          refine ⟨⟨okL_cons.2 ⟨⟨hx.1, by simp only; omega, h1.2.2⟩, h2, h3⟩, fun m => ?_⟩, fun b hb hs t hm => ?_⟩
          · simp only [mem_cons]
            constructor
            · rintro (h | h)
              · by_cases e2 : m = x
                · exact .inr e2
                · exact .inl (.inl ⟨by omega, h.2⟩)
              · exact .inl (.inr h)
            · rintro ((h | h) | h)
              · exact .inl ⟨by omega, h.2⟩
              · exact .inr h
              · exact .inl ⟨by omega, by omega⟩
          · rcases List.mem_cons.1 hm with rfl | hm
            · exact hb
            · exact hs t (by simp [hm])
        · rw [if_neg c3]
          have hrx : x + 1 < r.From := by omega
          refine ⟨⟨okL_cons.2 ⟨⟨hx.1, Int.le_refl _, hx.2⟩, fun t ht => ?_, h⟩, fun m => ?_⟩, fun b hb hs t hm => ?_⟩
          · rcases List.mem_cons.1 ht with rfl | ht
            · exact hrx
            · have := h2 t ht; simp only; omega
          · simp only [mem_cons]
            constructor
            · rintro (h | h)
              · exact .inr (by omega)
              · exact .inl h
            · rintro (h | h)
              · exact .inr h
              · exact .inl (by omega)
          · rcases List.mem_cons.1 hm with rfl | hm
            · exact hb
            · exact hs t hm

theorem gR_len (x : Int) (l : List LR) : (gR x l).length ≤ l.length + 1 := by
  induction l with
  | nil => simp [gR]
  | cons r rs ih =>
    simp only [gR]
    split
    · simp; omega
    · split
      · cases rs with
        | nil => simp
        | cons s ss => simp only; split <;> simp
      · split <;> simp

/-- Give, where the label may be given. -/
theorem give_new {l : List LR} {x : Int} (h : okL l) (hx : 16 ≤ x ∧ x ≤ 1048575) (hn : ¬ mem l x) : giveL l x = (gR x l, 0) := by
  have hc := (chk_iff l).2 h
  have hh : ¬ has l x = true := fun e => hn ((has_iff h x).1 e)
  unfold giveL
  rw [if_neg (by omega), if_neg (by omega), if_neg hh]
  have := gOut_gR x l (fun r hr => (h.1 r hr).2.1) h.2 (fun r hr hc => hn ⟨r, hr, hc⟩)
  exact congrArg (·, 0) this
theorem give_old {l : List LR} {x : Int} (h : okL l) (hx : 16 ≤ x ∧ x ≤ 1048575) (hn : mem l x) : giveL l x = ([], 7) := by
  have hc := (chk_iff l).2 h
  unfold giveL
  rw [if_neg (by omega), if_neg (by omega), if_pos ((has_iff h x).2 hn)]

/-- What Take leaves of a valid list. -/
def tk (r : LR) (rs : List LR) : List LR := if r.From = r.To then rs else ⟨r.From + 1, r.To⟩ :: rs
theorem take_cons {r : LR} {rs : List LR} (h : okL (r :: rs)) : takeL (r :: rs) = (r.From, tk r rs, 0) := by
  simp [takeL, (chk_iff _).2 h, tk]
theorem tk_ok {r : LR} {rs : List LR} (h : okL (r :: rs)) : okL (tk r rs) ∧ ∀ m, mem (tk r rs) m ↔ mem (r :: rs) m ∧ m ≠ r.From := by
  obtain ⟨h1, h2, h3⟩ := okL_cons.1 h
  have hfar : ∀ m, mem rs m → r.To < m := by
    rintro m ⟨s, hs, hm⟩
    have := h2 s hs
    omega
  unfold tk
  split
  · rename_i e
    refine ⟨h3, fun m => ?_⟩
    rw [mem_cons]
    constructor
    · intro hm
      have := hfar m hm
      exact ⟨.inr hm, by omega⟩
    · rintro ⟨h | h, hne⟩
      · omega
      · exact h
  · refine ⟨okL_cons.2 ⟨⟨by simp only; omega, by simp only; omega, h1.2.2⟩, h2, h3⟩, fun m => ?_⟩
    rw [mem_cons, mem_cons]
    constructor
    · rintro (h | h)
      · simp only at h; exact ⟨.inl ⟨by omega, h.2⟩, by omega⟩
      · have := hfar m h
        exact ⟨.inr h, by omega⟩
    · rintro ⟨h | h, hne⟩
      · exact .inl ⟨by simp only; omega, h.2⟩
      · exact .inr h
theorem tk_back {r : LR} {rs : List LR} (h : okL (r :: rs)) : gR r.From (tk r rs) = r :: rs := by
  obtain ⟨h1, h2, h3⟩ := okL_cons.1 h
  unfold tk
  split
  · rename_i e
    have er : r = ⟨r.From, r.From⟩ := by cases r; simp_all
    cases rs with
    | nil => simp only [gR]; rw [← er]
    | cons s ss =>
      have a := h2 s (by simp)
      have b := (h3.1 s (by simp))
      simp only [gR]
      rw [if_neg (by omega), if_neg (by omega), if_neg (by omega), ← er]
  · simp only [gR]
    rw [if_neg (by omega), if_neg (by omega)]
    simp

def total : List LR → Int
  | [] => 0
  | r :: rs => r.To - r.From + 1 + total rs
theorem cnt_total : ∀ (l : List LR) (a : Int), okL l → 0 ≤ a → a + l.length * 1048576 ≤ 4611686018427387904 → cntL l a = a + total l := by
  intro l
  induction l with
  | nil => intro a _ _ _; simp [cntL, total]
  | cons r rs ih =>
    intro a h ha hb
    obtain ⟨h1, h2, h3⟩ := okL_cons.1 h
    simp only [List.length_cons] at hb
    have w1 : IntKind.i64.wrap (r.To - r.From) = r.To - r.From := wrap_in (by omega)
    have w2 : IntKind.i64.wrap (r.To - r.From + 1) = r.To - r.From + 1 := wrap_in (by omega)
    have w3 : IntKind.i64.wrap (a + (r.To - r.From + 1)) = a + (r.To - r.From + 1) := wrap_in (by omega)
    simp only [cntL, w1, w2, w3, total]
    rw [ih _ h3 (by omega) (by omega)]
    omega
theorem tk_total {r : LR} {rs : List LR} : total (tk r rs) = total (r :: rs) - 1 := by
  unfold tk
  split
  · simp only [total]; omega
  · simp only [total]; omega
theorem tk_len {r : LR} {rs : List LR} : (tk r rs).length ≤ (r :: rs).length := by
  unfold tk
  split <;> simp
theorem total_nonneg : ∀ (l : List LR), okL l → 0 ≤ total l ∧ total l ≤ l.length * 1048576 := by
  intro l
  induction l with
  | nil => intro _; simp [total]
  | cons r rs ih =>
    intro h
    obtain ⟨h1, _, h3⟩ := okL_cons.1 h
    have := ih h3
    simp only [total, List.length_cons]
    omega

set_option maxHeartbeats 1000000 in
set_option maxRecDepth 10000 in
theorem c5 (l : List LR) (hlen : l.length < 8796093022200) : CFun Try.prog 5 [.sl 2 (l.map encLR) .sh] [] (.bool true) [] := by
  refine CFun.intro (tr := []) (fz := []) (n := 57) (rs := [.tmp 2]) Try.func5 rfl (by kernel_rfl) rfl rfl mixed (by kernel_rfl) (by simp) (by simp) ?_
  have h12 := c12 l hlen
  by_cases h2 : (200 : Int) < l.length
  · simp
    refine ⟨_, _, .inl h12, trivial, ?_⟩
    simp [h2]
    refine ⟨_, _, .inl c8, trivial, ?_⟩
    simp
  · by_cases hc : chk l = 0
    case neg =>
      have e : takeL l = (0, [], chk l) := by simp [takeL, hc]
      rw [e] at h12
      simp
      refine ⟨_, _, .inl h12, trivial, ?_⟩
      simp [h2, hc]
      refine ⟨_, _, .inl c8, trivial, ?_⟩
      simp
    have hok := (chk_iff l).1 hc
    cases l with
    | nil =>
      have e : takeL [] = (0, [], 8) := rfl
      rw [e] at h12
      simp
      refine ⟨_, _, .inl h12, trivial, ?_⟩
      simp
      refine ⟨_, _, .inl c8, trivial, ?_⟩
      simp
    | cons r rs =>
      obtain ⟨t1, t2⟩ := tk_ok hok
      obtain ⟨b1, _, _⟩ := okL_cons.1 hok
      have hnm : ¬ mem (tk r rs) r.From := fun h => ((t2 _).1 h).2 rfl
      have hg := give_new t1 ⟨b1.1, by omega⟩ hnm
      rw [tk_back hok] at hg
      have hlt := tk_len (r := r) (rs := rs)
      have hm1 : has (r :: rs) r.From = true := (has_iff hok _).2 (mem_cons.2 (.inl ⟨Int.le_refl _, b1.2.1⟩))
      have hm2 : has (tk r rs) r.From = false := by
        have := mt (has_iff t1 r.From).1 hnm
        simpa using this
      have k1 : countL (r :: rs) = total (r :: rs) := by
        rw [countL, if_pos hc, cnt_total _ _ hok (by omega) (by omega)]; omega
      have k2 : countL (tk r rs) = total (r :: rs) - 1 := by
        rw [countL, if_pos ((chk_iff _).2 t1), cnt_total _ _ t1 (by omega) (by omega), tk_total]; omega
      have kn := total_nonneg _ hok
      have kw : IntKind.i64.wrap (total (r :: rs) - 1) = total (r :: rs) - 1 := wrap_in (by omega)
      have h9 := c9 (tk r rs) _ rfl (by omega) r.From
      have h15 := c15 (r :: rs) (r :: rs) _ rfl _ rfl (by omega)
      have h17a := c17 (r :: rs) (by omega) r.From
      have h17b := c17 (tk r rs) (by omega) r.From
      have h19a := c19 (r :: rs) _ rfl (by omega)
      have h19b := c19 (tk r rs) _ rfl (by omega)
      rw [take_cons hok] at h12
      rw [hg] at h9
      rw [hm1] at h17a
      rw [hm2] at h17b
      rw [k1] at h19a
      rw [k2] at h19b
      simp only [decide_true] at h15
      generalize r.From = x at h12 h9 h17a h17b
      generalize tk r rs = q at h12 h9 h17b h19b
      generalize total (r :: rs) = k at h19a h19b kw
      generalize r :: rs = l at h2 h12 h9 h15 h17a h19a
      simp
      refine ⟨_, _, .inl h12, trivial, ?_⟩
      simp [h2]
      refine ⟨_, _, .inl h9, trivial, ?_⟩
      simp
      refine ⟨_, _, .inl c8, trivial, ?_⟩
      simp
      refine ⟨_, _, .inl h15, trivial, ?_⟩
      simp
      refine ⟨_, _, .inl h17a, trivial, ?_⟩
      simp
      refine ⟨_, _, .inl h17b, trivial, ?_⟩
      simp
      refine ⟨_, _, .inl h19b, trivial, ?_⟩
      simp
      refine ⟨_, _, .inl h19a, trivial, ?_⟩
      simp [kw]
end Go.Proofs.Ytlpgadlfpigbhaa
