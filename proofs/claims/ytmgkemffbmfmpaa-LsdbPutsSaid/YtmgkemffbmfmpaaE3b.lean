import Derived.Test.YtmgkemffbmfmpaaDS41
import Derived.Test.YtmgkemffbmfmpaaAmY
set_option linter.unusedSimpArgs false
set_option linter.unusedVariables false
namespace Go.Proofs.Ytmgkemffbmfmpaa
open Go Go.Am

theorem cmpH_less (a b : Hdr) (h : a.Seq < b.Seq) : cmpH a b ≠ 1 := by
  have : cmpI a.Seq b.Seq = -1 := by unfold cmpI; rw [if_pos h]
  simp [cmpH, orL_two, this]
/-! Keys in order, and a database as a list: what layer 25 means. -/
theorem cmpY_zero (a b : LKey) : cmpY a b = 0 ↔ a = b := by
  obtain ⟨a1, a2, a3, a4⟩ := a
  obtain ⟨b1, b2, b3, b4⟩ := b
  have z1 := cmpI_zero a1 b1
  have z2 := cmpI_zero a2 b2
  have z3 := cmpI_zero a3 b3
  have z4 := cmpI_zero a4 b4
  simp only [cmpY, orL, LKey.mk.injEq]
  by_cases h1 : cmpI a1 b1 = 0
  · by_cases h2 : cmpI a2 b2 = 0
    · by_cases h3 : cmpI a3 b3 = 0
      · by_cases h4 : cmpI a4 b4 = 0
        · simp_all
        · simp_all
      · simp_all
    · simp_all
  · simp_all
theorem cmpY_neg (a b : LKey) : cmpY b a = - cmpY a b := by
  simp only [cmpY, orL]
  rw [cmpI_neg a.Ty b.Ty, cmpI_neg a.ID b.ID, cmpI_neg a.Len b.Len, cmpI_neg a.Router b.Router]
  simp only [Int.neg_eq_zero]
  split
  · split
    · split
      · split <;> simp_all
      · rfl
    · rfl
  · rfl
theorem cmpI_lt {a b : Int} : cmpI a b < 0 ↔ a < b := by
  unfold cmpI; split
  · omega
  · split <;> omega
def ltY (a b : LKey) : Prop := cmpY a b < 0
instance (a b : LKey) : Decidable (ltY a b) := inferInstanceAs (Decidable (_ < _))
theorem ltY_iff (a b : LKey) : ltY a b ↔ a.Ty < b.Ty ∨ (a.Ty = b.Ty ∧ (a.ID < b.ID ∨ (a.ID = b.ID ∧ (a.Len < b.Len ∨ (a.Len = b.Len ∧ a.Router < b.Router))))) := by
  simp only [ltY, cmpY, orL]
  have z := fun a b => cmpI_zero a b
  have l := fun a b => @cmpI_lt a b
  split
  · rename_i h1; rw [z] at h1
    split
    · rename_i h2; rw [z] at h2
      split
      · rename_i h3; rw [z] at h3
        split
        · rename_i h4; rw [z] at h4; omega
        · rw [l]; omega
      · rename_i h3; rw [z] at h3; rw [l]; omega
    · rename_i h2; rw [z] at h2; rw [l]; omega
  · rename_i h1; rw [z] at h1; rw [l]; omega
theorem ltY_trans {a b c : LKey} (h : ltY a b) (k : ltY b c) : ltY a c := by
  rw [ltY_iff] at *; omega
theorem ltY_irrefl (a : LKey) : ¬ ltY a a := by rw [ltY_iff]; omega
theorem ltY_ne {a b : LKey} (h : ltY a b) : a ≠ b := by rintro rfl; exact ltY_irrefl _ h
theorem ltY_tri (a b : LKey) : ltY a b ∨ a = b ∨ ltY b a := by
  by_cases h : ltY a b
  · exact .inl h
  · by_cases e : a = b
    · exact .inr (.inl e)
    · refine .inr (.inr ?_)
      have h0 : cmpY a b ≠ 0 := fun x => e ((cmpY_zero a b).1 x)
      have h1 : cmpY b a = - cmpY a b := cmpY_neg a b
      unfold ltY at *
      omega
theorem ltY_asymm {a b : LKey} (h : ltY a b) : ¬ ltY b a := fun k => ltY_irrefl _ (ltY_trans h k)

def keyA (l : Lsa) : LKey := keyH l.H
/-- Keys ascend. -/
def asc (db : List Lsa) : Prop := db.Pairwise fun x y => ltY (keyA x) (keyA y)
def sealE (l : Lsa) : Int := if chkA l ≠ 0 then chkA l else if l.H.Sum ≠ sumA l then 13 else 0
/-- The first error of rows. -/
def rowsE : Option Lsa → List Lsa → Int
  | _, [] => 0
  | p, x :: xs => if sealE x ≠ 0 then sealE x else if (match p with | some y => decide (0 ≤ cmpY (keyA y) (keyA x)) | none => false) = true then 16 else rowsE (some x) xs
def chkD (db : List Lsa) : Int := if 2000 < db.length then 4 else rowsE none db
theorem rowsE_iff : ∀ (db : List Lsa) (p : Option Lsa), rowsE p db = 0 ↔ (∀ x ∈ db, sealE x = 0) ∧ asc (p.toList ++ db) ∧ True := by
  intro db
  induction db with
  | nil =>
    intro p
    cases p <;> simp [rowsE, asc]
  | cons x xs ih =>
    intro p
    simp only [rowsE]
    by_cases h1 : sealE x = 0
    case neg => simp [h1]
    rw [if_neg (by simpa using h1)]
    cases p with
    | none =>
      simp only [Bool.false_eq_true, if_false]
      rw [ih]
      simp [h1]
    | some y =>
      simp only [decide_eq_true_eq]
      by_cases h2 : ltY (keyA y) (keyA x)
      · rw [if_neg (by unfold ltY at h2; omega), ih]
        simp only [Option.toList_some, List.singleton_append, List.mem_cons, forall_eq_or_imp, h1, true_and, and_true]
        refine and_congr Iff.rfl ?_
        simp only [asc, List.pairwise_cons, List.mem_cons, forall_eq_or_imp]
        constructor
        · rintro ⟨a, b⟩
          exact ⟨⟨h2, fun z hz => ltY_trans h2 (a z hz)⟩, a, b⟩
        · rintro ⟨_, a, b⟩
          exact ⟨a, b⟩
      · rw [if_pos (by unfold ltY at h2; omega)]
        simp [asc, List.pairwise_cons, h2]
theorem chkD_ok {db : List Lsa} (h : chkD db = 0) : db.length ≤ 2000 ∧ (∀ x ∈ db, sealE x = 0) ∧ asc db := by
  unfold chkD at h
  split at h
  · simp at h
  · have := (rowsE_iff db none).1 h
    exact ⟨by omega, this.1, by simpa using this.2.1⟩
theorem chkD_of {db : List Lsa} (h1 : db.length ≤ 2000) (h2 : ∀ x ∈ db, sealE x = 0) (h3 : asc db) : chkD db = 0 := by
  unfold chkD
  rw [if_neg (by omega)]
  exact (rowsE_iff db none).2 ⟨h2, by simpa using h3, trivial⟩
theorem asc_inj {db : List Lsa} (h : asc db) {x y : Lsa} (hx : x ∈ db) (hy : y ∈ db) (e : keyA x = keyA y) : x = y := by
  induction db with
  | nil => cases hx
  | cons z zs ih =>
    simp only [asc, List.pairwise_cons] at h
    rcases List.mem_cons.1 hx with rfl | hx
    · rcases List.mem_cons.1 hy with rfl | hy
      · rfl
      · exact absurd (h.1 y hy) (by rw [e]; exact ltY_irrefl _)
    · rcases List.mem_cons.1 hy with e2 | hy
      · exact absurd (h.1 x hx) (by rw [e, e2]; exact ltY_irrefl _)
      · exact ih h.2 hx hy

/-- What has the key. -/
def hasK (k : LKey) (l : Lsa) : Bool := decide (keyA l = k)
def getD_ (db : List Lsa) (k : LKey) : Lsa × Bool := match db.find? (hasK k) with
  | some l => (l, true)
  | none => (lsa0, false)
def dropD (db : List Lsa) (k : LKey) : List Lsa := db.filter fun l => !hasK k l
/-- The place of a key. -/
def posD (db : List Lsa) (k : LKey) : Nat := posF (fun x => !decide (ltY (keyA x) k)) db
def fndD (db : List Lsa) (k : LKey) : Bool := match db[posD db k]? with
  | some x => decide (keyA x = k)
  | none => false
def putR (db : List Lsa) (l : Lsa) : List Lsa := if fndD db (keyA l) = true then db.set (posD db (keyA l)) l else insL db (posD db (keyA l)) l
def putD (db : List Lsa) (l : Lsa) : List Lsa × Int :=
  if sealE l ≠ 0 then ([], sealE l) else if fndD db (keyA l) = false ∧ 2000 ≤ db.length then ([], 8) else (putR db l, 0)
/-- The same, as the document puts it in. -/
def putW (l : Lsa) : List Lsa → List Lsa
  | [] => [l]
  | x :: xs => if ltY (keyA l) (keyA x) then l :: x :: xs else if keyA l = keyA x then l :: xs else x :: putW l xs
theorem posF_cons {α : Type} (p : α → Bool) (x : α) (xs : List α) : posF p (x :: xs) = if p x = true then 0 else posF p xs + 1 := by
  unfold posF
  rw [List.takeWhile_cons]
  cases p x <;> simp
theorem putW_R (l : Lsa) : ∀ {db : List Lsa}, asc db → putR db l = putW l db := by
  intro db
  induction db with
  | nil => intro _; rfl
  | cons x xs ih =>
    intro h
    simp only [asc, List.pairwise_cons] at h
    simp only [putW]
    unfold putR fndD posD
    rw [posF_cons]
    rcases ltY_tri (keyA l) (keyA x) with h1 | h1 | h1
    · have h2 := ltY_asymm h1
      have h3 : ¬ keyA x = keyA l := fun e => ltY_ne h1 e.symm
      simp [h1, h2, h3, insL]
    · simp [h1, ltY_irrefl]
    · have h2 := ltY_asymm h1
      have h3 : ¬ keyA l = keyA x := fun e => ltY_ne h1 e.symm
      rw [if_neg h2, if_neg h3, ← ih h.2]
      unfold putR fndD posD
      simp [h1, insL]
      split
      · split <;> rfl
      · rfl
/-- In what was put in, nothing else has changed. -/
theorem putW_mem {l : Lsa} : ∀ {db : List Lsa}, asc db → ∀ y, y ∈ putW l db ↔ y = l ∨ (y ∈ db ∧ keyA y ≠ keyA l) := by
  intro db
  induction db with
  | nil => intro _ y; simp [putW]
  | cons x xs ih =>
    intro h y
    simp only [asc, List.pairwise_cons] at h
    simp only [putW]
    split
    · rename_i h1
      have hx : ∀ z ∈ x :: xs, keyA z ≠ keyA l := by
        intro z hz
        rcases List.mem_cons.1 hz with rfl | hz
        · exact fun e => ltY_ne h1 e.symm
        · exact fun e => ltY_ne (ltY_trans h1 (h.1 z hz)) e.symm
      constructor
      · intro hy
        rcases List.mem_cons.1 hy with rfl | hy
        · exact .inl rfl
        · exact .inr ⟨hy, hx y hy⟩
      · rintro (rfl | ⟨hy, _⟩)
        · simp
        · exact List.mem_cons_of_mem _ hy
    · split
      · rename_i h1 h2
        constructor
        · intro hy
          rcases List.mem_cons.1 hy with rfl | hy
          · exact .inl rfl
          · exact .inr ⟨List.mem_cons_of_mem _ hy, by rw [h2]; exact fun e => ltY_ne (h.1 y hy) e.symm⟩
        · rintro (rfl | ⟨hy, hk⟩)
          · simp
          · rcases List.mem_cons.1 hy with rfl | hy
            · exact (hk h2.symm).elim
            · exact List.mem_cons_of_mem _ hy
      · rename_i h1 h2
        rw [List.mem_cons, ih h.2]
        constructor
        · rintro (rfl | rfl | ⟨hy, hk⟩)
          · exact .inr ⟨by simp, fun e => h2 e.symm⟩
          · exact .inl rfl
          · exact .inr ⟨List.mem_cons_of_mem _ hy, hk⟩
        · rintro (rfl | ⟨hy, hk⟩)
          · exact .inr (.inl rfl)
          · rcases List.mem_cons.1 hy with rfl | hy
            · exact .inl rfl
            · exact .inr (.inr ⟨hy, hk⟩)
theorem putW_asc {l : Lsa} : ∀ {db : List Lsa}, asc db → asc (putW l db) := by
  intro db
  induction db with
  | nil => intro _; simp [putW, asc]
  | cons x xs ih =>
    intro h
    have h0 := h
    simp only [asc, List.pairwise_cons] at h
    simp only [putW]
    split
    · rename_i h1
      simp only [asc]
      rw [List.pairwise_cons]
      refine ⟨fun z hz => ?_, h0⟩
      rcases List.mem_cons.1 hz with rfl | hz
      · exact h1
      · exact ltY_trans h1 (h.1 z hz)
    · split
      · rename_i h1 h2
        simp only [asc]
        rw [List.pairwise_cons]
        exact ⟨fun z hz => by rw [h2]; exact h.1 z hz, h.2⟩
      · rename_i h1 h2
        simp only [asc]
        rw [List.pairwise_cons]
        refine ⟨fun z hz => ?_, ih h.2⟩
        rcases (putW_mem h.2 z).1 hz with rfl | ⟨hz, _⟩
        · rcases ltY_tri (keyA z) (keyA x) with k | k | k
          · exact (h1 k).elim
          · exact (h2 k).elim
          · exact k
        · exact h.1 z hz
theorem putW_drop {l : Lsa} : ∀ {db : List Lsa}, asc db → dropD (putW l db) (keyA l) = dropD db (keyA l) := by
  intro db
  induction db with
  | nil => intro _; simp [putW, dropD, hasK]
  | cons x xs ih =>
    intro h
    simp only [asc, List.pairwise_cons] at h
    simp only [putW]
    split
    · simp [dropD, hasK]
    · split
      · rename_i h2
        simp [dropD, hasK, h2]
      · rename_i h1 h2
        have := ih h.2
        unfold dropD at this ⊢
        rw [List.filter_cons, List.filter_cons, this]
theorem putW_len {l : Lsa} : ∀ {db : List Lsa}, asc db → (putW l db).length = db.length + if fndD db (keyA l) = true then 0 else 1 := by
  intro db h
  rw [← putW_R l h]
  unfold putR
  split
  · simp
  · exact insL_len (posF_le _ _)
theorem find_mem {db : List Lsa} (h : asc db) {k : LKey} {x : Lsa} : db.find? (hasK k) = some x ↔ x ∈ db ∧ keyA x = k := by
  constructor
  · intro e
    exact ⟨List.mem_of_find?_eq_some e, by simpa [hasK] using List.find?_some e⟩
  · rintro ⟨hx, e⟩
    cases hf : db.find? (hasK k) with
    | none =>
      have := List.find?_eq_none.1 hf x hx
      simp [hasK, e] at this
    | some y =>
      have hy := List.mem_of_find?_eq_some hf
      have ky : keyA y = k := by simpa [hasK] using List.find?_some hf
      rw [asc_inj h hx hy (e.trans ky.symm)]
theorem find_none {db : List Lsa} {k : LKey} : db.find? (hasK k) = none ↔ ∀ x ∈ db, keyA x ≠ k := by
  rw [List.find?_eq_none]
  simp [hasK]
/-- Found at its place, if it is there. -/
theorem fndD_iff {db : List Lsa} (h : asc db) (k : LKey) : fndD db k = true ↔ ∃ x ∈ db, keyA x = k := by
  induction db with
  | nil => simp [fndD, posD, posF]
  | cons x xs ih =>
    simp only [asc, List.pairwise_cons] at h
    unfold fndD posD
    rw [posF_cons]
    by_cases h1 : ltY (keyA x) k
    · have := ih h.2
      unfold fndD posD at this
      simp [h1] at this ⊢
      rw [this]
      constructor
      · exact .inr
      · rintro (e | e)
        · exact (ltY_ne h1 e).elim
        · exact e
    · simp [h1]
      intro y hy e
      subst e
      exact (h1 (h.1 y hy)).elim
theorem find_fnd {db : List Lsa} (h : asc db) (k : LKey) : fndD db k = (db.find? (hasK k)).isSome := by
  rw [Bool.eq_iff_iff, fndD_iff h, List.find?_isSome]
  simp [hasK]

/-- Seconds pass. -/
def ageS (s a : Int) : Int := if 0 < s ∧ a < 3600 then (if 3600 - a ≤ s then 3600 else a + s) else a
def expS (s a : Int) : Bool := decide (0 < s ∧ a < 3600 ∧ 3600 - a ≤ s)
def advA (s : Int) (l : Lsa) : Lsa := { l with H := { l.H with Age := ageS s l.H.Age } }
def advD (db : List Lsa) (s : Int) : List Lsa × List LKey := (db.map (advA s), (db.filter fun l => expS s l.H.Age).map keyA)
theorem advA_key (s : Int) (l : Lsa) : keyA (advA s l) = keyA l := rfl
theorem ageS_add {a b x : Int} (ha : 0 ≤ a) (hb : 0 ≤ b) (hx : x ≤ 3600) : ageS b (ageS a x) = ageS (a + b) x := by
  unfold ageS
  split <;> split <;> split <;> (try split) <;> (try split) <;> omega
theorem expS_add {a b x : Int} (ha : 0 ≤ a) (hb : 0 ≤ b) (hx : x ≤ 3600) : ((if expS a x = true then 1 else 0) + if expS b (ageS a x) = true then 1 else 0 : Nat) = if expS (a + b) x = true then 1 else 0 := by
  unfold expS ageS
  simp only [decide_eq_true_eq]
  split <;> split <;> split <;> (try split) <;> (try split) <;> omega
theorem asc_adv {db : List Lsa} (h : asc db) (s : Int) : asc (db.map (advA s)) := by
  unfold asc at *
  rw [List.pairwise_map]
  exact h
theorem adv_twice {a b : Int} (ha : 0 ≤ a) (hb : 0 ≤ b) : ∀ {db : List Lsa}, (∀ x ∈ db, x.H.Age ≤ 3600) → (advD (advD db a).1 b).1 = (advD db (a + b)).1 ∧ (advD db a).2.length + (advD (advD db a).1 b).2.length = (advD db (a + b)).2.length := by
  intro db
  induction db with
  | nil => intro _; exact ⟨rfl, rfl⟩
  | cons x xs ih =>
    intro h
    obtain ⟨h1, h2⟩ := ih fun y hy => h y (List.mem_cons_of_mem _ hy)
    have e1 := ageS_add ha hb (h x (by simp))
    have e2 := expS_add ha hb (h x (by simp))
    simp only [advD, List.map_cons, List.length_map] at h1 h2 ⊢
    refine ⟨?_, ?_⟩
    · rw [h1]
      congr 1
      simp only [advA, e1]
    · simp only [List.filter_cons]
      have e3 : (advA a x).H.Age = ageS a x.H.Age := rfl
      rw [e3]
      revert e2
      cases expS a x.H.Age <;> cases expS b (ageS a x.H.Age) <;> cases expS (a + b) x.H.Age <;> simp <;> omega

/-- The first of two lists' rows that differ, if ages do not count. -/
def sameW (same : Lsa → Lsa → Bool) : List Lsa → List Lsa → Bool
  | [], [] => true
  | x :: xs, y :: ys => decide (x.H.Seq = y.H.Seq) && decide (x.H.Sum = y.H.Sum) && same x y && sameW same xs ys
  | _, _ => false

/-! What only newer instances are put into. -/
def cmpD (db : List Lsa) (h : Hdr) : Int := match db.find? (hasK (keyH h)) with
  | some x => cmpH h x.H
  | none => 1
def stepN (db : List Lsa) (x : Lsa) : List Lsa := if cmpD db x.H = 1 then putW x db else db
/-- What holds after some were seen. -/
structure SeenN (done db : List Lsa) : Prop where
  asc : asc db
  mem : ∀ x ∈ db, x ∈ done
  cov : ∀ y ∈ done, ∃ x ∈ db, keyA x = keyA y ∧ y.H.Seq ≤ x.H.Seq
theorem SeenN.nil : SeenN [] [] := ⟨by simp [Proofs.Ytmgkemffbmfmpaa.asc], by simp, by simp⟩
theorem SeenN.step {done db : List Lsa} (h : SeenN done db) {x : Lsa} (hne : ∀ y ∈ done, ¬ (keyA y = keyA x ∧ y.H.Seq = x.H.Seq)) : SeenN (done ++ [x]) (stepN db x) := by
  unfold stepN cmpD
  cases hf : db.find? (hasK (keyH x.H)) with
  | none =>
    have hn : ∀ y ∈ db, keyA y ≠ keyA x := find_none.1 hf
    simp only [if_true]
    refine ⟨putW_asc h.asc, fun y hy => ?_, fun y hy => ?_⟩
    · rcases (putW_mem h.asc y).1 hy with rfl | ⟨hy, _⟩
      · simp
      · simp [h.mem y hy]
    · rcases List.mem_append.1 hy with hy | hy
      · obtain ⟨z, hz, e1, e2⟩ := h.cov y hy
        exact ⟨z, (putW_mem h.asc z).2 (.inr ⟨hz, hn z hz⟩), e1, e2⟩
      · obtain rfl := List.mem_singleton.1 hy
        exact ⟨y, (putW_mem h.asc y).2 (.inl rfl), rfl, Int.le_refl _⟩
  | some z =>
    obtain ⟨hz, ez⟩ := (find_mem h.asc).1 hf
    have ez : keyA z = keyA x := ez
    have hs : z.H.Seq ≠ x.H.Seq := fun e => hne z (h.mem z hz) ⟨ez, e⟩
    simp only
    by_cases hc : cmpH x.H z.H = 1
    · rw [if_pos hc]
      have hlt : z.H.Seq < x.H.Seq := by
        rcases Int.lt_or_gt_of_ne hs with k | k
        · exact k
        · exact (cmpH_less _ _ k hc).elim
      refine ⟨putW_asc h.asc, fun y hy => ?_, fun y hy => ?_⟩
      · rcases (putW_mem h.asc y).1 hy with rfl | ⟨hy, _⟩
        · simp
        · simp [h.mem y hy]
      · rcases List.mem_append.1 hy with hy | hy
        · obtain ⟨u, hu, e1, e2⟩ := h.cov y hy
          by_cases e : keyA u = keyA x
          · obtain rfl := asc_inj h.asc hu hz (e.trans ez.symm)
            exact ⟨x, (putW_mem h.asc x).2 (.inl rfl), e.symm.trans e1, by omega⟩
          · exact ⟨u, (putW_mem h.asc u).2 (.inr ⟨hu, e⟩), e1, e2⟩
        · obtain rfl := List.mem_singleton.1 hy
          exact ⟨y, (putW_mem h.asc y).2 (.inl rfl), rfl, Int.le_refl _⟩
    · rw [if_neg hc]
      have hlt : x.H.Seq < z.H.Seq := by
        rcases Int.lt_or_gt_of_ne hs with k | k
        · exact (hc (cmpH_seq _ _ k)).elim
        · exact k
      refine ⟨h.asc, fun y hy => by simp [h.mem y hy], fun y hy => ?_⟩
      rcases List.mem_append.1 hy with hy | hy
      · exact h.cov y hy
      · obtain rfl := List.mem_singleton.1 hy
        exact ⟨z, hz, ez, by omega⟩
theorem nodup_len {α : Type} [DecidableEq α] : ∀ (a b : List α), a.Pairwise (· ≠ ·) → (∀ x ∈ a, x ∈ b) → a.length ≤ b.length
  | [], _, _, _ => Nat.zero_le _
  | x :: xs, b, h, k => by
    rw [List.pairwise_cons] at h
    have hx := k x (by simp)
    have := nodup_len xs (b.erase x) h.2 (fun y hy => (List.mem_erase_of_ne (h.1 y hy).symm).2 (k y (List.mem_cons_of_mem _ hy)))
    rw [List.length_erase_of_mem hx] at this
    have hp : 0 < b.length := List.length_pos_of_mem hx
    simp only [List.length_cons]
    omega
theorem SeenN.len {done db : List Lsa} (h : SeenN done db) : db.length ≤ done.length := by
  exact nodup_len db done (h.asc.imp fun {a b} k => fun e => ltY_ne k (by rw [e])) h.mem

/-! What an argument brings. -/
def okD (l : Lsa) : Prop := okA l ∧ l.Links.length * 24 ≤ 140737488355328 ∧ l.Att.length * 4 ≤ 140737488355328
theorem dec_A {ts : List CTy} {cs : List AVal} (h : Rds (csA ++ ts) cs) : ∃ (x : Lsa) (r : List AVal), cs = cellsA x ++ r ∧ okD x ∧ Rds ts r := by
  have h2 : Rds (csH ++ ([.bool, .bool, .sl true 24 csL, .sl false 4 [.int .u32], .int .i64, .bool, .int .u32, .int .i64] ++ ts)) cs := by simpa [csA] using h
  obtain ⟨hd, r, rfl, okh, k0⟩ := dec_H h2
  obtain ⟨b1, r, rfl, k1⟩ := Rds_bool k0
  obtain ⟨b2, r, rfl, k2⟩ := Rds_bool k1
  obtain ⟨ls, r, rfl, k3, z1⟩ := Rds_sl (enc := fun x : { x : Lnk // okK x } => encK x.1) k2 (fun y cs e h => by
    obtain ⟨x, hx⟩ := dec_K h
    exact ⟨x, e.trans hx⟩)
  obtain ⟨at_, r, rfl, k4, z2⟩ := Rds_sl (enc := fun x : { x : Int // inW x } => enc32 x.1) k3 (fun y cs e h => by
    obtain ⟨a, r, rfl, h3, w⟩ := Rds_int h
    obtain rfl := Rds_nil h3
    simp at e
    exact ⟨⟨a, wf_u32 w⟩, e.symm⟩)
  obtain ⟨co, r, rfl, k5, w1⟩ := Rds_int k4
  obtain ⟨se, r, rfl, k6⟩ := Rds_bool k5
  obtain ⟨fw, r, rfl, k7, w2⟩ := Rds_int k6
  obtain ⟨tg, r, rfl, k8, w3⟩ := Rds_int k7
  refine ⟨⟨hd, b1, b2, ls.map (·.1), at_.map (·.1), co, se, fw, tg⟩, r, ?_, ⟨⟨okh, fun x hx => ?_, fun x hx => ?_, wf_i64 w1, wf_u32 w2, wf_i64 w3, by simp only [reachBytes] at z1; simp; omega, by simp only [reachBytes] at z2; simp; omega⟩, by simp only [reachBytes] at z1; simp; omega, by simp only [reachBytes] at z2; simp; omega⟩, k8⟩
  · simp [csL, Function.comp_def]
  · obtain ⟨y, _, rfl⟩ := List.mem_map.1 hx
    exact y.2
  · obtain ⟨y, _, rfl⟩ := List.mem_map.1 hx
    exact y.2
/-- How advertisements lie in a row. -/
theorem eA : Enc cellsA 15 where
  pos := by omega
  len x := rfl
  dis x := rfl
  tree x := by
    simp [AVal.tree]
end Go.Proofs.Ytmgkemffbmfmpaa

namespace Go.Proofs.Ytmgkemffbmfmpaa
open Go Go.Am

set_option maxHeartbeats 1000000 in
set_option maxRecDepth 10000 in
theorem c55b (l : List Lnk) (s1 : l.length * 24 ≤ 140737488355328) : CFun Try.prog 128 [.sl 4 (l.map encK) .sh] [] (.sl 4 (l.map encK) .sh) [] := by
  refine CFun.intro (tr := []) (fz := []) (n := 8) (rs := [.tmp 2]) Try.func128 rfl (by kernel_rfl) rfl rfl mixed (by kernel_rfl) (by simp) (by simp) ?_
  have s2 : l.length ≤ 140737488355328 := by omega
  cases l with
  | nil => simp
  | cons x xs =>
    simp only [List.length_cons] at s1 s2
    simp [s1, s2]
set_option maxHeartbeats 1000000 in
set_option maxRecDepth 10000 in
theorem c56b (l : List Int) (s1 : l.length * 4 ≤ 140737488355328) : CFun Try.prog 129 [.sl 1 (l.map enc32) .sh] [] (.sl 1 (l.map enc32) .sh) [] := by
  refine CFun.intro (tr := []) (fz := []) (n := 8) (rs := [.tmp 2]) Try.func129 rfl (by kernel_rfl) rfl rfl mixed (by kernel_rfl) (by simp) (by simp) ?_
  have s2 : l.length ≤ 140737488355328 := by omega
  cases l with
  | nil => simp
  | cons x xs =>
    simp only [List.length_cons] at s1 s2
    simp [s1, s2]

/-- lsdb.clone -/
def okL (l : Lsa) : Prop := l.Links.length * 24 ≤ 140737488355328 ∧ l.Att.length * 4 ≤ 140737488355328
set_option maxHeartbeats 2000000 in
set_option maxRecDepth 10000 in
theorem f86 (l : Lsa) (ok : okL l) : CFun Try.prog 86 [encA l] [] (encA l) [] := by
  refine CFun.intro (tr := []) (fz := []) (n := 12) (rs := [.cell 2 46]) Try.func86 rfl (by kernel_rfl) rfl rfl mixed (by kernel_rfl) (by simp) (by simp) ?_
  have h1 := fun H => (c55b l.Links ok.1).up' H rfl rfl
  have h2 := fun H => (c56b l.Att ok.2).up' H rfl rfl
  simp
  refine ⟨_, _, .inl (h1 _), by simp, ?_⟩
  simp
  refine ⟨_, _, .inl (h2 _), by simp, ?_⟩
  simp
theorem encL_snd (l : Lsa) : (encL l).2 = sealE l := by
  unfold encL sealE
  split
  · rfl
  · split <;> rfl
-- lsdb.sealed
set_option maxHeartbeats 2000000 in
set_option maxRecDepth 10000 in
theorem f81 (l : Lsa) : CFun Try.prog 81 [encA l] [] (.int .i64 (sealE l)) [] := by
  refine CFun.intro (tr := []) (fz := []) (n := 11) (rs := [.tmp 2]) Try.func81 rfl (by kernel_rfl) rfl rfl mixed (by kernel_rfl) (by simp) (by simp) ?_
  have h1 := fun H => (c21 l).up' H rfl rfl
  simp
  refine ⟨_, _, .inl (h1 _), by simp, ?_⟩
  simp [encL_snd]
theorem keyY_iff (a b : LKey) : ((a.Ty == b.Ty) && ((a.ID == b.ID) && ((a.Len == b.Len) && (a.Router == b.Router)))) = decide (a = b) := by
  cases a; cases b
  rw [Bool.eq_iff_iff]
  simp
-- lsdb.searcher.matches
set_option maxHeartbeats 2000000 in
set_option maxRecDepth 10000 in
theorem f98 (k : LKey) (l : Lsa) : CFun Try.prog 98 [.agg (cellsY k), encA l] [] (.bool (hasK k l)) [] := by
  refine CFun.intro (tr := []) (fz := []) (n := 11) (rs := [.tmp 4]) Try.func98 rfl (by kernel_rfl) rfl rfl mixed (by kernel_rfl) (by simp) (by simp) ?_
  have h1 := fun H => (c25 l.H).up' H rfl rfl
  have hk : hasK k l = _ := (keyY_iff (keyH l.H) k).symm
  rw [hk]
  generalize keyH l.H = q at h1
  simp
  refine ⟨_, _, .inl (h1 _), by simp, ?_⟩
  simp
-- lsdb.order
set_option maxHeartbeats 2000000 in
set_option maxRecDepth 10000 in
theorem f83 (l : Lsa) (k : LKey) : CFun Try.prog 83 [encA l, encY k] [] (.int .i64 (cmpY (keyA l) k)) [] := by
  refine CFun.intro (tr := []) (fz := []) (n := 10) (rs := [.tmp 4]) Try.func83 rfl (by kernel_rfl) rfl rfl mixed (by kernel_rfl) (by simp) (by simp) ?_
  have h1 := fun H => (c25 l.H).up' H rfl rfl
  have h2 := fun H => (c27 (keyH l.H) k).up' H rfl rfl
  simp only [keyA]
  generalize keyH l.H = q at h1 h2
  simp
  refine ⟨_, _, .inl (h1 _), by simp, ?_⟩
  simp
  refine ⟨_, _, .inl (h2 _), by simp, ?_⟩
  simp
end Go.Proofs.Ytmgkemffbmfmpaa

namespace Go.Proofs.Ytmgkemffbmfmpaa
open Go Go.Am

/-- What make lays. -/
def zA : List AVal := [.int .i64 0, .int .u32 0, .int .i64 0, .int .u32 0, .int .i64 0, .int .i64 0, .int .i64 0, .bool false, .bool false, .sl 0 [] .full, .sl 0 [] .full, .int .i64 0, .bool false, .int .u32 0, .int .i64 0]
/-- lsdb.copied -/
theorem zA_le (m : Nat) : ∀ n, LeCells m ((List.replicate n zA).flatten) (rowC cellsA (List.replicate n lsa0)) := by
  intro n
  induction n with
  | zero => trivial
  | succ n ih =>
    rw [List.replicate_succ, List.replicate_succ, List.flatten_cons, rowC_cons]
    exact LeCells_app (by simp [zA, lsa0]) rfl ih
def cpy (l : List Lsa) (i : Nat) : List Lsa := l.take i ++ List.replicate (l.length - i) lsa0
theorem cpy_len (l : List Lsa) (i : Nat) (h : i ≤ l.length) : (cpy l i).length = l.length := by simp [cpy]; omega
theorem cpy_set {l : List Lsa} {i : Nat} {x : Lsa} (h : l[i]? = some x) : (cpy l i).set i x = cpy l (i + 1) := by
  have hi := (List.getElem?_eq_some_iff.1 h).1
  have hl : (l.take i).length = i := by simp; omega
  unfold cpy
  rw [List.set_append_right _ _ (by omega), hl, Nat.sub_self, List.take_add_one, h]
  obtain ⟨q, hq⟩ : ∃ q, l.length - i = q + 1 := ⟨l.length - i - 1, by omega⟩
  rw [hq, show l.length - (i + 1) = q by omega, List.replicate_succ]
  simp
set_option maxHeartbeats 4000000 in
set_option maxRecDepth 10000 in
theorem f84 (l : List Lsa) (n : Nat) (hn : l.length = n) (h0 : 0 < n) (hlen : n < 1034834473201) (ok : ∀ x ∈ l, okL x) : CFun Try.prog 84 [.sl 15 (l.map encA) .sh] [] (.osl 0 0 n (some n) 15) [rowC cellsA l] := by
  refine CFun.intro (tr := [100008]) (fz := []) (n := 28) (rs := [.tmp 2]) Try.func84 rfl (by kernel_rfl) rfl rfl mixed (by kernel_rfl) (by simp) (by simp) ?_
  have s0 : 136 * n ≤ 281474976710656 := by omega
  have s1 : (n : Int) ≤ 9223372036854775807 := by omega
  have hz := zA_le 1 n
  simp only [zA] at hz
  simp [hn, s0, s1, h0]
  refine LoopK.intro (tr := []) mixed (by kernel_rfl) (fun i : Nat => [(3, .osl 0 0 n (some n) 15), (9, .sl 15 (l.map encA) .sh), (10, .int .i64 n), (11, .int .i64 i)]) (fun i => [rowC cellsA (cpy l i)]) (fun i => i ≤ n) (fun i => n - i) 0 ?_ ?_ ?_
  · simp
  · simp [cpy, hn]
    exact hz
  · rintro i h1
    by_cases hi : i < n
    · obtain ⟨x, hx, hd⟩ := get_drop (l := l) (i := i) (by omega)
      have h86 := fun H => (f86 x (ok x (List.mem_of_getElem? hx))).up' H rfl rfl
      have hset := eA.setOne0 (cpy l i) i x (by rw [cpy_len l i (by omega)]; omega)
      rw [cpy_set hx] at hset
      have hfl := eA.rowLen (cpy l i)
      rw [cpy_len l i (by omega), hn] at hfl
      have hfit : i * 15 + 15 ≤ n * 15 := by omega
      have hle := eA.rowLe 1 (cpy l (i + 1))
      have w1 : IntKind.i64.wrap ((i : Int) + 1) = i + 1 := wrap_in (by omega)
      clear hd
      simp only [cellsA] at hset
      simp [hi, hx, -setR]
      refine ⟨_, _, .inl (h86 _), by simp, ?_⟩
      simp [hi, hfl, hfit, hset, w1, -setR]
      exact ⟨i + 1, by omega, by omega, by simpa using hle⟩
    · have : i = n := by omega
      subst this
      have e : cpy l i = l := by simp [cpy, hn, List.take_of_length_le (show l.length ≤ i by omega)]
      have hle := eA.rowLe 1 l
      simp [e, hle]
set_option maxHeartbeats 4000000 in
set_option maxRecDepth 10000 in
theorem f84z : CFun Try.prog 84 [.sl 15 [] .sh] [] (.sl 15 [] .full) [] := by
  refine CFun.intro (tr := []) (fz := []) (n := 28) (rs := [.tmp 2]) Try.func84 rfl (by kernel_rfl) rfl rfl mixed (by kernel_rfl) (by simp) (by simp) ?_
  simp
  refine LoopK.intro (tr := []) mixed (by kernel_rfl) (fun i : Nat => [(3, .sl 15 [] .own), (9, .sl 15 [] .sh), (10, .int .i64 0), (11, .int .i64 0)]) (fun i => []) (fun i => True) (fun i => 0) 0 ?_ ?_ ?_
  · simp
  · simp
  · rintro i h1
    simp
end Go.Proofs.Ytmgkemffbmfmpaa

namespace Go.Proofs.Ytmgkemffbmfmpaa
open Go Go.Am

-- The same cells, kept shut.
def ceA (l : Lsa) : List AVal := cellsA l
theorem eA' : Enc ceA 15 := eA

set_option maxHeartbeats 4000000 in
set_option maxRecDepth 10000 in
theorem f97_ix (l : List Lsa) (n : Nat) (hn : l.length = n) (hlen : n < 1099511627776) (p : Lsa → Bool) (f : FuncId) (fs cs : List AVal) (H : List (List AVal)) (hf : low H.length (.fn f fs cs) = true) (hH : LeBoxes H.length H H)
    (hp : ∀ x ∈ l, CFun Try.prog f (fs ++ [.agg (ceA x)] ++ cs) H (.bool (p x)) H) : CFun Try.prog 97 [.sl 15 (l.map fun x => AVal.agg (ceA x)) .sh, .fn f fs cs] H (.int .i64 (idxL p l 0)) H := by
  refine CFun.intro (tr := []) (fz := []) (n := 19) (rs := [.tmp 4]) Try.func97 rfl (by kernel_rfl) rfl rfl mixed (by kernel_rfl) (by simp) (by simp) ?_
  simp
  refine LoopK.intro (tr := []) mixed (by kernel_rfl) (fun i : Nat => [(0, .sl 15 (l.map fun x => AVal.agg (ceA x)) .sh), (1, .fn f fs cs), (7, .int .i64 n), (8, .int .i64 i)]) (fun _ => H) (fun i => i ≤ n ∧ idxL p l 0 = idxL p (l.drop i) i) (fun i => n - i) 0 ?_ ?_ ?_
  · simp
  · simp [hn, hH]
    simpa [low] using hf
  · rintro i ⟨h1, h2⟩
    by_cases hi : i < n
    · obtain ⟨x, hx, hd⟩ := get_drop (l := l) (i := i) (by omega)
      have hpx := hp x (List.mem_of_getElem? hx)
      rw [hd] at h2
      clear hd hn
      have w1 : IntKind.i64.wrap ((i : Int) + 1) = i + 1 := wrap_in (by omega)
      have hl := (eA').len x
      have ht := List.all_eq_true.1 ((eA').tree x)
      have hdis := (eA').dis x
      have htk : (List.take 15 (ceA x)) = ceA x := List.take_of_length_le (by omega)
      simp [hi, hx, hl, ht, hdis, htk]
      refine ⟨_, _, .inl (by simpa [cargs] using hpx), by simp, ?_⟩
      simp only [idxL] at h2
      by_cases hpb : p x = true
      · simp [hpb, hH, h2]
      · rw [if_neg hpb] at h2
        simp [hpb, w1, hH]
        refine ⟨i + 1, ⟨by omega, h2⟩, by omega, ?_⟩
        simp
        simpa [low] using hf
    · have : i = n := by omega
      subst this
      rw [List.drop_eq_nil_of_le (by omega)] at h2
      simp [h2, idxL, hH]

set_option maxHeartbeats 4000000 in
set_option maxRecDepth 10000 in
theorem f97_ixr (l : List Lsa) (rest : List AVal) (n : Nat) (hn : l.length = n) (hlen : n < 1099511627776) (p : Lsa → Bool) (f : FuncId) (fs cs : List AVal) (H : List (List AVal)) (id : Nat) (cap : Option Nat) (hid : H[id]? = some (rowC ceA l ++ rest))
    (hf : low H.length (.fn f fs cs) = true) (hH : LeBoxes H.length H H)
    (hp : ∀ x ∈ l, CFun Try.prog f (fs ++ [.agg (ceA x)] ++ cs) H (.bool (p x)) H) : CFun Try.prog 97 [.osl id 0 n cap 15, .fn f fs cs] H (.int .i64 (idxL p l 0)) H := by
  have hidl : id < H.length := (List.getElem?_eq_some_iff.1 hid).1
  refine CFun.intro (tr := []) (fz := []) (n := 19) (rs := [.tmp 4]) Try.func97 rfl (by kernel_rfl) rfl rfl mixed (by kernel_rfl) (by simp) (by simp) ?_
  simp
  refine LoopK.intro (tr := []) mixed (by kernel_rfl) (fun i : Nat => [(0, .osl id 0 n cap 15), (1, .fn f fs cs), (7, .int .i64 n), (8, .int .i64 i)]) (fun _ => H) (fun i => i ≤ n ∧ idxL p l 0 = idxL p (l.drop i) i) (fun i => n - i) 0 ?_ ?_ ?_
  · simp
  · simp [hH, hidl]
    simpa [low] using hf
  · rintro i ⟨h1, h2⟩
    by_cases hi : i < n
    · obtain ⟨x, hx, hd⟩ := get_drop (l := l) (i := i) (by omega)
      have hpx := hp x (List.mem_of_getElem? hx)
      have hload := (eA').load hx rest
      rw [hd] at h2
      clear hd hn
      have w1 : IntKind.i64.wrap ((i : Int) + 1) = i + 1 := wrap_in (by omega)
      simp [hi, hid, hload, -aload]
      refine ⟨_, _, .inl (by simpa [cargs] using hpx), by simp, ?_⟩
      simp only [idxL] at h2
      by_cases hpb : p x = true
      · simp [hpb, hH, h2]
      · rw [if_neg hpb] at h2
        simp [hpb, w1, hH]
        refine ⟨i + 1, ⟨by omega, h2⟩, by omega, ?_⟩
        simp [hidl]
        simpa [low] using hf
    · have : i = n := by omega
      subst this
      rw [List.drop_eq_nil_of_le (by omega)] at h2
      simp [h2, idxL, hH]


end Go.Proofs.Ytmgkemffbmfmpaa
