/- Headers in the order of their keys: what was shown of advertisements, shown of headers. -/
import Derived.Test.YtfngaildaoahpaaXS3
import Derived.Test.YtfngaildaoahpaaAmAA
set_option linter.unusedSimpArgs false
set_option linter.unusedVariables false
namespace Go.Proofs.Ytfngaildaoahpaa
open Go Go.Am

/-- Keys ascend. -/
def ascH (db : List Hdr) : Prop := db.Pairwise fun x y => ltY (keyH x) (keyH y)
def hdr0 : Hdr := ⟨0, 0, 0, 0, 0, 0, 0⟩
theorem ascH_inj {db : List Hdr} (h : ascH db) {x y : Hdr} (hx : x ∈ db) (hy : y ∈ db) (e : keyH x = keyH y) : x = y := by
  induction db with
  | nil => cases hx
  | cons z zs ih =>
    simp only [ascH, List.pairwise_cons] at h
    rcases List.mem_cons.1 hx with rfl | hx
    · rcases List.mem_cons.1 hy with rfl | hy
      · rfl
      · exact absurd (h.1 y hy) (by rw [e]; exact ltY_irrefl _)
    · rcases List.mem_cons.1 hy with e2 | hy
      · exact absurd (h.1 x hx) (by rw [e, e2]; exact ltY_irrefl _)
      · exact ih h.2 hx hy

def hasKH (k : LKey) (l : Hdr) : Bool := decide (keyH l = k)
def getH (db : List Hdr) (k : LKey) : Hdr × Bool := match db.find? (hasKH k) with
  | some l => (l, true)
  | none => (hdr0, false)
def dropH (db : List Hdr) (k : LKey) : List Hdr := db.filter fun l => !hasKH k l
/-- The place of a key. -/
def posH (db : List Hdr) (k : LKey) : Nat := posF (fun x => !decide (ltY (keyH x) k)) db
def fndH (db : List Hdr) (k : LKey) : Bool := match db[posH db k]? with
  | some x => decide (keyH x = k)
  | none => false
def putRH (db : List Hdr) (l : Hdr) : List Hdr := if fndH db (keyH l) = true then db.set (posH db (keyH l)) l else insL db (posH db (keyH l)) l
/-- The same, as the document puts it in. -/
def putH (l : Hdr) : List Hdr → List Hdr
  | [] => [l]
  | x :: xs => if ltY (keyH l) (keyH x) then l :: x :: xs else if keyH l = keyH x then l :: xs else x :: putH l xs
theorem putH_R (l : Hdr) : ∀ {db : List Hdr}, ascH db → putRH db l = putH l db := by
  intro db
  induction db with
  | nil => intro _; rfl
  | cons x xs ih =>
    intro h
    simp only [ascH, List.pairwise_cons] at h
    simp only [putH]
    unfold putRH fndH posH
    rw [posF_cons]
    rcases ltY_tri (keyH l) (keyH x) with h1 | h1 | h1
    · have h2 := ltY_asymm h1
      have h3 : ¬ keyH x = keyH l := fun e => ltY_ne h1 e.symm
      simp [h1, h2, h3, insL]
    · simp [h1, ltY_irrefl]
    · have h2 := ltY_asymm h1
      have h3 : ¬ keyH l = keyH x := fun e => ltY_ne h1 e.symm
      rw [if_neg h2, if_neg h3, ← ih h.2]
      unfold putRH fndH posH
      simp [h1, insL]
      split
      · split <;> rfl
      · rfl
/-- In what was put in, nothing else has changed. -/
theorem putH_mem {l : Hdr} : ∀ {db : List Hdr}, ascH db → ∀ y, y ∈ putH l db ↔ y = l ∨ (y ∈ db ∧ keyH y ≠ keyH l) := by
  intro db
  induction db with
  | nil => intro _ y; simp [putH]
  | cons x xs ih =>
    intro h y
    simp only [ascH, List.pairwise_cons] at h
    simp only [putH]
    split
    · rename_i h1
      have hx : ∀ z ∈ x :: xs, keyH z ≠ keyH l := by
        intro z hz
        rcases List.mem_cons.1 hz with rfl | hz
        · exact fun e => ltY_ne h1 e.symm
        · exact fun e => ltY_ne (ltY_trans h1 (h.1 z hz)) e.symm
      constructor
      · intro hy
        rcases List.mem_cons.1 hy with rfl | hy
        · exact .inl rfl
        · exact .inr ⟨hy, hx y hy⟩
      · rintro (rfl | ⟨hy, _⟩)
        · simp
        · exact List.mem_cons_of_mem _ hy
    · split
      · rename_i h1 h2
        constructor
        · intro hy
          rcases List.mem_cons.1 hy with rfl | hy
          · exact .inl rfl
          · exact .inr ⟨List.mem_cons_of_mem _ hy, by rw [h2]; exact fun e => ltY_ne (h.1 y hy) e.symm⟩
        · rintro (rfl | ⟨hy, hk⟩)
          · simp
          · rcases List.mem_cons.1 hy with rfl | hy
            · exact (hk h2.symm).elim
            · exact List.mem_cons_of_mem _ hy
      · rename_i h1 h2
        rw [List.mem_cons, ih h.2]
        constructor
        · rintro (rfl | rfl | ⟨hy, hk⟩)
          · exact .inr ⟨by simp, fun e => h2 e.symm⟩
          · exact .inl rfl
          · exact .inr ⟨List.mem_cons_of_mem _ hy, hk⟩
        · rintro (rfl | ⟨hy, hk⟩)
          · exact .inr (.inl rfl)
          · rcases List.mem_cons.1 hy with rfl | hy
            · exact .inl rfl
            · exact .inr (.inr ⟨hy, hk⟩)
theorem putH_asc {l : Hdr} : ∀ {db : List Hdr}, ascH db → ascH (putH l db) := by
  intro db
  induction db with
  | nil => intro _; simp [putH, ascH]
  | cons x xs ih =>
    intro h
    have h0 := h
    simp only [ascH, List.pairwise_cons] at h
    simp only [putH]
    split
    · rename_i h1
      simp only [ascH]
      rw [List.pairwise_cons]
      refine ⟨fun z hz => ?_, h0⟩
      rcases List.mem_cons.1 hz with rfl | hz
      · exact h1
      · exact ltY_trans h1 (h.1 z hz)
    · split
      · rename_i h1 h2
        simp only [ascH]
        rw [List.pairwise_cons]
        exact ⟨fun z hz => by rw [h2]; exact h.1 z hz, h.2⟩
      · rename_i h1 h2
        simp only [ascH]
        rw [List.pairwise_cons]
        refine ⟨fun z hz => ?_, ih h.2⟩
        rcases (putH_mem h.2 z).1 hz with rfl | ⟨hz, _⟩
        · rcases ltY_tri (keyH z) (keyH x) with k | k | k
          · exact (h1 k).elim
          · exact (h2 k).elim
          · exact k
        · exact h.1 z hz
theorem putH_drop {l : Hdr} : ∀ {db : List Hdr}, ascH db → dropH (putH l db) (keyH l) = dropH db (keyH l) := by
  intro db
  induction db with
  | nil => intro _; simp [putH, dropH, hasKH]
  | cons x xs ih =>
    intro h
    simp only [ascH, List.pairwise_cons] at h
    simp only [putH]
    split
    · simp [dropH, hasKH]
    · split
      · rename_i h2
        simp [dropH, hasKH, h2]
      · rename_i h1 h2
        have := ih h.2
        unfold dropH at this ⊢
        rw [List.filter_cons, List.filter_cons, this]
theorem putH_len {l : Hdr} : ∀ {db : List Hdr}, ascH db → (putH l db).length = db.length + if fndH db (keyH l) = true then 0 else 1 := by
  intro db h
  rw [← putH_R l h]
  unfold putRH
  split
  · simp
  · exact insL_len (posF_le _ _)
theorem findH_mem {db : List Hdr} (h : ascH db) {k : LKey} {x : Hdr} : db.find? (hasKH k) = some x ↔ x ∈ db ∧ keyH x = k := by
  constructor
  · intro e
    exact ⟨List.mem_of_find?_eq_some e, by simpa [hasKH] using List.find?_some e⟩
  · rintro ⟨hx, e⟩
    cases hf : db.find? (hasKH k) with
    | none =>
      have := List.find?_eq_none.1 hf x hx
      simp [hasKH, e] at this
    | some y =>
      have hy := List.mem_of_find?_eq_some hf
      have ky : keyH y = k := by simpa [hasKH] using List.find?_some hf
      rw [ascH_inj h hx hy (e.trans ky.symm)]
theorem findH_none {db : List Hdr} {k : LKey} : db.find? (hasKH k) = none ↔ ∀ x ∈ db, keyH x ≠ k := by
  rw [List.find?_eq_none]
  simp [hasKH]
/-- Found at its place, if it is there. -/
theorem fndH_iff {db : List Hdr} (h : ascH db) (k : LKey) : fndH db k = true ↔ ∃ x ∈ db, keyH x = k := by
  induction db with
  | nil => simp [fndH, posH, posF]
  | cons x xs ih =>
    simp only [ascH, List.pairwise_cons] at h
    unfold fndH posH
    rw [posF_cons]
    by_cases h1 : ltY (keyH x) k
    · have := ih h.2
      unfold fndH posH at this
      simp [h1] at this ⊢
      rw [this]
      constructor
      · exact .inr
      · rintro (e | e)
        · exact (ltY_ne h1 e).elim
        · exact e
    · simp [h1]
      intro y hy e
      subst e
      exact (h1 (h.1 y hy)).elim
theorem findH_fnd {db : List Hdr} (h : ascH db) (k : LKey) : fndH db k = (db.find? (hasKH k)).isSome := by
  rw [Bool.eq_iff_iff, fndH_iff h, List.find?_isSome]
  simp [hasKH]

def insWH (b : Hdr) : Bool → List Hdr → List Hdr
  | done, [] => if done = true then [] else [b]
  | done, x :: xs => (if done = false ∧ cmpY (keyH b) (keyH x) ≤ 0 then [b] else []) ++ ((if cmpY (keyH b) (keyH x) ≠ 0 then [x] else []) ++ insWH b (done || decide (cmpY (keyH b) (keyH x) ≤ 0)) xs)
theorem insWH_true (b : Hdr) : ∀ xs : List Hdr, (∀ x ∈ xs, keyH b ≠ keyH x) → insWH b true xs = xs := by
  intro xs
  induction xs with
  | nil => intro _; rfl
  | cons x xs ih =>
    intro h
    have h1 : cmpY (keyH b) (keyH x) ≠ 0 := fun e => h x (by simp) ((cmpY_zero _ _).1 e)
    simp only [insWH]
    rw [if_neg (by simp), if_pos h1, Bool.true_or, ih fun y hy => h y (List.mem_cons_of_mem _ hy)]
    rfl
theorem insWH_put (b : Hdr) : ∀ {xs : List Hdr}, ascH xs → insWH b false xs = putH b xs := by
  intro xs
  induction xs with
  | nil => intro _; rfl
  | cons x xs ih =>
    intro h
    simp only [ascH, List.pairwise_cons] at h
    simp only [insWH, putH, Bool.false_or]
    by_cases h1 : ltY (keyH b) (keyH x)
    · have h1' : cmpY (keyH b) (keyH x) < 0 := h1
      rw [if_pos h1, if_pos ⟨trivial, by omega⟩, if_pos (by omega), decide_eq_true (by omega), insWH_true]
      · rfl
      · intro y hy
        exact ltY_ne (ltY_trans h1 (h.1 y hy))
    · have h1' : ¬ cmpY (keyH b) (keyH x) < 0 := h1
      rw [if_neg h1]
      by_cases h2 : keyH b = keyH x
      · have e : cmpY (keyH b) (keyH x) = 0 := (cmpY_zero _ _).2 h2
        rw [if_pos h2, e, if_pos ⟨trivial, by omega⟩, if_neg (by omega), decide_eq_true (by omega), insWH_true]
        · rfl
        · intro y hy
          rw [h2]
          exact ltY_ne (h.1 y hy)
      · have e : cmpY (keyH b) (keyH x) ≠ 0 := fun q => h2 ((cmpY_zero _ _).1 q)
        rw [if_neg h2, if_neg (by omega), if_pos e, decide_eq_false (by omega), ih h.2]
        rfl
end Go.Proofs.Ytfngaildaoahpaa

/- The exchange of databases: rows in order, searches. -/
namespace Go.Proofs.Ytfngaildaoahpaa
open Go Go.Am

def ordH : List Hdr → Bool
  | x :: y :: l => if 0 ≤ cmpY (keyH x) (keyH y) then false else ordH (y :: l)
  | _ => true
-- routingref28.Ordered
set_option maxHeartbeats 4000000 in
set_option maxRecDepth 10000 in
theorem x19 (l : List Hdr) (n : Nat) (hn : l.length = n) (hlen : n < 8796093022208) : CFun Try.prog 19 [.sl 7 (l.map encH) .sh] [] (.bool (ordH l)) [] := by
  refine CFun.intro (tr := []) (fz := []) (n := 23) (rs := [.tmp 2]) Try.func19 rfl (by kernel_rfl) rfl rfl mixed (by kernel_rfl) (by simp) (by simp) ?_
  simp
  refine LoopK.intro (tr := []) mixed (by kernel_rfl) (fun i : Nat => [(0, .sl 7 (l.map encH) .sh), (3, .int .i64 ((i : Int) + 1))]) (fun _ => []) (fun i => i ≤ n ∧ ordH l = ordH (l.drop i)) (fun i => n - i) 0 ?_ ?_ ?_
  · simp
  · simp
  · rintro i ⟨h1, h2⟩
    by_cases hi : i + 1 < n
    · obtain ⟨x, hx, hd⟩ := get_drop (l := l) (i := i) (by omega)
      obtain ⟨y, hy, he⟩ := get_drop (l := l) (i := i + 1) (by omega)
      rw [hd, he] at h2
      simp only [ordH] at h2
      rw [← he] at h2
      have w1 : IntKind.i64.wrap ((i : Int) + 1 + 1) = (i : Int) + 1 + 1 := wrap_in (by omega)
      have w2 : IntKind.i64.wrap (i : Int) = (i : Int) := wrap_in (by omega)
      have b1 : (i : Int) + 1 < n := by omega
      have b2 : (i : Int) ≤ n := by omega
      have e1 : ((i : Int) + 1).toNat = i + 1 := by omega
      have b3 : 0 ≤ (i : Int) + 1 := by omega
      have k1 := fun H => (c26 x).up' H rfl rfl
      have k2 := fun H => (c26 y).up' H rfl rfl
      have k3 := fun H => (c28 (keyH x) (keyH y)).up' H rfl rfl
      generalize keyH x = kx at k1 k3 h2
      generalize keyH y = ky at k2 k3 h2
      clear hd he
      simp [hn, b1, b3, w2, hx, hy, gE hx, gE hy, e1]
      refine ⟨_, _, .inl (by simpa using k1 _), by simp, ?_⟩
      simp [hn, b1, b3, w2, hx, hy, gE hx, gE hy, e1]
      refine ⟨_, _, .inl (by simpa using k2 _), by simp, ?_⟩
      simp
      refine ⟨_, _, .inl (by simpa using k3 _), by simp, ?_⟩
      by_cases hc : 0 ≤ cmpY kx ky
      · rw [if_pos hc] at h2
        simp [hc, h2]
      · rw [if_neg hc] at h2
        simp [hc, w1]
        exact ⟨i + 1, ⟨by omega, h2⟩, by omega, by simp⟩
    · have b1 : ¬ (i : Int) + 1 < n := by omega
      have e : ordH (l.drop i) = true := by
        cases hq : l.drop i with
        | nil => rfl
        | cons x r =>
          cases r with
          | nil => rfl
          | cons y r =>
            have := congrArg List.length hq
            simp at this
            omega
      simp [hn, b1, h2, e]
-- routingref28.FindHeader
set_option maxHeartbeats 4000000 in
set_option maxRecDepth 10000 in
theorem x20 (l : List Hdr) (n : Nat) (hn : l.length = n) (hlen : n < 8796093022208) (k : LKey) : CFun Try.prog 20 [.sl 7 (l.map encH) .sh, encY k] [] (.int .i64 (idxL (hasKH k) l 0)) [] := by
  refine CFun.intro (tr := []) (fz := []) (n := 20) (rs := [.tmp 4]) Try.func20 rfl (by kernel_rfl) rfl rfl mixed (by kernel_rfl) (by simp) (by simp) ?_
  simp
  refine LoopK.intro (tr := []) mixed (by kernel_rfl) (fun i : Nat => [(0, .sl 7 (l.map encH) .sh), (3, .ptr 0 0), (5, .int .i64 i)]) (fun _ => [cellsY k]) (fun i => i ≤ n ∧ idxL (hasKH k) l 0 = idxL (hasKH k) (l.drop i) i) (fun i => n - i) 0 ?_ ?_ ?_
  · simp
  · simp
  · rintro i ⟨h1, h2⟩
    by_cases hi : i < n
    · obtain ⟨x, hx, hd⟩ := get_drop (l := l) (i := i) (by omega)
      rw [hd] at h2
      simp only [idxL] at h2
      have w1 : IntKind.i64.wrap ((i : Int) + 1) = i + 1 := wrap_in (by omega)
      have h := fun H => (c26 x).up' H rfl rfl
      have hk := keyY_iff (keyH x) k
      have hh : hasKH k x = decide (keyH x = k) := rfl
      rw [hh] at h2
      generalize keyH x = q at h hk h2
      clear hd hh
      simp [hi, hn, hx, gE hx]
      refine ⟨_, _, .inl (by simpa using h _), by simp, ?_⟩
      by_cases hb : q = k
      · subst hb
        simp at h2
        simp [h2]
      · rw [if_neg (by simpa using hb)] at h2
        rw [decide_eq_false hb] at hk
        simp only [Bool.and_eq_false_iff, beq_eq_false_iff_ne] at hk
        have hk2 : ¬ (q.Ty = k.Ty ∧ q.ID = k.ID ∧ q.Len = k.Len ∧ q.Router = k.Router) := by
          rintro ⟨r1, r2, r3, r4⟩
          cases q; cases k; simp_all
        simp [hk2, w1]
        exact ⟨i + 1, ⟨by omega, h2⟩, by omega, by simp⟩
    · have : i = n := by omega
      subst this
      rw [List.drop_eq_nil_of_le (by omega)] at h2
      simp [hn, h2, idxL]
/-- What stands behind a place. -/
def sansH (at_ : Nat) : Nat → List Hdr → List Hdr
  | _, [] => []
  | i, x :: l => if i = at_ then sansH at_ (i + 1) l else x :: sansH at_ (i + 1) l
theorem sansH_erase (at_ : Nat) : ∀ (l : List Hdr) (i : Nat), i ≤ at_ → sansH at_ i l = l.eraseIdx (at_ - i)
  | [], i, _ => by simp [sansH]
  | x :: l, i, h => by
    have past : ∀ (l : List Hdr) (i : Nat), at_ < i → sansH at_ i l = l := by
      intro l
      induction l with
      | nil => intro i _; rfl
      | cons y l ih =>
        intro i hi
        simp only [sansH]
        rw [if_neg (by omega), ih (i + 1) (by omega)]
    simp only [sansH]
    by_cases e : i = at_
    · subst e
      rw [if_pos rfl, past l (i + 1) (by omega)]
      simp
    · rw [if_neg e, sansH_erase at_ l (i + 1) (by omega)]
      obtain ⟨d, hd⟩ : ∃ d, at_ - i = d + 1 := ⟨at_ - i - 1, by omega⟩
      rw [hd, List.eraseIdx_cons_succ, show at_ - (i + 1) = d by omega]
-- routingref28.Without
set_option maxHeartbeats 4000000 in
set_option maxRecDepth 10000 in
theorem x89 (l : List Hdr) (n at_ : Nat) (hn : l.length = n) (hlen : n * 56 ≤ 140737488351232) : CFun Try.prog 89 [.sl 7 (l.map encH) .sh, .int .i64 at_] [] (.sl 7 ((l.eraseIdx at_).map encH) .sh) [] := by
  have e0 := sansH_erase at_ l 0 (by omega)
  simp only [Nat.sub_zero] at e0
  rw [← e0]
  refine CFun.intro (tr := [17]) (fz := []) (n := 25) (rs := [.tmp 4]) Try.func89 rfl (by kernel_rfl) rfl rfl mixed (by kernel_rfl) (by simp) (by simp) ?_
  simp
  refine LoopK.intro (tr := [17]) mixed (by kernel_rfl) (fun q : Nat × List Hdr => [(0, .sl 7 (l.map encH) .sh), (1, .int .i64 at_), (5, .sl 7 (q.2.map encH) .own), (6, .int .i64 q.1)]) (fun _ => [])
    (fun q => q.1 ≤ n ∧ q.2.length ≤ q.1 ∧ q.2 ++ sansH at_ q.1 (l.drop q.1) = sansH at_ 0 l) (fun q => n - q.1) (0, []) ?_ ?_ ?_
  · simp
  · simp
  · rintro ⟨i, o⟩ ⟨h1, h3, h2⟩
    simp only at h1 h2 h3
    by_cases hi : i < n
    · have s1 : o.length + 1 ≤ 140737488355328 := by omega
      have s2 : (o.length + 1) * 56 ≤ 140737488355328 := by omega
      obtain ⟨x, hx, hd⟩ := get_drop (l := l) (i := i) (by omega)
      rw [hd] at h2
      simp only [sansH] at h2
      have w1 : IntKind.i64.wrap ((i : Int) + 1) = i + 1 := wrap_in (by omega)
      clear hd
      by_cases e : i = at_
      · rw [if_pos e] at h2
        subst e
        simp [hi, hn, w1]
        exact ⟨i + 1, o, ⟨by omega, by omega, h2⟩, by omega, by simp⟩
      · rw [if_neg e] at h2
        have e' : ¬ (i : Int) = at_ := by omega
        simp [hi, hn, hx, gE hx, w1, e', s1, s2]
        refine ⟨i + 1, o ++ [x], ⟨by omega, by simp; omega, by simpa using h2⟩, by omega, by simp⟩
    · have : i = n := by omega
      subst this
      rw [List.drop_eq_nil_of_le (by omega)] at h2
      simp only [sansH, List.append_nil] at h2
      simp [hn, h2]
end Go.Proofs.Ytfngaildaoahpaa

/- The exchange of databases: records. -/
namespace Go.Proofs.Ytfngaildaoahpaa
open Go Go.Am

def recL (db : List Lsa) (hs : List Hdr) (l : List Hdr) : List Hdr := hs.foldl (fun l h => if cmpD db h = 1 then putH h l else l) l
def recordN (n : Nbr) (db : List Lsa) (p : Pkt) : Nbr := { n with Req := recL db p.Heads n.Req, More := p.More }
def youngD (db : List Lsa) : List Hdr := (db.map Lsa.H).filter fun h => decide (h.Age < 3600)
end Go.Proofs.Ytfngaildaoahpaa

/- Rows of headers: the library's functions. -/
namespace Go.Proofs.Ytfngaildaoahpaa
open Go Go.Am

def ceH (h : Hdr) : List AVal := cellsH h
theorem eHh : Enc ceH 7 where
  pos := by omega
  len x := rfl
  dis x := rfl
  tree x := by simp [AVal.tree, ceH]
def zH : List AVal := [.int .i64 0, .int .u32 0, .int .i64 0, .int .u32 0, .int .i64 0, .int .i64 0, .int .i64 0]

set_option maxHeartbeats 4000000 in
set_option maxRecDepth 10000 in
theorem ch_cl (l : List Hdr) (s1 : l.length * 56 ≤ 140737488355328) : CFun Try.prog 70 [.sl 7 (l.map fun x => AVal.agg (ceH x)) .sh] [] (.sl 7 (l.map fun x => AVal.agg (ceH x)) .sh) [] := by
  refine CFun.intro (tr := []) (fz := []) (n := 8) (rs := [.tmp 2]) Try.func70 rfl (by kernel_rfl) rfl rfl mixed (by kernel_rfl) (by simp) (by simp) ?_
  have s2 : l.length ≤ 140737488355328 := by omega
  cases l with
  | nil => simp
  | cons x xs =>
    simp only [List.length_cons] at s1 s2
    simp [s1, s2]
set_option maxHeartbeats 4000000 in
set_option maxRecDepth 10000 in
theorem ch_clr (l : List Hdr) (hne : l ≠ []) (s1 : l.length * 56 ≤ 140737488355328) : CFun Try.prog 70 [.sl 7 (l.map fun x => AVal.agg (ceH x)) .sh] [] (.osl 0 0 l.length none 7) [rowC ceH l] := by
  refine CFun.intro (tr := [100007]) (fz := []) (n := 8) (rs := [.tmp 2]) Try.func70 rfl (by kernel_rfl) rfl rfl mixed (by kernel_rfl) (by simp) (by simp) ?_
  have s2 : l.length ≤ 140737488355328 := by omega
  have s3 : 0 < l.length := List.length_pos_iff.2 hne
  have s4 : (l.map fun x => AVal.agg (ceH x)).isEmpty = false := by cases l <;> simp_all
  have s5 := rowC_map (ce := ceH) l
  simp [hne, s1, s2, s3, s4]
  rw [s5, (eHh).rowDis]
  exact (eHh).rowLe 1 l
set_option maxHeartbeats 4000000 in
set_option maxRecDepth 10000 in
theorem ch_cl0 : CFun Try.prog 70 [.sl 7 [] .sh] [] (.sl 7 [] .full) [] := by
  refine CFun.intro (tr := [100007]) (fz := []) (n := 8) (rs := [.tmp 2]) Try.func70 rfl (by kernel_rfl) rfl rfl mixed (by kernel_rfl) (by simp) (by simp) ?_
  simp


set_option maxHeartbeats 4000000 in
set_option maxRecDepth 10000 in
theorem ih_ix (l : List Hdr) (n : Nat) (hn : l.length = n) (hlen : n < 8796093022208) (p : Hdr → Bool) (f : FuncId) (fs cs : List AVal) (H : List (List AVal)) (hf : low H.length (.fn f fs cs) = true) (hH : LeBoxes H.length H H)
    (hp : ∀ x ∈ l, CFun Try.prog f (fs ++ [.agg (ceH x)] ++ cs) H (.bool (p x)) H) : CFun Try.prog 86 [.sl 7 (l.map fun x => AVal.agg (ceH x)) .sh, .fn f fs cs] H (.int .i64 (idxL p l 0)) H := by
  refine CFun.intro (tr := []) (fz := []) (n := 19) (rs := [.tmp 4]) Try.func86 rfl (by kernel_rfl) rfl rfl mixed (by kernel_rfl) (by simp) (by simp) ?_
  simp
  refine LoopK.intro (tr := []) mixed (by kernel_rfl) (fun i : Nat => [(0, .sl 7 (l.map fun x => AVal.agg (ceH x)) .sh), (1, .fn f fs cs), (7, .int .i64 n), (8, .int .i64 i)]) (fun _ => H) (fun i => i ≤ n ∧ idxL p l 0 = idxL p (l.drop i) i) (fun i => n - i) 0 ?_ ?_ ?_
  · simp
  · simp [hn, hH]
    simpa [low] using hf
  · rintro i ⟨h1, h2⟩
    by_cases hi : i < n
    · obtain ⟨x, hx, hd⟩ := get_drop (l := l) (i := i) (by omega)
      have hpx := hp x (List.mem_of_getElem? hx)
      rw [hd] at h2
      clear hd hn
      have w1 : IntKind.i64.wrap ((i : Int) + 1) = i + 1 := wrap_in (by omega)
      have hl := (eHh).len x
      have ht := List.all_eq_true.1 ((eHh).tree x)
      have hdis := (eHh).dis x
      have htk : (List.take 7 (ceH x)) = ceH x := List.take_of_length_le (by omega)
      simp [hi, hx, hl, ht, hdis, htk]
      refine ⟨_, _, .inl (by simpa [cargs] using hpx), by simp, ?_⟩
      simp only [idxL] at h2
      by_cases hpb : p x = true
      · simp [hpb, hH, h2]
      · rw [if_neg hpb] at h2
        simp [hpb, w1, hH]
        refine ⟨i + 1, ⟨by omega, h2⟩, by omega, ?_⟩
        simp
        simpa [low] using hf
    · have : i = n := by omega
      subst this
      rw [List.drop_eq_nil_of_le (by omega)] at h2
      simp [h2, idxL, hH]

set_option maxHeartbeats 4000000 in
set_option maxRecDepth 10000 in
theorem ih_ixr (l : List Hdr) (rest : List AVal) (n : Nat) (hn : l.length = n) (hlen : n < 8796093022208) (p : Hdr → Bool) (f : FuncId) (fs cs : List AVal) (H : List (List AVal)) (id : Nat) (cap : Option Nat) (hid : H[id]? = some (rowC ceH l ++ rest))
    (hf : low H.length (.fn f fs cs) = true) (hH : LeBoxes H.length H H)
    (hp : ∀ x ∈ l, CFun Try.prog f (fs ++ [.agg (ceH x)] ++ cs) H (.bool (p x)) H) : CFun Try.prog 86 [.osl id 0 n cap 7, .fn f fs cs] H (.int .i64 (idxL p l 0)) H := by
  have hidl : id < H.length := (List.getElem?_eq_some_iff.1 hid).1
  refine CFun.intro (tr := []) (fz := []) (n := 19) (rs := [.tmp 4]) Try.func86 rfl (by kernel_rfl) rfl rfl mixed (by kernel_rfl) (by simp) (by simp) ?_
  simp
  refine LoopK.intro (tr := []) mixed (by kernel_rfl) (fun i : Nat => [(0, .osl id 0 n cap 7), (1, .fn f fs cs), (7, .int .i64 n), (8, .int .i64 i)]) (fun _ => H) (fun i => i ≤ n ∧ idxL p l 0 = idxL p (l.drop i) i) (fun i => n - i) 0 ?_ ?_ ?_
  · simp
  · simp [hH, hidl]
    simpa [low] using hf
  · rintro i ⟨h1, h2⟩
    by_cases hi : i < n
    · obtain ⟨x, hx, hd⟩ := get_drop (l := l) (i := i) (by omega)
      have hpx := hp x (List.mem_of_getElem? hx)
      have hload := (eHh).load hx rest
      rw [hd] at h2
      clear hd hn
      have w1 : IntKind.i64.wrap ((i : Int) + 1) = i + 1 := wrap_in (by omega)
      simp [hi, hid, hload, -aload]
      refine ⟨_, _, .inl (by simpa [cargs] using hpx), by simp, ?_⟩
      simp only [idxL] at h2
      by_cases hpb : p x = true
      · simp [hpb, hH, h2]
      · rw [if_neg hpb] at h2
        simp [hpb, w1, hH]
        refine ⟨i + 1, ⟨by omega, h2⟩, by omega, ?_⟩
        simp [hidl]
        simpa [low] using hf
    · have : i = n := by omega
      subst this
      rw [List.drop_eq_nil_of_le (by omega)] at h2
      simp [h2, idxL, hH]


set_option maxHeartbeats 4000000 in
set_option maxRecDepth 10000 in
theorem dh_del (l : List Hdr) (n c : Nat) (hn : l.length = n) (hc : n ≤ c) (hlen : n < 8796093022208) (p : Hdr → Bool) (f : FuncId) (fs cs : List AVal) (hfs : fs.all noid0 = true) (hcs : cs.all noid0 = true)
    (hp : ∀ x, CFun Try.prog f (fs ++ [.agg (ceH x)] ++ cs) [] (.bool (p x)) []) : CFun Try.prog 63 [.osl 0 0 n (some c) 7, .fn f fs cs] [rowC ceH l] (.osl 0 0 (l.filter fun x => !p x).length (some c) 7) [delRow ceH 7 p l] := by
  have n01 : ∀ y : AVal, noid0 y = true → noid y = true := by
    intro y hy
    cases y <;> first | rfl | (simp [noid0] at hy)
  have hno : ∀ x : Hdr, (fs ++ [AVal.agg (ceH x)] ++ cs).all noid = true := by
    intro x
    simp only [List.all_append, Bool.and_eq_true]
    exact ⟨⟨List.all_eq_true.2 fun y hy => n01 y (List.all_eq_true.1 hfs y hy), rfl⟩, List.all_eq_true.2 fun y hy => n01 y (List.all_eq_true.1 hcs y hy)⟩
  have hlow : ∀ k, low k (.fn f fs cs) = true := fun k => noid_low (by simp [noid, hfs, hcs])
  have flatB_le := (eHh).rowLe
  refine CFun.intro (tr := []) (fz := []) (n := 42) (rs := [.tmp 4]) Try.func63 rfl (by kernel_rfl) rfl rfl mixed (by kernel_rfl) (by simp) (by simp) ?_
  simp
  have hidx := ih_ixr l [] n hn hlen p f fs cs [rowC ceH l] 0 (some c) (by simp) (hlow _) (by simp [flatB_le]) (fun x _ => (hp x).up' _ (hno x) rfl)
  refine ⟨_, _, .inl hidx, trivial, ?_⟩
  rcases idxL_spec p l 0 with ⟨e1, e2⟩ | ⟨i, e1, e2, e3⟩
  · simp [e1, delRow, e2, hn, flatB_le]
  · have w0 : IntKind.i64.wrap ((i : Int) + 1) = i + 1 := wrap_in (by omega)
    have hne : ¬ ((i : Int) = -1) := by omega
    simp [e1, w0, hne]
    refine LoopK.intro (tr := []) mixed (by kernel_rfl) (fun q : Nat × Nat × List Hdr => [(0, .osl 0 0 n (some c) 7), (1, .fn f fs cs), (5, .int .i64 q.1), (6, .int .i64 q.2.1)]) (fun q => [rowC ceH q.2.2])
      (fun q => q.1 < q.2.1 ∧ q.2.1 ≤ n ∧ q.2.2.length = n ∧ q.2.2.take q.1 = (l.take q.2.1).filter (fun x => !p x) ∧ q.2.2.drop q.2.1 = l.drop q.2.1) (fun q => n - q.2.1) (i, i + 1, l) ?_ ?_ ?_
    · exact ⟨by simp, by simp; omega, hn, e3.symm, rfl⟩
    · simp [flatB_le]
      simpa [low] using hlow 1
    · rintro ⟨a, b, cur⟩ ⟨h1, h2, h3, h4, h5⟩
      simp only at h1 h2 h3 h4 h5
      have hal : a < cur.length := by omega
      by_cases hb : b < n
      · obtain ⟨x, hx, hd⟩ := get_drop (l := l) (i := b) (by omega)
        obtain ⟨y, hy, he⟩ := get_drop (l := cur) (i := b) (by omega)
        rw [hd, he, List.cons.injEq] at h5
        obtain ⟨rfl, h5⟩ := h5
        have hload := (eHh).load0 hy
        have hcall := (hp y).up' [rowC ceH cur, ceH y] (hno y) rfl
        have hset := (eHh).setOne0 cur a y hal
        have w1 : IntKind.i64.wrap ((b : Int) + 1) = b + 1 := wrap_in (by omega)
        have w2 : IntKind.i64.wrap ((a : Int) + 1) = a + 1 := wrap_in (by omega)
        have htk : (l.take (b + 1)).filter (fun x => !p x) = (l.take b).filter (fun x => !p x) ++ [y].filter (fun x => !p x) := by
          rw [List.take_add_one, hx]; simp
        have hlen2 := (eHh).rowLen cur
        have hl := (eHh).len y
        have ht := List.all_eq_true.1 ((eHh).tree y)
        have hdis := (eHh).dis y
        have hyk : (List.take 7 (ceH y)) = ceH y := List.take_of_length_le (by omega)
        have hle := treeCells_le 1 ((eHh).tree y)
        have hs0 : setR zH 0 (ceH y) = ceH y := rfl
        simp only [zH] at hs0
        have hl1 := (eHh).load0 (l := [y]) (i := 0) rfl
        rw [rowC_one, Nat.zero_mul] at hl1
        clear hn hd he
        by_cases hpx : p y = true
        · simp [hb, hload, hl, ht, hdis, hyk, hs0, hl1, -aload, -setR]
          refine ⟨_, _, .inl (by simpa [cargs, hdis, hyk] using hcall), by simp, ?_⟩
          simp [hpx, w1]
          refine ⟨a, b + 1, cur, ⟨by omega, by omega, h3, by rw [htk]; simp [hpx, h4], h5⟩, by omega, ?_⟩
          simp [flatB_le]
          simpa [low] using hlow 1
        · have hfit : a * 7 + 7 ≤ (rowC ceH cur).length := by omega
          simp [hb, hload, hl, ht, hdis, hyk, hs0, hl1, -aload, -setR]
          refine ⟨_, _, .inl (by simpa [cargs, hdis, hyk] using hcall), by simp, ?_⟩
          have han : a < n := by omega
          have hset' : (cur.set a y).take (a + 1) = (l.take (b + 1)).filter (fun x => !p x) := by
            rw [htk, ← h4, List.take_add_one, List.take_set_of_le (by omega)]
            simp [hal, hpx]
          simp [hpx, han, hfit, hset, hl, hl1, hdis, hyk, w1, w2, -setR, -aload]
          refine ⟨a + 1, b + 1, cur.set a y, ⟨by omega, by omega, by simpa using h3, hset', ?_⟩, by omega, ?_⟩
          · rw [List.drop_set_of_lt (by omega)]; exact h5
          · simp [flatB_le]
            simpa [low] using hlow 1
      · have hbn : b = n := by omega
        subst hbn
        have hlb : l.take b = l := List.take_of_length_le (by omega)
        rw [hlb] at h4
        have hl : (l.filter fun x => !p x).length = a := by
          rw [← h4]; simp; omega
        have hrow := (eHh).strike cur a (by omega) ((b - a) * 7) (by rw [h3]) (List.replicate ((b - a) * 7) .undef) (by simp)
        have hfl := (eHh).rowLen cur
        have hab : ¬ b - a = 0 := by omega
        have hfit : a * 7 + (b - a) * 7 ≤ (rowC ceH cur).length := by omega
        have z1 : a ≤ b := by omega
        have z2 : a ≤ c := by omega
        simp [z1, z2, hab, hfit, hrow, -setR]
        exact ⟨hl.symm, by rw [delRow, hl, hn, h4]; exact (eHh).roomLe _ _ _⟩
set_option maxHeartbeats 4000000 in
set_option maxRecDepth 10000 in
theorem dh_del0 (f : FuncId) (fs cs : List AVal) (hfs : fs.all noid0 = true) (hcs : cs.all noid0 = true)
    (p : Hdr → Bool) (hp : ∀ x, CFun Try.prog f (fs ++ [.agg (ceH x)] ++ cs) [] (.bool (p x)) []) : CFun Try.prog 63 [.sl 7 [] .full, .fn f fs cs] [] (.sl 7 [] .full) [] := by
  refine CFun.intro (tr := []) (fz := []) (n := 42) (rs := [.tmp 4]) Try.func63 rfl (by kernel_rfl) rfl rfl mixed (by kernel_rfl) (by simp) (by simp) ?_
  have hlow : low 0 (.fn f fs cs) = true := noid_low (by simp [noid, hfs, hcs])
  have h := ih_ix [] 0 rfl (by omega) p f fs cs [] hlow (by simp) (fun x hx => by cases hx)
  simp
  refine ⟨_, _, .inl (h.wk [.sl 7 [] .full, .fn f fs cs] (by simp) (by simp)), trivial, ?_⟩
  simp [idxL]

end Go.Proofs.Ytfngaildaoahpaa

/- The exchange of databases: what is pending, what is requested, what is sent again. -/
namespace Go.Proofs.Ytfngaildaoahpaa
open Go Go.Am

theorem ch_row (l : List Hdr) (s1 : l.length * 56 ≤ 140737488355328) : CFun Try.prog 70 [.sl 7 (l.map encH) .sh] [] (.sl 7 (l.map encH) .sh) [] := ch_cl l s1
-- exchange.waits
set_option maxHeartbeats 1000000 in
set_option maxRecDepth 10000 in
theorem x59 (n : Nbr) : CFun Try.prog 59 [encN n] [] (.bool (waitsN n)) [] := by
  refine CFun.intro (tr := []) (fz := []) (n := 20) (rs := [.tmp 2]) Try.func59 rfl (by kernel_rfl) rfl rfl mixed (by kernel_rfl) (by simp) (by simp) ?_
  unfold waitsN
  by_cases h3 : n.State = 3
  · simp [h3]
  by_cases h4 : n.State = 4
  · cases hm : n.Master <;> simp [h4, hm]
  by_cases h5 : n.State = 5
  · simp [h5]
  simp [h3, h4, h5]
-- routingref28.Waits
set_option maxHeartbeats 1000000 in
set_option maxRecDepth 10000 in
theorem x61 (n : Nbr) : CFun Try.prog 61 [encN n] [] (.bool (waitsN n)) [] := by
  refine CFun.intro (tr := []) (fz := []) (n := 20) (rs := [.tmp 2]) Try.func61 rfl (by kernel_rfl) rfl rfl mixed (by kernel_rfl) (by simp) (by simp) ?_
  unfold waitsN
  by_cases h3 : n.State = 3
  · simp [h3]
  by_cases h4 : n.State = 4
  · cases hm : n.Master <;> simp [h4, hm]
  by_cases h5 : n.State = 5
  · simp [h5]
  simp [h3, h4, h5]
-- exchange.pending
set_option maxHeartbeats 2000000 in
set_option maxRecDepth 10000 in
theorem x35 (n : Nbr) (hs : n.Sent.length * 56 ≤ 140737488351232) (self : Int) : CFun Try.prog 35 [encN n, .int .u32 self] [] (encPk (pendN n self)) [] := by
  refine CFun.intro (tr := [900001000017, 900002000017, 3500017]) (fz := []) (n := 30) (rs := [.cell 4 34]) Try.func35 rfl (by kernel_rfl) rfl rfl mixed (by kernel_rfl) (by simp) (by simp) ?_
  have h1 := ch_row n.Sent (by omega)
  unfold pendN
  by_cases h3 : n.State = 3
  · simp [h3, pkt0, hel0]
  simp [h3]
  refine ⟨_, h1, by simp [noid, noid0], ?_⟩
  simp [pkt0, hel0]
-- routingref28.Pending
set_option maxHeartbeats 2000000 in
set_option maxRecDepth 10000 in
theorem x37 (n : Nbr) (hs : n.Sent.length * 56 ≤ 140737488351232) (self : Int) : CFun Try.prog 37 [encN n, .int .u32 self] [] (encPk (pendN n self)) [] := by
  refine CFun.intro (tr := []) (fz := []) (n := 30) (rs := [.cell 4 34]) Try.func37 rfl (by kernel_rfl) rfl rfl mixed (by kernel_rfl) (by simp) (by simp) ?_
  have s1 : n.Sent.length * 56 ≤ 140737488355328 := by omega
  have s2 : n.Sent.length ≤ 140737488355328 := by omega
  unfold pendN
  by_cases h3 : n.State = 3
  · simp [h3, pkt0, hel0]
  simp [h3, s1, s2, pkt0, hel0]
-- exchange.clone, as data
set_option maxHeartbeats 2000000 in
set_option maxRecDepth 10000 in
theorem x43 (n : Nbr) (h1 : n.Lst.length * 56 ≤ 140737488351232) (h2 : n.Sent.length * 56 ≤ 140737488351232) (h3 : n.Req.length * 56 ≤ 140737488351232) (h4 : n.Una.length * 56 ≤ 140737488351232) : CFun Try.prog 43 [encN n] [] (encN n) [] := by
  refine CFun.intro (tr := []) (fz := []) (n := 20) (rs := [.cell 2 26]) Try.func43 rfl (by kernel_rfl) rfl rfl mixed (by kernel_rfl) (by simp) (by simp) ?_
  have k1 := fun H => (ch_row n.Lst (by omega)).up' H rfl rfl
  have k2 := fun H => (ch_row n.Sent (by omega)).up' H rfl rfl
  have k3 := fun H => (ch_row n.Req (by omega)).up' H rfl rfl
  have k4 := fun H => (ch_row n.Una (by omega)).up' H rfl rfl
  simp
  refine ⟨_, _, .inl (k1 _), by simp, ?_⟩
  simp
  refine ⟨_, _, .inl (k2 _), by simp, ?_⟩
  simp
  refine ⟨_, _, .inl (k3 _), by simp, ?_⟩
  simp
  refine ⟨_, _, .inl (k4 _), by simp, ?_⟩
  simp
end Go.Proofs.Ytfngaildaoahpaa

/- The exchange of databases: rows of packets; what a statement asks of a neighbor. -/
namespace Go.Proofs.Ytfngaildaoahpaa
open Go Go.Am

-- routingref28.SamePackets of the same
set_option maxHeartbeats 4000000 in
set_option maxRecDepth 10000 in
theorem x18 (l : List Pkt) (n : Nat) (hn : l.length = n) (hlen : n < 1099511627776) (ok : ∀ p ∈ l, okS p ∧ sameP p p = true) : CFun Try.prog 18 [.sl 18 (l.map encPk) .sh, .sl 18 (l.map encPk) .sh] [] (.bool true) [] := by
  refine CFun.intro (tr := []) (fz := []) (n := 27) (rs := [.tmp 4]) Try.func18 rfl (by kernel_rfl) rfl rfl mixed (by kernel_rfl) (by simp) (by simp) ?_
  simp [hn]
  refine LoopK.intro (tr := []) mixed (by kernel_rfl) (fun i : Nat => [(0, .sl 18 (l.map encPk) .sh), (1, .sl 18 (l.map encPk) .sh), (5, .int .i64 i)]) (fun _ => []) (fun i => i ≤ n) (fun i => n - i) 0 ?_ ?_ ?_
  · simp
  · simp
  · rintro i h1
    by_cases hi : i < n
    · obtain ⟨x, hx, hd⟩ := get_drop (l := l) (i := i) (by omega)
      have w1 : IntKind.i64.wrap ((i : Int) + 1) = i + 1 := wrap_in (by omega)
      obtain ⟨o1, o2⟩ := ok x (List.mem_of_getElem? hx)
      have h := fun H => (f23 x x o1).up' H rfl rfl
      rw [o2] at h
      clear hd
      simp [hi, hn, hx, gE hx]
      refine ⟨_, _, .inl (by simpa using h _), by simp, ?_⟩
      simp [w1]
      exact ⟨i + 1, by omega, by omega, by simp⟩
    · simp [hi, hn]
/-- What the statements ask of a neighbor and a time. -/
def fineN (n : Nbr) (now : Int) : Bool := decide (0 ≤ now) && (decide (now ≤ 1099511627776) && (decide (0 ≤ n.Seq) && (decide (n.Seq < 1099511627776) && (ordH n.Req && ordH n.Una))))
-- routinglaw28.fine
set_option maxHeartbeats 4000000 in
set_option maxRecDepth 10000 in
theorem x14 (n : Nbr) (now : Int) (h3 : n.Req.length < 8796093022208) (h4 : n.Una.length < 8796093022208) : CFun Try.prog 14 [encN n, .int .i64 now] [] (.bool (fineN n now)) [] := by
  refine CFun.intro (tr := []) (fz := []) (n := 31) (rs := [.tmp 4]) Try.func14 rfl (by kernel_rfl) rfl rfl mixed (by kernel_rfl) (by simp) (by simp) ?_
  have k1 := fun H => (x19 n.Req _ rfl h3).up' H rfl rfl
  have k2 := fun H => (x19 n.Una _ rfl h4).up' H rfl rfl
  unfold fineN
  generalize ordH n.Req = o1 at *
  generalize ordH n.Una = o2 at *
  by_cases a1 : 0 ≤ now
  case neg => simp [a1]
  by_cases a2 : now ≤ 1099511627776
  case neg => simp [a1, a2]
  by_cases a3 : 0 ≤ n.Seq
  case neg => simp [a1, a2, a3]
  by_cases a4 : n.Seq < 1099511627776
  case neg => simp [a1, a2, a3, a4]
  simp [a1, a2, a3, a4]
  refine ⟨_, _, .inl (k1 _), by simp, ?_⟩
  cases o1
  · simp
  · simp
    refine ⟨_, _, .inl (k2 _), by simp, ?_⟩
    simp
/-- Less. -/
def lessR (n : Nbr) (at_ : Nat) : Nbr := if n.State = 5 ∧ n.Req.eraseIdx at_ = [] then { n with Req := n.Req.eraseIdx at_, State := 6, Rsd := if n.Una = [] then 0 else n.Rsd } else { n with Req := n.Req.eraseIdx at_ }
-- routingref28.Less
set_option maxHeartbeats 4000000 in
set_option maxRecDepth 10000 in
theorem x67 (n : Nbr) (at_ : Nat) (h3 : n.Req.length * 56 ≤ 140737488351232) : CFun Try.prog 67 [encN n, .int .i64 at_] [] (encN (lessR n at_)) [] := by
  refine CFun.intro (tr := []) (fz := []) (n := 26) (rs := [.cell 4 26]) Try.func67 rfl (by kernel_rfl) rfl rfl mixed (by kernel_rfl) (by simp) (by simp) ?_
  have k1 := fun H => (x89 n.Req _ at_ rfl h3).up' H rfl rfl
  unfold lessR
  generalize n.Req.eraseIdx at_ = r at *
  simp
  refine ⟨_, _, .inl (k1 _), by simp, ?_⟩
  by_cases a1 : n.State = 5
  case neg => simp [a1]
  by_cases a2 : r = []
  case neg =>
    simp [a1, a2]
  subst a2
  by_cases a3 : n.Una = []
  · simp [a1, a3]
  · simp [a1, a3]
end Go.Proofs.Ytfngaildaoahpaa
