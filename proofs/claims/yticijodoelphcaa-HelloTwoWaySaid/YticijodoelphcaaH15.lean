import Derived.Test.YticijodoelphcaaH1
set_option linter.unusedSimpArgs false
set_option linter.unusedVariables false
namespace Go.Proofs.Yticijodoelphcaa
open Go Go.Am

/-! What layer 26 means, in plain words. -/
def insW (n : Nbr) : List Nbr → List Nbr
  | [] => [n]
  | x :: xs => if n.Router < x.Router then n :: x :: xs else if n.Router = x.Router then n :: xs else x :: insW n xs
theorem posF_c {α : Type} (p : α → Bool) (x : α) (xs : List α) : posF p (x :: xs) = if p x = true then 0 else posF p xs + 1 := by
  unfold posF
  rw [List.takeWhile_cons]
  cases p x <;> simp
theorem withL_W (n : Nbr) : ∀ {l : List Nbr}, ascN l → withL l n = insW n l := by
  intro l
  induction l with
  | nil => intro _; rfl
  | cons x xs ih =>
    intro h
    simp only [ascN, List.pairwise_cons] at h
    simp only [insW]
    unfold withL
    rw [posF_c, posF_c, List.any_cons]
    by_cases h1 : n.Router < x.Router
    · have h2 : xs.any (isN n.Router) = false := by
        rw [List.any_eq_false]
        intro y hy
        have := h.1 y hy
        simp only [isN, decide_eq_true_eq]
        omega
      have h3 : ¬ x.Router = n.Router := by omega
      rw [if_pos h1, h2]
      simp [isN, gtN, h1, h3, insL]
    · by_cases h2 : n.Router = x.Router
      · simp [h2, isN]
      · have h3 : ¬ x.Router = n.Router := by omega
        rw [if_neg h1, if_neg h2, ← ih h.2]
        unfold withL
        cases hA : xs.any (isN n.Router) <;> simp [isN, gtN, h1, h3, hA, insL]
theorem insW_mem {n : Nbr} : ∀ {l : List Nbr}, ascN l → ∀ y, y ∈ insW n l ↔ y = n ∨ (y ∈ l ∧ y.Router ≠ n.Router) := by
  intro l
  induction l with
  | nil => intro _ y; simp [insW]
  | cons x xs ih =>
    intro h y
    simp only [ascN, List.pairwise_cons] at h
    simp only [insW]
    split
    · rename_i h1
      simp only [List.mem_cons]
      constructor
      · rintro (rfl | rfl | hy)
        · exact .inl rfl
        · exact .inr ⟨.inl rfl, by omega⟩
        · have := h.1 y hy
          exact .inr ⟨.inr hy, by omega⟩
      · rintro (rfl | ⟨rfl | hy, _⟩)
        · exact .inl rfl
        · exact .inr (.inl rfl)
        · exact .inr (.inr hy)
    · split
      · rename_i h1 h2
        simp only [List.mem_cons]
        constructor
        · rintro (rfl | hy)
          · exact .inl rfl
          · have := h.1 y hy
            exact .inr ⟨.inr hy, by omega⟩
        · rintro (rfl | ⟨rfl | hy, hn⟩)
          · exact .inl rfl
          · exact (hn h2.symm).elim
          · exact .inr hy
      · rename_i h1 h2
        rw [List.mem_cons, ih h.2, List.mem_cons]
        constructor
        · rintro (rfl | rfl | ⟨hy, hn⟩)
          · exact .inr ⟨.inl rfl, fun e => h2 e.symm⟩
          · exact .inl rfl
          · exact .inr ⟨.inr hy, hn⟩
        · rintro (rfl | ⟨rfl | hy, hn⟩)
          · exact .inr (.inl rfl)
          · exact .inl rfl
          · exact .inr (.inr ⟨hy, hn⟩)
theorem insW_asc {n : Nbr} : ∀ {l : List Nbr}, ascN l → ascN (insW n l) := by
  intro l
  induction l with
  | nil => intro _; simp [insW, ascN]
  | cons x xs ih =>
    intro h
    have h0 := h
    simp only [ascN, List.pairwise_cons] at h
    simp only [insW]
    split
    · rename_i h1
      simp only [ascN]
      rw [List.pairwise_cons]
      refine ⟨fun z hz => ?_, h0⟩
      rcases List.mem_cons.1 hz with rfl | hz
      · exact h1
      · have := h.1 z hz; omega
    · split
      · rename_i h1 h2
        simp only [ascN]
        rw [List.pairwise_cons]
        exact ⟨fun z hz => by have := h.1 z hz; omega, h.2⟩
      · rename_i h1 h2
        simp only [ascN]
        rw [List.pairwise_cons]
        refine ⟨fun z hz => ?_, ih h.2⟩
        rcases (insW_mem h.2 z).1 hz with rfl | ⟨hz, _⟩
        · omega
        · exact h.1 z hz
theorem insW_twice {n m : Nbr} (e : m.Router = n.Router) : ∀ {l : List Nbr}, insW m (insW n l) = insW m l := by
  intro l
  induction l with
  | nil => simp [insW, e]
  | cons x xs ih =>
    simp only [insW]
    by_cases h1 : n.Router < x.Router
    · have h1' : m.Router < x.Router := by omega
      simp [h1, h1', insW, e]
    · by_cases h2 : n.Router = x.Router
      · simp [h2, insW, e]
      · have h1' : ¬ m.Router < x.Router := by omega
        have h2' : ¬ m.Router = x.Router := by omega
        simp [h1, h2, h1', h2', insW, ih]
theorem asc_inj {l : List Nbr} (h : ascN l) {x y : Nbr} (hx : x ∈ l) (hy : y ∈ l) (e : x.Router = y.Router) : x = y := by
  induction l with
  | nil => cases hx
  | cons z zs ih =>
    simp only [ascN, List.pairwise_cons] at h
    rcases List.mem_cons.1 hx with ex | hx'
    · rcases List.mem_cons.1 hy with ey | hy'
      · rw [ex, ey]
      · have := h.1 y hy'; rw [ex] at e; omega
    · rcases List.mem_cons.1 hy with ey | hy'
      · have := h.1 x hx'; rw [ey] at e; omega
      · exact ih h.2 hx' hy'
theorem find_in {l : List Nbr} (h : ascN l) {x : Nbr} (hx : x ∈ l) : findI l x.Router = (x, true) := by
  unfold findI
  cases hf : l.find? (isN x.Router) with
  | none =>
    have := List.find?_eq_none.1 hf x hx
    simp [isN] at this
  | some y =>
    have hy := List.mem_of_find?_eq_some hf
    have hk : y.Router = x.Router := by simpa [isN] using List.find?_some hf
    rw [asc_inj h hx hy hk.symm]
theorem find_out {l : List Nbr} {r : Int} (h : ∀ x ∈ l, x.Router ≠ r) : findI l r = (nbr0, false) := by
  unfold findI
  have : l.find? (isN r) = none := List.find?_eq_none.2 fun x hx => by simpa [isN] using h x hx
  rw [this]
theorem find_or (l : List Nbr) (r : Int) : (l.any (isN r) = true ∧ (findI l r).1 ∈ l ∧ (findI l r).1.Router = r ∧ (findI l r).2 = true) ∨ (l.any (isN r) = false ∧ findI l r = (nbr0, false)) := by
  unfold findI
  cases hf : l.find? (isN r) with
  | none =>
    right
    refine ⟨?_, rfl⟩
    rw [List.any_eq_false]
    exact List.find?_eq_none.1 hf
  | some y =>
    left
    have hy := List.mem_of_find?_eq_some hf
    have hk := List.find?_some hf
    exact ⟨List.any_eq_true.2 ⟨y, hy, hk⟩, hy, by simpa [isN] using hk, rfl⟩
def finN (m : Nbr) (b : Bool) : Nbr := if b = true then (if m.State = 1 then { m with State := 2 } else m) else { plainN m with State := 1 }
def oldN (s : Ifs) (p : Pkt) : Nbr := if s.N.any (isN p.Router) = true then (findI s.N p.Router).1 else { nbr0 with Router := p.Router, State := 1 }
def updN (s : Ifs) (p : Pkt) (now : Int) (n : Nbr) : Nbr := { n with Addr := p.Addr, Pri := p.E.Pri, DR := p.E.DR, BDR := p.E.BDR, Til := now + s.C.Dead }
theorem heard_eq (s : Ifs) (r : Int) (p : Pkt) (now : Int) : heard s r p now = finN (updN s p now (oldN s p)) (memL p.E.Seen r) := rfl
theorem finN_keeps (m : Nbr) (b : Bool) : (finN m b).Router = m.Router ∧ (finN m b).Addr = m.Addr ∧ (finN m b).Pri = m.Pri ∧ (finN m b).DR = m.DR ∧ (finN m b).BDR = m.BDR ∧ (finN m b).Til = m.Til := by
  unfold finN
  cases b
  · exact ⟨rfl, rfl, rfl, rfl, rfl, rfl⟩
  · by_cases h : m.State = 1 <;> simp [h]
theorem finN_idem (m : Nbr) (b : Bool) : finN (finN m b) b = finN m b := by
  cases b
  · rfl
  · by_cases h : m.State = 1 <;> simp [finN, h]
theorem old_router (s : Ifs) (p : Pkt) : (oldN s p).Router = p.Router := by
  unfold oldN
  rcases find_or s.N p.Router with ⟨h1, _, h3, _⟩ | ⟨h1, _⟩
  · rw [if_pos h1]; exact h3
  · rw [h1]; rfl
theorem heard_router (s : Ifs) (r : Int) (p : Pkt) (now : Int) : (heard s r p now).Router = p.Router := by
  rw [heard_eq, (finN_keeps _ _).1]
  exact old_router s p
theorem heard_til (s : Ifs) (r : Int) (p : Pkt) (now : Int) : (heard s r p now).Til = now + s.C.Dead := by
  rw [heard_eq, (finN_keeps _ _).2.2.2.2.2]
  rfl
/-- What a hello leaves. -/
theorem recv_ok {s : Ifs} (ha : ascN s.N) {r : Int} {p : Pkt} {now : Int} (h : (recvI s r p now).2 = 0) : refI s r p = 0 ∧ (recvI s r p now).1 = { s with N := insW (heard s r p now) s.N } := by
  unfold recvI at h ⊢
  by_cases e : refI s r p = 0
  · rw [if_neg (by simp [e])]
    exact ⟨e, by simp only [withI, withL_W _ ha]⟩
  · rw [if_pos e] at h
    exact (e h).elim
theorem any_ins {l : List Nbr} (ha : ascN l) (n : Nbr) (q : Nbr → Bool) (hq : ∀ x y : Nbr, x.Router = y.Router → q x = q y) (h : l.any q = false) (hn : q n = false) : (insW n l).any q = false := by
  rw [List.any_eq_false] at h ⊢
  intro x hx
  rcases (insW_mem ha x).1 hx with rfl | ⟨hx, _⟩
  · simp [hn]
  · exact h x hx
theorem heard_again {s : Ifs} (ha : ascN s.N) (r : Int) (p : Pkt) (now : Int) : heard { s with N := insW (heard s r p now) s.N } r p now = heard s r p now := by
  have hr := heard_router s r p now
  have hin : heard s r p now ∈ insW (heard s r p now) s.N := (insW_mem ha _).2 (.inl rfl)
  have hf := find_in (insW_asc (n := heard s r p now) ha) hin
  rw [hr] at hf
  have hA : (insW (heard s r p now) s.N).any (isN p.Router) = true := List.any_eq_true.2 ⟨_, hin, by simp [isN, hr]⟩
  have e1 : oldN { s with N := insW (heard s r p now) s.N } p = heard s r p now := by
    unfold oldN
    simp only [hA, if_true, hf]
  have e2 : updN { s with N := insW (heard s r p now) s.N } p now (heard s r p now) = heard s r p now := by
    have k := finN_keeps (updN s p now (oldN s p)) (memL p.E.Seen r)
    rw [← heard_eq] at k
    obtain ⟨_, x1, x2, x3, x4, x5⟩ := k
    generalize heard s r p now = h at x1 x2 x3 x4 x5
    cases h
    simp only [updN] at x1 x2 x3 x4 x5 ⊢
    simp [x1, x2, x3, x4, x5]
  rw [heard_eq, e1, e2]
  conv => lhs; rw [heard_eq]
  rw [finN_idem, ← heard_eq]
theorem recv_again {s : Ifs} (ha : ascN s.N) {r : Int} {p : Pkt} {now : Int} (h : (recvI s r p now).2 = 0) : recvI (recvI s r p now).1 r p now = ((recvI s r p now).1, 0) := by
  obtain ⟨h0, h1⟩ := recv_ok ha h
  rw [h1]
  have hr := heard_router s r p now
  have hin : heard s r p now ∈ insW (heard s r p now) s.N := (insW_mem ha _).2 (.inl rfl)
  have hA : (insW (heard s r p now) s.N).any (isN p.Router) = true := List.any_eq_true.2 ⟨_, hin, by simp [isN, hr]⟩
  have hR : refI { s with N := insW (heard s r p now) s.N } r p = 0 := by
    unfold refI at h0 ⊢
    simp only [hA]
    split at h0
    · cases h0
    rename_i k1
    rw [if_neg k1]
    split at h0
    · cases h0
    rename_i k2
    rw [if_neg k2]
    split at h0
    · cases h0
    rename_i k3
    rw [if_neg k3]
    split at h0
    · cases h0
    rename_i k4
    rw [if_neg k4]
    split at h0
    · cases h0
    rename_i k5
    rw [if_neg]
    · simp
    · rintro ⟨q1, q2⟩
      have : (s.N.any fun n => !isN p.Router n) = false := by
        cases hB : s.N.any fun n => !isN p.Router n
        · rfl
        · exact (k5 ⟨q1, hB⟩).elim
      rw [any_ins ha _ _ (fun x y e => by simp [isN, e]) this (by simp [isN, hr])] at q2
      cases q2
  unfold recvI
  rw [if_neg (by simp [hR]), heard_again ha]
  simp only [withI, withL_W _ (insW_asc (n := heard s r p now) ha), insW_twice rfl]
theorem recv_good {s : Ifs} (h0 : goodI s) {r : Int} {p : Pkt} {now : Int} (h : (recvI s r p now).2 = 0) : goodI (recvI s r p now).1 := by
  obtain ⟨_, h1⟩ := recv_ok h0.2 h
  rw [h1]
  exact ⟨h0.1, insW_asc h0.2⟩
theorem recv_find {s : Ifs} (ha : ascN s.N) {r : Int} {p : Pkt} {now : Int} (h : (recvI s r p now).2 = 0) {x : Nbr} (hx : x ∈ s.N) : (findI (recvI s r p now).1.N x.Router).2 = true ∧ (x.Router ≠ p.Router → (findI (recvI s r p now).1.N x.Router).1 = x) := by
  obtain ⟨_, h1⟩ := recv_ok ha h
  have hr := heard_router s r p now
  rw [h1]
  simp only
  by_cases e : x.Router = p.Router
  · have hin : heard s r p now ∈ insW (heard s r p now) s.N := (insW_mem ha _).2 (.inl rfl)
    have := find_in (insW_asc (n := heard s r p now) ha) hin
    rw [hr, ← e] at this
    rw [this]
    exact ⟨rfl, fun hne => (hne e).elim⟩
  · have hin : x ∈ insW (heard s r p now) s.N := (insW_mem ha _).2 (.inr ⟨hx, by rw [hr]; exact e⟩)
    rw [find_in (insW_asc (n := heard s r p now) ha) hin]
    exact ⟨rfl, fun _ => rfl⟩
theorem recv_time {s : Ifs} (ha : ascN s.N) {r : Int} {p : Pkt} {now : Int} (h : (recvI s r p now).2 = 0) (t : Int) : (findI (expI (recvI s r p now).1 t).N p.Router).2 = decide (t < now + s.C.Dead) := by
  obtain ⟨_, h1⟩ := recv_ok ha h
  have hr := heard_router s r p now
  have ht := heard_til s r p now
  rw [h1]
  simp only [expI]
  have hin : heard s r p now ∈ insW (heard s r p now) s.N := (insW_mem ha _).2 (.inl rfl)
  have hasc := insW_asc (n := heard s r p now) ha
  have hf : ascN ((insW (heard s r p now) s.N).filter fun n => !lateN t n) := List.Pairwise.filter _ hasc
  by_cases hb : t < now + s.C.Dead
  · have hin2 : heard s r p now ∈ (insW (heard s r p now) s.N).filter fun n => !lateN t n := List.mem_filter.2 ⟨hin, by simp [lateN, ht, hb]⟩
    have := find_in hf hin2
    rw [hr] at this
    rw [this]
    simp [hb]
  · rw [find_out]
    · simp [hb]
    · intro x hx e
      obtain ⟨hx1, hx2⟩ := List.mem_filter.1 hx
      have : x = heard s r p now := asc_inj hasc hx1 hin (by rw [hr]; exact e)
      subst this
      simp [lateN, ht] at hx2
      exact hb hx2
end Go.Proofs.Yticijodoelphcaa
