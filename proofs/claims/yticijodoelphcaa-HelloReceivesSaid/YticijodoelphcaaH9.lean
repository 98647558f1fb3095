import Derived.Test.YticijodoelphcaaH8
set_option linter.unusedSimpArgs false
set_option linter.unusedVariables false
namespace Go.Proofs.Yticijodoelphcaa
open Go Go.Am

/-- hello.With, whatever the neighbors. -/
theorem with_ (s : Ifs) (hlen : (s.N.length + 1) * 168 ≤ 140737488355328) (ok : ∀ x ∈ s.N, okN x) (m : Nbr) (okm : okN m) : CFun Try.prog 17 [encS s, encN m] [] (encS (withI s m)) [] := by
  by_cases h : s.N = []
  · exact f17z s h m okm
  · exact f17 s _ rfl (List.length_pos_iff.2 h) hlen ok m okm
theorem exp_ (s : Ifs) (hlen : s.N.length < 1000000000000) (ok : ∀ x ∈ s.N, okN x) (t : Int) : CFun Try.prog 27 [encS s, .int .i64 t] [] (encS (expI s t)) [] := by
  by_cases h : s.N = []
  · exact f27z s h t
  · exact f27 s _ rfl (List.length_pos_iff.2 h) hlen ok t
/-- Half of With. -/
def half (l : List Nbr) (n : Nbr) (i : Nat) : List Nbr × Bool :=
  if l.any (isN n.Router) = true then ((l.take i).take (posF (isN n.Router) l) ++ (if posF (isN n.Router) l < i then n :: (l.take i).drop (posF (isN n.Router) l + 1) else []), decide (posF (isN n.Router) l < i))
  else ((l.take i).take (posF (gtN n.Router) l) ++ (if posF (gtN n.Router) l < i then n :: (l.take i).drop (posF (gtN n.Router) l) else []), decide (posF (gtN n.Router) l < i))
theorem posF_at {α : Type} {p : α → Bool} {l : List α} {i : Nat} {x : α} (h : l[i]? = some x) (hi : i ≤ posF p l) : (posF p l = i ↔ p x = true) := by
  induction l generalizing i with
  | nil => simp at h
  | cons y ys ih =>
    unfold posF at hi ⊢
    rw [List.takeWhile_cons] at hi ⊢
    cases hp : p y
    · simp only [hp, Bool.not_false, if_true, List.length_cons] at hi ⊢
      cases i with
      | zero => simp at h; subst h; simp [hp]
      | succ i =>
        simp at h
        have := ih h (by unfold posF; omega)
        unfold posF at this
        rw [← this]
        omega
    · simp only [hp, Bool.not_true] at hi ⊢
      simp at hi
      subst hi
      simp at h
      subst h
      simp [hp]
theorem posF_any {α : Type} {p : α → Bool} {l : List α} : l.any p = true ↔ posF p l < l.length := by
  rw [idxL_any p l 0]
  rcases posF_spec p l 0 with ⟨h1, h2⟩ | ⟨h1, h2⟩
  · simp [h1, h2]
  · simp [h1, h2]
theorem bnd {i n : Nat} (h : i < n) (hl : (n + 1) * 168 ≤ 140737488355328) : i + 1 ≤ 140737488355328 ∧ (i + 1) * 168 ≤ 140737488355328 ∧ i + 1 + 1 ≤ 140737488355328 ∧ (i + 1 + 1) * 168 ≤ 140737488355328 := by omega
-- routingref26.With
def cellsNz : List AVal := zN
set_option maxHeartbeats 1600000 in
set_option maxRecDepth 10000 in
theorem f18 (s : Ifs) (n : Nat) (hn : s.N.length = n) (hlen : (n + 1) * 168 ≤ 140737488355328) (m : Nbr) : CFun Try.prog 18 [encS s, encN m] [] (encS (withI s m)) [] := by
  refine CFun.intro (tr := [70]) (fz := []) (n := 77) (rs := [.cell 4 30]) Try.func18 rfl (by kernel_rfl) rfl rfl mixed (by kernel_rfl) (by simp) (by simp) ?_
  have h24 := fun H => (f24 s n hn (by omega) m.Router).up' H rfl rfl
  have hfd : (findI s.N m.Router).2 = s.N.any (isN m.Router) := by
    rw [idxL_any (isN m.Router) s.N 0]
    rcases idx_find s.N m.Router with ⟨h1, h2⟩ | ⟨i, x, h1, h2, h3, h4⟩
    · simp [h1, h2]
    · simp [h1, h4]
  generalize hfn : (findI s.N m.Router).1 = g at h24
  rw [hfd] at h24
  simp
  refine ⟨_, _, .inl (by simpa using h24 _), by simp, ?_⟩
  cases hany : s.N.any (isN m.Router)
  · have hp := posF_le (gtN m.Router) s.N
    have hat := fun i x (h : s.N[i]? = some x) => @posF_at _ (gtN m.Router) s.N i x h
    have hw : withI s m = { s with N := insL s.N (posF (gtN m.Router) s.N) m } := by
      simp only [withI, withL, hany]; rfl
    rw [hw]
    clear hw hfd hany h24 hfn
    generalize posF (gtN m.Router) s.N = p at hp hat ⊢
    simp
    refine LoopK.intro (tr := [43, 46, 60, 63, 64, 67]) mixed (by kernel_rfl) (fun i : Nat => [(2, .ptr 0 0), (3, .ptr 1 0), (4, .ptr 2 0), (6, .bool false), (7, .sl 15 ((if p < i then insL (s.N.take i) p m else s.N.take i).map encN) .own), (8, .bool (decide (p < i))), (9, .int .i64 i)]) (fun _ => [cellsS s, cellsN m, zS]) (fun i => i ≤ n) (fun i => n - i) 0 ?_ ?_ ?_
    · simp
    · simp [ifs0, ifc0]
    · rintro i h1
      by_cases hi : i < n
      · obtain ⟨x, hx, hd⟩ := get_drop (l := s.N) (i := i) (by omega)
        have w1 : IntKind.i64.wrap ((i : Int) + 1) = i + 1 := wrap_in (by omega)
        have ht : s.N.take (i + 1) = s.N.take i ++ [x] := by rw [List.take_add_one, hx]; rfl
        have hlt : (s.N.take i).length = i := by simp; omega
        have m1 : min i n = i := Nat.min_eq_left (Nat.le_of_lt hi)
        have hat' := hat i x hx
        clear hd hat
        by_cases hpi : p < i
        · have hpi1 : p < i + 1 := by omega
          have e1 : insL (s.N.take (i + 1)) p m = insL (s.N.take i) p m ++ [x] := by
            unfold insL
            rw [ht, List.take_append_of_le_length (by omega), List.drop_append_of_le_length (by omega)]
            simp
          have e2 : (insL (s.N.take i) p m).length = i + 1 := by rw [insL_len (by omega), hlt]
          obtain ⟨s0, s00, s1, s2⟩ := bnd hi hlen
          simp [hi, hn, hx, gE hx, hpi, w1, e2, s1, s2]
          refine ⟨i + 1, by omega, by omega, ?_⟩
          simp [hpi1, e1, ifs0, ifc0]
        · obtain ⟨s0, s00, s1, s2⟩ := bnd hi hlen
          by_cases hg : m.Router < x.Router
          · have hpe : p = i := (hat' (by omega)).2 (by simp [gtN, hg])
            subst hpe
            have e1 : insL (s.N.take (p + 1)) p m = s.N.take p ++ [m, x] := by
              unfold insL
              rw [ht, List.take_append_of_le_length (by omega), List.drop_append_of_le_length (by omega), List.take_of_length_le (show (s.N.take p).length ≤ p by omega), List.drop_of_length_le (by omega)]
              simp
            simp [hi, hn, hx, gE hx, w1, hg, hlt, m1, s0, s00, s1, s2]
            refine ⟨p + 1, by omega, by omega, ?_⟩
            simp [e1, ifs0, ifc0]
          · have hpe : ¬ p < i + 1 := by
              have := mt (hat' (by omega)).1 (by simp [gtN, hg])
              omega
            simp [hi, hn, hx, gE hx, w1, hg, hpi, hlt, m1, s0, s00]
            refine ⟨i + 1, by omega, by omega, ?_⟩
            simp [hpe, ht, ifs0, ifc0]
            omega
      · have : i = n := by omega
        subst this
        have htk : s.N.take i = s.N := List.take_of_length_le (by omega)
        by_cases hpi : p < i
        · simp [hn, hpi, htk]
        · have hpe : p = i := by omega
          subst hpe
          have e1 : insL s.N p m = s.N ++ [m] := by
            unfold insL
            rw [htk, List.drop_of_length_le (by omega)]
          have s0 : p + 1 ≤ 140737488355328 := by omega
          simp [hn, htk, e1, s0, hlen]
  · have hp := posF_le (isN m.Router) s.N
    have hsp := (@posF_any _ (isN m.Router) s.N).1 hany
    have hat := fun i x (h : s.N[i]? = some x) => @posF_at _ (isN m.Router) s.N i x h
    have hw : withI s m = { s with N := s.N.set (posF (isN m.Router) s.N) m } := by
      simp only [withI, withL, hany]; rfl
    rw [hw]
    clear hw hfd hany h24 hfn
    generalize posF (isN m.Router) s.N = p at hp hsp hat ⊢
    simp
    refine LoopK.intro (tr := [43, 46, 60, 63, 64, 67]) mixed (by kernel_rfl) (fun i : Nat => [(2, .ptr 0 0), (3, .ptr 1 0), (4, .ptr 2 0), (6, .bool true), (7, .sl 15 (((s.N.take i).set p m).map encN) .own), (8, .bool (decide (p < i))), (9, .int .i64 i)]) (fun _ => [cellsS s, cellsN m, zS]) (fun i => i ≤ n) (fun i => n - i) 0 ?_ ?_ ?_
    · simp
    · simp [ifs0, ifc0]
    · rintro i h1
      by_cases hi : i < n
      · obtain ⟨x, hx, hd⟩ := get_drop (l := s.N) (i := i) (by omega)
        have w1 : IntKind.i64.wrap ((i : Int) + 1) = i + 1 := wrap_in (by omega)
        have ht : s.N.take (i + 1) = s.N.take i ++ [x] := by rw [List.take_add_one, hx]; rfl
        have hlt : (s.N.take i).length = i := by simp; omega
        have m1 : min i n = i := Nat.min_eq_left (Nat.le_of_lt hi)
        have hlt2 : ((s.N.take i).set p m).length = i := by simp; omega
        have hat' := hat i x hx
        clear hat
        obtain ⟨s0, s00, _, _⟩ := bnd hi hlen
        clear hd
        by_cases hpi : p < i
        · have hpi1 : p < i + 1 := by omega
          have e1 : (s.N.take (i + 1)).set p m = (s.N.take i).set p m ++ [x] := by
            rw [ht, List.set_append_left _ _ (by omega)]
          simp [hi, hn, hx, gE hx, hpi, w1, hlt2, m1, s0, s00, -List.map_set]
          refine ⟨i + 1, by omega, by omega, ?_⟩
          simp [hpi1, e1, ifs0, ifc0, -List.map_set]
        · by_cases hg : x.Router = m.Router
          · have hpe : p = i := (hat' (by omega)).2 (by simp [isN, hg])
            subst hpe
            have e0 : (s.N.take p).set p m = s.N.take p := List.set_eq_of_length_le (by omega)
            have e1 : (s.N.take (p + 1)).set p m = s.N.take p ++ [m] := by
              rw [ht, List.set_append_right _ _ (by omega), hlt]; simp
            simp [hi, hn, hx, gE hx, w1, hg, hlt, m1, s0, s00, e0, -List.map_set]
            refine ⟨p + 1, by omega, by omega, ?_⟩
            simp [e1, ifs0, ifc0, -List.map_set]
          · have hpe : ¬ p < i + 1 := by
              have := mt (hat' (by omega)).1 (by simp [isN, hg])
              omega
            have e0 : (s.N.take i).set p m = s.N.take i := List.set_eq_of_length_le (by omega)
            have e1 : (s.N.take (i + 1)).set p m = s.N.take i ++ [x] := by
              rw [List.set_eq_of_length_le (by simp; omega), ht]
            simp [hi, hn, hx, gE hx, w1, hg, hpi, hlt, m1, s0, s00, e0, -List.map_set]
            refine ⟨i + 1, by omega, by omega, ?_⟩
            simp [hpe, e1, ifs0, ifc0, -List.map_set]
            omega
      · have : i = n := by omega
        subst this
        have htk : s.N.take i = s.N := List.take_of_length_le (by omega)
        have hpi : p < i := by omega
        simp [hn, hpi, htk]
end Go.Proofs.Yticijodoelphcaa
