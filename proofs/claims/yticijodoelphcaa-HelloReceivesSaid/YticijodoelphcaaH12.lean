import Derived.Test.YticijodoelphcaaH9
import Derived.Test.YticijodoelphcaaH10
import Derived.Test.YticijodoelphcaaH11
import Derived.Test.YticijodoelphcaaH13
set_option linter.unusedSimpArgs false
set_option linter.unusedVariables false
namespace Go.Proofs.Yticijodoelphcaa
open Go Go.Am

theorem asc_other {l : List Nbr} (h : ascN l) (r : Int) : (l.any fun n => !isN r n) = (decide (0 < l.length) && (!(l.any (isN r)) || decide (1 < l.length))) := by
  match l, h with
  | [], _ => rfl
  | [x], _ => simp
  | x :: y :: t, h =>
    simp only [ascN, List.pairwise_cons] at h
    have hxy := h.1 y (by simp)
    simp only [List.any_cons, List.length_cons]
    by_cases hx : x.Router = r
    · have hy : ¬ y.Router = r := by omega
      simp [isN, hx, hy]
    · simp [isN, hx]
theorem find_any (s : Ifs) (r : Int) : (findI s.N r).2 = s.N.any (isN r) := by
  rw [idxL_any (isN r) s.N 0]
  rcases idx_find s.N r with ⟨h1, h2⟩ | ⟨i, x, h1, h2, h3, h4⟩
  · simp [h1, h2]
  · simp [h1, h4]
theorem chk_valid {c : Ifc} (h : chkI c = 0) : validP c.PA c.PL = true ∧ 1 ≤ c.Kind ∧ c.Kind ≤ 3 ∧ c.Addr ≠ 0 ∧ inP c.PA c.PL c.Addr = true ∧ 1 ≤ c.Hello ∧ c.Hello ≤ c.Dead ∧ c.Dead ≤ 65535 := by
  unfold chkI at h
  split at h
  · cases h
  rename_i h1
  split at h
  · cases h
  rename_i h2
  split at h
  · cases h
  rename_i h3
  simp only [not_or, Bool.not_eq_false] at h1 h2 h3
  have k1 := (inR_iff _ _ _).1 h1
  have k2 := (inR_iff _ _ _).1 h3.2.2.1
  have k3 := (inR_iff _ _ _).1 h3.2.2.2
  have k4 := h2.2
  refine ⟨?_, k1.1, k1.2, h2.1, k4, k2.1, k3.1, k3.2⟩
  simp only [inP, Bool.and_eq_true] at k4
  exact k4.1
-- routingref26.wrong
set_option maxHeartbeats 1600000 in
set_option maxRecDepth 10000 in
theorem f32 (s : Ifs) (n : Nat) (hn : s.N.length = n) (hlen : n < 1000000000000) (hc : chkI s.C = 0) (ha : ascN s.N) (r : Int) (p : Pkt) (hp : inW p.Addr) : CFun Try.prog 32 [encS s, .int .u32 r, encP p] [] (.int .i64 (refI s r p)) [] := by
  refine CFun.intro (tr := []) (fz := []) (n := 116) (rs := [.tmp 6]) Try.func32 rfl (by kernel_rfl) rfl rfl mixed (by kernel_rfl) (by simp) (by simp) ?_
  have h47 := fun H => (f47 s.C.PA s.C.PL p.Addr hp (chk_valid hc).1).up' H rfl rfl
  have h24 := fun H => (f24 s n hn hlen p.Router).up' H rfl rfl
  have hd : diffI s.C p = !(decide (p.Area = s.C.Area) && decide (p.E.Len = s.C.PL) && decide (p.E.Hello = s.C.Hello) && decide (p.E.Dead = s.C.Dead) && inP s.C.PA s.C.PL p.Addr) := rfl
  rw [find_any] at h24
  simp only [refI]
  rw [asc_other ha, hd, hn]
  clear hd hc ha
  generalize s.N.any (isN p.Router) = A at h24 ⊢
  generalize (findI s.N p.Router).1 = g at h24
  cases e1 : s.Up
  · simp [e1]
  by_cases e2 : s.C.Kind = 3
  · simp [e1, e2]
  by_cases e3 : p.Kind = 1
  case neg => simp [e1, e2, e3]
  by_cases d1 : p.Area = s.C.Area
  case neg => simp [e1, e2, e3, d1]
  by_cases d2 : p.E.Len = s.C.PL
  case neg => simp [e1, e2, e3, d1, d2]
  by_cases d3 : p.E.Hello = s.C.Hello
  case neg => simp [e1, e2, e3, d1, d2, d3]
  by_cases d4 : p.E.Dead = s.C.Dead
  case neg => simp [e1, e2, e3, d1, d2, d3, d4]
  simp [e1, e2, e3, d1, d2, d3, d4]
  refine ⟨_, _, .inl (by simpa using h47 _), by simp, ?_⟩
  cases inP s.C.PA s.C.PL p.Addr
  · simp
  by_cases e5 : p.Router = 0
  · simp [e5]
  by_cases e6 : p.Router = r
  · simp [e5, e6]
  by_cases e7 : p.Addr = s.C.Addr
  · simp [e5, e6, e7]
  simp [e5, e6, e7]
  refine ⟨_, _, .inl (by simpa [e1] using h24 _), by simp, ?_⟩
  by_cases e8 : s.C.Kind = 1
  · by_cases n0 : n = 0
    · subst n0
      cases A <;> simp [hn, e8]
    · have n0' : (0 : Int) < n := by omega
      have n0'' : 0 < n := by omega
      cases A
      · simp [hn, e8, n0', n0'']
      · by_cases n1 : 1 < n
        · have n1' : (1 : Int) < n := by omega
          simp [hn, e8, n0', n0'', n1, n1']
        · have n1' : ¬ (1 : Int) < n := by omega
          simp [hn, e8, n0', n0'', n1, n1']
  · cases A
    · by_cases n1 : 63 ≤ n
      · have n1' : (63 : Int) ≤ n := by omega
        simp [hn, e8, n1, n1']
      · have n1' : ¬ (63 : Int) ≤ n := by omega
        simp [hn, e8, n1, n1']
    · simp [hn, e8]
theorem find_ok {s : Ifs} (ok : ∀ x ∈ s.N, okN x) (r : Int) : okN (findI s.N r).1 := by
  rcases idx_find s.N r with ⟨h1, h2⟩ | ⟨i, x, h1, h2, h3, h4⟩
  · rw [h2]; simp [okN, nbr0]
  · rw [h4]; exact ok x (List.mem_of_getElem? h2)
theorem heard_ok {s : Ifs} (ok : ∀ x ∈ s.N, okN x) (r : Int) (p : Pkt) (now : Int) : okN (heard s r p now) := by
  have := find_ok ok p.Router
  have hh : ∀ (n m : Nbr), okN n → m.Lst = n.Lst → m.Sent = n.Sent → m.Req = n.Req → m.Una = n.Una → okN m := by
    intro n m h e1 e2 e3 e4
    unfold okN
    rw [e1, e2, e3, e4]
    exact h
  have h0 : okN nbr0 := by simp [okN, nbr0]
  simp only [heard]
  cases s.N.any (isN p.Router) <;> cases memL p.E.Seen r
  · exact hh nbr0 _ h0 rfl rfl rfl rfl
  · exact hh nbr0 _ h0 rfl rfl rfl rfl
  · exact hh nbr0 _ h0 rfl rfl rfl rfl
  · by_cases hs : (findI s.N p.Router).1.State = 1
    · simp only [hs, if_true]
      exact hh _ _ this rfl rfl rfl rfl
    · simp only [hs, if_true, if_false]
      exact hh _ _ this rfl rfl rfl rfl
-- hello.Receive
set_option maxHeartbeats 1600000 in
set_option maxRecDepth 10000 in
theorem f12 (s : Ifs) (hlen : (s.N.length + 1) * 168 ≤ 140737488355328) (ok : ∀ x ∈ s.N, okN x) (r : Int) (p : Pkt) (hp : p.E.Seen.length < 140737488355328) (now : Int) (hw : inI (now + s.C.Dead)) : CFun Try.prog 12 [encS s, .int .u32 r, encP p, .int .i64 now] [] (.tup [encS (recvI s r p now).1, .int .i64 (recvI s r p now).2]) [] := by
  refine CFun.intro (tr := [900001000033, 900002000033, 4500033]) (fz := []) (n := 80) (rs := [.cell 8 30, .tmp 9]) Try.func12 rfl (by kernel_rfl) rfl rfl mixed (by kernel_rfl) (by simp) (by simp) ?_
  have hl : s.N.length < 1000000000000 := by omega
  have h30 := fun H => (f30 s _ rfl hl r p).up' H rfl rfl
  have h19 := fun H => (f19 s _ rfl hl ok p.Router).up' H rfl rfl
  have h31 := fun H => (c82 p.E.Seen hp r).up' H rfl rfl
  have h17 : ∀ H cs, All2 LeC cs (cellsN (heard s r p now)) → CFun Try.prog 17 [encS s, .agg cs] H (encS (withI s (heard s r p now))) H := fun H cs hle =>
    ((with_ s hlen ok (heard s r p now) (heard_ok ok r p now)).wk [encS s, .agg cs] (by simp) ⟨LeS_refl _, hle, trivial⟩).up' H rfl rfl
  have w0 : IntKind.i64.wrap (now + s.C.Dead) = now + s.C.Dead := wrap_in (by simpa [inI] using hw)
  rw [find_any] at h19
  clear hlen ok hp hw hl
  simp
  refine ⟨_, _, .inl (by simpa using h30 _), by simp, ?_⟩
  by_cases e : refI s r p = 0
  case neg => simp [e, recvI, ifs0, ifc0]
  have hr : recvI s r p now = (withI s (heard s r p now), 0) := by simp [recvI, e]
  rw [hr]
  simp [e]
  refine ⟨_, _, .inl (by simpa using h19 _), by simp, ?_⟩
  have hh : heard s r p now = heard s r p now := rfl
  conv at hh => rhs; simp only [heard]
  generalize heard s r p now = m at h17 hh ⊢
  generalize (findI s.N p.Router).1 = g at hh ⊢
  cases hA : s.N.any (isN p.Router)
  · rw [hA] at hh
    simp [w0]
    refine ⟨_, _, .inl (by simpa using h31 _), by simp, ?_⟩
    cases hM : memL p.E.Seen r
    · rw [hM] at hh
      simp
      refine ⟨_, _, .inl (h17 _ _ (by simp [hh, plainN, nbr0])), by simp, ?_⟩
      simp
    · rw [hM] at hh
      simp
      refine ⟨_, _, .inl (h17 _ _ (by simp [hh, nbr0])), by simp, ?_⟩
      simp
  · rw [hA] at hh
    simp [w0]
    refine ⟨_, _, .inl (by simpa using h31 _), by simp, ?_⟩
    cases hM : memL p.E.Seen r
    · rw [hM] at hh
      simp
      refine ⟨_, _, .inl (h17 _ _ (by simp [hh, plainN, nbr0])), by simp, ?_⟩
      simp
    · rw [hM] at hh
      by_cases hS : g.State = 1
      · simp [hS]
        refine ⟨_, _, .inl (h17 _ _ (by simp [hh, hS])), by simp, ?_⟩
        simp
      · simp [hS]
        refine ⟨_, _, .inl (h17 _ _ (by simp [hh, hS])), by simp, ?_⟩
        simp
end Go.Proofs.Yticijodoelphcaa
