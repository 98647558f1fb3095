import Derived.Test.YticijodoelphcaaH16
import Derived.Test.YticijodoelphcaaH18
set_option linter.unusedSimpArgs false
set_option linter.unusedVariables false
namespace Go.Proofs.Yticijodoelphcaa
open Go Go.Am

theorem okN_of {n : Nbr} (h : okN2 n) : okN n := by
  obtain ⟨a, b, c, d⟩ := h
  exact ⟨by omega, by omega, by omega, by omega⟩
-- HelloChecks
set_option maxHeartbeats 1600000 in
set_option maxRecDepth 10000 in
theorem c6 (c : Ifc) (ok : okI2 c) : CFun Try.prog 6 [encI' c] [] (.bool true) [] := by
  refine CFun.intro (tr := []) (fz := []) (n := 11) (rs := [.tmp 2]) Try.func6 rfl (by kernel_rfl) rfl rfl mixed (by kernel_rfl) (by simp) (by simp) ?_
  have h1 := fun H => (f21 c).up' H rfl rfl
  have h2 := fun H => (f22 c ok).up' H rfl rfl
  have h3 := fun H => f11.up' H rfl rfl
  simp
  refine ⟨_, _, .inl (by simpa using h1 _), by simp, ?_⟩
  simp
  refine ⟨_, _, .inl (by simpa using h2 _), by simp, ?_⟩
  simp
  refine ⟨_, _, .inl (by simpa using h3 _), by simp, ?_⟩
  simp
theorem withI_ok {s : Ifs} (ok : ∀ x ∈ s.N, okN x) {m : Nbr} (okm : okN m) : ∀ x ∈ (withI s m).N, okN x := by
  intro x hx
  simp only [withI, withL] at hx
  split at hx
  · rcases List.mem_or_eq_of_mem_set hx with hx | rfl
    · exact ok x hx
    · exact okm
  · simp only [insL, List.mem_append, List.mem_cons] at hx
    rcases hx with hx | rfl | hx
    · exact ok x (List.mem_of_mem_take hx)
    · exact okm
    · exact ok x (List.mem_of_mem_drop hx)
theorem withI_len (s : Ifs) (m : Nbr) : (withI s m).N.length ≤ s.N.length + 1 := by
  simp only [withI, withL]
  split
  · simp
  · rw [insL_len (posF_le _ _)]; exact Nat.le_refl _
-- HelloWants
set_option maxHeartbeats 1600000 in
set_option maxRecDepth 10000 in
theorem c4 (s : Ifs) (ok : ∀ x ∈ s.N, okN x) (hl : s.N.length * 168 ≤ 140737488351232) (r : Int) (n : Nbr) (okn : okN n) : CFun Try.prog 4 [encS s, .int .u32 r, encN n] [] (.bool true) [] := by
  refine CFun.intro (tr := []) (fz := []) (n := 28) (rs := [.tmp 6]) Try.func4 rfl (by kernel_rfl) rfl rfl mixed (by kernel_rfl) (by simp) (by simp) ?_
  have hw := withI_len s n
  have h1 := fun H => (f15 s r n).up' H rfl rfl
  have h2 := fun H => (f16 s r n).up' H rfl rfl
  have h3 := fun H => (with_ s (by omega) ok n okn).up' H rfl rfl
  have h4 := fun H => (f18 s _ rfl (by omega) n).up' H rfl rfl
  have h5 := fun H => (f14 (withI s n) (by omega) (withI_ok ok okn)).up' H rfl rfl
  have h6 := fun H => f11.up' H rfl rfl
  clear hw hl
  generalize withI s n = w at h3 h4 h5
  simp
  refine ⟨_, _, .inl (by simpa using h1 _), by simp, ?_⟩
  simp
  refine ⟨_, _, .inl (by simpa using h2 _), by simp, ?_⟩
  simp
  refine ⟨_, _, .inl (by simpa using h3 _), by simp, ?_⟩
  simp
  refine ⟨_, _, .inl (by simpa using h4 _), by simp, ?_⟩
  simp
  refine ⟨_, _, .inl (by simpa using h5 _), by simp, ?_⟩
  simp
  refine ⟨_, _, .inl (by simpa using h6 _), by simp, ?_⟩
  simp
-- HelloMakes
set_option maxHeartbeats 1600000 in
set_option maxRecDepth 10000 in
theorem c8 (s : Ifs) (ok : ∀ x ∈ s.N, okN x) (hl : s.N.length * 168 ≤ 140737488351232) (r t : Int) : CFun Try.prog 8 [encS s, .int .u32 r, .int .i64 t] [] (.bool true) [] := by
  refine CFun.intro (tr := []) (fz := []) (n := 52) (rs := [.tmp 6]) Try.func8 rfl (by kernel_rfl) rfl rfl mixed (by kernel_rfl) (by simp) (by simp) ?_
  have hl2 : s.N.length < 1000000000000 := by omega
  have h1 := fun H => (f19 s _ rfl hl2 ok r).up' H rfl rfl
  have h2 := fun H => (f24 s _ rfl hl2 r).up' H rfl rfl
  have h3 := fun H => (f23 s _ rfl hl2 r).up' H rfl rfl
  have h4 := fun H => (f26 s _ rfl hl2 r).up' H rfl rfl
  have hsn : (makeI s r).E.Seen.length ≤ s.N.length := by
    have := List.length_filter_le (fun n : Nbr => decide (1 ≤ n.State)) s.N
    simpa [makeI, helOf] using this
  have h5 := fun H => (f25 (makeI s r) (by omega) rfl rfl rfl).up' H rfl rfl
  have h6 := fun H => (exp_ s hl2 ok t).up' H rfl rfl
  have h7 := fun H => (f28 s _ rfl (by omega) t).up' H rfl rfl
  have hfl := List.length_filter_le (fun n : Nbr => !lateN t n) s.N
  have h8 := fun H => (f14 (expI s t) (by simp only [expI]; omega) (fun x hx => ok x ((List.mem_filter.1 hx).1))).up' H rfl rfl
  have h9 := fun H => (f20 (findI s.N r).1 (find_ok ok r)).up' H rfl rfl
  have h0 := fun H => f11.up' H rfl rfl
  clear hl hl2 hsn hfl
  generalize (findI s.N r).1 = g at h1 h2 h9
  generalize (findI s.N r).2 = b at h1 h2
  generalize makeI s r = p at h3 h4 h5
  generalize expI s t = e at h6 h7 h8
  simp
  refine ⟨_, _, .inl (by simpa using h1 _), by simp, ?_⟩
  simp
  refine ⟨_, _, .inl (by simpa using h2 _), by simp, ?_⟩
  simp
  refine ⟨_, _, .inl (by simpa using h3 _), by simp, ?_⟩
  simp
  refine ⟨_, _, .inl (by simpa using h4 _), by simp, ?_⟩
  simp
  refine ⟨_, _, .inl (by simpa using h5 _), by simp, ?_⟩
  simp
  refine ⟨_, _, .inl (by simpa using h6 _), by simp, ?_⟩
  simp
  refine ⟨_, _, .inl (by simpa using h7 _), by simp, ?_⟩
  simp
  refine ⟨_, _, .inl (by simpa using h8 _), by simp, ?_⟩
  simp
  refine ⟨_, _, .inl (by simpa using h9 _), by simp, ?_⟩
  simp
  refine ⟨_, _, .inl (by simpa using h0 _), by simp, ?_⟩
  simp
theorem recv_oks {s : Ifs} (ok : ∀ x ∈ s.N, okN x) (r : Int) (p : Pkt) (now : Int) : (∀ x ∈ (recvI s r p now).1.N, okN x) ∧ (recvI s r p now).1.N.length ≤ s.N.length + 1 := by
  unfold recvI
  split
  · simp [ifs0]
  · exact ⟨withI_ok ok (heard_ok ok r p now), withI_len _ _⟩
theorem dead_in {c : Ifc} (h : chkI c = 0) {now : Int} (h0 : 0 ≤ now) (h1 : now ≤ 1099511627776) : inI (now + c.Dead) := by
  have := chk_valid h
  unfold inI
  omega
-- HelloReceives
set_option maxHeartbeats 1600000 in
set_option maxRecDepth 10000 in
theorem c3 (s : Ifs) (oki : okI2 s.C) (ok : ∀ x ∈ s.N, okN x) (hl : s.N.length * 168 ≤ 140737488351232) (r : Int) (p : Pkt) (hpa : inW p.Addr) (hp : p.E.Seen.length < 140737488355328) (now : Int) : CFun Try.prog 3 [encS s, .int .u32 r, encP p, .int .i64 now] [] (.bool true) [] := by
  refine CFun.intro (tr := []) (fz := []) (n := 52) (rs := [.tmp 8]) Try.func3 rfl (by kernel_rfl) rfl rfl mixed (by kernel_rfl) (by simp) (by simp) ?_
  have h10 := fun H => (f10 s _ rfl (by omega) oki).up' H rfl rfl
  have h0 := fun H => f11.up' H rfl rfl
  simp
  refine ⟨_, _, .inl (by simpa using h10 _), by simp, ?_⟩
  cases hg : goodB s
  · simp
    refine ⟨_, _, .inl (by simpa using h0 _), by simp, ?_⟩
    simp
  by_cases n0 : now < 0
  · simp [n0]
    refine ⟨_, _, .inl (by simpa using h0 _), by simp, ?_⟩
    simp
  by_cases n1 : 1099511627776 < now
  · simp [n0, n1]
    refine ⟨_, _, .inl (by simpa using h0 _), by simp, ?_⟩
    simp
  obtain ⟨hc, ha⟩ := (goodB_iff s).1 hg
  have hw := dead_in hc (by omega) (show now ≤ 1099511627776 by omega)
  have h1 := fun H => (f12 s (by omega) ok r p hp now hw).up' H rfl rfl
  have h2 := fun H => (f13 s (by omega) ok hc ha r p hpa _ rfl hp now hw).up' H rfl rfl
  obtain ⟨o1, o2⟩ := recv_oks ok r p now
  have h3 := fun H => (f14 (recvI s r p now).1 (by omega) o1).up' H rfl rfl
  clear hw o1 o2 hl
  generalize recvI s r p now = q at h1 h2 h3
  simp [n0, n1]
  refine ⟨_, _, .inl (by simpa using h1 _), by simp, ?_⟩
  simp
  refine ⟨_, _, .inl (by simpa using h2 _), by simp, ?_⟩
  simp
  refine ⟨_, _, .inl (by simpa using h3 _), by simp, ?_⟩
  simp
  refine ⟨_, _, .inl (by simpa using h0 _), by simp, ?_⟩
  simp
-- HelloTime
set_option maxHeartbeats 1600000 in
set_option maxRecDepth 10000 in
theorem c9 (s : Ifs) (oki : okI2 s.C) (ok : ∀ x ∈ s.N, okN x) (hl : s.N.length * 168 ≤ 140737488351232) (r : Int) (p : Pkt) (hp : p.E.Seen.length < 140737488355328) (now t : Int) : CFun Try.prog 9 [encS s, .int .u32 r, encP p, .int .i64 now, .int .i64 t] [] (.bool true) [] := by
  refine CFun.intro (tr := [900001000047]) (fz := []) (n := 67) (rs := [.tmp 10]) Try.func9 rfl (by kernel_rfl) rfl rfl mixed (by kernel_rfl) (by simp) (by simp) ?_
  have h10 := fun H => (f10 s _ rfl (by omega) oki).up' H rfl rfl
  have h0 := fun H => f11.up' H rfl rfl
  simp
  refine ⟨_, _, .inl (by simpa using h10 _), by simp, ?_⟩
  cases hg : goodB s
  · simp
    refine ⟨_, _, .inl (by simpa using h0 _), by simp, ?_⟩
    simp
  by_cases n0 : now < 0
  · simp [n0]
    refine ⟨_, _, .inl (by simpa using h0 _), by simp, ?_⟩
    simp
  by_cases n1 : 1099511627776 < now
  · simp [n0, n1]
    refine ⟨_, _, .inl (by simpa using h0 _), by simp, ?_⟩
    simp
  by_cases n2 : t < 0
  · simp [n0, n1, n2]
    refine ⟨_, _, .inl (by simpa using h0 _), by simp, ?_⟩
    simp
  by_cases n3 : 2199023255552 < t
  · simp [n0, n1, n2, n3]
    refine ⟨_, _, .inl (by simpa using h0 _), by simp, ?_⟩
    simp
  obtain ⟨hc, ha⟩ := (goodB_iff s).1 hg
  have hw := dead_in hc (by omega) (show now ≤ 1099511627776 by omega)
  have w0 : IntKind.i64.wrap (now + s.C.Dead) = now + s.C.Dead := wrap_in (by simpa [inI] using hw)
  have h1 := fun H => (f12 s (by omega) ok r p hp now hw).up' H rfl rfl
  obtain ⟨o1, o2⟩ := recv_oks ok r p now
  have h2 := exp_ (recvI s r p now).1 (by omega) o1 t
  have hfl := List.length_filter_le (fun n : Nbr => !lateN t n) (recvI s r p now).1.N
  have h3 := f19 (expI (recvI s r p now).1 t) _ rfl (by simp only [expI]; omega) (fun x hx => o1 x ((List.mem_filter.1 hx).1)) p.Router
  have hT := fun h => recv_time ha (r := r) (p := p) (now := now) h t
  clear hw o1 o2 hl hfl
  generalize recvI s r p now = q at h1 h2 h3 hT
  simp [n0, n1, n2, n3]
  refine ⟨_, _, .inl (by simpa using h1 _), by simp, ?_⟩
  by_cases he : q.2 = 0
  case neg =>
    simp [he]
    refine ⟨_, _, .inl (by simpa using h0 _), by simp, ?_⟩
    simp
  rw [hT he] at h3
  clear hT
  generalize (findI (expI q.1 t).N p.Router).1 = g at h3
  generalize expI q.1 t = e at h2 h3
  simp [he]
  refine ⟨_, by simpa using h2, by simp [noid, noid0], ?_⟩
  simp
  refine ⟨_, by simpa using h3, by simp [noid, noid0], ?_⟩
  simp [w0]
  refine ⟨_, _, .inl (by simpa using h0 _), by simp, ?_⟩
  simp
end Go.Proofs.Yticijodoelphcaa
