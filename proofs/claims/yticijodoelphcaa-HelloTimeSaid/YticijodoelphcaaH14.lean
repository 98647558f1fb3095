import Derived.Test.YticijodoelphcaaH12
import Derived.Test.YticijodoelphcaaH15
set_option linter.unusedSimpArgs false
set_option linter.unusedVariables false
namespace Go.Proofs.Yticijodoelphcaa
open Go Go.Am

theorem mem_take {l : List Int} {i : Nat} {x : Int} (h : l[i]? = some x) (r : Int) : memL (l.take (i + 1)) r = (memL (l.take i) r || decide (x = r)) := by
  have ht : l.take (i + 1) = l.take i ++ [x] := by rw [List.take_add_one, h]; rfl
  unfold memL
  rw [ht, Bool.eq_iff_iff]
  simp only [decide_eq_true_eq, Bool.or_eq_true, List.mem_append, List.mem_singleton]
  exact or_congr Iff.rfl eq_comm
-- routingref26.Receive
set_option maxHeartbeats 1600000 in
set_option maxRecDepth 10000 in
theorem f13 (s : Ifs) (hlen : (s.N.length + 1) * 168 ≤ 140737488355328) (ok : ∀ x ∈ s.N, okN x) (hc : chkI s.C = 0) (ha : ascN s.N) (r : Int) (p : Pkt) (hpa : inW p.Addr) (k : Nat) (hk : p.E.Seen.length = k) (hp : k < 140737488355328) (now : Int) (hw : inI (now + s.C.Dead)) : CFun Try.prog 13 [encS s, .int .u32 r, encP p, .int .i64 now] [] (.tup [encS (recvI s r p now).1, .int .i64 (recvI s r p now).2]) [] := by
  refine CFun.intro (tr := []) (fz := []) (n := 87) (rs := [.cell 8 30, .tmp 9]) Try.func13 rfl (by kernel_rfl) rfl rfl mixed (by kernel_rfl) (by simp) (by simp) ?_
  have hl : s.N.length < 1000000000000 := by omega
  have h32 := fun H => (f32 s _ rfl hl hc ha r p hpa).up' H rfl rfl
  have h24 := fun H => (f24 s _ rfl hl p.Router).up' H rfl rfl
  have h33 := fun m H => (f33 m).up' H rfl rfl
  have h18 : ∀ H cs, All2 LeC cs (cellsN (heard s r p now)) → CFun Try.prog 18 [encS s, .agg cs] H (encS (withI s (heard s r p now))) H := fun H cs hle =>
    ((f18 s _ rfl hlen (heard s r p now)).wk [encS s, .agg cs] (by simp) ⟨LeS_refl _, hle, trivial⟩).up' H rfl rfl
  have w0 : IntKind.i64.wrap (now + s.C.Dead) = now + s.C.Dead := wrap_in (by simpa [inI] using hw)
  rw [find_any] at h24
  clear hlen ok hw hl hc ha hpa
  simp
  refine ⟨_, _, .inl (by simpa using h32 _), by simp, ?_⟩
  by_cases e : refI s r p = 0
  case neg => simp [e, recvI, ifs0, ifc0]
  have hr : recvI s r p now = (withI s (heard s r p now), 0) := by simp [recvI, e]
  rw [hr]
  simp [e]
  refine ⟨_, _, .inl (by simpa using h24 _), by simp, ?_⟩
  obtain ⟨m, hm⟩ : ∃ m : Nbr, m = { (if s.N.any (isN p.Router) = true then (findI s.N p.Router).1 else { nbr0 with Router := p.Router, State := 1 }) with Addr := p.Addr, Pri := p.E.Pri, DR := p.E.DR, BDR := p.E.BDR, Til := now + s.C.Dead } := ⟨_, rfl⟩
  have hh : heard s r p now = finN m (memL p.E.Seen r) := by rw [hm]; rfl
  rw [hh] at h18 ⊢
  clear hh hr e h32 h24
  generalize (findI s.N p.Router).1 = g at hm ⊢
  cases hA : s.N.any (isN p.Router)
  all_goals
    rw [hA] at hm
    simp [w0]
    refine LoopK.intro (tr := []) mixed (by kernel_rfl) (fun i : Nat => [(1, .int .u32 r), (4, .ptr 0 0), (6, .ptr 1 0), (8, .ptr 2 0), (11, .ptr 3 0), (13, .bool (memL (p.E.Seen.take i) r)), (14, .int .i64 i)]) (fun _ => [cellsS s, cellsP p, zS, cellsN m]) (fun i => i ≤ k) (fun i => k - i) 0 ?_ ?_ ?_
    · simp
    · simp [hm, ifs0, ifc0, memL, nbr0]
    · rintro i h1
      by_cases hi : i < k
      · obtain ⟨x, hx, hd⟩ := get_drop (l := p.E.Seen) (i := i) (by omega)
        have w1 : IntKind.i64.wrap ((i : Int) + 1) = i + 1 := wrap_in (by omega)
        have hmt := mem_take hx r
        clear hd hm
        by_cases hb : x = r
        · simp [hk, hi, hx, gE hx, hb, w1]
          exact ⟨i + 1, by omega, by omega, by simp [hmt, hb, ifs0, ifc0]⟩
        · simp [hk, hi, hx, gE hx, hb, w1]
          exact ⟨i + 1, by omega, by omega, by simp [hmt, hb, ifs0, ifc0]⟩
      · have : i = k := by omega
        subst this
        have htk : p.E.Seen.take i = p.E.Seen := List.take_of_length_le (by omega)
        clear hm
        cases hM : memL p.E.Seen r
        · rw [hM] at h18
          simp [hk, htk, hM]
          refine ⟨_, _, .inl (by simpa using h33 { m with State := 1 } _), by simp, ?_⟩
          simp
          refine ⟨_, _, .inl (h18 _ _ (by simp [finN, plainN, nbr0])), by simp, ?_⟩
          simp [finN]
        · rw [hM] at h18
          by_cases hS : m.State = 1
          · simp [hk, htk, hM, hS]
            refine ⟨_, _, .inl (h18 _ _ (by simp [finN, hS])), by simp, ?_⟩
            simp [finN, hS]
          · simp [hk, htk, hM, hS]
            refine ⟨_, _, .inl (h18 _ _ (by simp [finN, hS])), by simp, ?_⟩
            simp [finN, hS]
end Go.Proofs.Yticijodoelphcaa
