import Derived.Test.YticijodoelphcaaH5
set_option linter.unusedSimpArgs false
set_option linter.unusedVariables false
namespace Go.Proofs.Yticijodoelphcaa
open Go Go.Am

-- the closures
set_option maxRecDepth 10000 in
theorem f40 (n m : Nbr) : CFun Try.prog 40 [.agg (ceN n), .iptr (cellsN m) 0] [] (.bool (gtN m.Router n)) [] := by
  refine CFun.intro (tr := []) (fz := []) (n := 9) (rs := [.tmp 3]) Try.func40 rfl (by kernel_rfl) rfl rfl mixed (by kernel_rfl) (by simp) (by simp) ?_
  simp [gtN, ceN]
set_option maxRecDepth 10000 in
theorem f51 (n : Nbr) (t : Int) : CFun Try.prog 51 [.agg (ceN n), .iptr [.int .i64 t] 0] [] (.bool (lateN t n)) [] := by
  refine CFun.intro (tr := []) (fz := []) (n := 8) (rs := [.tmp 3]) Try.func51 rfl (by kernel_rfl) rfl rfl mixed (by kernel_rfl) (by simp) (by simp) ?_
  simp [lateN, ceN]
set_option maxRecDepth 10000 in
theorem f52 (n : Nbr) (p : Pkt) : CFun Try.prog 52 [.agg (ceN n), .iptr (cellsP p) 0] [] (.bool (!isN p.Router n)) [] := by
  refine CFun.intro (tr := []) (fz := []) (n := 9) (rs := [.tmp 3]) Try.func52 rfl (by kernel_rfl) rfl rfl mixed (by kernel_rfl) (by simp) (by simp) ?_
  by_cases h : n.Router = p.Router <;> simp [isN, ceN, h]
@[simp] def zS : List AVal := cellsSx ifs0 (.sl 0 [] .full)
-- hello.With
set_option maxHeartbeats 8000000 in
set_option maxRecDepth 10000 in
theorem f17 (s : Ifs) (n : Nat) (hn : s.N.length = n) (h0 : 0 < n) (hlen : (n + 1) * 168 ≤ 140737488355328) (ok : ∀ x ∈ s.N, okN x) (m : Nbr) (okm : okN m) : CFun Try.prog 17 [encS s, encN m] [] (encS (withI s m)) [] := by
  refine CFun.intro (tr := [7000003000003]) (fz := [(502014, 5, true), (502014, 6, true)]) (n := 40) (rs := [.cell 4 30]) Try.func17 rfl (by kernel_rfl) rfl rfl mixed (by kernel_rfl) (by simp) (by simp) ?_
  have h36 := (f36 s n hn h0 (by omega) ok).upAll [cellsS s, cellsN m, zS] (by simp [eN.rowNoid, -List.all_eq_true]) rfl rfl
  have h37 := fun H => (f37 m okm).up' H rfl rfl
  simp
  refine ⟨_, _, .inl (by simpa [ren, ren0, ren00, grow, ifs0, ifc0] using h36), by simp, ?_⟩
  simp
  refine ⟨_, _, .inl (by simpa using h37 _), by simp, ?_⟩
  simp
  have h38 := lendS (H := [cellsSx s (.osl 5 0 n (some n) 15), cellsN m, zS, [], [], rowC ceN s.N]) (id := 5) hn h0 (f38 s (by omega) m.Router) rfl rfl rfl rfl
  refine ⟨_, _, .inl (by simpa [ifs0, ifc0] using h38), by simp, ?_⟩
  have hany := idxL_any (isN m.Router) s.N 0
  have hL := eN.rowLen s.N
  rcases posF_spec (isN m.Router) s.N 0 with ⟨e1, e2⟩ | ⟨e1, e2⟩
  · rw [e1] at hany
    have hw : withI s m = { s with N := insL s.N (posF (gtN m.Router) s.N) m } := by
      simp only [withI, withL, hany]; rfl
    have h39 : CFun Try.prog 39 [.osl 5 0 n (some n) 15, .fn 40 [] [.iptr (cellsN m) 0]] [cellsSx s (.osl 5 0 n (some n) 15), [], zS, [], [], rowC ceN s.N] (.int .i64 (idxL (gtN m.Router) s.N 0)) [cellsSx s (.osl 5 0 n (some n) 15), [], zS, [], [], rowC ceN s.N] :=
      n39_ixr s.N [] n hn (by omega) (gtN m.Router) 40 [] [.iptr (cellsN m) 0] _ 5 (some n) (by simp) (by simp [low, low0]) (by simp [ifs0, ifc0]; exact eN.rowLe 6 s.N) (fun x _ => (f40 x m).up' _ rfl rfl)
    have hp := posF_le (gtN m.Router) s.N
    have hsp := posF_spec (gtN m.Router) s.N 0
    rw [hw]
    clear hw
    generalize posF (gtN m.Router) s.N = p at hp hsp ⊢
    have h41 := ((n41_ins s.N p n hn hlen (by omega) h0 m).wk [.osl 0 0 n (some n) 15, .int .i64 p, .sl 15 [.agg (ceN m)] .full] (by simp) (by simp)).atNews (H := [cellsSx s (.osl 5 0 n (some n) 15), [], zS, [], [], rowC ceN s.N]) (id := 5) rfl (eN.rowNoid _) (eN.rowNoid _) (by simp [eN.rowNoid, -List.all_eq_true]) rfl rfl
    have hil := insL_len (l := s.N) (b := m) hp
    have hL2 := eN.rowLen (insL s.N p m)
    rw [hil, hn] at hL2
    have htk : (rowC ceN (insL s.N p m)).take ((n + 1) * 15) = rowC ceN (insL s.N p m) := List.take_of_length_le (by omega)
    have hch := eN.chunk (insL s.N p m) (n + 1) (by omega)
    have htr := eN.rowTree (insL s.N p m)
    have hpos : 0 < n * 15 := by omega
    have hpos1 : 0 < (n + 1) * 15 := by omega
    simp [e1]
    refine ⟨_, _, .inl (by simpa [ifs0, ifc0] using h39), by simp, ?_⟩
    rcases hsp with ⟨e3, e4⟩ | ⟨e3, e4⟩
    · have e5 : (n : Int) = p := by omega
      simp [e3, e5]
      refine ⟨_, _, .inl (by simpa [ren, ren0, grow, ifs0, ifc0, e5, ceN] using h41), by simp, ?_⟩
      simp [hL2, htk, hch, htr, hpos1, -List.all_eq_true, -encN]
      exact fun _ _ => rfl
    · have e5 : ¬ ((0 : Int) + p < 0) := by omega
      simp [e3]
      refine ⟨_, _, .inl (by simpa [ren, ren0, grow, ifs0, ifc0, ceN] using h41), by simp, ?_⟩
      simp [hL2, htk, hch, htr, hpos1, -List.all_eq_true, -encN]
      exact fun _ _ => rfl
  · have hany' : s.N.any (isN m.Router) = true := by rw [hany, e1]; simp
    have hw : withI s m = { s with N := s.N.set (posF (isN m.Router) s.N) m } := by
      simp only [withI, withL, hany']; rfl
    generalize posF (isN m.Router) s.N = q at e1 e2 hw
    have hset := eN.setOne0 s.N q m e2
    have hq : q < n := by omega
    have hq0 : ¬ ((0 : Int) + q < 0) := by omega
    have hfit : q * 15 + 15 ≤ n * 15 := by omega
    have hch := eN.chunk (s.N.set q m) n (by simpa using hn)
    have htr := eN.rowTree (s.N.set q m)
    have hL2 := eN.rowLen (s.N.set q m)
    rw [List.length_set, hn] at hL2
    rw [hn] at hL
    have htk : (rowC ceN (s.N.set q m)).take (n * 15) = rowC ceN (s.N.set q m) := List.take_of_length_le (by omega)
    have hpos : 0 < n * 15 := by omega
    simp only [ceN, cellsN] at hset
    have hs0 : setR zS 0 (cellsSx s (.osl 5 0 n (some n) 15)) = cellsSx s (.osl 5 0 n (some n) 15) := rfl
    simp only [zS, cellsSx, ifs0, ifc0] at hs0
    rw [hw]
    simp [hs0, e1, hq, hset, hL, hfit, hL2, htk, hch, htr, hpos, -setR, -List.all_eq_true, -encN]
    rfl
end Go.Proofs.Yticijodoelphcaa
