import Derived.Test.YticijodoelphcaaH6
set_option linter.unusedSimpArgs false
set_option linter.unusedVariables false
namespace Go.Proofs.Yticijodoelphcaa
open Go Go.Am

-- hello.With, no neighbors
set_option maxHeartbeats 8000000 in
set_option maxRecDepth 10000 in
theorem f17z (s : Ifs) (hn : s.N = []) (m : Nbr) (okm : okN m) : CFun Try.prog 17 [encS s, encN m] [] (encS (withI s m)) [] := by
  refine CFun.intro (tr := [7000003000003]) (fz := [(502014, 3, true)]) (n := 40) (rs := [.cell 4 30]) Try.func17 rfl (by kernel_rfl) rfl rfl mixed (by kernel_rfl) (by simp) (by simp) ?_
  have h36 := (f36z s hn).up' [cellsS s, cellsN m, zS] rfl rfl
  have h37 := fun H => (f37 m okm).up' H rfl rfl
  have h38 := ((f38 s (by simp [hn]) m.Router).wk [.agg (cellsSx s (.sl 15 [] .full)), .int .u32 m.Router] (by simp) (by simp [hn])).up' [cellsSx s (.sl 15 [] .full), cellsN m, zS] rfl rfl
  have h39 := (n39_ix [] 0 rfl (by omega) (gtN m.Router) 40 [] [.iptr (cellsN m) 0] [] (by simp [low, low0]) (by simp) (fun x hx => by cases hx)).wk [.sl 15 [] .full, .fn 40 [] [.iptr (cellsN m) 0]] (by simp) (by simp)
  have h39 := h39.up' [cellsSx s (.sl 15 [] .full), [], zS] rfl rfl
  have h41 := ((n41_insz m).wk [.sl 15 [] .full, .int .i64 0, .sl 15 [.agg (ceN m)] .full] (by simp) (by simp)).upAll [cellsSx s (.sl 15 [] .full), [], zS] (by simp [eN.rowNoid, -List.all_eq_true]) rfl rfl
  have hw : withI s m = { s with N := [m] } := by simp [withI, withL, hn, insL, posF]
  have hL2 := eN.rowLen [m]
  have hch := eN.chunk [m] 1 rfl
  have htr := eN.rowTree [m]
  have htk : List.take 15 (rowC ceN [m]) = rowC ceN [m] := List.take_of_length_le (by rw [hL2]; simp)
  rw [hw]
  simp only [hn, idxL] at h38 h39
  simp
  refine ⟨_, _, .inl (by simpa [ifs0, ifc0] using h36), by simp, ?_⟩
  simp
  refine ⟨_, _, .inl (by simpa using h37 _), by simp, ?_⟩
  simp
  refine ⟨_, _, .inl (by simpa [ifs0, ifc0] using h38), by simp, ?_⟩
  simp
  refine ⟨_, _, .inl (by simpa [ifs0, ifc0] using h39), by simp, ?_⟩
  simp
  refine ⟨_, _, .inl (by simpa [ren, ren0, grow, ifs0, ifc0, ceN] using h41), by simp, ?_⟩
  simp [hL2, htk, hch, htr, -List.all_eq_true, -encN]
  rfl
end Go.Proofs.Yticijodoelphcaa
