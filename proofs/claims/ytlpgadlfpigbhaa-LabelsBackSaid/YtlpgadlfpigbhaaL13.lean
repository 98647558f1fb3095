import Derived.Test.YtlpgadlfpigbhaaL12
set_option linter.unusedSimpArgs false
set_option linter.unusedVariables false
namespace Go.Proofs.Ytlpgadlfpigbhaa
open Go Go.Am

set_option maxHeartbeats 2000000 in
set_option maxRecDepth 10000 in
theorem c37e : CFun Try.prog 37 [.sl 4 [] .sh] [] (.sl 4 [] .full) [] := by
  refine CFun.intro (tr := [100007]) (fz := []) (n := 8) (rs := [.tmp 2]) Try.func37 rfl (by kernel_rfl) rfl rfl mixed (by kernel_rfl) (by simp) (by simp) ?_
  simp

set_option maxHeartbeats 4000000 in
set_option maxRecDepth 10000 in
theorem c36e (f : FuncId) (fs cs : List AVal) (hfs : fs.all noid0 = true) (hcs : cs.all noid0 = true)
    (p : Bnd → Bool) (hp : ∀ x, CFun Try.prog f (fs ++ [encB x] ++ cs) [] (.bool (p x)) []) : CFun Try.prog 36 [.sl 4 [] .full, .fn f fs cs] [] (.sl 4 [] .full) [] := by
  refine CFun.intro (tr := []) (fz := []) (n := 42) (rs := [.tmp 4]) Try.func36 rfl (by kernel_rfl) rfl rfl mixed (by kernel_rfl) (by simp) (by simp) ?_
  have hlow : low 0 (.fn f fs cs) = true := noid_low (by simp [noid, hfs, hcs])
  have h := c34 [] 0 rfl (by omega) p f fs cs [] hlow (by simp) (fun x hx => by cases hx)
  simp
  refine ⟨_, _, .inl (h.wk [.sl 4 [] .full, .fn f fs cs] (by simp) (by simp)), trivial, ?_⟩
  simp [idxL]
end Go.Proofs.Ytlpgadlfpigbhaa
