import Derived.Test.YthonenmafbpbkaaFXE2
set_option linter.unusedSimpArgs false
set_option linter.unusedVariables false
namespace Go.Proofs.Ythonenmafbpbkaa
open Go Go.Am
end Go.Proofs.Ythonenmafbpbkaa

namespace Go.Proofs.Ythonenmafbpbkaa
open Go Go.Am
def ceA (l : Lsa) : List AVal := cellsA l
theorem eA' : Enc ceA 15 := eA
set_option maxHeartbeats 4000000 in
set_option maxRecDepth 10000 in
theorem f97_ix (l : List Lsa) (n : Nat) (hn : l.length = n) (hlen : n < 1099511627776) (p : Lsa → Bool) (f : FuncId) (fs cs : List AVal) (H : List (List AVal)) (hf : low H.length (.fn f fs cs) = true) (hH : LeBoxes H.length H H)
   (hp : ∀ x ∈ l, CFun Try.prog f (fs ++ [.agg (ceA x)] ++ cs) H (.bool (p x)) H) : CFun Try.prog 94 [.sl 15 (l.map fun x => AVal.agg (ceA x)) .sh, .fn f fs cs] H (.int .i64 (idxL p l 0)) H := by
 refine CFun.intro (tr := []) (fz := []) (n := 19) (rs := [.tmp 4]) Try.func94 rfl (by kernel_rfl) rfl rfl mixed (by kernel_rfl) (by simp) (by simp) ?_
 simp
 refine LoopK.intro (tr := []) mixed (by kernel_rfl) (fun i : Nat => [(0, .sl 15 (l.map fun x => AVal.agg (ceA x)) .sh), (1, .fn f fs cs), (7, .int .i64 n), (8, .int .i64 i)]) (fun _ => H) (fun i => i ≤ n ∧ idxL p l 0 = idxL p (l.drop i) i) (fun i => n - i) 0 ?_ ?_ ?_
 · simp
 · simp [hn, hH]
   simpa [low] using hf
 · rintro i ⟨h1, h2⟩
   by_cases hi : i < n
   · obtain ⟨x, hx, hd⟩ := get_drop (l := l) (i := i) (by omega)
     have hpx := hp x (List.mem_of_getElem? hx)
     rw [hd] at h2
     clear hd hn
     have w1 : IntKind.i64.wrap ((i : Int) + 1) = i + 1 := wrap_in (by omega)
     have hl := (eA').len x
     have ht := List.all_eq_true.1 ((eA').tree x)
     have hdis := (eA').dis x
     have htk : (List.take 15 (ceA x)) = ceA x := List.take_of_length_le (by omega)
     simp [hi, hx, hl, ht, hdis, htk]
     refine ⟨_, _, .inl (by simpa [cargs] using hpx), by simp, ?_⟩
     simp only [idxL] at h2
     by_cases hpb : p x = true
     · simp [hpb, hH, h2]
     · rw [if_neg hpb] at h2
       simp [hpb, w1, hH]
       refine ⟨i + 1, ⟨by omega, h2⟩, by omega, ?_⟩
       simp
       simpa [low] using hf
   · have : i = n := by omega
     subst this
     rw [List.drop_eq_nil_of_le (by omega)] at h2
     simp [h2, idxL, hH]
end Go.Proofs.Ythonenmafbpbkaa

namespace Go.Proofs.Ythonenmafbpbkaa
open Go Go.Am
end Go.Proofs.Ythonenmafbpbkaa
