import Derived.Test.YthonenmafbpbkaaFXDS18
set_option linter.unusedSimpArgs false
set_option linter.unusedVariables false
namespace Go.Proofs.Ythonenmafbpbkaa
open Go Go.Am
end Go.Proofs.Ythonenmafbpbkaa

namespace Go.Proofs.Ythonenmafbpbkaa
open Go Go.Am
@[simp] def encP (p : Int × Int) : AVal := .agg [.int .u32 p.1, .int .i64 p.2]
end Go.Proofs.Ythonenmafbpbkaa

namespace Go.Proofs.Ythonenmafbpbkaa
open Go Go.Am
theorem ofGift {P : Program} {f : FuncId} {args : List AVal} {H H' : List (List AVal)} {x : AVal} (h : CFunO P f args H x H') (ha : args.all (fun y => !y.isOwn) = true) : CFun P f args H x H' := by
 refine ⟨h.1, fun G w cargs h1 h2 h3 h4 h5 => h.2 G w cargs h1 h2 h3 h4 fun i y v hy hv => ⟨h5 i y v hy hv, OwnAt.of_not ?_⟩⟩
 simp only [List.all_eq_true, Bool.not_eq_true'] at ha
 exact ha y (List.mem_of_getElem? hy)
def Acc (b : List Int) (x : AVal) : Prop := x = .sl 1 (b.map enc8) .own ∨ (b = [] ∧ ∃ k, x = .sl k [] .full)
set_option maxHeartbeats 2000000 in
set_option maxRecDepth 10000 in
theorem o61 (n : Nat) (h1 : 1 ≤ n) (hn : n ≤ 8) (b : List Int) (X : AVal) (hX : Acc b X) (hb : b.length < 1099511627000) (y : Int) (H : List (List AVal)) (hH : LeBoxes H.length H H) :
   CFunO Try.prog 117 [X, .int .i64 n, .int .u64 y] H (.sl 1 ((b ++ numB n y).map enc8) .own) H := by
 refine CFunO.intro (tr := [14, 23]) (fz := []) (n := 24) (rs := [.tmp 6]) Try.func117 rfl (by kernel_rfl) rfl rfl mixed (by kernel_rfl) (by simp) ?_
 have w0 : IntKind.i64.wrap ((n : Int) - 1) = n - 1 := wrap_in (by omega)
 simp [w0, -List.map_append]
 refine LoopK.intro (tr := [14, 23]) mixed (by kernel_rfl) (fun q : Nat × List Int × AVal => [(0, q.2.2), (2, .int .u64 y), (7, .int .i64 ((q.1 : Int) - 1))]) (fun _ => H) (fun q => q.1 ≤ n ∧ Acc q.2.1 q.2.2 ∧ q.2.1.length + q.1 = b.length + n ∧ q.2.1 ++ numB q.1 y = b ++ numB n y) (fun q => q.1) (n, b, X) ?_ ?_ ?_
 · exact ⟨Nat.le_refl _, hX, rfl, rfl⟩
 · rcases hX with rfl | ⟨rfl, kk, rfl⟩ <;> simp [hH]
 · rintro ⟨k, out, Y⟩ ⟨k1, k2, k3, k4⟩
   simp only at k1 k2 k3 k4
   cases k with
   | zero =>
     simp only [numB, List.append_nil] at k4
     rcases k2 with rfl | ⟨rfl, kk, rfl⟩
     · simp [k4, hH, -List.map_append]
     · have := congrArg List.length k4
       simp [numB_len] at this
       omega
   | succ k =>
     have w1 : IntKind.i64.wrap (8 * (k : Int)) = 8 * k := wrap_in (by omega)
     have w2 : IntKind.i64.wrap ((k : Int) - 1) = k - 1 := wrap_in (by omega)
     have w3 : IntKind.u64.wrap (8 * (k : Int)) = 8 * k := by rw [wrap_u64]; omega
     have g0 : (0 : Int) ≤ k := by omega
     have g5 : ¬ (8 * (k : Int) < 0) := by omega
     have g6 : min (8 * (k : Int)).toNat IntKind.u64.bits = 8 * k := by
       have : IntKind.u64.bits = 64 := rfl
       omega
     have s1 : out.length + 1 ≤ 140737488355328 := by omega
     have hbt : IntKind.u8.wrap (y.fdiv (2 ^ (8 * k))) = bt y k := rfl
     have hnx : (out ++ [bt y k]) ++ numB k y = b ++ numB n y := by rw [← k4]; simp [numB]
     rcases k2 with rfl | ⟨rfl, kk, rfl⟩
     · simp [w1, w2, w3, g0, g5, g6, s1, hbt, hH]
       exact ⟨k, out ++ [bt y k], _, ⟨by omega, .inl rfl, by simp; omega, hnx⟩, by omega, by simp, by simp, rfl⟩
     · simp [w1, w2, w3, g0, g5, g6, hbt, hH]
       exact ⟨k, [bt y k], _, ⟨by omega, .inl rfl, by simp at k3 ⊢; omega, by simpa using hnx⟩, by omega, by simp, by simp, rfl⟩
end Go.Proofs.Ythonenmafbpbkaa
