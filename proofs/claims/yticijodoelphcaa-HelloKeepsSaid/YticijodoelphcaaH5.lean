import Derived.Test.YticijodoelphcaaH4
set_option linter.unusedSimpArgs false
set_option linter.unusedVariables false
namespace Go.Proofs.Yticijodoelphcaa
open Go Go.Am

-- hello.clone of a state without neighbors
set_option maxHeartbeats 4000000 in
set_option maxRecDepth 10000 in
theorem f36z (s : Ifs) (hn : s.N = []) : CFun Try.prog 36 [encS s] [] (.agg (cellsSx s (.sl 15 [] .full))) [] := by
  refine CFun.intro (tr := [100009]) (fz := []) (n := 30) (rs := [.cell 2 30]) Try.func36 rfl (by kernel_rfl) rfl rfl mixed (by kernel_rfl) (by simp) (by simp) ?_
  simp [hn]
  refine LoopK.intro (tr := []) mixed (by kernel_rfl) (fun _ : Nat => [(1, .ptr 0 0), (2, .ptr 1 0), (3, .sl 15 [] .full), (14, .sl 15 [] .full), (15, .int .i64 0), (16, .int .i64 0)]) (fun _ => [cellsS s, cellsS ifs0]) (fun _ => True) (fun _ => 0) 0 ?_ ?_ ?_
  · simp
  · simp [ifs0, ifc0, hn]
  · rintro i _
    simp
-- hello.place$1
set_option maxRecDepth 10000 in
theorem f57 (n : Nbr) (r : Int) : CFun Try.prog 57 [.agg (ceN n), .iptr [.int .u32 r] 0] [] (.bool (isN r n)) [] := by
  refine CFun.intro (tr := []) (fz := []) (n := 8) (rs := [.tmp 3]) Try.func57 rfl (by kernel_rfl) rfl rfl mixed (by kernel_rfl) (by simp) (by simp) ?_
  by_cases h : n.Router = r <;> simp [isN, h, ceN]
-- hello.place
set_option maxHeartbeats 4000000 in
set_option maxRecDepth 10000 in
theorem f38 (s : Ifs) (hlen : s.N.length < 1000000000000) (r : Int) : CFun Try.prog 38 [encS s, .int .u32 r] [] (.int .i64 (idxL (isN r) s.N 0)) [] := by
  refine CFun.intro (tr := [2000003000002]) (fz := []) (n := 9) (rs := [.tmp 4]) Try.func38 rfl (by kernel_rfl) rfl rfl mixed (by kernel_rfl) (by simp) (by simp) ?_
  have h : CFun Try.prog 39 [.sl 15 (s.N.map encN) .sh, .fn 57 [] [.iptr [.int .u32 r] 0]] [cellsS s, []] (.int .i64 (idxL (isN r) s.N 0)) [cellsS s, []] := n39_ix s.N _ rfl (by omega) (isN r) 57 [] [.iptr [.int .u32 r] 0] [cellsS s, []] (by simp [low, low0]) (by simp) (fun x _ => (f57 x r).up' _ rfl rfl)
  simp
  refine ⟨_, _, .inl (by simpa using h), by simp, ?_⟩
  simp
theorem lendS {f : FuncId} {s : Ifs} {n : Nat} (hn : s.N.length = n) (h0 : 0 < n) {rest : List AVal} {x : AVal} {H : List (List AVal)} {id : Nat} (h : CFun Try.prog f (encS s :: rest) [] x []) (hid : H[id]? = some (rowC ceN s.N))
    (hr : rest.map (frzV id (rowC ceN s.N) true) = rest) (hno : rest.all noid = true) (hx : flatV x = true) : CFun Try.prog f (.mix (cellsSx s (.osl id 0 n (some n) 15)) :: rest) H x H := by
  have hL := eN.rowLen s.N
  have hch : chunk true (rowC ceN s.N) 0 15 n = s.N.map encN := eN.chunk s.N n hn
  have e1 : frzV id (rowC ceN s.N) true (.mix (cellsSx s (.osl id 0 n (some n) 15))) = encS s := by
    have hf : 0 + n * 15 ≤ (rowC ceN s.N).length := by omega
    have hf' : n * 15 ≤ s.N.length * 15 := by omega
    simp [frzV, frz1, frz0, mixN, hch, hf', hL]
  have hne : rowC ceN s.N ≠ [] := by
    intro e
    rw [e] at hL
    simp only [List.length_nil] at hL
    omega
  refine CFun.lend (id := id) (cs0 := rowC ceN s.N) (cs := rowC ceN s.N) (ag := true) ?_ hid hne (fun _ _ h => h) (Nat.le_refl _) (eN.rowTree _) ?_ hx
  · rw [List.map_cons, e1, hr]; exact h
  · rw [List.map_cons, e1, hr, List.all_cons, hno]; rfl
end Go.Proofs.Yticijodoelphcaa
