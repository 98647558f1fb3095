import Derived.Test.YtlpgadlfpigbhaaL6
set_option linter.unusedSimpArgs false
set_option linter.unusedVariables false
namespace Go.Proofs.Ytlpgadlfpigbhaa
open Go Go.Am

def isB (p : Pfx) (peer : Int) (b : Bnd) : Bool := decide (b.P = p) && decide (b.Peer = peer)
@[simp] def ofV (p : Pfx) (peer : Int) : AVal := .fn 43 [] [.iptr (cellsP p) 0, .iptr [.int .u32 peer] 0]

set_option maxHeartbeats 2000000 in
set_option maxRecDepth 10000 in
theorem c35 (p : Pfx) (peer : Int) : CFun Try.prog 35 [encP p, .int .u32 peer] [] (ofV p peer) [] := by
  refine CFun.intro (tr := []) (fz := [(4, 0, true), (4, 1, true)]) (n := 6) (rs := [.tmp 4]) Try.func35 rfl (by kernel_rfl) rfl rfl mixed (by kernel_rfl) (by simp) (by simp) ?_
  simp

set_option maxHeartbeats 2000000 in
set_option maxRecDepth 10000 in
theorem c43 (b : Bnd) (p : Pfx) (peer : Int) : CFun Try.prog 43 [encB b, .iptr (cellsP p) 0, .iptr [.int .u32 peer] 0] [] (.bool (isB p peer b)) [] := by
  refine CFun.intro (tr := []) (fz := []) (n := 15) (rs := [.tmp 4]) Try.func43 rfl (by kernel_rfl) rfl rfl mixed (by kernel_rfl) (by simp) (by simp) ?_
  have e : b.P = p ↔ b.P.Addr = p.Addr ∧ b.P.Len = p.Len := by cases h : b.P; cases p; simp
  by_cases a1 : b.P.Addr = p.Addr
  · by_cases a2 : b.P.Len = p.Len
    · by_cases a3 : b.Peer = peer
      · simp [a1, a2, a3, isB, e]
      · simp [a1, a2, a3, isB, e]
    · simp [a1, a2, isB, e]
  · simp [a1, isB, e]
set_option maxHeartbeats 2000000 in
set_option maxRecDepth 10000 in
theorem c34 (l : List Bnd) (n : Nat) (hn : l.length = n) (hlen : n < 1099511627776) (p : Bnd → Bool) (f : FuncId) (fs cs : List AVal) (H : List (List AVal)) (hf : low H.length (.fn f fs cs) = true) (hH : LeBoxes H.length H H)
    (hp : ∀ x ∈ l, CFun Try.prog f (fs ++ [encB x] ++ cs) H (.bool (p x)) H) : CFun Try.prog 34 [.sl 4 (l.map encB) .sh, .fn f fs cs] H (.int .i64 (idxL p l 0)) H := by
  refine CFun.intro (tr := []) (fz := []) (n := 19) (rs := [.tmp 4]) Try.func34 rfl (by kernel_rfl) rfl rfl mixed (by kernel_rfl) (by simp) (by simp) ?_
  simp
  refine LoopK.intro (tr := []) mixed (by kernel_rfl) (fun i : Nat => [(0, .sl 4 (l.map encB) .sh), (1, .fn f fs cs), (7, .int .i64 n), (8, .int .i64 i)]) (fun _ => H) (fun i => i ≤ n ∧ idxL p l 0 = idxL p (l.drop i) i) (fun i => n - i) 0 ?_ ?_ ?_
  · simp
  · simp [hn, hH]
    simpa [low] using hf
  · rintro i ⟨h1, h2⟩
    by_cases hi : i < n
    · obtain ⟨x, hx, hd⟩ := get_drop (l := l) (i := i) (by omega)
      have hpx := hp x (List.mem_of_getElem? hx)
      rw [hd] at h2
      clear hd hn
      have w1 : IntKind.i64.wrap ((i : Int) + 1) = i + 1 := wrap_in (by omega)
      simp [hi, hx]
      refine ⟨_, _, .inl (by simpa using hpx), by simp, ?_⟩
      simp only [idxL] at h2
      by_cases hpb : p x = true
      · simp [hpb, hH, h2]
      · rw [if_neg hpb] at h2
        simp [hpb, w1, hH]
        refine ⟨i + 1, ⟨by omega, h2⟩, by omega, ?_⟩
        simp
        simpa [low] using hf
    · have : i = n := by omega
      subst this
      rw [List.drop_eq_nil_of_le (by omega)] at h2
      simp [h2, idxL, hH]

end Go.Proofs.Ytlpgadlfpigbhaa
