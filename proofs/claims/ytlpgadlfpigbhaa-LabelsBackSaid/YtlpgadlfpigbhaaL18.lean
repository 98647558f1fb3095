import Derived.Test.YtlpgadlfpigbhaaL17
set_option linter.unusedSimpArgs false
set_option linter.unusedVariables false
namespace Go.Proofs.Ytlpgadlfpigbhaa
open Go Go.Am

theorem delRow_noid (p : Bnd → Bool) (l : List Bnd) : (delRow p l).all noid0 = true := row_noid _ _
theorem delRow_len (p : Bnd → Bool) (l : List Bnd) : (delRow p l).length = l.length * 4 := by
  have := List.length_filter_le (fun x => !p x) l
  simp only [delRow, List.length_append, flatB_len, List.length_replicate]
  omega
theorem delRow_take (p : Bnd → Bool) (l : List Bnd) : (delRow p l).take ((l.filter fun x => !p x).length * 4) = flatB (l.filter fun x => !p x) := by
  rw [delRow, List.take_append_of_le_length (by rw [flatB_len]; omega), List.take_of_length_le (by rw [flatB_len]; omega)]

set_option maxHeartbeats 1000000 in
set_option maxRecDepth 10000 in
theorem c23 (l : List Bnd) (n : Nat) (hn : l.length = n) (hlen : n < 1099511627776) (p : Pfx) (peer : Int) : CFun Try.prog 23 [.sl 4 (l.map encB) .sh, encP p, .int .u32 peer] [] (.tup [.sl 4 ((delL l p peer).map encB) .sh, .bool (decide ((delL l p peer).length < l.length))]) [] := by
  refine CFun.intro (tr := []) (fz := [(6, 1, true)]) (n := 21) (rs := [.tmp 6, .tmp 7]) Try.func23 rfl (by kernel_rfl) rfl rfl mixed (by kernel_rfl) (by simp) (by simp) ?_
  by_cases h0 : n = 0
  · have hl : l = [] := List.eq_nil_of_length_eq_zero (by omega)
    subst hl
    have h37 := c37e.up' [cellsP p] rfl rfl
    have h35 := (c35 p peer).up' [cellsP p] rfl rfl
    have h36 := (c36e 43 [] [.iptr (cellsP p) 0, .iptr [.int .u32 peer] 0] rfl rfl (isB p peer) (fun x => c43' x p peer)).up' [cellsP p] rfl rfl
    simp
    refine ⟨_, _, .inl (by simpa using h37), by simp, ?_⟩
    simp
    refine ⟨_, _, .inl (by simpa using h35), by simp, ?_⟩
    simp
    refine ⟨_, _, .inl (by simpa using h36), by simp, ?_⟩
    simp [delL]
  · have h37 := (c37 l (by rintro rfl; simp at hn; omega) (by omega)).upNew [cellsP p] (flatB_noid l) rfl rfl
    simp
    refine ⟨_, _, .inl (by simpa [cargs] using h37), by simp, ?_⟩
    simp
    have h35 := (c35 p peer).up' [cellsP p, flatB l] rfl rfl
    refine ⟨_, _, .inl (by simpa using h35), by simp, ?_⟩
    simp
    have h36 := (c36 l n hn hlen (isB p peer) 43 [] [.iptr (cellsP p) 0, .iptr [.int .u32 peer] 0] rfl rfl (fun x => c43' x p peer)).at (H := [cellsP p, flatB l]) (id := 1) rfl (flatB_noid l) (delRow_noid _ _) (by simp [low, low0]) rfl
    have e36 : (l.filter fun x => !isB p peer x) = delL l p peer := rfl
    rw [e36] at h36
    refine ⟨_, _, .inl (by simpa [ren, ren0, hn] using h36), by simp, ?_⟩
    have hln := delRow_len (isB p peer) l
    have htk := delRow_take (isB p peer) l
    rw [e36] at htk
    have hpos : 0 < l.length * 4 := by omega
    have hch := chunk_flatB (delL l p peer) _ rfl
    have htr := flatB_tree (delL l p peer)
    have hL := flatB_len (delL l p peer)
    simp [hln, htk, hpos, hch, htr, hL, -List.all_eq_true, -encB]
end Go.Proofs.Ytlpgadlfpigbhaa
