/- The search: states. -/
import Derived.Test.YtgcnlmcpmocbhaaAmAC
import Derived.Test.YtgcnlmcpmocbhaaAmAA
import Derived.Test.YtgcnlmcpmocbhaaC7
import Derived.Test.YtgcnlmcpmocbhaaAmAE
import Derived.Test.YtgcnlmcpmocbhaaAmA
set_option linter.unusedSimpArgs false
set_option linter.unusedVariables false
namespace Go.Proofs.Ytgcnlmcpmocbhaa
open Go Go.Am

/-- The search's own variable. -/
@[simp] def sC (ls : List Lnk) (th : List Int) (n t : Nat) : List AVal := [.sl 13 (ls.map encL) .own, .sl 1 (th.map encI) .sh, .int .i64 n, .int .i64 t]
theorem sC_ne (ls : List Lnk) (th : List Int) (n t : Nat) : sC ls th n t ≠ [] := by simp
def entK (th : List Int) (a k : Nat) : Nat := if th[k]? = some (a : Int) then k + 1 else k
def entN (th : List Int) (n a k : Nat) : Nat := entK th a k * n + a
theorem entK_le {th : List Int} {a k : Nat} : entK th a k ≤ k + 1 := by unfold entK; split <;> omega
theorem entK_len {th : List Int} {a k : Nat} (h : k ≤ th.length) : entK th a k ≤ th.length := by
  unfold entK
  split
  · rename_i e
    have := (List.getElem?_eq_some_iff.1 e).1
    omega
  · exact h
theorem bound_st {n a k : Nat} (hn : n ≤ 128) (ha : a < 128) (hk : k ≤ 65) : k * n + a ≤ 8448 := by
  have : k * n ≤ 65 * 128 := Nat.mul_le_mul hk hn
  omega
set_option maxHeartbeats 4000000 in
set_option maxRecDepth 10000 in
theorem c70 (ls : List Lnk) (th : List Int) (n t a k : Nat) (hn : n ≤ 128) (ha : a < 128) (hk : k ≤ 65) : CFun Try.prog 70 [.ptr 0 0, .int .i64 a, .int .i64 k] [sC ls th n t] (.int .i64 ((k * n + a : Nat) : Int)) [sC ls th n t] := by
  refine CFun.intro (tr := []) (fz := []) (n := 15) (rs := [.tmp 6]) Try.func70 rfl (by kernel_rfl) rfl rfl mixed (by kernel_rfl) (by simp) (by simp) ?_
  have hb := bound_st hn ha hk
  have hkn : k * n ≤ 8448 := by omega
  have w1 : IntKind.i64.wrap ((k : Int) * n) = ((k * n : Nat) : Int) := by rw [← Int.natCast_mul]; exact wrap_in (by omega)
  have w2 : IntKind.i64.wrap (((k * n : Nat) : Int) + a) = ((k * n + a : Nat) : Int) := wrap_in (by omega)
  rw [Int.natCast_mul] at w1 w2
  simp [w1, w2]
set_option maxHeartbeats 4000000 in
set_option maxRecDepth 10000 in
theorem c49 (ls : List Lnk) (th : List Int) (n t a k : Nat) (hn : n ≤ 128) (ha : a < 128) (hth : th.length ≤ 64) (hk : k ≤ th.length) : CFun Try.prog 49 [.ptr 0 0, .int .i64 a, .int .i64 k] [sC ls th n t] (.int .i64 (entN th n a k)) [sC ls th n t] := by
  refine CFun.intro (tr := []) (fz := []) (n := 31) (rs := [.tmp 6]) Try.func49 rfl (by kernel_rfl) rfl rfl mixed (by kernel_rfl) (by simp) (by simp) ?_
  have h := fun q hq => c70 ls th n t a q hn ha hq
  have w1 : IntKind.i64.wrap ((k : Int) + 1) = ((k + 1 : Nat) : Int) := wrap_in (by omega)
  unfold entN entK
  by_cases hi : k < th.length
  · have hx : th[k]? = some (th[k]'hi) := List.getElem?_eq_getElem hi
    by_cases hz : th[k]'hi = (a : Int)
    · simp [hi, hx, hz, w1]
      refine ⟨_, _, .inl (by simpa using h (k + 1) (by omega)), by simp, ?_⟩
      simp
    · simp [hi, hx, hz]
      refine ⟨_, _, .inl (by simpa using h k (by omega)), by simp, ?_⟩
      simp
  · have hx : th[k]? = none := List.getElem?_eq_none (by omega)
    simp [hi, hx]
    refine ⟨_, _, .inl (by simpa using h k (by omega)), by simp, ?_⟩
    simp
set_option maxHeartbeats 4000000 in
set_option maxRecDepth 10000 in
theorem c66 (ls : List Lnk) (th : List Int) (n t : Nat) (hn : n ≤ 128) (ht : t < 128) (hth : th.length ≤ 64) : CFun Try.prog 66 [.ptr 0 0] [sC ls th n t] (.int .i64 ((th.length * n + t : Nat) : Int)) [sC ls th n t] := by
  refine CFun.intro (tr := []) (fz := []) (n := 14) (rs := [.tmp 2]) Try.func66 rfl (by kernel_rfl) rfl rfl mixed (by kernel_rfl) (by simp) (by simp) ?_
  have h := c70 ls th n t t th.length hn ht (by omega)
  simp
  refine ⟨_, _, .inl (by simpa using h), by simp, ?_⟩
  simp
def keyN (c h : Nat) : Nat := c * 65536 + h
theorem or_key (c h : Nat) (hc : c < 1099511627776) (hh : h < 65536) : IntKind.i64.wrap (((((c * 65536 : Nat) : Int) % 2 ^ IntKind.i64.bits).toNat ||| h % 2 ^ IntKind.i64.bits : Nat) : Int) = ((keyN c h : Nat) : Int) := by
  have e : ((((c * 65536 : Nat) : Int) % 2 ^ IntKind.i64.bits).toNat ||| h % 2 ^ IntKind.i64.bits) = keyN c h := by
    have e1 : (((c * 65536 : Nat) : Int) % 2 ^ IntKind.i64.bits).toNat = c * 65536 := by
      rw [Int.emod_eq_of_lt (by omega) (by have : (2 : Int) ^ IntKind.i64.bits = 18446744073709551616 := by decide
                                           omega)]
      omega
    have e2 : h % 2 ^ IntKind.i64.bits = h := Nat.mod_eq_of_lt (by have : 2 ^ IntKind.i64.bits = 18446744073709551616 := by decide
                                                                   omega)
    rw [e1, e2]
    have := Nat.shiftLeft_add_eq_or_of_lt (i := 16) (b := h) (by omega) c
    rw [Nat.shiftLeft_eq, show (2 : Nat) ^ 16 = 65536 from rfl] at this
    unfold keyN
    omega
  rw [e]
  exact wrap_in (by unfold keyN; omega)
set_option maxHeartbeats 4000000 in
set_option maxRecDepth 10000 in
theorem c68 (c h : Nat) (hc : c < 1099511627776) (hh : h < 65536) : CFun Try.prog 68 [.agg [.int .i64 c, .int .i64 h]] [] (.int .i64 (keyN c h)) [] := by
  refine CFun.intro (tr := []) (fz := []) (n := 9) (rs := [.tmp 2]) Try.func68 rfl (by kernel_rfl) rfl rfl mixed (by kernel_rfl) (by simp) (by simp) ?_
  have w1 : IntKind.i64.wrap ((c : Int) * 65536) = ((c * 65536 : Nat) : Int) := wrap_in (by omega)
  have w2 := or_key c h hc hh
  rw [Int.natCast_mul] at w1 w2
  have w0 : (2 : Int) ^ (min 16 IntKind.i64.bits) = 65536 := by decide
  simp [w0, w1]
  simpa using w2
set_option maxHeartbeats 4000000 in
set_option maxRecDepth 10000 in
theorem c53 (a b c d : Int) : CFun Try.prog 53 [.agg [.int .i64 a, .int .i64 b], .agg [.int .i64 c, .int .i64 d]] [] (.bool (decide (a < c) || decide (a = c) && decide (b < d))) [] := by
  refine CFun.intro (tr := []) (fz := []) (n := 24) (rs := [.tmp 4]) Try.func53 rfl (by kernel_rfl) rfl rfl mixed (by kernel_rfl) (by simp) (by simp) ?_
  by_cases h1 : a < c
  · simp [h1]
  · by_cases h2 : a = c
    · simp [h2]
    · simp [h1, h2]
end Go.Proofs.Ytgcnlmcpmocbhaa

/- The search: steps, with a function that changes one variable. -/
namespace Go.Proofs.Ytgcnlmcpmocbhaa
open Go Go.Am

def okLk (n : Nat) (x : Lnk) : Prop := 0 ≤ x.From ∧ x.From < n ∧ 0 ≤ x.To ∧ x.To < n ∧ 1 ≤ x.Cost ∧ x.Cost ≤ 65535
def arcN (th : List Int) (n k : Nat) (x : Lnk) : Nat × Nat × Nat := (k * n + x.From.toNat, entN th n x.To.toNat k, x.Cost.toNat)
def arcsN (ls : List Lnk) (th : List Int) (n : Nat) : List (Nat × Nat × Nat) := (List.range (th.length + 1)).flatMap fun k => ls.map (arcN th n k)
theorem at0 {f : FuncId} {ar : List AVal} {x : AVal} {cs : List AVal} (h : CFun Try.prog f (.ptr 0 0 :: ar) [cs] x [cs]) (hc : cs.all noid0 = true) (ha : ar.all noid = true) (hx : noid x = true) (Z : List (List AVal)) : CFun Try.prog f (.ptr 0 0 :: ar) (cs :: Z) x (cs :: Z) := by
  have := h.at (H := cs :: Z) (id := 0) rfl hc hc (by simp only [List.all_cons, Bool.and_eq_true]; exact ⟨rfl, noid_low1 ha⟩) (noid_low hx)
  rw [List.map_cons, noid_maps ha, noid_ren hx] at this
  exact this
set_option maxHeartbeats 8000000 in
set_option maxRecDepth 10000 in
theorem c62 (ls : List Lnk) (th : List Int) (n t : Nat) (hn : n ≤ 128) (hth : th.length ≤ 64) (hls : ∀ x ∈ ls, okLk n x) (L : Nat) (hL : ls.length = L) (hL2 : L ≤ 1024) (K : Nat) (hK : th.length + 1 = K) (g : FuncId) (sz : Nat) (R : Nat → List AVal) (hR : ∀ m j, LeCells m (R j) (R j))
    (hcl : ∀ k < K, ∀ i x, ls[i]? = some x → ∀ Z, CFun Try.prog g ([.int .i64 ((arcN th n k x).1 : Nat), .int .i64 ((arcN th n k x).2.1 : Nat), .int .i64 ((arcN th n k x).2.2 : Nat)] ++ [.ptr 2 0]) (sC ls th n t :: R (k * L + i) :: [.osl 1 0 sz (some sz) 1] :: Z) (.tup []) (sC ls th n t :: R (k * L + i + 1) :: [.osl 1 0 sz (some sz) 1] :: Z)) :
    CFun Try.prog 62 [.ptr 0 0, .fn g [] [.ptr 2 0]] [sC ls th n t, R 0, [.osl 1 0 sz (some sz) 1]] (.tup []) [sC ls th n t, R (K * L), [.osl 1 0 sz (some sz) 1]] := by
  refine CFun.intro (tr := [2500038]) (fz := []) (n := 41) (rs := []) Try.func62 rfl (by kernel_rfl) rfl rfl mixed (by kernel_rfl) (by simp) (by simp) ?_
  have h70 := fun a k ha hk Z => at0 (c70 ls th n t a k hn ha hk) rfl rfl rfl Z
  have h49 := fun a k ha hk Z => at0 (c49 ls th n t a k hn ha hth hk) rfl rfl rfl Z
  have w1 : IntKind.i64.wrap ((th.length : Int) + 1) = K := by rw [← hK]; exact wrap_in (by omega)
  simp only [sC] at *
  simp [w1]
  refine LoopK.intro (tr := [2500038]) mixed (by kernel_rfl) (fun k : Nat => [(0, .ptr 0 0), (1, .fn g [] [.ptr 2 0]), (12, .int .i64 K), (13, .int .i64 k)]) (fun k => [[.sl 13 (ls.map encL) .own, .sl 1 (th.map encI) .sh, .int .i64 n, .int .i64 t], R (k * L), [.osl 1 0 sz (some sz) 1]]) (fun k => k ≤ K) (fun k => K - k) 0 ?_ ?_ ?_
  · simp
  · simp [hR]
  · intro k hk
    by_cases hk2 : k < K
    case neg =>
      have : k = K := by omega
      subst this
      simp [hR]
    have w2 : IntKind.i64.wrap ((k : Int) + 1) = k + 1 := wrap_in (by omega)
    simp [hk2, hL]
    refine LoopK.intro (tr := [2500038]) mixed (by kernel_rfl) (fun i : Nat => [(0, .ptr 0 0), (1, .fn g [] [.ptr 2 0]), (12, .int .i64 K), (13, .int .i64 k), (4, .int .i64 k), (19, .sl 13 (ls.map encL) .sh), (20, .int .i64 L), (21, .int .i64 i)]) (fun i => [[.sl 13 (ls.map encL) .own, .sl 1 (th.map encI) .sh, .int .i64 n, .int .i64 t], R (k * L + i), [.osl 1 0 sz (some sz) 1]]) (fun i => i ≤ L) (fun i => L - i) 0 ?_ ?_ ?_
    · simp
    · simp [hR]
    · intro i hi
      by_cases hi2 : i < L
      case neg =>
        have : i = L := by omega
        subst this
        have e : k * i + i = (k + 1) * i := by rw [Nat.succ_mul]
        simp [w2]
        exact ⟨k + 1, by omega, by omega, by simp [hR, e]⟩
      have hx : ls[i]? = some (ls[i]'(by omega)) := List.getElem?_eq_getElem (by omega)
      obtain ⟨x, hx'⟩ : ∃ x, x = ls[i]'(by omega) := ⟨_, rfl⟩
      rw [← hx'] at hx
      obtain ⟨o1, o2, o3, o4, o5, o6⟩ := hls x (List.mem_of_getElem? hx)
      have w3 : IntKind.i64.wrap ((i : Int) + 1) = i + 1 := wrap_in (by omega)
      have hc := hcl k hk2 i x hx
      simp only [arcN] at hc
      have e1 : x.From = ((x.From.toNat : Nat) : Int) := by omega
      have e2 : x.To = ((x.To.toNat : Nat) : Int) := by omega
      have e3 : x.Cost = ((x.Cost.toNat : Nat) : Int) := by omega
      simp [hi2, hL, hx, gE hx]
      refine ⟨_, _, .inl (by rw [e1]; simpa using h70 x.From.toNat k (by omega) (by omega) _), by simp, ?_⟩
      simp
      refine ⟨_, _, .inl (by rw [e2]; simpa using h49 x.To.toNat k (by omega) (by omega) _), by simp, ?_⟩
      simp
      refine ⟨_, _, .inl (by rw [e3]; simpa using hc _), by simp [hR], ?_⟩
      simp [w3]
      exact ⟨i + 1, by omega, by omega, by simp [hR, Nat.add_assoc]⟩
end Go.Proofs.Ytgcnlmcpmocbhaa

/- The search: the steps into each state. -/
namespace Go.Proofs.Ytgcnlmcpmocbhaa
open Go Go.Am

@[simp] def encV (p : Nat × Nat) : AVal := .agg [.int .i64 p.1, .int .i64 p.2]
@[simp] def encM (l : List (Nat × Nat)) : AVal := .sl 2 (l.map encV) .own
theorem encM_le (m : Nat) (M : List (List (Nat × Nat))) : LeCells m (M.map encM) (M.map encM) := by
  induction M with
  | nil => trivial
  | cons a M ih => simp [LeCells] at ih ⊢; exact ih
/-- One more step into a state. -/
def putM (M : List (List (Nat × Nat))) (a : Nat × Nat × Nat) : List (List (Nat × Nat)) := M.set a.2.1 (M.getD a.2.1 [] ++ [(a.1, a.2.2)])
theorem putM_len (M : List (List (Nat × Nat))) (a : Nat × Nat × Nat) : (putM M a).length = M.length := by simp [putM]
set_option maxHeartbeats 4000000 in
set_option maxRecDepth 10000 in
theorem c63a (M : List (List (Nat × Nat))) (sz : Nat) (hM : M.length = sz) (x y c : Nat) (hy : y < sz) (l : List (Nat × Nat)) (hl : M[y]? = some l) (hlen : l.length < 1000000) :
    CFun Try.prog 63 [.int .i64 x, .int .i64 y, .int .i64 c, .ptr 1 0] [M.map encM, [.osl 0 0 sz (some sz) 1]] (.tup []) [(M.set y (l ++ [(x, c)])).map encM, [.osl 0 0 sz (some sz) 1]] := by
  refine CFun.intro (tr := [12, 1000012]) (fz := []) (n := 19) (rs := []) Try.func63 rfl (by kernel_rfl) rfl rfl mixed (by kernel_rfl) (by simp) (by simp) ?_
  have hle := fun m => encM_le m (M.set y (l ++ [(x, c)]))
  have b1 : l.length + 1 ≤ 140737488355328 := by omega
  have b2 : (l.length + 1) * 16 ≤ 140737488355328 := by omega
  have hy1 : y + 1 ≤ sz := hy
  simp only [List.map_set, encM, encV, List.map_append, List.map_cons, List.map_nil] at hle
  simp [hy, hy1, hM, hl, gE hl, b1, b2, hle]
  done

theorem flat_range {α : Type} (f : Nat → List α) (L : Nat) (hf : ∀ k, (f k).length = L) : ∀ (K k i : Nat), k < K → i < L → ((List.range K).flatMap f)[k * L + i]? = (f k)[i]? := by
  intro K
  induction K with
  | zero => intro k i h; omega
  | succ K ih =>
    intro k i hk hi
    have hl : ∀ K, ((List.range K).flatMap f).length = K * L := by
      intro K
      induction K with
      | zero => simp
      | succ K ih => rw [List.range_succ, List.flatMap_append, List.length_append, ih]; simp [hf, Nat.succ_mul]
    rw [List.range_succ, List.flatMap_append]
    by_cases e : k < K
    · rw [List.getElem?_append_left (by rw [hl]; have := Nat.mul_le_mul_right L (show k + 1 ≤ K by omega); rw [Nat.succ_mul] at this; omega)]
      exact ih k i e hi
    · have : k = K := by omega
      subst this
      rw [List.getElem?_append_right (by rw [hl]; omega), hl]
      simp
theorem arcs_len (ls : List Lnk) (th : List Int) (n : Nat) : (arcsN ls th n).length = (th.length + 1) * ls.length := by
  unfold arcsN
  generalize th.length + 1 = K
  induction K with
  | zero => simp
  | succ K ih => rw [List.range_succ, List.flatMap_append, List.length_append, ih]; simp [Nat.succ_mul]
theorem arcs_get {ls : List Lnk} {th : List Int} {n k i : Nat} {x : Lnk} (hk : k < th.length + 1) (hx : ls[i]? = some x) : (arcsN ls th n)[k * ls.length + i]? = some (arcN th n k x) := by
  have hi := (List.getElem?_eq_some_iff.1 hx).1
  unfold arcsN
  rw [flat_range _ ls.length (fun k => by simp) _ k i hk hi]
  simp [hx]
theorem arcs_bound {ls : List Lnk} {th : List Int} {n : Nat} (hls : ∀ x ∈ ls, okLk n x) {a : Nat × Nat × Nat} (ha : a ∈ arcsN ls th n) : a.1 < n * (th.length + 1) ∧ a.2.1 < n * (th.length + 1) ∧ 1 ≤ a.2.2 ∧ a.2.2 ≤ 65535 := by
  unfold arcsN at ha
  obtain ⟨k, hk, ha⟩ := List.mem_flatMap.1 ha
  obtain ⟨x, hx, rfl⟩ := List.mem_map.1 ha
  obtain ⟨o1, o2, o3, o4, o5, o6⟩ := hls x hx
  have hk := List.mem_range.1 hk
  have e1 : (k + 1) * n ≤ (th.length + 1) * n := Nat.mul_le_mul_right n (by omega)
  have e2 : (entK th x.To.toNat k + 1) * n ≤ (th.length + 1) * n := Nat.mul_le_mul_right n (by have := entK_len (th := th) (a := x.To.toNat) (k := k) (by omega); omega)
  rw [Nat.succ_mul] at e1 e2
  rw [Nat.mul_comm n]
  simp only [arcN, entN]
  omega
def inM (arcs : List (Nat × Nat × Nat)) (sz : Nat) : List (List (Nat × Nat)) := arcs.foldl putM (List.replicate sz [])
theorem inM_snoc (arcs : List (Nat × Nat × Nat)) (sz : Nat) (a : Nat × Nat × Nat) : inM (arcs ++ [a]) sz = putM (inM arcs sz) a := by simp [inM, List.foldl_append]
theorem inM_spec (arcs : List (Nat × Nat × Nat)) (sz : Nat) : (inM arcs sz).length = sz ∧ ∀ y < sz, (inM arcs sz)[y]? = some ((arcs.filter fun a => a.2.1 == y).map fun a => (a.1, a.2.2)) := by
  have main : ∀ (r : List (Nat × Nat × Nat)), (inM r.reverse sz).length = sz ∧ ∀ y < sz, (inM r.reverse sz)[y]? = some ((r.reverse.filter fun a => a.2.1 == y).map fun a => (a.1, a.2.2)) := by
    intro r
    induction r with
    | nil => simp +contextual [inM, List.getElem?_replicate]
    | cons a r ih =>
      rw [List.reverse_cons, inM_snoc]
      refine ⟨by rw [putM_len]; exact ih.1, fun y hy => ?_⟩
      unfold putM
      rw [List.getElem?_set]
      by_cases e : a.2.1 = y
      · subst e
        rw [if_pos rfl, if_pos (by rw [ih.1]; exact hy)]
        rw [List.getD_eq_getElem?_getD, ih.2 _ hy]
        simp [List.filter_append]
      · rw [if_neg e, ih.2 y hy]
        simp [List.filter_append, e]
  simpa using main arcs.reverse
set_option maxHeartbeats 1000000 in
theorem c62m (ls : List Lnk) (th : List Int) (n t : Nat) (hn : n ≤ 128) (hth : th.length ≤ 64) (hls : ∀ x ∈ ls, okLk n x) (hL2 : ls.length ≤ 1024) (sz : Nat) (hsz : n * (th.length + 1) = sz) :
    CFun Try.prog 62 [.ptr 0 0, .fn 63 [] [.ptr 2 0]] [sC ls th n t, (List.replicate sz ([] : List (Nat × Nat))).map encM, [.osl 1 0 sz (some sz) 1]] (.tup []) [sC ls th n t, (inM (arcsN ls th n) sz).map encM, [.osl 1 0 sz (some sz) 1]] := by
  have hal := arcs_len ls th n
  have h := c62 ls th n t hn hth hls ls.length rfl hL2 (th.length + 1) rfl 63 sz (fun j => (inM ((arcsN ls th n).take j) sz).map encM) (fun m j => encM_le m _) (fun k hk i x hx Z => ?_)
  · rw [← hal, List.take_of_length_le (Nat.le_refl _)] at h
    simpa [inM] using h
  · have hg := arcs_get (n := n) hk hx
    have hi := (List.getElem?_eq_some_iff.1 hx).1
    have hb := arcs_bound hls (List.mem_of_getElem? hg)
    have hy : (arcN th n k x).2.1 < sz := by rw [← hsz]; exact hb.2.1
    obtain ⟨s1, s2⟩ := inM_spec ((arcsN ls th n).take (k * ls.length + i)) sz
    have hlen : ((((arcsN ls th n).take (k * ls.length + i)).filter fun a => a.2.1 == (arcN th n k x).2.1).map fun a => (a.1, a.2.2)).length < 1000000 := by
      have h1 := List.length_filter_le (fun a => a.2.1 == (arcN th n k x).2.1) ((arcsN ls th n).take (k * ls.length + i))
      have h2 : (th.length + 1) * ls.length ≤ 65 * 1024 := Nat.mul_le_mul (by omega) hL2
      simp only [List.length_map, List.length_take] at *
      omega
    have hc := c63a _ sz s1 (arcN th n k x).1 (arcN th n k x).2.1 (arcN th n k x).2.2 hy _ (s2 _ hy) hlen
    have ht : (arcsN ls th n).take (k * ls.length + i + 1) = (arcsN ls th n).take (k * ls.length + i) ++ [arcN th n k x] := by rw [List.take_add_one, hg]; rfl
    have hp : inM ((arcsN ls th n).take (k * ls.length + i + 1)) sz = (inM ((arcsN ls th n).take (k * ls.length + i)) sz).set (arcN th n k x).2.1 ((((arcsN ls th n).take (k * ls.length + i)).filter fun a => a.2.1 == (arcN th n k x).2.1).map (fun a => (a.1, a.2.2)) ++ [((arcN th n k x).1, (arcN th n k x).2.2)]) := by
      rw [ht, inM_snoc]
      unfold putM
      rw [List.getD_eq_getElem?_getD, s2 _ hy]
      rfl
    have hren : ∀ (ρ : Nat → Nat) (M : List (List (Nat × Nat))), (M.map encM).map (ren0 ρ) = M.map encM := by
      intro ρ M
      rw [List.map_map]
      exact List.map_congr_left fun l _ => rfl
    have hlow : ∀ (M : List (List (Nat × Nat))), (M.map encM).all (low0 2) = true := by
      intro M
      rw [List.all_map]
      exact List.all_eq_true.2 fun l _ => rfl
    have := hc.at2 (H := sC ls th n t :: (inM ((arcsN ls th n).take (k * ls.length + i)) sz).map encM :: [.osl 1 0 sz (some sz) 1] :: Z) (i := 1) (j := 2) (by decide) (by rw [hren]; rfl) rfl (hlow _) rfl (hlow _) rfl rfl rfl
    rw [hren] at this
    simp only [List.set_cons_succ, List.set_cons_zero] at this
    rw [hp]
    exact this
end Go.Proofs.Ytgcnlmcpmocbhaa

/- A heap of numbers in a list: where each stands, and what moves. No program. -/
namespace Go.Wk

def ltK (ks : List Int) (a b : Nat) : Bool := decide (ks.getD a 0 < ks.getD b 0) || (decide (ks.getD a 0 = ks.getD b 0) && decide (a < b))
theorem ltK_irrefl (ks : List Int) (a : Nat) : ltK ks a a = false := by simp [ltK]
theorem ltK_trans {ks : List Int} {a b c : Nat} (h : ltK ks b a = false) (k : ltK ks c b = false) : ltK ks c a = false := by
  simp only [ltK, Bool.or_eq_false_iff, Bool.and_eq_false_iff, decide_eq_false_iff_not] at *
  omega
theorem ltK_asymm {ks : List Int} {a b : Nat} (h : ltK ks a b = true) : ltK ks b a = false := by
  simp only [ltK, Bool.or_eq_false_iff, Bool.or_eq_true, Bool.and_eq_true, Bool.and_eq_false_iff, decide_eq_false_iff_not, decide_eq_true_eq] at *
  omega
def sw (l : List Nat) (i j : Nat) : List Nat := (l.set i (l.getD j 0)).set j (l.getD i 0)
theorem sw_len (l : List Nat) (i j : Nat) : (sw l i j).length = l.length := by simp [sw]
theorem sw_get {l : List Nat} {i j k : Nat} (hi : i < l.length) (hj : j < l.length) : (sw l i j).getD k 0 = if k = j then l.getD i 0 else if k = i then l.getD j 0 else l.getD k 0 := by
  unfold sw
  simp only [List.getD_eq_getElem?_getD, List.getElem?_set, List.length_set]
  by_cases e : k = j
  · subst e
    simp [hj]
  · rw [if_neg (Ne.symm e), if_neg e]
    by_cases e2 : k = i
    · subst e2; simp [hi]
    · rw [if_neg (Ne.symm e2), if_neg e2]
theorem sw_perm (l : List Nat) {i j : Nat} (hi : i < l.length) (hj : j < l.length) : (sw l i j).Perm l := by
  have h1 : l.getD i 0 = l[i] := by simp [List.getD_eq_getElem?_getD, hi]
  have h2 : l.getD j 0 = l[j] := by simp [List.getD_eq_getElem?_getD, hj]
  rw [List.perm_iff_count]
  intro a
  unfold sw
  rw [h1, h2, List.count_set (by simpa using hj), List.count_set hi]
  by_cases e : i = j
  · subst e
    have hm : ∀ x, l[i] = x → 0 < List.count x l := fun x hx => List.count_pos_iff.2 (hx ▸ List.getElem_mem hi)
    simp only [List.getElem_set_self, beq_iff_eq]
    split
    · rename_i hx; have := hm a hx; omega
    · omega
  · rw [List.getElem_set_ne e]
    have c1 : l[i] = a → 0 < List.count a l := fun hx => List.count_pos_iff.2 (hx ▸ List.getElem_mem hi)
    have c2 : l[j] = a → 0 < List.count a l := fun hx => List.count_pos_iff.2 (hx ▸ List.getElem_mem hj)
    simp only [beq_iff_eq]
    by_cases ha : l[i] = a <;> by_cases hb : l[j] = a <;> simp only [ha, hb, if_true, if_false] <;> (try have := c1 ha) <;> (try have := c2 hb) <;> omega
theorem sw_nodup {l : List Nat} (h : l.Nodup) {i j : Nat} (hi : i < l.length) (hj : j < l.length) : (sw l i j).Nodup := (sw_perm l hi hj).nodup_iff.2 h
def up (ks : List Int) : Nat → List Nat → Nat → List Nat × Nat
  | 0, l, i => (l, i)
  | f + 1, l, i => if (decide (0 < i) && ltK ks (l.getD i 0) (l.getD ((i - 1) / 2) 0)) = true then up ks f (sw l i ((i - 1) / 2)) ((i - 1) / 2) else (l, i)
def chi (ks : List Int) (l : List Nat) (i : Nat) : Nat := if (decide (2 * i + 1 + 1 < l.length) && ltK ks (l.getD (2 * i + 1 + 1) 0) (l.getD (2 * i + 1) 0)) = true then 2 * i + 1 + 1 else 2 * i + 1
def down (ks : List Int) : Nat → List Nat → Nat → List Nat
  | 0, l, _ => l
  | f + 1, l, i => if (decide (l.length ≤ chi ks l i) || !(ltK ks (l.getD (chi ks l i) 0) (l.getD i 0))) = true then l else down ks f (sw l i (chi ks l i)) (chi ks l i)
def settleH (ks : List Int) (l : List Nat) (i : Nat) : List Nat := down ks (l.length + 1) (up ks i l i).1 (up ks i l i).2

/-- Where each number stands, or -1. -/
def plOf (N : Nat) (l : List Nat) : List Int := (List.range N).map fun x => if x ∈ l then (l.idxOf x : Int) else -1
theorem plOf_len (N : Nat) (l : List Nat) : (plOf N l).length = N := by simp [plOf]
theorem plOf_get {N : Nat} (l : List Nat) {x : Nat} (hx : x < N) : (plOf N l)[x]? = some (if x ∈ l then (l.idxOf x : Int) else -1) := by simp [plOf, hx]
theorem idx_get {l : List Nat} (h : l.Nodup) {i : Nat} (hi : i < l.length) : l.idxOf (l.getD i 0) = i := by
  have e : l.getD i 0 = l[i] := by simp [List.getD_eq_getElem?_getD, hi]
  rw [e]
  exact h.idxOf_getElem i hi
theorem idx_of {l : List Nat} (h : l.Nodup) {i x : Nat} (hi : i < l.length) (e : l.getD i 0 = x) : l.idxOf x = i := by rw [← e]; exact idx_get h hi
theorem get_mem {l : List Nat} {i : Nat} (hi : i < l.length) : l.getD i 0 ∈ l := by
  have e : l.getD i 0 = l[i] := by simp [List.getD_eq_getElem?_getD, hi]
  rw [e]
  exact List.getElem_mem hi
theorem get_idx {l : List Nat} {x : Nat} (h : x ∈ l) : l.getD (l.idxOf x) 0 = x ∧ l.idxOf x < l.length := by
  have h1 := List.idxOf_lt_length_of_mem h
  refine ⟨?_, h1⟩
  simp [List.getD_eq_getElem?_getD, h1]
theorem plOf_sw {N : Nat} {l : List Nat} (h : l.Nodup) {i j : Nat} (hi : i < l.length) (hj : j < l.length) :
    ((plOf N l).set (l.getD j 0) i).set (l.getD i 0) j = plOf N (sw l i j) := by
  apply List.ext_getElem?
  intro x
  by_cases hx : x < N
  case neg => rw [List.getElem?_eq_none (by simp [plOf_len]; omega), List.getElem?_eq_none (by simp [plOf_len]; omega)]
  have hn := sw_nodup h hi hj
  have hp := sw_perm l hi hj
  rw [plOf_get _ hx]
  simp only [List.getElem?_set, List.length_set, plOf_len]
  by_cases e1 : l.getD i 0 = x
  · rw [if_pos e1, if_pos (by omega)]
    have hm : x ∈ sw l i j := hp.mem_iff.2 (e1 ▸ get_mem hi)
    rw [if_pos hm]
    have : (sw l i j).idxOf x = j := idx_of hn (by rw [sw_len]; exact hj) (by rw [sw_get hi hj, if_pos rfl]; exact e1)
    rw [this]
  · rw [if_neg e1]
    by_cases e2 : l.getD j 0 = x
    · rw [if_pos e2, if_pos (by omega)]
      have hm : x ∈ sw l i j := hp.mem_iff.2 (e2 ▸ get_mem hj)
      rw [if_pos hm]
      have hij : i ≠ j := fun e => e1 (e ▸ e2)
      have : (sw l i j).idxOf x = i := idx_of hn (by rw [sw_len]; exact hi) (by rw [sw_get hi hj, if_neg hij, if_pos rfl]; exact e2)
      rw [this]
    · rw [if_neg e2, plOf_get _ hx]
      by_cases hm : x ∈ l
      · rw [if_pos hm, if_pos (hp.mem_iff.2 hm)]
        obtain ⟨k1, k2⟩ := get_idx hm
        have : (sw l i j).idxOf x = l.idxOf x := idx_of hn (by rw [sw_len]; exact k2) (by
          rw [sw_get hi hj, if_neg (fun e => e2 (by rw [← e]; exact k1)), if_neg (fun e => e1 (by rw [← e]; exact k1))]
          exact k1)
        rw [this]
      · rw [if_neg hm, if_neg (fun hh => hm (hp.mem_iff.1 hh))]
theorem plOf_snoc {N : Nat} {l : List Nat} {x : Nat} (hx : x ∉ l) (hN : x < N) : (plOf N l).set x l.length = plOf N (l ++ [x]) := by
  apply List.ext_getElem?
  intro y
  by_cases hy : y < N
  case neg => rw [List.getElem?_eq_none (by simp [plOf_len]; omega), List.getElem?_eq_none (by simp [plOf_len]; omega)]
  rw [plOf_get _ hy, List.getElem?_set, plOf_len]
  by_cases e : x = y
  · subst e
    rw [if_pos rfl, if_pos hN, if_pos (by simp), List.idxOf_append, if_neg hx]
    simp
  · rw [if_neg e, plOf_get _ hy]
    by_cases hm : y ∈ l
    · rw [if_pos hm, if_pos (by simp [hm]), List.idxOf_append, if_pos hm]
    · rw [if_neg hm, if_neg (by simp [hm]; exact fun h => e h.symm)]
theorem plOf_drop {N : Nat} {l : List Nat} {x : Nat} (h : (l ++ [x]).Nodup) (hN : x < N) : (plOf N (l ++ [x])).set x (-1) = plOf N l := by
  have hx : x ∉ l := by
    intro hm
    exact ((List.nodup_append.1 h).2.2 x hm x (by simp)) rfl
  rw [← plOf_snoc hx hN, List.set_set]
  apply List.ext_getElem?
  intro y
  rw [List.getElem?_set, plOf_len]
  split
  · rename_i e
    subst e
    rw [plOf_get _ hN, if_neg hx]
  · rfl
end Go.Wk
