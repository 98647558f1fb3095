/- The search: from each state to the goal, by the program. -/
import Derived.Test.YtgcnlmcpmocbhaaC32
import Derived.Test.YtgcnlmcpmocbhaaC23
import Derived.Laws.Bits64
set_option linter.unusedSimpArgs false
set_option linter.unusedVariables false
namespace Go.Proofs.Ytgcnlmcpmocbhaa
open Go Go.Am Go.Wk

def encB (B : Nat → Option (Nat × Nat)) (x : Nat) : Int × Int := match B x with
  | some p => ((p.1 : Int), (p.2 : Int))
  | none => (-1, 0)
def blB (B : Nat → Option (Nat × Nat)) (sz : Nat) : List (Int × Int) := (List.range sz).map (encB B)
theorem blB_len (B : Nat → Option (Nat × Nat)) (sz : Nat) : (blB B sz).length = sz := by simp [blB]
theorem blB_get (B : Nat → Option (Nat × Nat)) {sz x : Nat} (h : x < sz) : (blB B sz)[x]? = some (encB B x) := by simp [blB, h]
theorem blB_set (B : Nat → Option (Nat × Nat)) {sz x : Nat} (h : x < sz) (p : Nat × Nat) : (blB B sz).set x ((p.1 : Int), (p.2 : Int)) = blB (fset B x (some p)) sz := by
  apply List.ext_getElem?
  intro y
  by_cases hy : y < sz
  case neg => rw [List.getElem?_eq_none (by simp [blB_len]; omega), List.getElem?_eq_none (by simp [blB_len]; omega)]
  rw [List.getElem?_set, blB_len]
  by_cases e : x = y
  · subst e
    rw [if_pos rfl, if_pos h, blB_get _ h]
    unfold encB
    rw [fset_same]
  · rw [if_neg e, blB_get _ hy, blB_get _ hy]
    unfold encB
    rw [fset_ne (Ne.symm e)]
theorem nil_le (m sz : Nat) : LeCells m (List.replicate sz (AVal.sl 0 [] .full)) ((List.replicate sz ([] : List (Nat × Nat))).map encM) := by
  induction sz with
  | zero => trivial
  | succ sz ih => exact ⟨⟨rfl, .inr ⟨.inr rfl, .inr rfl⟩⟩, rfl, ih⟩
theorem newHeap (n : Nat) (h0 : 0 < n) (hn : n ≤ 65536) (H : List (List AVal)) : CFun Try.prog 64 [.int .i64 n] H (.ptr (H.length + 2) 0) (H ++ [rowZ (plOf n []), rowZ (List.replicate n 0), [.sl 0 [] .full, .osl H.length 0 n (some n) 1, .osl (H.length + 1) 0 n (some n) 1]]) := by
  have h3 : ∀ i, i < 3 → i = 0 ∨ i = 1 ∨ i = 2 := by omega
  have := (c64 n h0 hn).lift id (H := H) (H' := H ++ [rowZ (plOf n []), rowZ (List.replicate n 0), [.sl 0 [] .full, .osl H.length 0 n (some n) 1, .osl (H.length + 1) 0 n (some n) 1]])
    (fun i hi => by simp at hi) (fun i j hi _ _ => by simp at hi) (fun i c hc => by simp at hc) rfl (by simp)
    (fun i cs hi => by
      have hi4 : i < 3 := (List.getElem?_eq_some_iff.1 hi).1
      have hg : (H ++ [rowZ (plOf n []), rowZ (List.replicate n 0), [.sl 0 [] .full, .osl H.length 0 n (some n) 1, .osl (H.length + 1) 0 n (some n) 1]])[grow id ([] : List (List AVal)).length H.length i]? = [rowZ (plOf n []), rowZ (List.replicate n 0), [.sl 0 [] .full, .osl H.length 0 n (some n) 1, .osl (H.length + 1) 0 n (some n) 1]][i]? := by
        simp only [grow, List.length_nil, Nat.not_lt_zero, if_false, Nat.sub_zero]
        rw [List.getElem?_append_right (by omega), Nat.add_sub_cancel]
      rw [hg]
      rcases h3 i hi4 with rfl | rfl | rfl <;> simp only [List.getElem?_cons_zero, List.getElem?_cons_succ, Option.some.injEq] at hi <;> subst hi
      · rw [ren_rowZ]; exact ⟨rfl, low_rowZ _ _⟩
      · rw [ren_rowZ]; exact ⟨rfl, low_rowZ _ _⟩
      · refine ⟨?_, rfl⟩
        simp [ren0, grow, Nat.add_comm])
    (fun j hj _ => by rw [List.getElem?_append_left hj]) rfl
  have e : ren (grow id ([] : List (List AVal)).length H.length) (.ptr 2 0) = .ptr (H.length + 2) 0 := by simp [ren, ren0, grow, Nat.add_comm]
  rw [e] at this
  exact this
theorem treeCellsS {σ : Nat → Nat} {N n : Nat} : ∀ {cs : List AVal}, cs.all AVal.tree = true → LeCellsS σ N n cs cs
  | [], _ => trivial
  | c :: cs, h => by
    simp only [List.all_cons, Bool.and_eq_true] at h
    have e : ren σ c = c := by
      have := h.1
      cases c <;> first | rfl | simp [AVal.tree] at this
    exact ⟨by rw [e]; exact LeV_refl c, tree_low h.1, tree_low h.1, treeCellsS h.2⟩
theorem encM_leS {σ : Nat → Nat} {N n : Nat} (M : List (List (Nat × Nat))) : LeCellsS σ N n (M.map encM) (M.map encM) := by
  induction M with
  | nil => trivial
  | cons a M ih => exact ⟨LeV_refl _, rfl, rfl, ih⟩
def unset0 (B : Nat → Option (Nat × Nat)) : Nat → Nat
  | 0 => 0
  | sz + 1 => unset0 B sz + (if (B sz).isNone = true then 1 else 0)
theorem unset_fset {B : Nat → Option (Nat × Nat)} {x : Nat} (hx : B x = none) (p : Nat × Nat) : ∀ sz, unset0 (fset B x (some p)) sz + (if x < sz then 1 else 0) = unset0 B sz := by
  intro sz
  induction sz with
  | zero => rfl
  | succ sz ih =>
    simp only [unset0]
    by_cases e : x = sz
    · subst e
      rw [if_neg (Nat.lt_irrefl _)] at ih
      simp [fset_same, hx]
      omega
    · rw [fset_ne (Ne.symm e)]
      by_cases h : x < sz
      · rw [if_pos h] at ih
        rw [if_pos (show x < sz + 1 by omega), ← ih]
        omega
      · rw [if_neg h] at ih
        rw [if_neg (show ¬ x < sz + 1 by omega), ← ih]
        omega
structure RS2 where
  i : Nat
  its : List Nat
  jk : List Nat
  ks : List Int
structure RS where
  B : Nat → Option (Nat × Nat)
  its : List Nat
  jk : List Nat
  ks : List Int
  o : Option (Nat × Nat)
structure RI (E : List Arc) (z sz : Nat) (s : RS) : Prop where
  hi : HI sz s.its s.ks
  ne : s.its ++ s.jk ≠ []
  so : ∀ x k, s.o = some (x, k) → s.B x = none ∧ x < sz ∧ k < 1125899906842624 ∧ DI E z sz (fset s.B x (some (k / 65536, k % 65536))) (qOf s.its s.ks) (fun a => a.2.1 = x)
  no : s.o = none → s.its = [] ∧ DI E z sz s.B (qOf s.its s.ks) (fun _ => False)
def rsX (s : RS) : Nat := match s.o with
  | some p => p.1
  | none => 0
def rsK (s : RS) : Nat := match s.o with
  | some p => p.2
  | none => 0
set_option maxHeartbeats 8000000 in
set_option maxRecDepth 10000 in
theorem c48 (ls : List Lnk) (th : List Int) (n t : Nat) (h0 : 0 < n) (hn : n ≤ 128) (ht : t < n) (hth : th.length ≤ 64) (hls : ∀ x ∈ ls, okLk n x) (hL2 : ls.length ≤ 1024) (sz : Nat) (hsz : n * (th.length + 1) = sz) (z : Nat) (hz : th.length * n + t = z) :
    CFun Try.prog 48 [.ptr 0 0] [sC ls th n t] (.sl 2 ((blB (bestO (arcsN ls th n) z) sz).map fun p => .agg (ceP p)) .sh) [sC ls th n t] := by
  refine CFun.intro (tr := [100028, 100033]) (fz := [(2, 3, true)]) (n := 126) (rs := [.tmp 2]) Try.func48 rfl (by kernel_rfl) rfl rfl mixed (by kernel_rfl) (by simp) (by simp) ?_
  have hb : sz ≤ 128 * 65 := by rw [← hsz]; exact Nat.mul_le_mul hn (by omega)
  have hzs : z < sz := by rw [← hz, ← hsz, Nat.mul_comm n, Nat.succ_mul]; omega
  have hsp : 0 < sz := by omega
  have w1 : IntKind.i64.wrap ((th.length : Int) + 1) = ((th.length + 1 : Nat) : Int) := wrap_in (by omega)
  have w2 : IntKind.i64.wrap ((n : Int) * ((th.length + 1 : Nat) : Int)) = (sz : Int) := by
    rw [← Int.natCast_mul, hsz]
    exact wrap_in (by omega)
  have h62 := c62m ls th n t hn hth hls hL2 sz hsz
  have h64 := fun H => newHeap sz hsp (by omega) H
  have h66 := fun Z => at0 (c66 ls th n t hn (by omega) hth) rfl rfl rfl Z
  rw [hz] at h66
  have hE1 : ∀ a ∈ arcsN ls th n, 1 ≤ a.2.2 := fun a ha => (arcs_bound hls ha).2.2.1
  have hE2 : ∀ a ∈ arcsN ls th n, a.2.1 < sz := fun a ha => by rw [← hsz]; exact (arcs_bound hls ha).2.1
  have hE3 : ∀ a ∈ arcsN ls th n, a.1 < sz := fun a ha => by rw [← hsz]; exact (arcs_bound hls ha).1
  have hE4 : ∀ a ∈ arcsN ls th n, a.2.2 ≤ 65535 := fun a ha => (arcs_bound hls ha).2.2.2
  have b1 : ¬ (sz : Int) < 0 := by omega
  have b2 : 8 * sz ≤ 281474976710656 := by omega
  have b3 : sz ≤ 9223372036854775807 := by omega
  have b4 : 24 * sz ≤ 281474976710656 := by omega
  have b5 : (sz : Int) ≤ 9223372036854775807 := by omega
  have b6 : 16 * sz ≤ 281474976710656 := by omega
  simp only [sC] at *
  rw [Int.natCast_add] at w1 w2
  simp only [Int.cast_ofNat_Int] at w1 w2
  simp [w1, w2, b1, b2, b3, b4, b5, b6, hsp]
  have h62' := h62.less (H := [[.sl 13 (ls.map encL) .own, .sl 1 (th.map encI) .sh, .int .i64 n, .int .i64 t], List.replicate sz (AVal.sl 0 [] .full), [.osl 1 0 sz (some sz) 1]]) rfl (by have := nil_le 3 sz; simp only [List.map_replicate, encM, List.map_nil] at this; simp [LeBoxes, this])
  refine ⟨_, _, .inl (by simpa using h62'), by simp, ?_⟩
  clear h62 h62'
  have hM := encM_le
  obtain ⟨hMl, hMg⟩ := inM_spec (arcsN ls th n) sz
  generalize hMM : inM (arcsN ls th n) sz = M at *
  obtain ⟨mid, hmid⟩ : ∃ mid : Nat → List AVal, mid = fun i => rowC ceP (List.replicate i ((-1 : Int), (0 : Int)) ++ List.replicate (sz - i) ((0 : Int), (0 : Int))) := ⟨_, rfl⟩
  have m0 : (List.replicate sz [AVal.int .i64 0, AVal.int .i64 0]).flatten = mid 0 := by
    rw [hmid]
    simp [rowC, ceP, List.flatMap_replicate]
  have mle : ∀ m i, LeCells m (mid i) (mid i) := fun m i => by rw [hmid]; exact ePe.rowLe m _
  have mlen : ∀ i, i ≤ sz → (mid i).length = sz * 2 := fun i hi => by
    rw [hmid]
    show (rowC ceP _).length = _
    rw [ePe.rowLen, List.length_append, List.length_replicate, List.length_replicate, Nat.add_sub_cancel' hi]
  have mset : ∀ i, i < sz → setR (mid i) (i * 2) [.int .i64 (-1), .int .i64 0] = mid (i + 1) := by
    intro i hi
    rw [hmid]
    show setR (rowC ceP _) (i * 2) (ceP (-1, 0)) = rowC ceP _
    rw [ePe.setOne0 _ _ _ (by simp; omega), List.set_append_right _ _ (by simp)]
    congr 1
    rw [List.replicate_succ', List.append_assoc]
    congr 1
    rw [show sz - i = (sz - (i + 1)) + 1 by omega, List.replicate_succ]
    simp
  have mfin : mid sz = rowC ceP (blB (fun _ => none) sz) := by
    rw [hmid]
    show rowC ceP _ = _
    congr 1
    rw [Nat.sub_self, List.replicate_zero, List.append_nil]
    unfold blB encB
    rw [List.map_const']
    simp
  clear hmid
  simp [w1, w2, b1, b2, b3, b4, b5, b6, hsp, m0]
  refine LoopK.intro (tr := [100028, 100033]) mixed (by kernel_rfl) (fun i : Nat => [(0, .ptr 0 0), (3, .int .i64 sz), (4, .ptr 2 0), (5, .osl 3 0 sz (some sz) 2), (35, .int .i64 sz), (36, .int .i64 i)]) (fun i => [[.sl 13 (ls.map encL) .own, .sl 1 (th.map encI) .sh, .int .i64 n, .int .i64 t], M.map encM, [.osl 1 0 sz (some sz) 1], mid i]) (fun i => i ≤ sz) (fun i => sz - i) 0 ?_ ?_ ?_
  · simp
  · simp [hM, mle]
    done
  · intro i hi
    by_cases hi2 : i < sz
    · have w3 : IntKind.i64.wrap ((i : Int) + 1) = i + 1 := wrap_in (by omega)
      have q1 := mlen i hi
      have q2 : i * 2 + 2 ≤ sz * 2 := by omega
      simp [hi2, q1, q2, mset i hi2, w3]
      exact ⟨i + 1, by omega, by omega, by simp [hM, mle]⟩
    have : sz = i := by omega
    subst this
    clear hi hi2
    have hsF := fun H a q r d1 d2 d3 ha hq hr => setFirst (N := sz) (ks := List.replicate sz 0) (by simp) z hzs 0 (H := H) (a := a) (q := q) (r := r) d1 d2 d3 ha hq hr
    obtain ⟨hi1, hq1⟩ := HI.first hzs (ks := List.replicate sz 0) (by simp) 0
    rw [show ((0 : Nat) : Int) = 0 from rfl] at hi1 hq1
    have hpop1 := hi1.pop (n := 0) rfl rfl
    have hks1 : ((List.replicate sz (0 : Int)).set z 0).length = sz := by simp
    have hkz : ((List.replicate sz (0 : Int)).set z 0).getD z 0 = 0 := by rw [Wk.getD_set (by simpa using hzs), if_pos rfl]
    have hpp : popL ((List.replicate sz (0 : Int)).set z 0) [z] = [] := by simp [popL, sw]
    have c67 := c67a sz [] ((List.replicate sz (0 : Int)).set z 0) hks1 0 (by decide) [z] rfl (by simp) (by simpa using hzs)
    rw [hpp] at c67 hpop1
    simp only [hH, hB, List.append_nil, List.nil_append, List.length_nil, List.length_singleton, List.getD_cons_zero, hkz] at c67
    simp only [List.getD_cons_zero, hkz] at hpop1
    generalize (List.replicate sz (0 : Int)).set z 0 = ks1 at *
    have hDI0 : DI (arcsN ls th n) z sz (fset (fun _ => none) z (some (0 / 65536, 0 % 65536))) (fset (fset (fun _ => none) z (some 0)) z none) (fun a => a.2.1 = z) :=
      (DI.start hzs).pop hE1 hE2 (by omega) fset_same (fun y k' _ => by omega)
    simp
    refine ⟨_, _, .inl (by simpa using h64 _), by simp, ?_⟩
    simp
    refine ⟨_, _, .inl (by simpa using h66 _), by simp, ?_⟩
    simp
    refine ⟨_, _, .inl (by simpa using hsF _ 6 4 5 (by decide) (by decide) (by decide) rfl rfl rfl), by simp, ?_⟩
    simp
    refine ⟨_, _, .inl (by simpa [four, ren, ren0] using hAt c67 (H := [[.sl 13 (ls.map encL) .own, .sl 1 (th.map encI) .sh, .int .i64 n, .int .i64 t], M.map encM, [.osl 1 0 sz (some sz) 1], mid sz, rowZ (plOf sz [z]), rowZ ks1, [.osl 7 0 1 none 1, .osl 4 0 sz (some sz) 1, .osl 5 0 sz (some sz) 1], rowN [z]]) (a := 6) (p := 7) (q := 4) (r := 5) (by decide) (by decide) (by decide) (by decide) (by decide) (by decide) rfl rfl rfl rfl rfl rfl), by simp, ?_⟩
    simp
    rw [mfin]
    clear mset mle mlen m0 mfin mid c67 h64 h66 hsF
    have hrI := fun m l => leI m l
    have hrN := fun m l => leN m l
    have hrP := fun m (l : List (Int × Int)) => ePe.rowLe m l
    refine LoopK.intro (tr := [100028, 100033]) mixed (by kernel_rfl)
      (fun s : RS => [(0, .ptr 0 0), (3, .int .i64 sz), (4, .ptr 2 0), (5, .osl 3 0 sz (some sz) 2), (7, .ptr 6 0), (8, .int .i64 (rsX s)), (9, .int .i64 (rsK s)), (10, .bool s.o.isSome)])
      (fun s => [[.sl 13 (ls.map encL) .own, .sl 1 (th.map encI) .sh, .int .i64 n, .int .i64 t], M.map encM, [.osl 1 0 sz (some sz) 1], rowC ceP (blB s.B sz), rowZ (plOf sz s.its), rowZ s.ks, [.osl 7 0 s.its.length none 1, .osl 4 0 sz (some sz) 1, .osl 5 0 sz (some sz) 1], rowN (s.its ++ s.jk)])
      (RI (arcsN ls th n) z sz) (fun s => unset0 s.B sz + (if s.o.isSome then 1 else 0)) ⟨fun _ => none, [], [z], ks1, some (z, 0)⟩ ?_ ?_ ?_
    · refine ⟨hpop1.1, by simp, fun x k e => ?_, fun e => by cases e⟩
      injection e with e
      injection e with e1 e2
      subst e1 e2
      refine ⟨rfl, hzs, by omega, ?_⟩
      rw [hpop1.2.1, hq1]
      exact hDI0
    · simp [hM, hrI, hrN, hrP, rsX, rsK]
      done
    · rintro ⟨B, its, jk, ks, o⟩ ⟨hi, hne, hso, hno⟩
      simp only at hi hne hso hno
      cases o with
      | none =>
        obtain ⟨hits, hdi⟩ := hno rfl
        subst hits
        have hB := hdi.all hE1 hE2 (fun x => by simp [qOf])
        rw [← hB]
        have hch := ePe.chunk (blB B sz) sz (blB_len B sz)
        have hrl := ePe.rowLen (blB B sz)
        rw [blB_len] at hrl
        have htr := ePe.rowTree (blB B sz)
        have htk : (rowC ceP (blB B sz)).take (sz * 2) = rowC ceP (blB B sz) := List.take_of_length_le (by omega)
        simp [hch, hrl, htr, htk, hsp, -List.all_eq_true]
      | some p =>
        obtain ⟨x, k⟩ := p
        obtain ⟨hBx, hx, hk, hDI⟩ := hso x k rfl
        clear hso hno
        obtain ⟨c, hc⟩ : ∃ c, c = k / 65536 := ⟨_, rfl⟩
        obtain ⟨j, hj⟩ : ∃ j, j = k % 65536 := ⟨_, rfl⟩
        rw [← hc, ← hj] at hDI
        have v1 : ((k : Int).fdiv 65536) = (c : Int) := by
          rw [hc, Int.fdiv_eq_ediv_of_nonneg _ (by decide)]
          rfl
        have v2 : IntKind.i64.wrap ((k % 2 ^ IntKind.i64.bits &&& 65535 % 2 ^ IntKind.i64.bits : Nat) : Int) = (j : Int) := by
          have p2 : (2 : Nat) ^ IntKind.i64.bits = 18446744073709551616 := by decide
          rw [p2]
          have e2 : 65535 % 18446744073709551616 = 2 ^ 16 - 1 := by decide
          rw [Nat.mod_eq_of_lt (by omega), e2, Nat.and_two_pow_sub_one_eq_mod, hj]
          exact wrap_in (by omega)
        have p16 : (2 : Int) ^ (min 16 IntKind.i64.bits) = 65536 := by decide
        have g1 := ePe.rowLen (blB B sz)
        rw [blB_len] at g1
        have g2 : x * 2 + 2 ≤ sz * 2 := by omega
        have g3 : setR (rowC ceP (blB B sz)) (x * 2) [.int .i64 c, .int .i64 j] = rowC ceP (blB (fset B x (some (c, j))) sz) := by
          rw [← blB_set B hx (c, j)]
          exact ePe.setOne0 (blB B sz) x ((c : Int), (j : Int)) (by rw [blB_len]; exact hx)
        have g4 : ((rowC ceP (blB B sz)).set (x * 2) (.int .i64 c)).set (x * 2 + 1) (.int .i64 j) = rowC ceP (blB (fset B x (some (c, j))) sz) := by
          rw [← g3]
          rfl
        have hMx := hMg x hx
        have hxM : x < M.length := by omega
        obtain ⟨A, hA⟩ : ∃ A, A = (arcsN ls th n).filter fun a => a.2.1 == x := ⟨_, rfl⟩
        rw [← hA] at hMx
        obtain ⟨l, hl⟩ : ∃ l, l = A.map fun a => (a.1, a.2.2) := ⟨_, rfl⟩
        rw [← hl] at hMx
        obtain ⟨B1, hB1⟩ : ∃ B1, B1 = fset B x (some (c, j)) := ⟨_, rfl⟩
        rw [← hB1] at hDI g4
        have hun := unset_fset hBx (c, j) sz
        rw [if_pos hx, ← hB1] at hun
        have hB1x : B1 x = some (c, j) := by rw [hB1]; exact fset_same
        obtain ⟨ws, hw, hwl⟩ := (hDI.a x c j hB1x).1
        have hcb := hw.cost hE4
        have hjb := (hDI.a x c j hB1x).hops hE1 hE2 hx
        have hcb2 : ws.length * 65535 ≤ 8320 * 65535 := Nat.mul_le_mul_right _ (by omega)
        have hDI' : DI (arcsN ls th n) z sz B1 (qOf its ks) (fun a => a ∈ A.drop 0) := hDI.less (fun a ha hp => by
          rw [hA, List.drop_zero]
          exact List.mem_filter.2 ⟨ha, by simpa using hp⟩)
        have hcS : c ≤ 545251200 := by omega
        have hjS : j + 1 ≤ 8320 := by omega
        clear hDI hw hwl g3 hB1 hBx hcb hjb hcb2
        simp [rsX, rsK, p16, v1, v2, g1, g2, hx, g4, hMl, gE hMx, hMx]
        have hll : l.length = A.length := by rw [hl]; simp
        have hLb : l.length ≤ 66560 := by
          rw [hll, hA]
          have e1 := List.length_filter_le (fun a : Nat × Nat × Nat => a.2.1 == x) (arcsN ls th n)
          have e2 := arcs_len ls th n
          have e3 : (th.length + 1) * ls.length ≤ 65 * 1024 := Nat.mul_le_mul (by omega) hL2
          omega
        refine LoopK.introS (tr := [100028, 100033]) mixed (by kernel_rfl)
          (fun s : RS2 => [(0, .ptr 0 0), (3, .int .i64 sz), (4, .ptr 2 0), (5, .osl 3 0 sz (some sz) 2), (7, .ptr 6 0), (8, .int .i64 x), (74, .sl 2 (l.map encV) .sh), (75, .int .i64 l.length), (76, .int .i64 s.i)])
          (fun s => [[.sl 13 (ls.map encL) .own, .sl 1 (th.map encI) .sh, .int .i64 n, .int .i64 t], M.map encM, [.osl 1 0 sz (some sz) 1], rowC ceP (blB B1 sz), rowZ (plOf sz s.its), rowZ s.ks, [.osl 7 0 s.its.length none 1, .osl 4 0 sz (some sz) 1, .osl 5 0 sz (some sz) 1], rowN (s.its ++ s.jk)])
          (fun s => s.i ≤ l.length ∧ HI sz s.its s.ks ∧ s.its ++ s.jk ≠ [] ∧ DI (arcsN ls th n) z sz B1 (qOf s.its s.ks) (fun a => a ∈ A.drop s.i)) (fun s => l.length - s.i) ⟨0, its, jk, ks⟩ ?_ ?_ ?_
        · exact ⟨by simp, hi, hne, hDI'⟩
        · simp [hM, hrI, hrN, hrP]
          done
        · clear hi hne hDI'
          rintro ⟨i, its, jk, ks⟩ ⟨h1, hi, hne, hDI⟩
          simp only at h1 hi hne hDI
          generalize hPQ : LoopPostS _ _ _ _ _ _ _ = PQ
          by_cases hil : i < l.length
          case neg =>
            have hiL : i = l.length := by omega
            have hDI2 : DI (arcsN ls th n) z sz B1 (qOf its ks) (fun _ => False) := hDI.less (fun a _ ha => by
              rw [hiL, hll, List.drop_length] at ha
              simp at ha)
            cases hm : its.length with
            | zero =>
              have hits : its = [] := List.eq_nil_of_length_eq_zero hm
              subst hits
              have hp := c67n sz jk ks hi.len
              simp only [hH, hB, List.nil_append, List.length_nil] at hp
              simp [hil]
              rw [← hPQ]
              simp only [LoopPostS]
              simp
              refine ⟨_, _, .inl (by simpa [four, ren, ren0] using hAt hp (H := [[.sl 13 (ls.map encL) .own, .sl 1 (th.map encI) .sh, .int .i64 n, .int .i64 t], M.map encM, [.osl 1 0 sz (some sz) 1], rowC ceP (blB B1 sz), rowZ (plOf sz []), rowZ ks, [.osl 7 0 0 none 1, .osl 4 0 sz (some sz) 1, .osl 5 0 sz (some sz) 1], rowN jk]) (a := 6) (p := 7) (q := 4) (r := 5) (by decide) (by decide) (by decide) (by decide) (by decide) (by decide) rfl rfl rfl rfl rfl rfl), by simp, ?_⟩
              simp
              exact ⟨⟨B1, [], jk, ks, none⟩, ⟨hi, hne, (fun x k e => by cases e), fun _ => ⟨rfl, hDI2⟩⟩, by simp only [Option.isSome_none, Option.isSome_some, if_true, Bool.false_eq_true, if_false]; omega, by simp [hM, hrI, hrN, hrP, rsX, rsK]⟩
            | succ m =>
              obtain ⟨hi3, hq3, hqx, hx3, hk3, hmin⟩ := hi.pop hm rfl
              have hp := c67a sz jk ks hi.len m (by have := nodup_length hi.nd hi.lt; omega) its hm hi.nd hi.lt
              generalize its.getD 0 0 = x3 at *
              have hkk : ks.getD x3 0 = (((ks.getD x3 0).toNat : Nat) : Int) := by omega
              obtain ⟨k3, hk4⟩ : ∃ k3, k3 = (ks.getD x3 0).toNat := ⟨_, rfl⟩
              rw [← hk4] at hqx hmin hkk
              rw [hkk] at hp
              have hDI3 := hDI2.pop hE1 hE2 (by omega) hqx hmin
              obtain ⟨hb3, _, c3, j3, ws3, e3, hw3, hl3, hj3⟩ := hDI2.b _ _ hqx
              have hc3 := hw3.cost hE4
              have hc4 : ws3.length * 65535 ≤ 8320 * 65535 := Nat.mul_le_mul_right _ (by omega)
              have hpl : (popL ks its).length = m := by
                have := hi3.nd
                unfold popL
                rw [hm, Nat.add_sub_cancel]
                have h2 : ((sw its 0 m).take m).length = m := by simp [sw_len]; omega
                split
                · rw [(settle_perm (by omega)).length_eq, h2]
                · exact h2
              simp only [hH, hB, hm, hpl] at hp
              simp [hil, hm]
              rw [← hPQ]
              simp only [LoopPostS]
              simp
              refine ⟨_, _, .inl (by simpa [four, ren, ren0] using hAt hp (H := [[.sl 13 (ls.map encL) .own, .sl 1 (th.map encI) .sh, .int .i64 n, .int .i64 t], M.map encM, [.osl 1 0 sz (some sz) 1], rowC ceP (blB B1 sz), rowZ (plOf sz its), rowZ ks, [.osl 7 0 (m + 1) none 1, .osl 4 0 sz (some sz) 1, .osl 5 0 sz (some sz) 1], rowN (its ++ jk)]) (a := 6) (p := 7) (q := 4) (r := 5) (by decide) (by decide) (by decide) (by decide) (by decide) (by decide) rfl rfl rfl rfl rfl rfl), by simp, ?_⟩
              simp
              refine ⟨⟨B1, popL ks its, x3 :: jk, ks, some (x3, k3)⟩, ⟨hi3, by simp, fun x k e => ?_, fun e => by cases e⟩, by simp only [Option.isSome_some, if_true]; omega, by simp [hM, hrI, hrN, hrP, rsX, rsK, hpl]⟩
              injection e with e
              injection e with e1 e2
              subst e1 e2
              refine ⟨hb3, hx3, by omega, ?_⟩
              rw [hq3]
              exact hDI3
          obtain ⟨a, ha⟩ : ∃ a, A[i]? = some a := ⟨_, List.getElem?_eq_getElem (by omega)⟩
          have haA : a ∈ A := List.mem_of_getElem? ha
          have haE : a ∈ arcsN ls th n ∧ a.2.1 = x := by
            rw [hA] at haA
            obtain ⟨h1, h2⟩ := List.mem_filter.1 haA
            exact ⟨h1, by simpa using h2⟩
          obtain ⟨x', y', co⟩ := a
          obtain ⟨haE, hy'⟩ := haE
          simp only at hy'
          subst hy'
          have hlg : l[i]? = some (x', co) := by rw [hl]; simp [ha]
          have hx' := hE3 _ haE
          have hco := hE4 _ haE
          simp only at hx' hco
          have hR := hDI.relax hE1 hE2 hE3 haE hB1x
          obtain ⟨v, hv⟩ : ∃ v, v = (c + co) * 65536 + (j + 1) := ⟨_, rfl⟩
          rw [← hv] at hR
          have hR' : ∀ q', q' = relax B1 (qOf its ks) x' v → DI (arcsN ls th n) z sz B1 q' (fun b => b ∈ A.drop (i + 1)) := by
            rintro q' rfl
            refine hR.less (fun b hb hp => ?_)
            rw [List.drop_eq_getElem_cons (by omega)] at hp
            have e : A[i]'(by omega) = (x', y', co) := by
              rw [List.getElem?_eq_getElem (by omega)] at ha
              injection ha
            rw [e] at hp
            rcases List.mem_cons.1 hp.1 with hp1 | hp1
            · exact absurd hp1 hp.2
            · exact hp1
          clear hR hDI
          have hcc : c + co < 1099511627776 := by clear hc hj; omega
          have hjj : j + 1 < 65536 := by clear hc hj; omega
          have h68 := fun H => (c68 (c + co) (j + 1) hcc hjj).up' H rfl rfl
          have hkey : keyN (c + co) (j + 1) = v := hv.symm
          rw [hkey] at h68
          have u1 : IntKind.i64.wrap ((c : Int) + co) = (c : Int) + co := wrap_in (by omega)
          have u2 : IntKind.i64.wrap ((j : Int) + 1) = (j : Int) + 1 := wrap_in (by omega)
          have u3 : IntKind.i64.wrap ((i : Int) + 1) = i + 1 := wrap_in (by omega)
          have b0 := rowP_0 (blB_get B1 hx)
          have b1' := rowP_1 (blB_get B1 hx)
          have b2' := rowP_0 (blB_get B1 hx')
          have eB : encB B1 y' = ((c : Int), (j : Int)) := by unfold encB; rw [hB1x]
          rw [eB] at b0 b1'
          simp only at b0 b1'
          have hrl := ePe.rowLen (blB B1 sz)
          rw [blB_len] at hrl
          have r1 : y' * 2 < sz * 2 := by omega
          have r2 : y' * 2 + 1 < sz * 2 := by omega
          have r3 : x' * 2 < sz * 2 := by omega
          have h69 := c69 sz its jk ks hi.len x' hx'
          simp only [hH, hB] at h69
          have h69' := hAt h69 (H := [[.sl 13 (ls.map encL) .own, .sl 1 (th.map encI) .sh, .int .i64 n, .int .i64 t], M.map encM, [.osl 1 0 sz (some sz) 1], rowC ceP (blB B1 sz), rowZ (plOf sz its), rowZ ks, [.osl 7 0 its.length none 1, .osl 4 0 sz (some sz) 1, .osl 5 0 sz (some sz) 1], rowN (its ++ jk), [.int .i64 x', .int .i64 co]]) (a := 6) (p := 7) (q := 4) (r := 5) (by decide) (by decide) (by decide) (by decide) (by decide) (by decide) rfl rfl rfl rfl rfl rfl
          clear h69
          have hyM := hx
          simp [hil, hlg, gE hlg, hx, hrl, r1, r2, b0, b1', gE b0, gE b1', u1, u2]
          refine ⟨_, _, .inl (by simpa using h68 _), by simp, ?_⟩
          simp
          refine ⟨_, _, .inl (by simpa [four, ren, ren0] using h69'), by simp, ?_⟩
          clear h69' h68
          have hcs : (((c + co : Nat) : Int)) = (c : Int) + co := by omega
          cases hbx : B1 x' with
          | some q =>
            have eB' : encB B1 x' = ((q.1 : Int), (q.2 : Int)) := by unfold encB; rw [hbx]
            rw [eB'] at b2'
            simp only at b2'
            have d1 : ¬ (q.1 : Int) < 0 := by omega
            have hst := hR' (qOf its ks) (by unfold relax; rw [if_neg (by simp [hbx])])
            simp [hx', hrl, r3, b2', gE b2', d1]
            rw [← hPQ]
            simp only [LoopPostS]
            exact ⟨⟨i + 1, its, jk, ks⟩, ⟨by simp only; omega, hi, hne, hst⟩, by simp only; omega, .inl (by simp [hM, hrI, hrN, hrP, u3])⟩
          | none =>
            have eB' : encB B1 x' = (-1, 0) := by unfold encB; rw [hbx]
            rw [eB'] at b2'
            simp only at b2'
            have hlen1 : its.length < 1000000 := by have := nodup_length hi.nd hi.lt; omega
            by_cases hm : x' ∈ its
            · have hpos := hi.pos x' hm
              obtain ⟨kv, hkv⟩ : ∃ kv, kv = ks.getD x' 0 := ⟨_, rfl⟩
              have hkv2 : ks[x']?.getD 0 = kv := by rw [hkv, List.getD_eq_getElem?_getD]
              rw [← hkv] at hpos
              have hqv : qOf its ks x' = some kv.toNat := by unfold qOf; rw [if_pos hm, hkv]
              by_cases hv2 : (v : Int) < kv
              · obtain ⟨hi4, hq4⟩ := hi.old (v := v) hm
                have hst := hR' (fset (qOf its ks) x' (some v)) (by unfold relax; rw [if_pos ⟨hbx, .inr ⟨kv.toNat, hqv, by omega⟩⟩])
                rw [← hq4] at hst
                have h65 := c65a sz jk ks hi.len its.length hlen1 its rfl hi.nd hi.lt x' hm v
                have hsl := (settle_perm (ks := ks.set x' (v : Int)) (get_idx hm).2).length_eq
                simp only [hH, hB, hsl] at h65
                generalize settleH (ks.set x' (v : Int)) its (its.idxOf x') = its4 at *
                have h65' := hAt h65 (H := [[.sl 13 (ls.map encL) .own, .sl 1 (th.map encI) .sh, .int .i64 n, .int .i64 t], M.map encM, [.osl 1 0 sz (some sz) 1], rowC ceP (blB B1 sz), rowZ (plOf sz its), rowZ ks, [.osl 7 0 its.length none 1, .osl 4 0 sz (some sz) 1, .osl 5 0 sz (some sz) 1], rowN (its ++ jk), [.int .i64 x', .int .i64 co]]) (a := 6) (p := 7) (q := 4) (r := 5) (by decide) (by decide) (by decide) (by decide) (by decide) (by decide) rfl rfl rfl rfl rfl rfl
                have hne4 : its4 ++ jk ≠ [] := by
                  intro e
                  have := congrArg List.length e
                  simp only [List.length_append, List.length_nil, hsl] at this
                  have h5 := (get_idx hm).2
                  omega
                simp [hx', hrl, r3, b2', gE b2', hm, hkv2, hv2]
                refine ⟨_, _, .inl (by simpa [four, ren, ren0] using h65'), by simp, ?_⟩
                simp
                rw [← hPQ]
                simp only [LoopPostS]
                exact ⟨⟨i + 1, its4, jk, ks.set x' v⟩, ⟨by simp only; omega, hi4, hne4, hst⟩, by simp only; omega, .inl (by simp [hM, hrI, hrN, hrP, u3, hsl])⟩
              · have hst := hR' (qOf its ks) (by
                  unfold relax
                  rw [if_neg]
                  rintro ⟨_, h | ⟨k', h1, h2⟩⟩
                  · rw [hqv] at h; cases h
                  · rw [hqv] at h1; injection h1 with h1; omega)
                simp [hx', hrl, r3, b2', gE b2', hm, hkv2, hv2]
                rw [← hPQ]
                simp only [LoopPostS]
                exact ⟨⟨i + 1, its, jk, ks⟩, ⟨by simp only; omega, hi, hne, hst⟩, by simp only; omega, .inl (by simp [hM, hrI, hrN, hrP, u3])⟩
            · obtain ⟨hi4, hq4⟩ := hi.new (v := v) hm hx'
              have hqv : qOf its ks x' = none := by unfold qOf; rw [if_neg hm]
              have hst := hR' (fset (qOf its ks) x' (some v)) (by unfold relax; rw [if_pos ⟨hbx, .inl hqv⟩])
              rw [← hq4] at hst
              have hlen2 : its.length + 1 < 1000000 := by have := nodup_length hi.nd hi.lt; omega
              have h65 := setNew hi.len hlen2 rfl hi.nd hi.lt hne x' hm hx' v (H := [[.sl 13 (ls.map encL) .own, .sl 1 (th.map encI) .sh, .int .i64 n, .int .i64 t], M.map encM, [.osl 1 0 sz (some sz) 1], rowC ceP (blB B1 sz), rowZ (plOf sz its), rowZ ks, [.osl 7 0 its.length none 1, .osl 4 0 sz (some sz) 1, .osl 5 0 sz (some sz) 1], rowN (its ++ jk), [.int .i64 x', .int .i64 co]]) (a := 6) (p := 7) (q := 4) (r := 5) (by decide) (by decide) (by decide) (by decide) (by decide) (by decide) rfl rfl rfl rfl
              have hsl := (settle_perm (ks := ks.set x' (v : Int)) (l := its ++ [x']) (i := its.length) (by simp)).length_eq
              rw [List.length_append, List.length_singleton] at hsl
              generalize settleH (ks.set x' (v : Int)) (its ++ [x']) its.length = its4 at *
              have hne4 : its4 ++ [] ≠ [] := by
                intro e
                have := congrArg List.length e
                simp only [List.length_append, List.length_nil, hsl] at this
                omega
              have t1 : ∀ l : List Nat, LeCellsS (swp 7 9) 10 8 (rowN l) (rowN l) := fun l => treeCellsS (treeN l)
              have t2 : ∀ l : List Int, LeCellsS (swp 7 9) 10 8 (rowZ l) (rowZ l) := fun l => treeCellsS (treeI l)
              have t3 : ∀ l : List (Int × Int), LeCellsS (swp 7 9) 10 8 (rowC ceP l) (rowC ceP l) := fun l => treeCellsS (ePe.rowTree l)
              have t4 : LeCellsS (swp 7 9) 10 8 (M.map encM) (M.map encM) := encM_leS M
              simp [hx', hrl, r3, b2', gE b2', hm]
              refine ⟨_, _, .inl (by simpa using h65), by simp, ?_⟩
              simp
              rw [← hPQ]
              simp only [LoopPostS]
              refine ⟨⟨i + 1, its4, [], ks.set x' v⟩, ⟨by simp only; omega, hi4, hne4, hst⟩, by simp only; omega, .inr ⟨7, 9, by simp, by simp, by simp, by simp, by simp, ?_, ?_⟩⟩
              · simp [LeLookS, ren, ren0, swp, u3]
                done
              · simp [LeBoxesS, swpH, t1, t2, t3, t4, LeCellsS, ren, ren0, swp, hsl]
                done
end Go.Proofs.Ytgcnlmcpmocbhaa

/- The search: the walk that is followed. -/
namespace Go.Proofs.Ytgcnlmcpmocbhaa
open Go Go.Am Go.Wk

def gdB (bl : List (Int × Int)) (x y : Nat) (co : Int) : Bool :=
  decide (0 ≤ (bl.getD y (0, 0)).1) && decide ((bl.getD y (0, 0)).1 + co = (bl.getD x (0, 0)).1) && decide ((bl.getD y (0, 0)).2 + 1 = (bl.getD x (0, 0)).2)
set_option maxHeartbeats 4000000 in
set_option maxRecDepth 10000 in
theorem c51 (bl : List (Int × Int)) (N : Nat) (hN : bl.length = N) (hb : ∀ p ∈ bl, -1 ≤ p.1 ∧ p.1 < 1099511627776 ∧ 0 ≤ p.2 ∧ p.2 < 1099511627776) (x y : Nat) (hx : x < N) (hy : y < N) (co left : Int) (hco : 0 ≤ co ∧ co ≤ 65535) :
    CFun Try.prog 51 [.int .i64 x, .int .i64 y, .int .i64 co, .int .i64 left, .ptr 0 0] [[.sl 2 (bl.map fun p => .agg (ceP p)) .sh]] (.bool (gdB bl x y co)) [[.sl 2 (bl.map fun p => .agg (ceP p)) .sh]] := by
  refine CFun.intro (tr := []) (fz := []) (n := 45) (rs := [.tmp 9]) Try.func51 rfl (by kernel_rfl) rfl rfl mixed (by kernel_rfl) (by simp) (by simp) ?_
  have gx : bl[x]? = some (bl[x]'(by omega)) := List.getElem?_eq_getElem (by omega)
  have gy : bl[y]? = some (bl[y]'(by omega)) := List.getElem?_eq_getElem (by omega)
  have bx := hb _ (List.mem_of_getElem? gx)
  have bY := hb _ (List.mem_of_getElem? gy)
  have dx : bl.getD x (0, 0) = bl[x]'(by omega) := by simp [List.getD_eq_getElem?_getD, gx]
  have dy : bl.getD y (0, 0) = bl[y]'(by omega) := by simp [List.getD_eq_getElem?_getD, gy]
  unfold gdB
  rw [dx, dy]
  obtain ⟨p, hp⟩ : ∃ p, p = bl[x]'(by omega) := ⟨_, rfl⟩
  obtain ⟨q, hq⟩ : ∃ q, q = bl[y]'(by omega) := ⟨_, rfl⟩
  rw [← hp] at gx bx ⊢
  rw [← hq] at gy bY ⊢
  obtain ⟨p1, p2⟩ := p
  obtain ⟨q1, q2⟩ := q
  clear hp hq dx dy
  have w1 : IntKind.i64.wrap (q1 + co) = q1 + co := by simp only at bY; exact wrap_in (by omega)
  have w2 : IntKind.i64.wrap (q2 + 1) = q2 + 1 := by simp only at bY; exact wrap_in (by omega)
  have w3 : IntKind.i64.wrap p1 = p1 := by simp only at bx; exact wrap_in (by omega)
  have w4 : IntKind.i64.wrap p2 = p2 := by simp only at bx; exact wrap_in (by omega)
  by_cases h1 : 0 ≤ q1
  · by_cases h2 : q1 + co = p1
    · by_cases h3 : q2 + 1 = p2
      · simp [hx, hy, hN, gx, gy, gE gx, gE gy, ceP, w1, w2, w3, w4, h1, h2, h3]
      · simp [hx, hy, hN, gx, gy, gE gx, gE gy, ceP, w1, w2, w3, w4, h1, h2, h3]
    · simp [hx, hy, hN, gx, gy, gE gx, gE gy, ceP, w1, w2, w3, w4, h1, h2]
  · simp [hx, hy, hN, gx, gy, gE gx, gE gy, ceP, w1, w2, h1]
def rowAt (rows : List (List Int)) (h x : Nat) : Int := (rows.getD h []).getD x 0
def gdR (rows : List (List Int)) (x y : Nat) (co : Int) (left : Nat) : Bool :=
  decide (0 ≤ rowAt rows (left - 1) y) && decide (rowAt rows (left - 1) y + co = rowAt rows left x)
@[simp] def encR (r : List Int) : AVal := .sl 1 (r.map encI) .sh
set_option maxHeartbeats 4000000 in
set_option maxRecDepth 10000 in
theorem c54 (rows : List (List Int)) (N : Nat) (hb : ∀ r ∈ rows, r.length = N ∧ ∀ v ∈ r, -1 ≤ v ∧ v < 1099511627776) (m : Nat) (hm : rows.length = m) (hm2 : m < 1000000) (x y : Nat) (hx : x < N) (hy : y < N) (co : Int) (left : Nat) (hl : 0 < left) (hl2 : left < m) (hco : 0 ≤ co ∧ co ≤ 65535) :
    CFun Try.prog 54 [.int .i64 x, .int .i64 y, .int .i64 co, .int .i64 left, .ptr 0 0] [[.sl 1 (rows.map encR) .sh]] (.bool (gdR rows x y co left)) [[.sl 1 (rows.map encR) .sh]] := by
  refine CFun.intro (tr := []) (fz := []) (n := 39) (rs := [.tmp 9]) Try.func54 rfl (by kernel_rfl) rfl rfl mixed (by kernel_rfl) (by simp) (by simp) ?_
  obtain ⟨k, rfl⟩ : ∃ k, left = k + 1 := ⟨left - 1, by omega⟩
  unfold gdR rowAt
  rw [Nat.add_sub_cancel]
  have g1 : rows[k + 1]? = some (rows.getD (k + 1) []) := by simp [List.getD_eq_getElem?_getD, List.getElem?_eq_getElem (show k + 1 < rows.length by omega)]
  have g2 : rows[k]? = some (rows.getD k []) := by simp [List.getD_eq_getElem?_getD, List.getElem?_eq_getElem (show k < rows.length by omega)]
  obtain ⟨l1, b1⟩ := hb _ (List.mem_of_getElem? g1)
  obtain ⟨l2, b2⟩ := hb _ (List.mem_of_getElem? g2)
  generalize rows.getD (k + 1) [] = r1 at *
  generalize rows.getD k [] = r2 at *
  have e1 : r1[x]? = some (r1.getD x 0) := getD_ofI (by omega)
  have e2 : r2[y]? = some (r2.getD y 0) := getD_ofI (by omega)
  have q1 := b1 _ (List.mem_of_getElem? e1)
  have q2 := b2 _ (List.mem_of_getElem? e2)
  generalize r1.getD x 0 = p at *
  generalize r2.getD y 0 = q at *
  have w0 : IntKind.i64.wrap (k : Int) = k := wrap_in (by omega)
  have w1 : IntKind.i64.wrap (q + co) = q + co := wrap_in (by omega)
  have w2 : IntKind.i64.wrap p = p := wrap_in (by omega)
  have hk1 : k < m := by omega
  have c1 : ((k : Int) + 1 < m) := by omega
  have c2 : (0 : Int) ≤ (k : Int) + 1 := by omega
  by_cases h1 : 0 ≤ q
  · by_cases h2 : q + co = p
    · simp [hx, hy, hm, g1, g2, gE g1, gE g2, e1, e2, gE e1, gE e2, l1, l2, w0, w1, w2, h1, h2, hk1, hl2, c1, c2]
    · simp [hx, hy, hm, g1, g2, gE g1, gE g2, e1, e2, gE e1, gE e2, l1, l2, w0, w1, w2, h1, h2, hk1, hl2, c1, c2]
  · simp [hx, hy, hm, g1, g2, gE g1, gE g2, e1, e2, gE e1, gE e2, l1, l2, w0, w1, w2, h1, hk1, hl2, c1, c2]

section
variable (ls : List Lnk) (th : List Int) (n : Nat) (gd : Nat → Nat → Int → Nat → Bool)
/-- The link that is taken from a state with so many steps left. -/
def pickL (x left : Nat) (l : Lnk) : Bool := decide (l.From.toNat = x % n) && gd x (entN th n l.To.toNat (x / n)) l.Cost left
def folN : Nat → Nat → List Int
  | 0, _ => []
  | h + 1, x => match ls.find? (pickL th n gd x (h + 1)) with
    | some l => l.To :: folN h (entN th n l.To.toNat (x / n))
    | none => folN h x
end
theorem find_drop {α : Type} {p : α → Bool} {l : List α} {i : Nat} {x : α} (hx : l[i]? = some x) (h : l.find? p = (l.drop i).find? p) : (p x = true → l.find? p = some x) ∧ (p x = false → l.find? p = (l.drop (i + 1)).find? p) := by
  obtain ⟨hi, hxi⟩ := List.getElem?_eq_some_iff.1 hx
  rw [List.drop_eq_getElem_cons hi, hxi] at h
  constructor
  · intro hp
    rw [h, List.find?_cons_of_pos hp]
  · intro hp
    rw [h, List.find?_cons_of_neg (by simp [hp])]
structure FS where
  h : Nat
  x : Nat
  w : List Int
set_option maxHeartbeats 8000000 in
set_option maxRecDepth 10000 in
theorem c50 (ls : List Lnk) (th : List Int) (n t : Nat) (h0 : 0 < n) (hn : n ≤ 128) (hth : th.length ≤ 64) (hls : ∀ x ∈ ls, okLk n x) (L : Nat) (hL : ls.length = L) (hL2 : L ≤ 1024) (g : FuncId) (gd : Nat → Nat → Int → Nat → Bool) (kD : Nat) (xs : List AVal)
    (from_ hops : Nat) (hf : from_ < n) (hh : hops < 1000000)
    (hcl : ∀ x y co left, x < n * (th.length + 1) → y < n * (th.length + 1) → 0 ≤ co → co ≤ 65535 → 0 < left → left ≤ hops → ∀ Z, CFun Try.prog g [.int .i64 ((x : Nat) : Int), .int .i64 ((y : Nat) : Int), .int .i64 (co : Int), .int .i64 ((left : Nat) : Int), .ptr 1 0] (sC ls th n t :: [.sl kD xs .sh] :: Z) (.bool (gd x y co left)) (sC ls th n t :: [.sl kD xs .sh] :: Z)) :
    CFun Try.prog 50 [.ptr 0 0, .int .i64 from_, .int .i64 hops, .fn g [] [.ptr 1 0]] [sC ls th n t, [.sl kD xs .sh]] (.sl 1 (((from_ : Int) :: folN ls th n gd hops (entN th n from_ 0)).map encI) .sh) [sC ls th n t, [.sl kD xs .sh]] := by
  refine CFun.intro (tr := [64]) (fz := []) (n := 72) (rs := [.tmp 8]) Try.func50 rfl (by kernel_rfl) rfl rfl mixed (by kernel_rfl) (by simp) (by simp) ?_
  have h49 := fun a k ha hk Z => at0 (c49 ls th n t a k hn ha hth hk) rfl rfl rfl Z
  obtain ⟨T, hT⟩ : ∃ T, T = (from_ : Int) :: folN ls th n gd hops (entN th n from_ 0) := ⟨_, rfl⟩
  rw [← hT]
  simp only [sC] at *
  simp
  refine ⟨_, _, .inl (by simpa using h49 from_ 0 (by omega) (by omega) _), by simp, ?_⟩
  simp
  have hz1 : ¬ (n : Int) = 0 := by omega
  have hz2 : ¬ n = 0 := by omega
  have hE0 : entN th n from_ 0 < n * (th.length + 1) := by
    unfold entN
    have := entK_len (th := th) (a := from_) (k := 0) (by omega)
    have e2 : (entK th from_ 0 + 1) * n ≤ (th.length + 1) * n := Nat.mul_le_mul_right n (by omega)
    rw [Nat.succ_mul] at e2
    rw [Nat.mul_comm n]
    omega
  refine LoopK.intro (tr := [64]) mixed (by kernel_rfl)
    (fun s : FS => [(0, .ptr 0 0), (3, .fn g [] [.ptr 1 0]), (9, .int .i64 s.x), (10, .sl 1 (s.w.map encI) .own), (11, .int .i64 s.h)])
    (fun _ => [[.sl 13 (ls.map encL) .own, .sl 1 (th.map encI) .sh, .int .i64 n, .int .i64 t], [.sl kD xs .sh]])
    (fun s => s.h ≤ hops ∧ s.x < n * (th.length + 1) ∧ s.w ++ folN ls th n gd s.h s.x = T ∧ s.w.length ≤ hops + 1 - s.h) (fun s => s.h) ⟨hops, entN th n from_ 0, [from_]⟩ ?_ ?_ ?_
  · exact ⟨Nat.le_refl _, hE0, by rw [hT]; rfl, by simp only [List.length_singleton]; omega⟩
  · simp
  · rintro ⟨h, x, w⟩ ⟨h1, h2, h3, h4⟩
    simp only at h1 h2 h3 h4
    by_cases hp : 0 < h
    case neg =>
      have : h = 0 := by omega
      subst this
      simp only [folN, List.append_nil] at h3
      simp [h3]
    obtain ⟨h, rfl⟩ : ∃ h', h = h' + 1 := ⟨h - 1, by omega⟩
    have p1 : (0 : Int) < (h : Int) + 1 := by omega
    obtain ⟨k, hk⟩ : ∃ k, k = x / n := ⟨_, rfl⟩
    have hkt : k ≤ th.length := by rw [hk]; exact Nat.lt_succ_iff.1 (Nat.div_lt_of_lt_mul h2)
    have hxb : x ≤ 128 * 65 := by
      have : n * (th.length + 1) ≤ 128 * 65 := Nat.mul_le_mul hn (by omega)
      omega
    have w1 : IntKind.i64.wrap ((x : Int) / n) = k := by rw [show (x : Int) / n = ((x / n : Nat) : Int) from rfl, ← hk]; exact wrap_in (by omega)
    have w2 : IntKind.i64.wrap (h : Int) = h := wrap_in (by omega)
    simp only [folN] at h3
    simp [p1, hz1, hz2, w1]
    refine LoopK.intro (tr := [64]) mixed (by kernel_rfl)
      (fun i : Nat => [(0, .ptr 0 0), (3, .fn g [] [.ptr 1 0]), (9, .int .i64 x), (10, .sl 1 (w.map encI) .own), (11, .int .i64 ((h : Int) + 1)), (12, .int .i64 k), (35, .sl 13 (ls.map encL) .sh), (36, .int .i64 L), (37, .int .i64 i)])
      (fun _ => [[.sl 13 (ls.map encL) .own, .sl 1 (th.map encI) .sh, .int .i64 n, .int .i64 t], [.sl kD xs .sh]])
      (fun i => i ≤ L ∧ ls.find? (pickL th n gd x (h + 1)) = (ls.drop i).find? (pickL th n gd x (h + 1))) (fun i => L - i) 0 ?_ ?_ ?_
    · exact ⟨by omega, rfl⟩
    · simp [hL]
    · rintro i ⟨i1, i2⟩
      by_cases hi : i < L
      case neg =>
        have hle : ls.length ≤ i := by rw [hL]; omega
        rw [List.drop_eq_nil_of_le hle] at i2
        rw [i2] at h3
        simp only [List.find?_nil] at h3
        simp [hi, w2]
        exact ⟨⟨h, x, w⟩, ⟨by simp only; omega, h2, h3, by simp only at h4 ⊢; omega⟩, by simp only; omega, by simp⟩
      obtain ⟨l, hl⟩ : ∃ l, ls[i]? = some l := ⟨_, List.getElem?_eq_getElem (by omega)⟩
      obtain ⟨o1, o2, o3, o4, o5, o6⟩ := hls l (List.mem_of_getElem? hl)
      obtain ⟨f1, f2⟩ := find_drop hl i2
      have e2 : l.To = ((l.To.toNat : Nat) : Int) := by omega
      have e1 : l.From = ((l.From.toNat : Nat) : Int) := by omega
      have w3 : IntKind.i64.wrap ((i : Int) + 1) = i + 1 := wrap_in (by omega)
      have hy : entN th n l.To.toNat k < n * (th.length + 1) := by
        unfold entN
        have := entK_len (th := th) (a := l.To.toNat) (k := k) hkt
        have e2 : (entK th l.To.toNat k + 1) * n ≤ (th.length + 1) * n := Nat.mul_le_mul_right n (by omega)
        rw [Nat.succ_mul] at e2
        rw [Nat.mul_comm n]
        omega
      have hc := hcl x (entN th n l.To.toNat k) l.Cost (h + 1) h2 hy (by omega) o6 (by omega) h1
      have h49' := h49 l.To.toNat k (by omega) hkt
      simp only [pickL, ← hk] at f1 f2
      rw [← e2] at h49'
      obtain ⟨y, hyy⟩ : ∃ y, y = entN th n l.To.toNat k := ⟨_, rfl⟩
      simp only [← hyy] at f1 f2 h49' hy hc
      simp [hi, hL, hl, gE hl]
      refine ⟨_, _, .inl (by simpa using h49' _), by simp, ?_⟩
      have w4 : (x : Int).tmod n = ((x % n : Nat) : Int) := rfl
      by_cases hfr : l.From.toNat = x % n
      · have hfr2 : l.From = (x : Int).tmod n := by rw [w4, ← hfr]; exact e1
        have s1 : w.length + 1 ≤ 140737488355328 := by omega
        have s2 : (w.length + 1) * 8 ≤ 140737488355328 := by omega
        cases hg : gd x y l.Cost (h + 1) with
        | true =>
          rw [hg] at hc
          have hfind := f1 (by simp [hfr, hg])
          rw [hfind] at h3
          simp only [← hk, ← hyy] at h3
          simp [hz1, hz2, hfr2]
          refine ⟨_, _, .inl (by simpa using hc _), by simp, ?_⟩
          simp [s1, s2, w2]
          exact ⟨⟨h, y, w ++ [l.To]⟩, ⟨by simp only; omega, hy, by rw [List.append_assoc]; exact h3, by simp only [List.length_append, List.length_singleton] at h4 ⊢; omega⟩, by simp only; omega, by simp⟩
        | false =>
          rw [hg] at hc
          have hfind := f2 (by simp [hg])
          simp [hz1, hz2, hfr2]
          refine ⟨_, _, .inl (by simpa using hc _), by simp, ?_⟩
          simp [w3]
          exact ⟨i + 1, ⟨by omega, hfind⟩, by omega, by simp⟩
      · have hfr2 : ¬ l.From = (x : Int).tmod n := by rw [w4]; omega
        have hfind := f2 (by simp [hfr])
        simp [hz1, hz2, hfr2, w3]
        exact ⟨i + 1, ⟨by omega, hfind⟩, by omega, by simp⟩
end Go.Proofs.Ytgcnlmcpmocbhaa

/- The search: rows. -/
namespace Go.Proofs.Ytgcnlmcpmocbhaa
open Go Go.Am Go.Wk

theorem and32 (n : Nat) (h : n < 4294967296) : (n &&& 4294967295) = n := by
  have := Nat.and_two_pow_sub_one_eq_mod n 32
  rw [show (2 : Nat) ^ 32 - 1 = 4294967295 from rfl] at this
  rw [this]
  exact Nat.mod_eq_of_lt h
set_option maxHeartbeats 4000000 in
set_option maxRecDepth 10000 in
theorem c83 (n : Nat) (hn : n < 1000000) : CFun Try.prog 83 [.int .u64 1, .int .u64 n] [] (.tup [.int .u64 0, .int .u64 n]) [] := by
  refine CFun.intro (tr := []) (fz := []) (n := 51) (rs := [.tmp 4, .tmp 5]) Try.func83 rfl (by kernel_rfl) rfl rfl mixed (by kernel_rfl) (by simp) (by simp) ?_
  have p2 : (2 : Nat) ^ IntKind.u64.bits = 18446744073709551616 := by decide
  have pm : (2 : Int) ^ (min 32 IntKind.u64.bits) = 4294967296 := by decide
  have w0 : ∀ x : Nat, x < 1000000 → IntKind.u64.wrap (x : Int) = x := fun x hx => by rw [IntKind.wrap_u64]; omega
  have w1 : IntKind.u64.wrap 1 = 1 := by decide
  have w2 : IntKind.u64.wrap 0 = 0 := by decide
  have wn := w0 n hn
  have a1 := and32 n (by omega)
  have a2 : n % 18446744073709551616 = n := Nat.mod_eq_of_lt (by omega)
  have f1 : (n : Int).fdiv 4294967296 = 0 := by rw [Int.fdiv_eq_ediv_of_nonneg _ (by decide)]; omega
  have f2 : (1 : Int).fdiv 4294967296 = 0 := by decide
  have f3 : (0 : Int).fdiv 4294967296 = 0 := by decide
  simp [pm, p2, w1, w2, wn, a1, a2, f1, f2, f3]
-- bits.Mul
set_option maxHeartbeats 4000000 in
set_option maxRecDepth 10000 in
theorem c80 (n : Nat) (hn : n < 1000000) : CFun Try.prog 80 [.int .u64 1, .int .u64 n] [] (.tup [.int .u64 0, .int .u64 n]) [] := by
  refine CFun.intro (tr := []) (fz := []) (n := 30) (rs := [.tmp 4, .tmp 5]) Try.func80 rfl (by kernel_rfl) rfl rfl mixed (by kernel_rfl) (by simp) (by simp) ?_
  have h := c83 n hn
  simp [condK]
  refine ⟨_, _, .inl (by simpa using h), by simp, ?_⟩
  simp
def ceI (x : Int) : List AVal := [.int .i64 x]
theorem eIe : Enc ceI 1 := ⟨by decide, fun _ => rfl, fun _ => rfl, fun _ => rfl⟩
theorem rowZ_C (l : List Int) : rowZ l = rowC ceI l := by
  induction l with
  | nil => rfl
  | cons x l ih => rw [rowC_cons, ← ih]; rfl
theorem fillR (N j a : Nat) (h : j + a ≤ N) : setR (rowZ (List.replicate j (-1) ++ List.replicate (N - j) 0)) j (List.replicate a (AVal.int .i64 (-1))) = rowZ (List.replicate (j + a) (-1) ++ List.replicate (N - (j + a)) 0) := by
  have e1 : List.replicate a (AVal.int .i64 (-1)) = rowC ceI (List.replicate a (-1)) := by rw [← rowZ_C]; simp [rowZ]
  have := eIe.setFlat (List.replicate j (-1)) j (by simp) (rowC ceI (List.replicate (N - j) 0)) (List.replicate a (-1)) (by rw [eIe.rowLen]; simp; omega)
  rw [Nat.mul_one] at this
  have e2 := eIe.rowDrop (List.replicate (N - j) 0) a
  rw [rowZ_C, rowC_app, e1, this, rowZ_C, rowC_app, rowC_app]
  rw [List.length_replicate, e2, List.drop_replicate, ← rowC_app, List.replicate_append_replicate]
  rw [show N - j - a = N - (j + a) by omega]
-- slices.Repeat of one
set_option maxHeartbeats 4000000 in
set_option maxRecDepth 10000 in
theorem c71 (N : Nat) (h0 : 0 < N) (hN : N < 1000000) : CFun Try.prog 71 [.sl 1 [.int .i64 (-1)] .full, .int .i64 N] [] (.osl 0 0 N (some N) 1) [rowZ (List.replicate N (-1))] := by
  refine CFun.intro (tr := [100030]) (fz := []) (n := 48) (rs := [.tmp 4]) Try.func71 rfl (by kernel_rfl) rfl rfl mixed (by kernel_rfl) (by simp) (by simp) ?_
  have h := fun H => (c80 N hN).up' H rfl rfl
  have b1 : ¬ (N : Int) < 0 := by omega
  have w0 : ∀ x : Nat, x < 1000000 → IntKind.u64.wrap (x : Int) = x := fun x hx => by rw [IntKind.wrap_u64]; omega
  have w1 := w0 N hN
  have w2 : IntKind.u64.wrap 1 = 1 := by decide
  have w3 : IntKind.i64.wrap (N : Int) = N := wrap_in (by omega)
  simp [b1, w1, w2]
  refine ⟨_, _, .inl (by simpa using h _), by simp, ?_⟩
  have b2 : ¬ (9223372036854775807 : Int) < N := by omega
  have b3 : 8 * N ≤ 281474976710656 := by omega
  have b4 : N ≤ 9223372036854775807 := by omega
  have b5 : (N : Int) ≤ 9223372036854775807 := by omega
  have b6 : ¬ N = 0 := by omega
  have b7 : min 1 N = 1 := by omega
  have b8 : 1 ≤ N := by omega
  simp [b1, b2, b3, b4, b5, b6, b7, b8, w1, w2, w3, h0]
  obtain ⟨mid, hmid⟩ : ∃ mid : Nat → List AVal, mid = fun j => rowZ (List.replicate j (-1) ++ List.replicate (N - j) 0) := ⟨_, rfl⟩
  have m1 : (List.replicate N (AVal.int .i64 0)).set 0 (.int .i64 (-1)) = mid 1 := by
    rw [hmid]
    obtain ⟨m, rfl⟩ : ∃ m, N = m + 1 := ⟨N - 1, by omega⟩
    simp [List.replicate_succ, rowZ]
  have mN : mid N = rowZ (List.replicate N (-1)) := by rw [hmid]; simp
  have mle : ∀ m j, LeCells m (mid j) (mid j) := fun m j => by rw [hmid]; exact leI m _
  have mlen : ∀ j, j ≤ N → (mid j).length = N := fun j hj => by rw [hmid]; simp; omega
  have mtk : ∀ j a, a ≤ j → ((mid j).take j).take a = List.replicate a (AVal.int .i64 (-1)) := fun j a ha => by
    rw [hmid]
    simp only [rowZ, List.map_append, List.map_replicate]
    rw [List.take_take, Nat.min_eq_left ha, List.take_append_of_le_length (by simpa using ha), List.take_replicate, Nat.min_eq_left ha]
  have mdis : ∀ j, (mid j).map AVal.dis = mid j := fun j => by
    rw [hmid]
    simp only [rowZ, List.map_map]
    exact List.map_congr_left fun x _ => rfl
  have mfill : ∀ j a, j + a ≤ N → setR (mid j) j (List.replicate a (AVal.int .i64 (-1))) = mid (j + a) := fun j a h => by rw [hmid]; exact fillR N j a h
  clear hmid
  rw [m1, ← mN]
  refine LoopK.intro (tr := [100030]) mixed (by kernel_rfl) (fun j : Nat => [(7, .osl 0 0 N (some N) 1), (8, .int .i64 j)]) (fun j => [mid j]) (fun j => 1 ≤ j ∧ j ≤ N) (fun j => N - j) 1 ?_ ?_ ?_
  · simp; omega
  · simp [mle]
  · rintro j ⟨j1, j2⟩
    by_cases hj : j < N
    case neg =>
      have : j = N := by omega
      subst this
      simp [mle]
    have c1 : (0 : Int) ≤ j := by omega
    have c2 : (j : Int) ≤ N := by omega
    obtain ⟨a, ha⟩ : ∃ a, a = min j (N - j) := ⟨_, rfl⟩
    have ha2 : min (N - j) j = a := by rw [ha]; exact Nat.min_comm _ _
    have a0 : ¬ a = 0 := by omega
    have a1 : j + a ≤ N := by omega
    have ml := mlen j j2
    have j0 : ¬ j = 0 := by omega
    have j3 : ¬ N - j = 0 := by omega
    have j4 : ¬ N ≤ j := by omega
    have w4 : IntKind.i64.wrap ((j : Int) + a) = (j : Int) + a := wrap_in (by omega)
    have k1 := mtk j a (by omega)
    have k2 := mfill j a a1
    have k3 := mdis j
    simp [hj, j2, c1, c2, ← ha, ha2, a0, a1, ml, j0, j3, j4, k1, k3, k2, w4]
    exact ⟨j + a, ⟨by omega, by omega⟩, by omega, by simp [mle]⟩
end Go.Proofs.Ytgcnlmcpmocbhaa

/- The search: least costs of so many steps. -/
namespace Go.Wk

noncomputable def mnO (E : List Arc) (z h x : Nat) : Option Nat := @dite _ (∃ c, Mn E z h x c) (Classical.propDecidable _) (fun h => some h.choose) (fun _ => none)
theorem mnO_some {E : List Arc} {z h x c : Nat} (hd : Mn E z h x c) : mnO E z h x = some c := by
  have hex : ∃ c, Mn E z h x c := ⟨c, hd⟩
  unfold mnO
  rw [dif_pos hex]
  exact congrArg some (hex.choose_spec.uniq hd)
theorem mnO_spec {E : List Arc} {z h x c : Nat} (e : mnO E z h x = some c) : Mn E z h x c := by
  unfold mnO at e
  split at e
  · rename_i hex
    injection e with e
    have := hex.choose_spec
    rw [e] at this
    exact this
  · cases e
theorem mnO_no {E : List Arc} {z h x : Nat} (e : mnO E z h x = none) {ys : List Nat} {c : Nat} (hw : W E x ys c z) : ys.length ≠ h := by
  intro hl
  obtain ⟨d, hd⟩ := Mn.exists hw hl
  rw [mnO_some hd] at e
  cases e
theorem mnO_none {E : List Arc} {z h x : Nat} (hn : ∀ ys c, W E x ys c z → ys.length ≠ h) : mnO E z h x = none := by
  cases e : mnO E z h x with
  | none => rfl
  | some c =>
    obtain ⟨⟨ys, h1, h2⟩, _⟩ := mnO_spec e
    exact absurd h2 (hn _ _ h1)
def encO : Option Nat → Int
  | some c => c
  | none => -1
noncomputable def mnRow (E : List Arc) (z sz h : Nat) : List Int := (List.range sz).map fun x => encO (mnO E z h x)
theorem mnRow_len (E : List Arc) (z sz h : Nat) : (mnRow E z sz h).length = sz := by simp [mnRow]
theorem mnRow_get (E : List Arc) (z : Nat) {sz : Nat} (h : Nat) {x : Nat} (hx : x < sz) : (mnRow E z sz h).getD x 0 = encO (mnO E z h x) := by
  simp [mnRow, List.getD_eq_getElem?_getD, hx]
theorem mnRow_zero (E : List Arc) (z : Nat) {sz : Nat} (hz : z < sz) : (List.replicate sz (-1 : Int)).set z 0 = mnRow E z sz 0 := by
  apply List.ext_getElem?
  intro x
  by_cases hx : x < sz
  case neg => rw [List.getElem?_eq_none (by simp; omega), List.getElem?_eq_none (by simp [mnRow_len]; omega)]
  rw [List.getElem?_set]
  have hr : (mnRow E z sz 0)[x]? = some (encO (mnO E z 0 x)) := by simp [mnRow, hx]
  rw [hr]
  by_cases e : z = x
  · subst e
    have : Mn E z 0 z 0 := ⟨⟨[], .nil z, rfl⟩, fun _ _ _ _ => Nat.zero_le _⟩
    rw [mnO_some this]
    simp [encO, hx]
  · have : mnO E z 0 x = none := mnO_none fun ys c hw hl => by
      have : ys = [] := List.length_eq_zero_iff.1 hl
      subst this
      exact e hw.nil_inv.2
    rw [if_neg e, this]
    simp [encO, hx]
def relR (prev row : List Int) (a : Arc) : List Int :=
  if 0 ≤ prev.getD a.2.1 0 ∧ (row.getD a.1 0 < 0 ∨ prev.getD a.2.1 0 + a.2.2 < row.getD a.1 0) then row.set a.1 (prev.getD a.2.1 0 + a.2.2) else row
theorem relR_len (prev row : List Int) (a : Arc) : (relR prev row a).length = row.length := by unfold relR; split <;> simp
structure RowI (E : List Arc) (z sz h : Nat) (P : List Arc) (row : List Int) : Prop where
  len : row.length = sz
  no : ∀ x < sz, row.getD x 0 < 0 → row.getD x 0 = -1 ∧ ∀ y a, (x, y, a) ∈ P → mnO E z h y = none
  yes : ∀ x < sz, 0 ≤ row.getD x 0 → ∃ y a c, (x, y, a) ∈ P ∧ mnO E z h y = some c ∧ row.getD x 0 = ((a + c : Nat) : Int) ∧ ∀ y' a' c', (x, y', a') ∈ P → mnO E z h y' = some c' → a + c ≤ a' + c'
theorem getD_setI {l : List Int} {x y : Nat} {v : Int} (hx : x < l.length) : (l.set x v).getD y 0 = if y = x then v else l.getD y 0 := by
  simp only [List.getD_eq_getElem?_getD, List.getElem?_set]
  by_cases e : y = x
  · subst e; simp [hx]
  · rw [if_neg (Ne.symm e), if_neg e]
theorem RowI.step {E : List Arc} {z sz h : Nat} {P : List Arc} {row : List Int} (r : RowI E z sz h P row) {a : Arc} (h1 : a.1 < sz) (h2 : a.2.1 < sz) : RowI E z sz h (P ++ [a]) (relR (mnRow E z sz h) row a) := by
  obtain ⟨x, y, co⟩ := a
  simp only at h1 h2
  have hl : x < row.length := by rw [r.len]; exact h1
  unfold relR
  rw [mnRow_get E z h h2]
  simp only
  cases hm : mnO E z h y with
  | none =>
    rw [if_neg (by simp [encO])]
    refine ⟨r.len, fun u hu hn => ?_, fun u hu hn => ?_⟩
    · obtain ⟨k1, k2⟩ := r.no u hu hn
      refine ⟨k1, fun y' a' hm' => ?_⟩
      rcases List.mem_append.1 hm' with q | q
      · exact k2 _ _ q
      · simp at q
        rw [q.2.1]; exact hm
    · obtain ⟨y1, a1, c1, k1, k2, k3, k4⟩ := r.yes u hu hn
      refine ⟨y1, a1, c1, List.mem_append_left _ k1, k2, k3, fun y' a' c' hm' hc' => ?_⟩
      rcases List.mem_append.1 hm' with q | q
      · exact k4 _ _ _ q hc'
      · simp at q
        rw [q.2.1, hm] at hc'; cases hc'
  | some c =>
    have he : encO (some c) = (c : Int) := rfl
    rw [he]
    have hsum : (c : Int) + (co : Int) = ((co + c : Nat) : Int) := by omega
    by_cases hcond : 0 ≤ (c : Int) ∧ (row.getD x 0 < 0 ∨ (c : Int) + co < row.getD x 0)
    · rw [if_pos hcond]
      refine ⟨by simp [r.len], fun u hu hn => ?_, fun u hu hn => ?_⟩
      · rw [getD_setI hl] at hn ⊢
        by_cases e : u = x
        · rw [if_pos e] at hn; omega
        · rw [if_neg e] at hn ⊢
          obtain ⟨k1, k2⟩ := r.no u hu hn
          refine ⟨k1, fun y' a' hm' => ?_⟩
          rcases List.mem_append.1 hm' with q | q
          · exact k2 _ _ q
          · simp at q
            exact absurd q.1 e
      · rw [getD_setI hl] at hn ⊢
        by_cases e : u = x
        · subst e
          rw [if_pos rfl]
          refine ⟨y, co, c, by simp, hm, hsum, fun y' a' c' hm' hc' => ?_⟩
          rcases List.mem_append.1 hm' with q | q
          · rcases hcond.2 with k | k
            · have := (r.no u hu k).2 _ _ q
              rw [this] at hc'; cases hc'
            · obtain ⟨y1, a1, c1, _, _, k3, k4⟩ := r.yes u hu (by omega)
              have := k4 _ _ _ q hc'
              omega
          · simp at q
            rw [q.1, hm] at hc'
            injection hc' with hc'
            omega
        · rw [if_neg e] at hn ⊢
          obtain ⟨y1, a1, c1, k1, k2, k3, k4⟩ := r.yes u hu hn
          refine ⟨y1, a1, c1, List.mem_append_left _ k1, k2, k3, fun y' a' c' hm' hc' => ?_⟩
          rcases List.mem_append.1 hm' with q | q
          · exact k4 _ _ _ q hc'
          · simp at q
            exact absurd q.1 e
    · rw [if_neg hcond]
      have hc2 : ¬ row.getD x 0 < 0 ∧ ¬ (c : Int) + co < row.getD x 0 := by
        constructor
        · intro k; exact hcond ⟨by omega, .inl k⟩
        · intro k; exact hcond ⟨by omega, .inr k⟩
      refine ⟨r.len, fun u hu hn => ?_, fun u hu hn => ?_⟩
      · obtain ⟨k1, k2⟩ := r.no u hu hn
        refine ⟨k1, fun y' a' hm' => ?_⟩
        rcases List.mem_append.1 hm' with q | q
        · exact k2 _ _ q
        · simp at q
          rw [q.1] at hn
          exact absurd hn hc2.1
      · obtain ⟨y1, a1, c1, k1, k2, k3, k4⟩ := r.yes u hu hn
        refine ⟨y1, a1, c1, List.mem_append_left _ k1, k2, k3, fun y' a' c' hm' hc' => ?_⟩
        rcases List.mem_append.1 hm' with q | q
        · exact k4 _ _ _ q hc'
        · simp at q
          obtain ⟨q1, q2, q3⟩ := q
          subst q1 q2 q3
          rw [hm] at hc'
          injection hc' with hc'
          omega
theorem RowI.start (E : List Arc) (z sz h : Nat) : RowI E z sz h [] (List.replicate sz (-1)) := by
  refine ⟨by simp, fun x hx _ => ⟨by simp [List.getD_eq_getElem?_getD, hx], fun _ _ k => by simp at k⟩, fun x hx k => ?_⟩
  simp [List.getD_eq_getElem?_getD, hx] at k
theorem RowI.done {E : List Arc} {z sz h : Nat} {row : List Int} (r : RowI E z sz h E row) : row = mnRow E z sz (h + 1) := by
  apply List.ext_getElem?
  intro x
  by_cases hx : x < sz
  case neg => rw [List.getElem?_eq_none (by rw [r.len]; omega), List.getElem?_eq_none (by rw [mnRow_len]; omega)]
  have hr : (mnRow E z sz (h + 1))[x]? = some (encO (mnO E z (h + 1) x)) := by simp [mnRow, hx]
  have hg : row[x]? = some (row.getD x 0) := by simp [List.getD_eq_getElem?_getD, List.getElem?_eq_getElem (show x < row.length by rw [r.len]; exact hx)]
  rw [hr, hg]
  congr 1
  by_cases hn : row.getD x 0 < 0
  · obtain ⟨k1, k2⟩ := r.no x hx hn
    have : mnO E z (h + 1) x = none := mnO_none fun ys c hw hl => by
      cases ys with
      | nil => simp at hl
      | cons y ys =>
        obtain ⟨a, d, h1, h2, h3⟩ := hw.cons_inv
        simp at hl
        exact mnO_no (k2 _ _ h1) h2 hl
    rw [this, k1]
    rfl
  · obtain ⟨y, a, c, k1, k2, k3, k4⟩ := r.yes x hx (by omega)
    obtain ⟨⟨ys, m1, m2⟩, _⟩ := mnO_spec k2
    have : Mn E z (h + 1) x (a + c) := by
      refine ⟨⟨y :: ys, .cons k1 m1, by simp [m2]⟩, fun zs d hw hl => ?_⟩
      cases zs with
      | nil => simp at hl
      | cons y' zs =>
        obtain ⟨a', d', h1, h2, h3⟩ := hw.cons_inv
        simp at hl
        obtain ⟨c', hc'⟩ := Mn.exists h2 hl
        have := k4 _ _ _ h1 (mnO_some hc')
        have := hc'.2 _ _ h2 hl
        omega
    rw [mnO_some this, k3]
    rfl
theorem foldRow {E : List Arc} {z sz h : Nat} (hE : ∀ a ∈ E, a.1 < sz ∧ a.2.1 < sz) : ∀ j, j ≤ E.length → RowI E z sz h (E.take j) ((E.take j).foldl (relR (mnRow E z sz h)) (List.replicate sz (-1))) := by
  intro j
  induction j with
  | zero => intro _; exact RowI.start E z sz h
  | succ j ih =>
    intro hj
    have hg : E[j]? = some (E[j]'(by omega)) := List.getElem?_eq_getElem (by omega)
    have ht : E.take (j + 1) = E.take j ++ [E[j]'(by omega)] := by rw [List.take_add_one, hg]; rfl
    have hb := hE _ (List.getElem_mem (show j < E.length by omega))
    rw [ht, List.foldl_append]
    exact (ih (by omega)).step hb.1 hb.2
theorem foldRow_all {E : List Arc} {z sz h : Nat} (hE : ∀ a ∈ E, a.1 < sz ∧ a.2.1 < sz) : E.foldl (relR (mnRow E z sz h)) (List.replicate sz (-1)) = mnRow E z sz (h + 1) := by
  have := foldRow (z := z) (h := h) hE E.length (Nat.le_refl _)
  rw [List.take_length] at this
  exact this.done
end Go.Wk
