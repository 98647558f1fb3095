/- The reference's Route, by the program. -/
import Derived.Test.YtpmmnnaaoideeaaTC43
import Derived.Test.YtpmmnnaaoideeaaTC53
import Derived.Test.YtpmmnnaaoideeaaTC40
import Derived.Test.YtpmmnnaaoideeaaAmAF
set_option linter.unusedSimpArgs false
set_option linter.unusedVariables false
namespace Go.Proofs.Ytpmmnnaaoideeaa
open Go Go.Am Go.Wk

def bC : Option Wlk → List AVal
  | none => [.sl 1 [] .sh, .int .i64 0, .int .i64 0]
  | some w => ceW w
theorem firstW_ok {n : Nat} {fr : Int} (h0 : 0 ≤ fr) (h1 : fr < n) (c : Con) : okW n c.Thru.length 0 (firstW fr c) := by
  refine ⟨rfl, by simpa [lastW, firstW] using h0, by simpa [lastW, firstW] using h1, by simp [firstW], by simp [firstW], ?_⟩
  simp only [firstW]
  split
  · rename_i e
    have := (List.getElem?_eq_some_iff.1 e).1
    omega
  · omega
/-- The first loop of a code. -/
def firstLoop : Code → Option Code
  | .loop c => some c
  | .seq a b => (firstLoop a).orElse fun _ => firstLoop b
  | .block _ c => firstLoop c
  | .cond _ a b => (firstLoop a).orElse fun _ => firstLoop b
  | .scope c => firstLoop c
  | _ => none
def loopIn (c : Code) : Code := (firstLoop c).getD .skip
structure OS where
  h : Nat
  A : List Wlk
  b : Option Wlk
structure WS where
  j : Nat
  nx : List Wlk
  b : Option Wlk
structure LS where
  i : Nat
  nx : List Wlk
  loc : Nat
theorem loopR_stop {l : List Lnk} {c : Con} {to : Int} {sz h : Nat} {A : List Wlk} {b : Option Wlk} (hc : ¬ (A ≠ [] ∧ h < sz ∧ (c.Hops = 0 ∨ (h : Int) ≤ c.Hops))) : ∀ f, loopR l c to sz f h A b = b
  | 0 => rfl
  | f + 1 => by simp only [loopR]; rw [if_neg hc]
theorem loopR_go {l : List Lnk} {c : Con} {to : Int} {sz h : Nat} {A : List Wlk} {b : Option Wlk} (hc : A ≠ [] ∧ h < sz ∧ (c.Hops = 0 ∨ (h : Int) ≤ c.Hops)) : loopR l c to sz (sz + 1 - h) h A b = loopR l c to sz (sz + 1 - (h + 1)) (h + 1) (nextR l c A) (bestR to c.Thru.length b A) := by
  obtain ⟨f, hf⟩ : ∃ f, sz + 1 - h = f + 1 := ⟨sz - h, by omega⟩
  rw [hf, show sz + 1 - (h + 1) = f by omega]
  simp only [loopR]
  rw [if_pos hc]
theorem bC_le (m : Nat) (b : Option Wlk) : LeCells m (bC b) (bC b) := by cases b <;> simp [bC, ceW, LeCells]
def nxV (nx : List Wlk) : Nat → AVal
  | 0 => .sl 0 [] .full
  | 1 => .osl 4 0 nx.length none 3
  | _ => .osl 3 0 nx.length none 3
def HL (c : Con) (b : Option Wlk) (w : Wlk) (nx : List Wlk) : Nat → List (List AVal)
  | 0 => [cellsC c, [], bC b, ceW w]
  | 1 => [cellsC c, [], bC b, ceW w, rowC ceW nx]
  | _ => [cellsC c, [], bC b, rowC ceW nx, ceW w]
/-- What the slots hold around the links. -/
def slL (l : List Lnk) (N : Nat) (to : Int) (b : Option Wlk) (h : Nat) (A : List Wlk) (j : Nat) (nx : List Wlk) (loc : Nat) : List (Nat × AVal) :=
  [(0, .int .i64 N), (1, .sl 13 (l.map encL) .sh), (3, .int .i64 to), (9, .ptr 0 0), (16, .ptr 2 0), (17, .bool b.isSome), (18, .int .i64 h), (19, nxV nx loc), (96, .sl 3 (A.map encW) .sh), (97, .int .i64 A.length), (98, .int .i64 j)]
def holds (t : Nat → AVal) (L : List (Nat × AVal)) : Prop := ∀ p ∈ L, t p.1 = p.2
theorem bC_tree (b : Option Wlk) : (bC b).all AVal.tree = true := by cases b <;> rfl
theorem treeCS {σ : Nat → Nat} {N n : Nat} {cs : List AVal} (h : cs.all AVal.tree = true) : LeCellsS σ N n cs cs := treeCellsS h
end Go.Proofs.Ytpmmnnaaoideeaa

/- The program and the reference find the same route. No program. -/
namespace Go.Proofs.Ytpmmnnaaoideeaa
open Go Go.Am Go.Wk

theorem out_false {N : Nat} {x : Int} (h : outN N x = false) : x = (x.toNat : Int) ∧ x.toNat < N := by
  simp only [outN, Bool.or_eq_false_iff, decide_eq_false_iff_not] at h
  omega
theorem first_kept {l : List Lnk} {n fr : Nat} {c : Con} (hf : fr < n) : Kept (arcsN (l.filter fun x => usableN x c) c.Thru n) fr n (entN c.Thru n fr 0) c.Thru.length 0 (fun ys s d => W (arcsN (l.filter fun x => usableN x c) c.Thru n) (entN c.Thru n fr 0) ys d s ∧ ys.length = 0) [firstW (fr : Int) c] := by
  have e1 := ent_div (th := c.Thru) (k := 0) hf
  have e2 := ent_mod (th := c.Thru) (k := 0) hf
  have r : RW (arcsN (l.filter fun x => usableN x c) c.Thru n) fr n (entN c.Thru n fr 0) 0 (firstW (fr : Int) c) [] (entN c.Thru n fr 0) 0 := by
    refine ⟨.nil _, rfl, rfl, rfl, ?_, ?_⟩
    · rw [e1]; rfl
    · rw [e2]; rfl
  refine ⟨fun w hw => ?_, ?_⟩
  · rw [List.mem_singleton] at hw
    subst hw
    exact ⟨_, _, _, r, by rw [e1]; exact entK_len (Nat.zero_le _)⟩
  · rintro ys s d ⟨hw, hl⟩
    have : ys = [] := List.length_eq_zero_iff.1 hl
    subst this
    obtain ⟨rfl, rfl⟩ := hw.nil_inv
    exact ⟨_, by simp, [], 0, r, .inr ⟨rfl, by simp [lexlt]⟩⟩
/-- Both find the least walk. -/
theorem walk_ref {l : List Lnk} {n fr to : Nat} {c : Con} (hls : ∀ x ∈ l, okLk n x) (hs : l.Pairwise fun x y => x.From < y.From ∨ x.From = y.From ∧ x.To < y.To) (h0 : 0 < n) (hto : to < n) (hf : fr < n) (hm0 : 0 ≤ c.Hops) :
    walkN (l.filter fun x => usableN x c) c.Thru n to fr c.Hops = (loopR l c (to : Int) (n * (c.Thru.length + 1)) (n * (c.Thru.length + 1) + 1) 0 [firstW (fr : Int) c] none).map fun w => (w.N, w.C) := by
  have hus := usk hls (c := c)
  have hE1 : ∀ a ∈ arcsN (l.filter fun x => usableN x c) c.Thru n, 1 ≤ a.2.2 := fun a ha => (arcs_bound hus ha).2.2.1
  have hE2 : ∀ a ∈ arcsN (l.filter fun x => usableN x c) c.Thru n, a.2.1 < n * (c.Thru.length + 1) := fun a ha => (arcs_bound hus ha).2.1
  have hx0s : entN c.Thru n fr 0 < n * (c.Thru.length + 1) := by
    unfold entN
    have := entK_len (th := c.Thru) (a := fr) (k := 0) (by omega)
    have e2 : (entK c.Thru fr 0 + 1) * n ≤ (c.Thru.length + 1) * n := Nat.mul_le_mul_right n (by omega)
    rw [Nat.succ_mul] at e2
    rw [Nat.mul_comm n]
    omega
  have h1 := walkN_best (ls := l.filter fun x => usableN x c) (th := c.Thru) (n := n) (t := to) (from_ := fr) (most := c.Hops) h0 hus (hs.filter _) hf hm0
  have h2 := loopR_best (l := l) (n := n) (fr := fr) (x0 := entN c.Thru n fr 0) (to := to) (c := c) hls h0 hto (n * (c.Thru.length + 1)) none [] (n * (c.Thru.length + 1) + 1) 0 [firstW (fr : Int) c] none rfl (Nat.zero_le _) (fun j hj => by omega) (first_kept hf) ⟨fun w hw => by
    rw [List.mem_singleton] at hw
    subst hw
    exact firstW_ok (by omega) (by omega) c, by simp⟩ (fun ys d _ => Nat.zero_le _)
  generalize walkN (l.filter fun x => usableN x c) c.Thru n to fr c.Hops = X at *
  generalize loopR l c (to : Int) (n * (c.Thru.length + 1)) (n * (c.Thru.length + 1) + 1) 0 [firstW (fr : Int) c] none = Y at *
  cases X with
  | none =>
    cases Y with
    | none => rfl
    | some w =>
      obtain ⟨ys, co, _, hb⟩ := h2
      exact absurd hb.l.2 (h1 _ _ hb.w)
  | some p =>
    obtain ⟨ys, co, hb, e1, e2⟩ := h1
    cases Y with
    | none =>
      exfalso
      rcases hb.w.short hE1 hE2 hx0s with h3 | ⟨zs, d, k1, k2, k3, k4⟩
      · exact h2 _ _ hb.w ⟨h3, hb.l⟩
      · exact h2 _ _ k1 ⟨k4, limH_mono _ _ _ k3 hb.l⟩
    | some w =>
      obtain ⟨zs, d, r, hb'⟩ := h2
      obtain ⟨k1, k2⟩ := hb.uniq (hb'.of_short hE1 hE2 (limH_mono _) hx0s)
      obtain ⟨p1, p2⟩ := p
      simp only at e1 e2
      rw [Option.map_some, r.N, r.C, e1, e2, k2]
      congr 2
      have k3 := congrArg ndI k1
      rw [← k3]
      simp [ndI]
theorem routeN_ref (n : Int) (l : List Lnk) (fr to : Int) (c : Con) : routeN n l fr to c = refN n l fr to c := by
  unfold routeN refN
  by_cases g1 : checkE n l c = 0
  case neg => rw [if_pos g1, if_pos g1]
  have g1' : ¬ checkE n l c ≠ 0 := fun h => h g1
  rw [if_neg g1', if_neg g1']
  by_cases g2 : (outN n fr || outN n to) = true
  · rw [if_pos g2, if_pos g2]
  rw [if_neg g2, if_neg g2]
  by_cases g3 : hasB c.Avoid fr = true
  · rw [if_pos g3, if_pos g3]
    simp [loopR]
  rw [if_neg g3, if_neg g3]
  obtain ⟨n1, n2, l2, lk, cn⟩ := check_links g1
  obtain ⟨asc, _, lko⟩ := links_asc lk
  obtain ⟨c1, c2, c3, _⟩ := con_ok cn
  obtain ⟨N, hN⟩ : ∃ N : Nat, n = N := ⟨n.toNat, by omega⟩
  subst hN
  simp only [Bool.or_eq_true, not_or, Bool.not_eq_true] at g2
  obtain ⟨f1, f2⟩ := out_false g2.1
  obtain ⟨t1, t2⟩ := out_false g2.2
  have h := walk_ref (l := l) (n := N) (fr := fr.toNat) (to := to.toNat) (c := c) (fun x hx => (link_ok (lko x hx)).1) asc (by omega) t2 f2 c1
  rw [← f1, ← t1] at h
  rw [Int.toNat_natCast, h]
  generalize loopR l c to (N * (c.Thru.length + 1)) (N * (c.Thru.length + 1) + 1) 0 [firstW fr c] none = Y
  cases Y <;> rfl
end Go.Proofs.Ytpmmnnaaoideeaa

/- The example of the document, by a run. -/
namespace Go.Proofs.Ytpmmnnaaoideeaa
open Go Go.Am Go.Wk

def lkN (a0 a1 a2 a3 a4 a5 a6 a7 : Int) : Lnk := ⟨0, 1, 1, 10, fun i => [a0, a1, a2, a3, a4, a5, a6, a7].getD i 0, 0⟩
theorem exR (a0 a1 a2 a3 a4 a5 a6 a7 b p q : Int) : CFun Try.prog 56 [.int .i64 2, .sl 13 [.agg [.int .i64 0, .int .i64 1, .int .i64 1, .int .i64 10, .int .i64 a0, .int .i64 a1, .int .i64 a2, .int .i64 a3, .int .i64 a4, .int .i64 a5, .int .i64 a6, .int .i64 a7, .int .u32 0]] .sh, .int .i64 0, .int .i64 1, .agg [.int .i64 b, .int .i64 p, .int .i64 q, .int .u32 0, .int .u32 0, .int .i64 0, .sl 0 [] .full, .sl 0 [] .full]] [] (encRt (refN 2 [lkN a0 a1 a2 a3 a4 a5 a6 a7] 0 1 ⟨b, p, q, 0, 0, 0, [], []⟩)) [] := by
  have := c15 [lkN a0 a1 a2 a3 a4 a5 a6 a7] 1 rfl (by decide) ⟨b, p, q, 0, 0, 0, [], []⟩ 0 0 rfl rfl (by decide) (by decide) 2 0 1
  rw [routeN_ref] at this
  exact this.wk _ (by simp [noid, noid0]) ⟨LeS_refl _, by simp [LeS, lkN, cellsL, frC, frs], LeS_refl _, LeS_refl _, by simp [LeS, LeC], trivial⟩
set_option maxHeartbeats 1000000 in
set_option maxRecDepth 10000 in
theorem cl_0 : CFun Try.prog 44 [.sl 0 [] .full] [] (.sl 0 [] .sh) [] := by
  refine CFun.intro (tr := []) (fz := []) (n := 8) (rs := [.tmp 2]) Try.func44 rfl (by kernel_rfl) rfl rfl mixed (by kernel_rfl) (by simp) (by simp) ?_
  simp
set_option maxHeartbeats 1000000 in
set_option maxRecDepth 10000 in
theorem cl_1 : CFun Try.prog 44 [.sl 0 [] .sh] [] (.sl 0 [] .sh) [] := by
  refine CFun.intro (tr := []) (fz := []) (n := 8) (rs := [.tmp 2]) Try.func44 rfl (by kernel_rfl) rfl rfl mixed (by kernel_rfl) (by simp) (by simp) ?_
  simp
set_option maxHeartbeats 1000000 in
set_option maxRecDepth 10000 in
theorem cl_2 (a b : Int) : CFun Try.prog 44 [.sl 1 [.int .i64 a, .int .i64 b] .sh] [] (.sl 1 [.int .i64 a, .int .i64 b] .sh) [] := by
  refine CFun.intro (tr := []) (fz := []) (n := 8) (rs := [.tmp 2]) Try.func44 rfl (by kernel_rfl) rfl rfl mixed (by kernel_rfl) (by simp) (by simp) ?_
  simp
def tbA : CallF := fun f args H => if f = 44 then (match args with
  | [.sl 1 [.int .i64 a, .int .i64 b] .sh] => some (.sl 1 [.int .i64 a, .int .i64 b] .sh, H)
  | [.sl 0 [] .full] => some (.sl 0 [] .sh, H)
  | [.sl 0 [] .sh] => some (.sl 0 [] .sh, H)
  | _ => none) else if f = 56 then (match args with
  | [.int .i64 2, .sl 13 [.agg [.int .i64 0, .int .i64 1, .int .i64 1, .int .i64 10, .int .i64 a0, .int .i64 a1, .int .i64 a2, .int .i64 a3, .int .i64 a4, .int .i64 a5, .int .i64 a6, .int .i64 a7, .int .u32 0]] .sh, .int .i64 0, .int .i64 1, .agg [.int .i64 b, .int .i64 p, .int .i64 q, .int .u32 0, .int .u32 0, .int .i64 0, .sl 0 [] .full, .sl 0 [] .full]] =>
    some (encRt (refN 2 [lkN a0 a1 a2 a3 a4 a5 a6 a7] 0 1 ⟨b, p, q, 0, 0, 0, [], []⟩), H)
  | _ => none) else none
theorem tbA_ok : CallOk Try.prog tbA := by
  intro f args H x H' h
  unfold tbA at h
  split at h
  · rename_i hf
    subst hf
    split at h
    · injection h with h; injection h with e1 e2; subst e1 e2
      exact (cl_2 _ _).up' H rfl rfl
    · injection h with h; injection h with e1 e2; subst e1 e2
      exact cl_0.up' H rfl rfl
    · injection h with h; injection h with e1 e2; subst e1 e2
      exact cl_1.up' H rfl rfl
    · cases h
  · split at h
    case isFalse => cases h
    rename_i hf
    subst hf
    split at h
    · injection h with h; injection h with e1 e2; subst e1 e2
      exact (exR _ _ _ _ _ _ _ _ _ _ _).up' H rfl (by simp [noid, noid0])
    · cases h
def cfgA (l : Cfg) : Cfg := l ++ [(28, [100017], []), (41, [13], []), (34, [100007], []), (44, [100007], []), (13, [], [(4, 1, true)]), (15, [], [(4, 1, true)]), (18, [60, 64], []), (80, [31], []), (92, [100022], [])] ++ ([9, 10, 20, 22, 24, 25, 26, 27, 33, 35, 40, 42, 43, 45, 46, 51, 52, 53, 54, 55, 57, 58, 59, 60, 61, 62, 63, 64, 67, 68, 69, 70, 71, 73, 74, 82, 83].map fun i => (i, [], []))
def lkV (a0 a1 a2 a3 a4 a5 a6 a7 : Int) : AVal := .sl 13 [.agg [.int .i64 0, .int .i64 1, .int .i64 1, .int .i64 10, .int .i64 a0, .int .i64 a1, .int .i64 a2, .int .i64 a3, .int .i64 a4, .int .i64 a5, .int .i64 a6, .int .i64 a7, .int .u32 0]] .sh
def tnV (id b p : Int) (nl pa : AVal) : AVal := .agg [.int .i64 id, .int .i64 0, .int .i64 1, .int .i64 b, .int .i64 p, .int .i64 p, .int .u32 0, .int .u32 0, .int .i64 0, nl, nl, pa]
def p01 : AVal := .sl 1 [.int .i64 0, .int .i64 1] .sh
def nl0 : AVal := .sl 0 [] .full
def nlS : AVal := .sl 0 [] .sh
theorem ex1 : CFun Try.prog 24 [.int .i64 2, lkV 10 10 10 10 10 10 10 10, nl0, tnV 1 8 5 nl0 nl0] [] (.tup [lkV 10 10 10 10 10 2 2 2, .sl 12 [tnV 1 8 5 nlS p01] .sh, nl0, .int .i64 0]) [] :=
  CFun.run mixed (cfgA [(24, [15000018000003], []), (54, [28], [])]) tbA tbA_ok 400 (by kernel_rfl) (by kernel_rfl)
theorem ex54 : CFun Try.prog 54 [.sl 12 [tnV 2 5 3 nl0 p01] .full] [] (.sl 12 [tnV 2 5 3 nlS p01] .sh) [] :=
  CFun.run mixed (cfgA [(54, [28], [])]) tbA tbA_ok 400 (by kernel_rfl) (by kernel_rfl)
def tbB : CallF := fun f args H => if f = 54 then (match args with
  | [.sl 12 [.agg [.int .i64 2, .int .i64 0, .int .i64 1, .int .i64 5, .int .i64 3, .int .i64 3, .int .u32 0, .int .u32 0, .int .i64 0, .sl 0 [] .full, .sl 0 [] .full, .sl 1 [.int .i64 0, .int .i64 1] .sh]] .full] => some (.sl 12 [tnV 2 5 3 nlS p01] .sh, H)
  | _ => none) else tbA f args H
theorem tbB_ok : CallOk Try.prog tbB := by
  intro f args H x H' h
  unfold tbB at h
  split at h
  · rename_i hf
    subst hf
    split at h
    · injection h with h; injection h with e1 e2; subst e1 e2
      exact ex54.up' H rfl rfl
    · cases h
  · exact tbA_ok f args H x H' h
theorem ex2 : CFun Try.prog 24 [.int .i64 2, lkV 10 10 10 10 10 2 2 2, .sl 12 [tnV 1 8 5 nlS p01] .sh, tnV 2 5 3 nl0 nl0] [] (.tup [lkV 10 10 10 5 5 5 5 5, .sl 12 [tnV 1 8 5 nlS nl0, tnV 2 5 3 nlS p01] .sh, .sl 1 [.int .i64 1] .sh, .int .i64 0]) [] :=
  CFun.run mixed (cfgA [(24, [15000018000003], [(9, 5, true)]), (54, [100031], []), (59, [100025], [])]) tbB tbB_ok 400 (by kernel_rfl) (by kernel_rfl)
theorem ex3 : CFun Try.prog 24 [.int .i64 2, lkV 10 10 10 5 5 5 5 5, .sl 12 [tnV 1 8 5 nlS nl0, tnV 2 5 3 nlS p01] .sh, tnV 3 6 7 nl0 nl0] [] (.tup [nl0, nl0, nl0, .int .i64 20]) [] :=
  CFun.run mixed (cfgA [(24, [15000018000003], []), (54, [28], [])]) tbA tbA_ok 400 (by kernel_rfl) (by kernel_rfl)
end Go.Proofs.Ytpmmnnaaoideeaa

/- The example of the document holds. -/
namespace Go.Proofs.Ytpmmnnaaoideeaa
open Go Go.Am Go.Wk

set_option maxHeartbeats 4000000 in
set_option maxRecDepth 10000 in
theorem t22 (n : Int) : CFun Try.prog 22 [.int .i64 n] [] (.agg [.int .i64 n, .int .i64 n, .int .i64 n, .int .i64 n, .int .i64 n, .int .i64 n, .int .i64 n, .int .i64 n]) [] := by
  refine CFun.intro (tr := []) (fz := []) (n := 12) (rs := [.cell 2 43]) Try.func22 rfl (by kernel_rfl) rfl rfl mixed (by kernel_rfl) (by simp) (by simp) ?_
  simp
set_option maxHeartbeats 4000000 in
set_option maxRecDepth 10000 in
theorem t25 (id b p : Int) : CFun Try.prog 25 [.int .i64 id, .int .i64 b, .int .i64 p] [] (tnV id b p nl0 nl0) [] := by
  refine CFun.intro (tr := []) (fz := []) (n := 13) (rs := [.cell 6 33]) Try.func25 rfl (by kernel_rfl) rfl rfl mixed (by kernel_rfl) (by simp) (by simp) ?_
  simp [tnV, nl0]
theorem r2 : (([0, 1] : List Nat) = List.range 2) = True := by decide
theorem ex1f : CFun Try.prog 24 [.int .i64 2, .sl 13 [.agg [.int .i64 0, .int .i64 1, .int .i64 1, .int .i64 10, .int .i64 10, .int .i64 10, .int .i64 10, .int .i64 10, .int .i64 10, .int .i64 10, .int .i64 10, .int .i64 10, .int .u32 0]] .full, nl0, tnV 1 8 5 nl0 nl0] [] (.tup [lkV 10 10 10 10 10 2 2 2, .sl 12 [tnV 1 8 5 nlS p01] .sh, nl0, .int .i64 0]) [] :=
  ex1.wk _ (by simp [lkV, tnV, nl0]) ⟨LeS_refl _, by simp [LeS, lkV], LeS_refl _, LeS_refl _, trivial⟩
set_option maxHeartbeats 8000000 in
set_option maxRecDepth 10000 in
theorem t9 : CFun Try.prog 9 [] [] (.bool true) [] := by
  refine CFun.intro (tr := []) (fz := []) (n := 99) (rs := [.tmp 0]) Try.func9 rfl (by kernel_rfl) rfl rfl mixed (by kernel_rfl) (by simp) (by simp) ?_
  have h22 := t22
  have h25 := t25
  have h1 := ex1f
  have h2 := ex2
  have h3 := ex3
  have s1 := (c17 [1] [1] 1 1 rfl rfl (by decide) (by decide)).wk [.sl 1 [.int .i64 1] .sh, .sl 1 [.int .i64 1] .full] (by simp) (by simp [All2, LeS])
  have s2 := (c17 [0, 1] [0, 1] 2 2 rfl rfl (by decide) (by decide)).wk [.sl 1 [.int .i64 0, .int .i64 1] .sh, .sl 1 [.int .i64 0, .int .i64 1] .full] (by simp) (by simp [All2, LeS])
  simp only [lkV, tnV, nl0, nlS, p01] at *
  simp [r2]
  refine ⟨_, _, .inl (by simpa using h22 10), by simp, ?_⟩
  simp [r2]
  refine ⟨_, _, .inl (by simpa using h25 1 8 5), by simp, ?_⟩
  simp [r2]
  refine ⟨_, _, .inl (by simpa using h1), by simp, ?_⟩
  simp [r2]
  refine ⟨_, _, .inl (by simpa using h25 2 5 3), by simp, ?_⟩
  simp [r2]
  refine ⟨_, _, .inl (by simpa using h2), by simp, ?_⟩
  simp [r2]
  refine ⟨_, _, .inl (by simpa using h25 3 6 7), by simp, ?_⟩
  simp [r2]
  refine ⟨_, _, .inl (by simpa using h3), by simp, ?_⟩
  simp [r2]
  refine ⟨_, _, .inl (by simpa using s1), by simp, ?_⟩
  simp [r2]
  refine ⟨_, _, .inl (by simpa using s2), by simp, ?_⟩
  simp [r2]
end Go.Proofs.Ytpmmnnaaoideeaa

/- Sums that may overflow; the same links; the law of giving back. -/
namespace Go.Proofs.Ytpmmnnaaoideeaa
open Go Go.Am Go.Wk

@[simp] theorem tq45 : feq Try.prog 45 = some [true, true, true, true, true, true, true, true, true, true, true, true, true] := by kernel_rfl
def outB (f : Int) : Bool := decide (1125899906842624 < f) || decide (f < -1125899906842624)
def bigK (f : Nat → Int) : Nat → Bool
  | 0 => false
  | n + 1 => if outB (f (8 - (n + 1))) = true then true else bigK f n
def bigL (x : Lnk) : Bool := bigK x.Fr 8
theorem bigK_false {f : Nat → Int} : ∀ n, n ≤ 8 → bigK f n = false → ∀ k, 8 - n ≤ k → k < 8 → -1125899906842624 ≤ f k ∧ f k ≤ 1125899906842624
  | 0, _, _, k, h1, h2 => by omega
  | n + 1, hn, h, k, h1, h2 => by
    simp only [bigK] at h
    split at h
    · cases h
    rename_i g
    by_cases e : k = 8 - (n + 1)
    · subst e
      simp only [outB, Bool.or_eq_true, decide_eq_true_eq] at g
      omega
    · exact bigK_false n (by omega) h k (by omega) h2
theorem big_false {l : List Lnk} (h : l.any bigL = false) : ∀ x ∈ l, ∀ k, k < 8 → -1125899906842624 ≤ x.Fr k ∧ x.Fr k ≤ 1125899906842624 := by
  rw [List.any_eq_false] at h
  intro x hx k hk
  exact bigK_false 8 (Nat.le_refl _) (by simpa [bigL] using h x hx) k (by omega) hk
set_option maxHeartbeats 8000000 in
set_option maxRecDepth 10000 in
theorem t12 (l : List Lnk) (n : Nat) (hn : l.length = n) (hn2 : n < 1000000) : CFun Try.prog 12 [.sl 13 (l.map encL) .sh] [] (.bool (l.any bigL)) [] := by
  refine CFun.intro (tr := []) (fz := []) (n := 26) (rs := [.tmp 2]) Try.func12 rfl (by kernel_rfl) rfl rfl mixed (by kernel_rfl) (by simp) (by simp) ?_
  obtain ⟨T, hT⟩ : ∃ T, T = l.any bigL := ⟨_, rfl⟩
  rw [← hT]
  simp
  refine LoopK.intro (tr := []) mixed (by kernel_rfl) (fun i : Nat => [(7, .sl 13 (l.map encL) .sh), (8, .int .i64 n), (9, .int .i64 i)]) (fun _ => []) (fun i => i ≤ n ∧ T = (l.drop i).any bigL) (fun i => n - i) 0 ?_ ?_ ?_
  · simp [hT]
  · simp [hn]
  · rintro i ⟨h1, h2⟩
    by_cases hi : i < n
    · obtain ⟨x, hx, hd⟩ := get_drop (l := l) (i := i) (by omega)
      rw [hd, List.any_cons] at h2
      have w1 : IntKind.i64.wrap ((i : Int) + 1) = i + 1 := wrap_in (by omega)
      clear hd hT
      simp [hi, hn, hx, gE hx]
      refine LoopK.intro (tr := []) mixed (by kernel_rfl) (fun k : Nat => [(7, .sl 13 (l.map encL) .sh), (8, .int .i64 n), (9, .int .i64 i), (14, .agg (frC x)), (15, .int .i64 k)]) (fun _ => []) (fun k => k ≤ 8 ∧ bigL x = bigK x.Fr (8 - k)) (fun k => 8 - k) 0 ?_ ?_ ?_
      · exact ⟨by omega, rfl⟩
      · simp
      · rintro k ⟨k1, k2⟩
        by_cases hk : k < 8
        · obtain ⟨f, hf⟩ : ∃ f, 8 - k = f + 1 := ⟨7 - k, by omega⟩
          have hkk : 8 - (f + 1) = k := by omega
          rw [hf] at k2
          simp only [bigK, hkk] at k2
          have hg := frC_get x hk
          have w2 : IntKind.i64.wrap ((k : Int) + 1) = k + 1 := wrap_in (by omega)
          have hk' : (k : Int) < 8 := by omega
          have hk7 : k ≤ 7 := by omega
          unfold outB at k2
          by_cases g1 : 1125899906842624 < x.Fr k
          · have : bigL x = true := by rw [k2, if_pos (by simp [g1])]
            rw [this] at h2
            simp [hk, hk', hk7, hg, gE hg, g1, h2]
          by_cases g2 : x.Fr k < -1125899906842624
          · have : bigL x = true := by rw [k2, if_pos (by simp [g2])]
            rw [this] at h2
            simp [hk, hk', hk7, hg, gE hg, g1, g2, h2]
          rw [if_neg (by simp; omega)] at k2
          simp [hk, hk', hk7, hg, gE hg, g1, g2, w2]
          exact ⟨k + 1, ⟨by omega, by rw [k2, show 8 - (k + 1) = f by omega]⟩, by omega, by simp⟩
        · have : k = 8 := by omega
          subst this
          rw [k2] at h2
          simp [bigK] at h2
          simp [w1]
          exact ⟨i + 1, ⟨by omega, by simpa using h2⟩, by omega, by simp⟩
    · have : i = n := by omega
      subst this
      rw [List.drop_eq_nil_of_le (by omega)] at h2
      simp [hn, h2]
theorem eqL (x : Lnk) : acmp [true, true, true, true, true, true, true, true, true, true, true, true, true] (cellsL x) (cellsL x) = some true := by
  simp [cellsL, frC, frs, acmp]
set_option maxHeartbeats 8000000 in
set_option maxRecDepth 10000 in
theorem t17 (l : List Lnk) (n : Nat) (hn : l.length = n) (hn2 : n < 9223372036854775807) : CFun Try.prog 17 [.sl 13 (l.map encL) .sh, .sl 13 (l.map encL) .sh] [] (.bool true) [] := by
  refine CFun.intro (tr := []) (fz := []) (n := 26) (rs := [.tmp 4]) Try.func17 rfl (by kernel_rfl) rfl rfl mixed (by kernel_rfl) (by simp) (by simp) ?_
  simp [hn]
  refine LoopK.intro (tr := []) mixed (by kernel_rfl) (fun i : Nat => [(1, .sl 13 (l.map encL) .sh), (12, .sl 13 (l.map encL) .sh), (13, .int .i64 n), (14, .int .i64 i)]) (fun _ => []) (fun i => i ≤ n) (fun i => n - i) 0 ?_ ?_ ?_
  · simp
  · simp
  · intro i h1
    by_cases hi : i < n
    · obtain ⟨x, hx⟩ : ∃ x, l[i]? = some x := ⟨_, List.getElem?_eq_getElem (by omega)⟩
      have w1 : IntKind.i64.wrap ((i : Int) + 1) = i + 1 := wrap_in (by omega)
      have he := eqL x
      simp [hi, hn, hx, gE hx, he, w1]
      exact ⟨i + 1, by omega, by omega, by simp⟩
    · have : i = n := by omega
      subst this
      simp [hn]
end Go.Proofs.Ytpmmnnaaoideeaa
