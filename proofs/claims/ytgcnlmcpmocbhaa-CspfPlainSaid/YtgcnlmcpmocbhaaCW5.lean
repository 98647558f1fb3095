/- The program and the reference find the same route. No program. -/
import Derived.Test.YtgcnlmcpmocbhaaC44
import Derived.Test.YtgcnlmcpmocbhaaAmU
import Derived.Test.YtgcnlmcpmocbhaaRows
import Derived.JoinedOf
import Derived.Test.YtgcnlmcpmocbhaaC50
set_option linter.unusedSimpArgs false
set_option linter.unusedVariables false
namespace Go.Proofs.Ytgcnlmcpmocbhaa
open Go Go.Am Go.Wk

theorem out_false {N : Nat} {x : Int} (h : outN N x = false) : x = (x.toNat : Int) ∧ x.toNat < N := by
  simp only [outN, Bool.or_eq_false_iff, decide_eq_false_iff_not] at h
  omega
theorem first_kept {l : List Lnk} {n fr : Nat} {c : Con} (hf : fr < n) : Kept (arcsN (l.filter fun x => usableN x c) c.Thru n) fr n (entN c.Thru n fr 0) c.Thru.length 0 (fun ys s d => W (arcsN (l.filter fun x => usableN x c) c.Thru n) (entN c.Thru n fr 0) ys d s ∧ ys.length = 0) [firstW (fr : Int) c] := by
  have e1 := ent_div (th := c.Thru) (k := 0) hf
  have e2 := ent_mod (th := c.Thru) (k := 0) hf
  have r : RW (arcsN (l.filter fun x => usableN x c) c.Thru n) fr n (entN c.Thru n fr 0) 0 (firstW (fr : Int) c) [] (entN c.Thru n fr 0) 0 := by
    refine ⟨.nil _, rfl, rfl, rfl, ?_, ?_⟩
    · rw [e1]; rfl
    · rw [e2]; rfl
  refine ⟨fun w hw => ?_, ?_⟩
  · rw [List.mem_singleton] at hw
    subst hw
    exact ⟨_, _, _, r, by rw [e1]; exact entK_len (Nat.zero_le _)⟩
  · rintro ys s d ⟨hw, hl⟩
    have : ys = [] := List.length_eq_zero_iff.1 hl
    subst this
    obtain ⟨rfl, rfl⟩ := hw.nil_inv
    exact ⟨_, by simp, [], 0, r, .inr ⟨rfl, by simp [lexlt]⟩⟩
/-- Both find the least walk. -/
theorem walk_ref {l : List Lnk} {n fr to : Nat} {c : Con} (hls : ∀ x ∈ l, okLk n x) (hs : l.Pairwise fun x y => x.From < y.From ∨ x.From = y.From ∧ x.To < y.To) (h0 : 0 < n) (hto : to < n) (hf : fr < n) (hm0 : 0 ≤ c.Hops) :
    walkN (l.filter fun x => usableN x c) c.Thru n to fr c.Hops = (loopR l c (to : Int) (n * (c.Thru.length + 1)) (n * (c.Thru.length + 1) + 1) 0 [firstW (fr : Int) c] none).map fun w => (w.N, w.C) := by
  have hus := usk hls (c := c)
  have hE1 : ∀ a ∈ arcsN (l.filter fun x => usableN x c) c.Thru n, 1 ≤ a.2.2 := fun a ha => (arcs_bound hus ha).2.2.1
  have hE2 : ∀ a ∈ arcsN (l.filter fun x => usableN x c) c.Thru n, a.2.1 < n * (c.Thru.length + 1) := fun a ha => (arcs_bound hus ha).2.1
  have hx0s : entN c.Thru n fr 0 < n * (c.Thru.length + 1) := by
    unfold entN
    have := entK_len (th := c.Thru) (a := fr) (k := 0) (by omega)
    have e2 : (entK c.Thru fr 0 + 1) * n ≤ (c.Thru.length + 1) * n := Nat.mul_le_mul_right n (by omega)
    rw [Nat.succ_mul] at e2
    rw [Nat.mul_comm n]
    omega
  have h1 := walkN_best (ls := l.filter fun x => usableN x c) (th := c.Thru) (n := n) (t := to) (from_ := fr) (most := c.Hops) h0 hus (hs.filter _) hf hm0
  have h2 := loopR_best (l := l) (n := n) (fr := fr) (x0 := entN c.Thru n fr 0) (to := to) (c := c) hls h0 hto (n * (c.Thru.length + 1)) none [] (n * (c.Thru.length + 1) + 1) 0 [firstW (fr : Int) c] none rfl (Nat.zero_le _) (fun j hj => by omega) (first_kept hf) ⟨fun w hw => by
    rw [List.mem_singleton] at hw
    subst hw
    exact firstW_ok (by omega) (by omega) c, by simp⟩ (fun ys d _ => Nat.zero_le _)
  generalize walkN (l.filter fun x => usableN x c) c.Thru n to fr c.Hops = X at *
  generalize loopR l c (to : Int) (n * (c.Thru.length + 1)) (n * (c.Thru.length + 1) + 1) 0 [firstW (fr : Int) c] none = Y at *
  cases X with
  | none =>
    cases Y with
    | none => rfl
    | some w =>
      obtain ⟨ys, co, _, hb⟩ := h2
      exact absurd hb.l.2 (h1 _ _ hb.w)
  | some p =>
    obtain ⟨ys, co, hb, e1, e2⟩ := h1
    cases Y with
    | none =>
      exfalso
      rcases hb.w.short hE1 hE2 hx0s with h3 | ⟨zs, d, k1, k2, k3, k4⟩
      · exact h2 _ _ hb.w ⟨h3, hb.l⟩
      · exact h2 _ _ k1 ⟨k4, limH_mono _ _ _ k3 hb.l⟩
    | some w =>
      obtain ⟨zs, d, r, hb'⟩ := h2
      obtain ⟨k1, k2⟩ := hb.uniq (hb'.of_short hE1 hE2 (limH_mono _) hx0s)
      obtain ⟨p1, p2⟩ := p
      simp only at e1 e2
      rw [Option.map_some, r.N, r.C, e1, e2, k2]
      congr 2
      have k3 := congrArg ndI k1
      rw [← k3]
      simp [ndI]
theorem routeN_ref (n : Int) (l : List Lnk) (fr to : Int) (c : Con) : routeN n l fr to c = refN n l fr to c := by
  unfold routeN refN
  by_cases g1 : checkE n l c = 0
  case neg => rw [if_pos g1, if_pos g1]
  have g1' : ¬ checkE n l c ≠ 0 := fun h => h g1
  rw [if_neg g1', if_neg g1']
  by_cases g2 : (outN n fr || outN n to) = true
  · rw [if_pos g2, if_pos g2]
  rw [if_neg g2, if_neg g2]
  by_cases g3 : hasB c.Avoid fr = true
  · rw [if_pos g3, if_pos g3]
    simp [loopR]
  rw [if_neg g3, if_neg g3]
  obtain ⟨n1, n2, l2, lk, cn⟩ := check_links g1
  obtain ⟨asc, _, lko⟩ := links_asc lk
  obtain ⟨c1, c2, c3, _⟩ := con_ok cn
  obtain ⟨N, hN⟩ : ∃ N : Nat, n = N := ⟨n.toNat, by omega⟩
  subst hN
  simp only [Bool.or_eq_true, not_or, Bool.not_eq_true] at g2
  obtain ⟨f1, f2⟩ := out_false g2.1
  obtain ⟨t1, t2⟩ := out_false g2.2
  have h := walk_ref (l := l) (n := N) (fr := fr.toNat) (to := to.toNat) (c := c) (fun x hx => (link_ok (lko x hx)).1) asc (by omega) t2 f2 c1
  rw [← f1, ← t1] at h
  rw [Int.toNat_natCast, h]
  generalize loopR l c to (N * (c.Thru.length + 1)) (N * (c.Thru.length + 1) + 1) 0 [firstW fr c] none = Y
  cases Y <;> rfl
end Go.Proofs.Ytgcnlmcpmocbhaa

/- The example of the document. -/
namespace Go.Proofs.Ytgcnlmcpmocbhaa
open Go Go.Am Go.Wk

def mkL (a b c d f : Int) : Lnk := ⟨a, b, c, d, fun _ => f, 0⟩
def th3 : List Lnk := [mkL 0 1 1 9 5, mkL 0 2 5 90 50, mkL 1 2 1 9 5]
def cnN (a b : Int) : Con := ⟨a, 0, 0, 0, 0, b, [], []⟩
set_option maxHeartbeats 4000000 in
set_option maxRecDepth 10000 in
theorem c46 (n : Int) : CFun Try.prog 46 [.int .i64 n] [] (.agg (List.replicate 8 (.int .i64 n))) [] := by
  refine CFun.intro (tr := []) (fz := []) (n := 12) (rs := [.cell 2 27]) Try.func46 rfl (by kernel_rfl) rfl rfl mixed (by kernel_rfl) (by simp) (by simp) ?_
  simp
theorem r3 : (([0, 1, 2] : List Nat) = List.range 3) = True := by decide
theorem r2 : (([0, 1] : List Nat) = List.range 2) = True := by decide
set_option maxHeartbeats 4000000 in
set_option maxRecDepth 10000 in
theorem c26 : CFun Try.prog 26 [] [] (.sl 13 (th3.map encL) .sh) [] := by
  refine CFun.intro (tr := []) (fz := []) (n := 8) (rs := [.tmp 0]) Try.func26 rfl (by kernel_rfl) rfl rfl mixed (by kernel_rfl) (by simp) (by simp) ?_
  have h := c46
  simp
  refine ⟨_, _, .inl (by simpa using h 5), by simp, ?_⟩
  simp
  refine ⟨_, _, .inl (by simpa using h 50), by simp, ?_⟩
  simp
  refine ⟨_, _, .inl (by simpa using h 5), by simp, ?_⟩
  simp [r3, th3, mkL, cellsL, frC, frs]
@[simp] def cn0 (a b : Int) : AVal := .agg [.int .i64 a, .int .i64 0, .int .i64 0, .int .u32 0, .int .u32 0, .int .i64 b, .sl 0 [] .full, .sl 0 [] .full]
theorem exRoute (a b : Int) (r : List Int × Int × Int) (h : refN 3 th3 0 2 (cnN a b) = r) : CFun Try.prog 15 [.int .i64 3, .sl 13 (th3.map encL) .sh, .int .i64 0, .int .i64 2, cn0 a b] [] (encRt r) [] := by
  have := c15 th3 3 rfl (by decide) (cnN a b) 0 0 rfl rfl (by decide) (by decide) 3 0 2
  rw [routeN_ref, h] at this
  exact this.wk _ (by simp) ⟨LeS_refl _, LeS_refl _, LeS_refl _, LeS_refl _, by simp [cnN, LeS, LeC], trivial⟩
theorem exFits (a b : Int) (p : List Int) (r : Bool) (hp : p.length < 1000) (h : fitsP 3 th3 p (cnN a b) = r) : CFun Try.prog 18 [.int .i64 3, .sl 13 (th3.map encL) .sh, .sl 1 (p.map encI) .sh, cn0 a b] [] (.bool r) [] := by
  have := c18 th3 3 rfl (by decide) p p.length rfl (by omega) (cnN a b) 0 0 rfl (by decide) rfl (by decide) 3
  rw [h] at this
  exact this.wk _ (by simp) ⟨LeS_refl _, LeS_refl _, LeS_refl _, by simp [cnN, LeS, LeC], trivial⟩
set_option maxHeartbeats 4000000 in
set_option maxRecDepth 10000 in
theorem c11 : CFun Try.prog 11 [] [] (.bool true) [] := by
  refine CFun.intro (tr := []) (fz := []) (n := 72) (rs := [.tmp 0]) Try.func11 rfl (by kernel_rfl) rfl rfl mixed (by kernel_rfl) (by simp) (by simp) ?_
  have h26 := c26
  have h1 := exRoute 5 0 ([0, 1, 2], 2, 0) (by kernel_rfl)
  have h2 := exRoute 6 0 ([0, 2], 5, 0) (by kernel_rfl)
  have h3 := exRoute 51 0 ([], 0, 20) (by kernel_rfl)
  have h4 := exRoute 0 1 ([0, 2], 5, 0) (by kernel_rfl)
  have h5 := exFits 5 0 [0, 1, 2] true (by decide) (by kernel_rfl)
  have s1 := (c17 [0, 1, 2] [0, 1, 2] 3 3 rfl rfl (by decide) (by decide)).wk [.sl 1 [.int .i64 0, .int .i64 1, .int .i64 2] .sh, .sl 1 [.int .i64 0, .int .i64 1, .int .i64 2] .full] (by simp) (by simp [All2, LeS])
  have s2 := (c17 [0, 2] [0, 2] 2 2 rfl rfl (by decide) (by decide)).wk [.sl 1 [.int .i64 0, .int .i64 2] .sh, .sl 1 [.int .i64 0, .int .i64 2] .full] (by simp) (by simp [All2, LeS])
  generalize hth : th3.map encL = T at *
  simp [r2, r3]
  refine ⟨_, _, .inl (by simpa using h26), by simp, ?_⟩
  simp [r2, r3]
  refine ⟨_, _, .inl (by simpa using h1), by simp, ?_⟩
  simp [r2, r3]
  refine ⟨_, _, .inl (by simpa using h26), by simp, ?_⟩
  simp [r2, r3]
  refine ⟨_, _, .inl (by simpa using h2), by simp, ?_⟩
  simp [r2, r3]
  refine ⟨_, _, .inl (by simpa using h26), by simp, ?_⟩
  simp [r2, r3]
  refine ⟨_, _, .inl (by simpa using h3), by simp, ?_⟩
  simp [r2, r3]
  refine ⟨_, _, .inl (by simpa using h26), by simp, ?_⟩
  simp [r2, r3]
  refine ⟨_, _, .inl (by simpa using h4), by simp, ?_⟩
  simp [r2, r3]
  refine ⟨_, _, .inl (by simpa using s1), by simp, ?_⟩
  simp [r2, r3]
  refine ⟨_, _, .inl (by simpa using s2), by simp, ?_⟩
  simp [r2, r3]
  refine ⟨_, _, .inl (by simpa using s2), by simp, ?_⟩
  simp [r2, r3]
  refine ⟨_, _, .inl (by simpa using h26), by simp, ?_⟩
  simp [r2, r3]
  refine ⟨_, _, .inl (by simpa using h5), by simp, ?_⟩
  simp [r2, r3]
end Go.Proofs.Ytgcnlmcpmocbhaa

/- What links and constraints bring as arguments. -/
namespace Go.Proofs.Ytgcnlmcpmocbhaa
open Go Go.Am

theorem Rds_int {k : IntKind} {ts : List CTy} {cs : List AVal} (h : Rds (.int k :: ts) cs) : ∃ n r, cs = .int k n :: r ∧ Rds ts r ∧ (Lit.int k n).wf = true := by
  simp only [Rds, Rd] at h
  obtain ⟨x, r, rfl, ⟨n, rfl, hn⟩, h2⟩ := h
  exact ⟨n, r, rfl, h2, hn⟩
theorem Rds_bool {ts : List CTy} {cs : List AVal} (h : Rds (.bool :: ts) cs) : ∃ b r, cs = .bool b :: r ∧ Rds ts r := by
  simp only [Rds, Rd] at h
  obtain ⟨x, r, rfl, ⟨n, rfl⟩, h2⟩ := h
  exact ⟨n, r, rfl, h2⟩
theorem Rds_nil {cs : List AVal} (h : Rds [] cs) : cs = [] := h

/-- A list of values, each of which encodes something. -/
theorem decAll {α : Type} {enc : α → AVal} : ∀ (xs : List AVal), (∀ y ∈ xs, ∃ a, y = enc a) → ∃ l : List α, xs = l.map enc := by
  intro xs
  induction xs with
  | nil => intro _; exact ⟨[], rfl⟩
  | cons x xs ih =>
    intro h
    obtain ⟨a, rfl⟩ := h x (by simp)
    obtain ⟨l, rfl⟩ := ih fun y hy => h y (by simp [hy])
    exact ⟨a :: l, rfl⟩
theorem Rds_sl {α : Type} {enc : α → AVal} {ag : Bool} {by_ : Nat} {e ts : List CTy} {cs : List AVal} (h : Rds (.sl ag by_ e :: ts) cs) (hd : ∀ y cs, (if ag = true then y = .agg cs else cs = [y]) → Rds e cs → ∃ a, y = enc a) :
    ∃ (l : List α) (r : List AVal), cs = .sl e.length (l.map enc) .sh :: r ∧ Rds ts r ∧ l.length * by_ ≤ reachBytes := by
  simp only [Rds, Rd] at h
  obtain ⟨x, r, rfl, ⟨xs, rfl, hl, hx⟩, h2⟩ := h
  obtain ⟨l, rfl⟩ := decAll (enc := enc) xs fun y hy => by
    obtain ⟨cs, h1, h2⟩ := hx y hy
    exact hd y cs h1 h2
  exact ⟨l, r, rfl, h2, by simpa using hl⟩

theorem wf_i64 {n : Int} (h : (Lit.int .i64 n).wf = true) : inI n := by
  simpa [Lit.wf, IntKind.min, IntKind.max, IntKind.signed, IntKind.bits, inI] using h
theorem rd_list {α : Type} {enc : α → AVal} {ag : Bool} {by_ : Nat} {e : List CTy} {x : AVal} (h : RdA (false, [.sl ag by_ e]) x) (hd : ∀ y cs, (if ag = true then y = .agg cs else cs = [y]) → Rds e cs → ∃ a, y = enc a) :
    ∃ l : List α, x = .sl e.length (l.map enc) .sh ∧ l.length * by_ ≤ reachBytes := by
  obtain ⟨cs, h1, h2⟩ := h
  simp only [Rds, Rd] at h2
  obtain ⟨y, r, rfl, ⟨xs, rfl, hl, hx⟩, rfl⟩ := h2
  simp at h1
  subst h1
  obtain ⟨l, rfl⟩ := decAll (enc := enc) xs fun y hy => by
    obtain ⟨cs, h1, h2⟩ := hx y hy
    exact hd y cs h1 h2
  exact ⟨l, rfl, by simpa using hl⟩
theorem own : ownKnob Try.prog.godebug = none := by kernel_rfl
def csL : List CTy := [.int .i64, .int .i64, .int .i64, .int .i64, .int .i64, .int .i64, .int .i64, .int .i64, .int .i64, .int .i64, .int .i64, .int .i64, .int .u32]
def tyLs : Bool × List CTy := (false, [.sl true 104 csL])
def tyIs : Bool × List CTy := (false, [.sl false 8 [.int .i64]])
def tyI : Bool × List CTy := (false, [.int .i64])
def tyC : Bool × List CTy := (true, [.int .i64, .int .i64, .int .i64, .int .u32, .int .u32, .int .i64, .sl false 8 [.int .i64], .sl false 8 [.int .i64]])
theorem rd_i {x : AVal} (h : RdA tyI x) : ∃ n : Int, x = .int .i64 n ∧ inI n := by
  obtain ⟨cs, h1, h2⟩ := h
  obtain ⟨n, r, rfl, h3, w⟩ := Rds_int h2
  obtain rfl := Rds_nil h3
  simp [tyI] at h1
  exact ⟨n, h1.symm, wf_i64 w⟩
theorem reach_eq : reachBytes = 140737488351232 := by decide
theorem rd_Ls {x : AVal} (h : RdA tyLs x) : ∃ l : List Lnk, x = .sl 13 (l.map encL) .sh ∧ l.length < 9223372036854775807 := by
  obtain ⟨l, rfl, hl⟩ := rd_list (enc := encL) h fun y cs h1 h => by
    obtain ⟨a1, r, rfl, h, _⟩ := Rds_int h
    obtain ⟨a2, r, rfl, h, _⟩ := Rds_int h
    obtain ⟨a3, r, rfl, h, _⟩ := Rds_int h
    obtain ⟨a4, r, rfl, h, _⟩ := Rds_int h
    obtain ⟨f0, r, rfl, h, _⟩ := Rds_int h
    obtain ⟨f1, r, rfl, h, _⟩ := Rds_int h
    obtain ⟨f2, r, rfl, h, _⟩ := Rds_int h
    obtain ⟨f3, r, rfl, h, _⟩ := Rds_int h
    obtain ⟨f4, r, rfl, h, _⟩ := Rds_int h
    obtain ⟨f5, r, rfl, h, _⟩ := Rds_int h
    obtain ⟨f6, r, rfl, h, _⟩ := Rds_int h
    obtain ⟨f7, r, rfl, h, _⟩ := Rds_int h
    obtain ⟨a5, r, rfl, h, _⟩ := Rds_int h
    obtain rfl := Rds_nil h
    exact ⟨⟨a1, a2, a3, a4, fun i => [f0, f1, f2, f3, f4, f5, f6, f7].getD i 0, a5⟩, by simpa [cellsL, frC, frs] using h1⟩
  have := reach_eq
  exact ⟨l, rfl, by omega⟩
theorem dec_i {y : AVal} {cs : List AVal} (h1 : if false = true then y = .agg cs else cs = [y]) (h : Rds [.int .i64] cs) : ∃ a, y = encI a := by
  obtain ⟨a1, r, rfl, h, _⟩ := Rds_int h
  obtain rfl := Rds_nil h
  simp at h1
  exact ⟨a1, h1.symm⟩
theorem rd_Is {x : AVal} (h : RdA tyIs x) : ∃ l : List Int, x = .sl 1 (l.map encI) .sh ∧ l.length < 9223372036854775807 := by
  obtain ⟨l, rfl, hl⟩ := rd_list (enc := encI) h fun y cs h1 h => dec_i h1 h
  have := reach_eq
  exact ⟨l, rfl, by omega⟩
theorem rd_C {x : AVal} (h : RdA tyC x) : ∃ c : Con, x = encC c ∧ c.Avoid.length < 9223372036854775807 ∧ c.Thru.length < 9223372036854775807 := by
  obtain ⟨cs, h1, h⟩ := h
  obtain ⟨a1, r, rfl, h, _⟩ := Rds_int h
  obtain ⟨a2, r, rfl, h, _⟩ := Rds_int h
  obtain ⟨a3, r, rfl, h, _⟩ := Rds_int h
  obtain ⟨a4, r, rfl, h, _⟩ := Rds_int h
  obtain ⟨a5, r, rfl, h, _⟩ := Rds_int h
  obtain ⟨a6, r, rfl, h, _⟩ := Rds_int h
  obtain ⟨l1, r, rfl, h, z1⟩ := Rds_sl (enc := encI) h (fun y cs h1 h => dec_i h1 h)
  obtain ⟨l2, r, rfl, h, z2⟩ := Rds_sl (enc := encI) h (fun y cs h1 h => dec_i h1 h)
  obtain rfl := Rds_nil h
  have := reach_eq
  refine ⟨⟨a1, a2, a3, a4, a5, a6, l1, l2⟩, by simpa [tyC] using h1, ?_, ?_⟩ <;> simp only <;> omega
end Go.Proofs.Ytgcnlmcpmocbhaa

/- Distances between all nodes, round by round. No program. -/
namespace Go.Wk

/-- A walk of some cost all of whose inner nodes lie below m. -/
inductive Wm (E : List Arc) (m : Nat) : Nat → Nat → Nat → Prop
  | nil (x : Nat) : Wm E m x x 0
  | one {x z a : Nat} (h : (x, z, a) ∈ E) : Wm E m x z a
  | cons {x y z a c : Nat} (h : (x, y, a) ∈ E) (hy : y < m) (t : Wm E m y z c) : Wm E m x z (a + c)
theorem Wm.of_W {E : List Arc} {n : Nat} (hn : ∀ a ∈ E, a.2.1 < n) {x z c : Nat} {ys : List Nat} (h : W E x ys c z) : Wm E n x z c := by
  induction h with
  | nil x => exact .nil x
  | cons h t ih => exact .cons h (hn _ h) ih
theorem Wm.toW {E : List Arc} {m x z c : Nat} (h : Wm E m x z c) : ∃ ys, W E x ys c z := by
  induction h with
  | nil x => exact ⟨[], .nil x⟩
  | one h => exact ⟨_, .one h⟩
  | cons h _ _ ih =>
    obtain ⟨ys, hy⟩ := ih
    exact ⟨_ :: ys, .cons h hy⟩
theorem Wm.mono {E : List Arc} {m x z c : Nat} (h : Wm E m x z c) : Wm E (m + 1) x z c := by
  induction h with
  | nil x => exact .nil x
  | one h => exact .one h
  | cons h hy _ ih => exact .cons h (by omega) ih
theorem Wm.split {E : List Arc} {m x z c : Nat} (h : Wm E (m + 1) x z c) : Wm E m x z c ∨ ∃ c1 c2, Wm E m x m c1 ∧ Wm E m m z c2 ∧ c1 + c2 ≤ c := by
  induction h with
  | nil x => exact .inl (.nil x)
  | one h => exact .inl (.one h)
  | @cons x y z a c h hy t ih =>
    by_cases e : y = m
    · subst e
      rcases ih with ih | ⟨c1, c2, h1, h2, h3⟩
      · exact .inr ⟨a, c, .one h, ih, Nat.le_refl _⟩
      · exact .inr ⟨a, c2, .one h, h2, by omega⟩
    · rcases ih with ih | ⟨c1, c2, h1, h2, h3⟩
      · exact .inl (.cons h (by omega) ih)
      · exact .inr ⟨a + c1, c2, .cons h (by omega) h1, h2, by omega⟩

/-- Between the rounds m and m + 1: which pairs are done; D0 as it was at the round's beginning. -/
structure FW (E : List Arc) (n m : Nat) (B : Int) (D0 : Nat → Nat → Int) (done : Nat → Nat → Prop) (D : Nat → Nat → Int) : Prop where
  s : ∀ i k, i < n → k < n → 0 ≤ D i k → ∃ ys, W E i ys (D i k).toNat k
  c : ∀ i k c, i < n → k < n → Wm E m i k c → 0 ≤ D i k ∧ D i k ≤ c
  d : ∀ i k c, i < n → k < n → done i k → Wm E (m + 1) i k c → 0 ≤ D i k ∧ D i k ≤ c
  p : ∀ i, i < n → D i m = D0 i m
  q : ∀ k, k < n → D m k = D0 m k
  b : ∀ i k, i < n → k < n → D i k ≤ 2 * B
  b0 : ∀ i k, i < n → k < n → D0 i k ≤ B
  z : D0 m m = 0
  r : ∀ i k, i < n → k < n → -1 ≤ D i k
def stepV (D : Nat → Nat → Int) (m i k : Nat) : Int := if 0 ≤ D m k ∧ (D i k < 0 ∨ D i m + D m k < D i k) then D i m + D m k else D i k
theorem FW.less {E : List Arc} {n m : Nat} {B : Int} {D0 D : Nat → Nat → Int} {P Q : Nat → Nat → Prop} (h : FW E n m B D0 P D) (hQ : ∀ i k, i < n → k < n → Q i k → P i k) : FW E n m B D0 Q D :=
  ⟨h.s, h.c, fun i k c hi hk hd => h.d i k c hi hk (hQ i k hi hk hd), h.p, h.q, h.b, h.b0, h.z, h.r⟩
theorem FW.step {E : List Arc} {n m : Nat} {B : Int} {D0 D : Nat → Nat → Int} {P : Nat → Nat → Prop} (h : FW E n m B D0 P D) (hm : m < n) {i k : Nat} (hi : i < n) (hk : k < n) (him : 0 ≤ D i m) {D' : Nat → Nat → Int}
    (hD : ∀ a b, a < n → b < n → D' a b = if a = i ∧ b = k then stepV D m i k else D a b) : FW E n m B D0 (fun a b => P a b ∨ a = i ∧ b = k) D' := by
  have hmm : D m m = 0 := by rw [h.p m hm, h.z]
  have hle : ∀ a b, a < n → b < n → 0 ≤ D a b → 0 ≤ D' a b ∧ D' a b ≤ D a b := by
    intro a b ha hb h0
    rw [hD a b ha hb]
    split
    · rename_i e
      obtain ⟨rfl, rfl⟩ := e
      unfold stepV
      split
      · rename_i e; omega
      · omega
    · omega
  have hB0 := h.b0
  have e1 : D i m = D0 i m := h.p i hi
  have e2 : D m k = D0 m k := h.q k hk
  refine ⟨?_, ?_, ?_, ?_, ?_, ?_, h.b0, h.z, ?_⟩
  · intro a b ha hb
    rw [hD a b ha hb]
    split
    · rename_i e
      obtain ⟨rfl, rfl⟩ := e
      unfold stepV
      split
      · rename_i e
        intro _
        obtain ⟨ys, w1⟩ := h.s a m ha hm him
        obtain ⟨zs, w2⟩ := h.s m b hm hb e.1
        have := w1.append w2
        rw [show (D a m + D m b).toNat = (D a m).toNat + (D m b).toNat by omega]
        exact ⟨_, this⟩
      · exact h.s a b ha hb
    · exact h.s a b ha hb
  · intro a b c ha hb hw
    obtain ⟨k1, k2⟩ := h.c a b c ha hb hw
    have := hle a b ha hb k1
    omega
  · intro a b c ha hb hd hw
    by_cases e : a = i ∧ b = k
    · obtain ⟨rfl, rfl⟩ := e
      rcases hw.split with hw | ⟨c1, c2, w1, w2, w3⟩
      · obtain ⟨k1, k2⟩ := h.c a b c ha hb hw
        have := hle a b ha hb k1
        omega
      · obtain ⟨k1, k2⟩ := h.c a m c1 ha hm w1
        obtain ⟨k3, k4⟩ := h.c m b c2 hm hb w2
        rw [hD a b ha hb, if_pos ⟨rfl, rfl⟩]
        unfold stepV
        split
        · omega
        · rename_i e
          omega
    · rcases hd with hd | hd
      · obtain ⟨k1, k2⟩ := h.d a b c ha hb hd hw
        have := hle a b ha hb k1
        omega
      · exact absurd hd e
  · intro a ha
    rw [hD a m ha hm]
    split
    · rename_i e
      obtain ⟨rfl, rfl⟩ := e
      unfold stepV
      rw [hmm]
      rw [if_neg (by omega)]
      exact e1
    · exact h.p a ha
  · intro b hb
    rw [hD m b hm hb]
    split
    · rename_i e
      obtain ⟨rfl, rfl⟩ := e
      unfold stepV
      rw [hmm]
      rw [if_neg (by omega)]
      exact e2
    · exact h.q b hb
  · intro a b ha hb
    rw [hD a b ha hb]
    split
    · rename_i e
      obtain ⟨rfl, rfl⟩ := e
      unfold stepV
      split
      · have := hB0 a m ha hm
        have := hB0 m b hm hb
        omega
      · exact h.b a b ha hb
    · exact h.b a b ha hb
  · intro a b ha hb
    rw [hD a b ha hb]
    split
    · rename_i e
      obtain ⟨rfl, rfl⟩ := e
      unfold stepV
      split
      · omega
      · exact h.r a b ha hb
    · exact h.r a b ha hb
theorem FW.skip {E : List Arc} {n m : Nat} {B : Int} {D0 D : Nat → Nat → Int} {P : Nat → Nat → Prop} (h : FW E n m B D0 P D) (hm : m < n) {i : Nat} (him : D i m < 0) : FW E n m B D0 (fun a b => P a b ∨ a = i) D := by
  refine ⟨h.s, h.c, ?_, h.p, h.q, h.b, h.b0, h.z, h.r⟩
  intro a b c ha hb hd hw
  rcases hd with hd | rfl
  · exact h.d a b c ha hb hd hw
  · rcases hw.split with hw | ⟨c1, c2, w1, w2, w3⟩
    · exact h.c a b c ha hb hw
    · have := h.c a m c1 ha hm w1
      omega
/-- The next round. -/
theorem FW.next {E : List Arc} {n m : Nat} {B : Int} {D0 D : Nat → Nat → Int} {P : Nat → Nat → Prop} (h : FW E n m B D0 P D) (hP : ∀ i k, i < n → k < n → P i k) (hm : m + 1 < n) : FW E n (m + 1) (2 * B) D (fun _ _ => False) D := by
  have hB : 0 ≤ B := by have := h.b0 m m (by omega) (by omega); rw [h.z] at this; exact this
  have hz := h.d (m + 1) (m + 1) 0 hm hm (hP _ _ hm hm) (.nil _)
  exact ⟨h.s, fun i k c hi hk => h.d i k c hi hk (hP i k hi hk), fun _ _ _ _ _ hd => hd.elim, fun _ _ => rfl, fun _ _ => rfl, fun i k hi hk => by have := h.b i k hi hk; omega, h.b, by omega, h.r⟩
theorem FW.start {E : List Arc} {n : Nat} (hn : 0 < n) {B : Int} {D : Nat → Nat → Int} (s : ∀ i k, i < n → k < n → 0 ≤ D i k → ∃ ys, W E i ys (D i k).toNat k) (z : ∀ i, i < n → D i i = 0) (e : ∀ i k a, (i, k, a) ∈ E → D i k = a) (b : ∀ i k, i < n → k < n → D i k ≤ B) (r : ∀ i k, i < n → k < n → -1 ≤ D i k) : FW E n 0 B D (fun _ _ => False) D := by
  have hB : 0 ≤ B := by have := b 0 0 hn hn; rw [z 0 hn] at this; exact this
  refine ⟨s, ?_, fun _ _ _ _ _ hd => hd.elim, fun _ _ => rfl, fun _ _ => rfl, fun i k hi hk => by have := b i k hi hk; omega, b, z 0 hn, r⟩
  intro i k c hi hk hw
  cases hw with
  | nil => rw [z i hi]; omega
  | one h => rw [e _ _ _ h]; omega
  | cons h hy _ => omega
/-- Behind the last round. -/
theorem FW.fin {E : List Arc} {n m : Nat} {B : Int} {D0 D : Nat → Nat → Int} {P : Nat → Nat → Prop} (h : FW E n m B D0 P D) (hP : ∀ i k, i < n → k < n → P i k) (hm : m + 1 = n) (hn : ∀ a ∈ E, a.2.1 < n) {i k : Nat} (hi : i < n) (hk : k < n) :
    (D i k < 0 → ∀ ys c, ¬ W E i ys c k) ∧ (0 ≤ D i k → (∃ ys, W E i ys (D i k).toNat k) ∧ ∀ ys c, W E i ys c k → D i k ≤ c) := by
  refine ⟨fun h0 ys c hw => ?_, fun h0 => ⟨h.s i k hi hk h0, fun ys c hw => ?_⟩⟩
  · have := h.d i k c hi hk (hP i k hi hk) (by rw [hm]; exact Wm.of_W hn hw)
    omega
  · exact (h.d i k c hi hk (hP i k hi hk) (by rw [hm]; exact Wm.of_W hn hw)).2
end Go.Wk
