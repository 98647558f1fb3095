/- The program and the reference find the same route. No program. -/
import Derived.Test.YtgcnlmcpmocbhaaC44
import Derived.Test.YtgcnlmcpmocbhaaAmU
import Derived.Test.YtgcnlmcpmocbhaaRows
import Derived.JoinedOf
set_option linter.unusedSimpArgs false
set_option linter.unusedVariables false
namespace Go.Proofs.Ytgcnlmcpmocbhaa
open Go Go.Am Go.Wk

theorem out_false {N : Nat} {x : Int} (h : outN N x = false) : x = (x.toNat : Int) ∧ x.toNat < N := by
  simp only [outN, Bool.or_eq_false_iff, decide_eq_false_iff_not] at h
  omega
theorem first_kept {l : List Lnk} {n fr : Nat} {c : Con} (hf : fr < n) : Kept (arcsN (l.filter fun x => usableN x c) c.Thru n) fr n (entN c.Thru n fr 0) c.Thru.length 0 (fun ys s d => W (arcsN (l.filter fun x => usableN x c) c.Thru n) (entN c.Thru n fr 0) ys d s ∧ ys.length = 0) [firstW (fr : Int) c] := by
  have e1 := ent_div (th := c.Thru) (k := 0) hf
  have e2 := ent_mod (th := c.Thru) (k := 0) hf
  have r : RW (arcsN (l.filter fun x => usableN x c) c.Thru n) fr n (entN c.Thru n fr 0) 0 (firstW (fr : Int) c) [] (entN c.Thru n fr 0) 0 := by
    refine ⟨.nil _, rfl, rfl, rfl, ?_, ?_⟩
    · rw [e1]; rfl
    · rw [e2]; rfl
  refine ⟨fun w hw => ?_, ?_⟩
  · rw [List.mem_singleton] at hw
    subst hw
    exact ⟨_, _, _, r, by rw [e1]; exact entK_len (Nat.zero_le _)⟩
  · rintro ys s d ⟨hw, hl⟩
    have : ys = [] := List.length_eq_zero_iff.1 hl
    subst this
    obtain ⟨rfl, rfl⟩ := hw.nil_inv
    exact ⟨_, by simp, [], 0, r, .inr ⟨rfl, by simp [lexlt]⟩⟩
/-- Both find the least walk. -/
theorem walk_ref {l : List Lnk} {n fr to : Nat} {c : Con} (hls : ∀ x ∈ l, okLk n x) (hs : l.Pairwise fun x y => x.From < y.From ∨ x.From = y.From ∧ x.To < y.To) (h0 : 0 < n) (hto : to < n) (hf : fr < n) (hm0 : 0 ≤ c.Hops) :
    walkN (l.filter fun x => usableN x c) c.Thru n to fr c.Hops = (loopR l c (to : Int) (n * (c.Thru.length + 1)) (n * (c.Thru.length + 1) + 1) 0 [firstW (fr : Int) c] none).map fun w => (w.N, w.C) := by
  have hus := usk hls (c := c)
  have hE1 : ∀ a ∈ arcsN (l.filter fun x => usableN x c) c.Thru n, 1 ≤ a.2.2 := fun a ha => (arcs_bound hus ha).2.2.1
  have hE2 : ∀ a ∈ arcsN (l.filter fun x => usableN x c) c.Thru n, a.2.1 < n * (c.Thru.length + 1) := fun a ha => (arcs_bound hus ha).2.1
  have hx0s : entN c.Thru n fr 0 < n * (c.Thru.length + 1) := by
    unfold entN
    have := entK_len (th := c.Thru) (a := fr) (k := 0) (by omega)
    have e2 : (entK c.Thru fr 0 + 1) * n ≤ (c.Thru.length + 1) * n := Nat.mul_le_mul_right n (by omega)
    rw [Nat.succ_mul] at e2
    rw [Nat.mul_comm n]
    omega
  have h1 := walkN_best (ls := l.filter fun x => usableN x c) (th := c.Thru) (n := n) (t := to) (from_ := fr) (most := c.Hops) h0 hus (hs.filter _) hf hm0
  have h2 := loopR_best (l := l) (n := n) (fr := fr) (x0 := entN c.Thru n fr 0) (to := to) (c := c) hls h0 hto (n * (c.Thru.length + 1)) none [] (n * (c.Thru.length + 1) + 1) 0 [firstW (fr : Int) c] none rfl (Nat.zero_le _) (fun j hj => by omega) (first_kept hf) ⟨fun w hw => by
    rw [List.mem_singleton] at hw
    subst hw
    exact firstW_ok (by omega) (by omega) c, by simp⟩ (fun ys d _ => Nat.zero_le _)
  generalize walkN (l.filter fun x => usableN x c) c.Thru n to fr c.Hops = X at *
  generalize loopR l c (to : Int) (n * (c.Thru.length + 1)) (n * (c.Thru.length + 1) + 1) 0 [firstW (fr : Int) c] none = Y at *
  cases X with
  | none =>
    cases Y with
    | none => rfl
    | some w =>
      obtain ⟨ys, co, _, hb⟩ := h2
      exact absurd hb.l.2 (h1 _ _ hb.w)
  | some p =>
    obtain ⟨ys, co, hb, e1, e2⟩ := h1
    cases Y with
    | none =>
      exfalso
      rcases hb.w.short hE1 hE2 hx0s with h3 | ⟨zs, d, k1, k2, k3, k4⟩
      · exact h2 _ _ hb.w ⟨h3, hb.l⟩
      · exact h2 _ _ k1 ⟨k4, limH_mono _ _ _ k3 hb.l⟩
    | some w =>
      obtain ⟨zs, d, r, hb'⟩ := h2
      obtain ⟨k1, k2⟩ := hb.uniq (hb'.of_short hE1 hE2 (limH_mono _) hx0s)
      obtain ⟨p1, p2⟩ := p
      simp only at e1 e2
      rw [Option.map_some, r.N, r.C, e1, e2, k2]
      congr 2
      have k3 := congrArg ndI k1
      rw [← k3]
      simp [ndI]
theorem routeN_ref (n : Int) (l : List Lnk) (fr to : Int) (c : Con) : routeN n l fr to c = refN n l fr to c := by
  unfold routeN refN
  by_cases g1 : checkE n l c = 0
  case neg => rw [if_pos g1, if_pos g1]
  have g1' : ¬ checkE n l c ≠ 0 := fun h => h g1
  rw [if_neg g1', if_neg g1']
  by_cases g2 : (outN n fr || outN n to) = true
  · rw [if_pos g2, if_pos g2]
  rw [if_neg g2, if_neg g2]
  by_cases g3 : hasB c.Avoid fr = true
  · rw [if_pos g3, if_pos g3]
    simp [loopR]
  rw [if_neg g3, if_neg g3]
  obtain ⟨n1, n2, l2, lk, cn⟩ := check_links g1
  obtain ⟨asc, _, lko⟩ := links_asc lk
  obtain ⟨c1, c2, c3, _⟩ := con_ok cn
  obtain ⟨N, hN⟩ : ∃ N : Nat, n = N := ⟨n.toNat, by omega⟩
  subst hN
  simp only [Bool.or_eq_true, not_or, Bool.not_eq_true] at g2
  obtain ⟨f1, f2⟩ := out_false g2.1
  obtain ⟨t1, t2⟩ := out_false g2.2
  have h := walk_ref (l := l) (n := N) (fr := fr.toNat) (to := to.toNat) (c := c) (fun x hx => (link_ok (lko x hx)).1) asc (by omega) t2 f2 c1
  rw [← f1, ← t1] at h
  rw [Int.toNat_natCast, h]
  generalize loopR l c to (N * (c.Thru.length + 1)) (N * (c.Thru.length + 1) + 1) 0 [firstW fr c] none = Y
  cases Y <;> rfl
end Go.Proofs.Ytgcnlmcpmocbhaa

/- The example of the document. -/
namespace Go.Proofs.Ytgcnlmcpmocbhaa
open Go Go.Am Go.Wk

def mkL (a b c d f : Int) : Lnk := ⟨a, b, c, d, fun _ => f, 0⟩
def th3 : List Lnk := [mkL 0 1 1 9 5, mkL 0 2 5 90 50, mkL 1 2 1 9 5]
def cnN (a b : Int) : Con := ⟨a, 0, 0, 0, 0, b, [], []⟩
set_option maxHeartbeats 4000000 in
set_option maxRecDepth 10000 in
theorem c46 (n : Int) : CFun Try.prog 46 [.int .i64 n] [] (.agg (List.replicate 8 (.int .i64 n))) [] := by
  refine CFun.intro (tr := []) (fz := []) (n := 12) (rs := [.cell 2 27]) Try.func46 rfl (by kernel_rfl) rfl rfl mixed (by kernel_rfl) (by simp) (by simp) ?_
  simp
theorem r3 : (([0, 1, 2] : List Nat) = List.range 3) = True := by decide
theorem r2 : (([0, 1] : List Nat) = List.range 2) = True := by decide
set_option maxHeartbeats 4000000 in
set_option maxRecDepth 10000 in
theorem c26 : CFun Try.prog 26 [] [] (.sl 13 (th3.map encL) .sh) [] := by
  refine CFun.intro (tr := []) (fz := []) (n := 8) (rs := [.tmp 0]) Try.func26 rfl (by kernel_rfl) rfl rfl mixed (by kernel_rfl) (by simp) (by simp) ?_
  have h := c46
  simp
  refine ⟨_, _, .inl (by simpa using h 5), by simp, ?_⟩
  simp
  refine ⟨_, _, .inl (by simpa using h 50), by simp, ?_⟩
  simp
  refine ⟨_, _, .inl (by simpa using h 5), by simp, ?_⟩
  simp [r3, th3, mkL, cellsL, frC, frs]
@[simp] def cn0 (a b : Int) : AVal := .agg [.int .i64 a, .int .i64 0, .int .i64 0, .int .u32 0, .int .u32 0, .int .i64 b, .sl 0 [] .full, .sl 0 [] .full]
theorem exRoute (a b : Int) (r : List Int × Int × Int) (h : refN 3 th3 0 2 (cnN a b) = r) : CFun Try.prog 15 [.int .i64 3, .sl 13 (th3.map encL) .sh, .int .i64 0, .int .i64 2, cn0 a b] [] (encRt r) [] := by
  have := c15 th3 3 rfl (by decide) (cnN a b) 0 0 rfl rfl (by decide) (by decide) 3 0 2
  rw [routeN_ref, h] at this
  exact this.wk _ (by simp) ⟨LeS_refl _, LeS_refl _, LeS_refl _, LeS_refl _, by simp [cnN, LeS, LeC], trivial⟩
theorem exFits (a b : Int) (p : List Int) (r : Bool) (hp : p.length < 1000) (h : fitsP 3 th3 p (cnN a b) = r) : CFun Try.prog 18 [.int .i64 3, .sl 13 (th3.map encL) .sh, .sl 1 (p.map encI) .sh, cn0 a b] [] (.bool r) [] := by
  have := c18 th3 3 rfl (by decide) p p.length rfl (by omega) (cnN a b) 0 0 rfl (by decide) rfl (by decide) 3
  rw [h] at this
  exact this.wk _ (by simp) ⟨LeS_refl _, LeS_refl _, LeS_refl _, by simp [cnN, LeS, LeC], trivial⟩
set_option maxHeartbeats 4000000 in
set_option maxRecDepth 10000 in
theorem c11 : CFun Try.prog 11 [] [] (.bool true) [] := by
  refine CFun.intro (tr := []) (fz := []) (n := 72) (rs := [.tmp 0]) Try.func11 rfl (by kernel_rfl) rfl rfl mixed (by kernel_rfl) (by simp) (by simp) ?_
  have h26 := c26
  have h1 := exRoute 5 0 ([0, 1, 2], 2, 0) (by kernel_rfl)
  have h2 := exRoute 6 0 ([0, 2], 5, 0) (by kernel_rfl)
  have h3 := exRoute 51 0 ([], 0, 20) (by kernel_rfl)
  have h4 := exRoute 0 1 ([0, 2], 5, 0) (by kernel_rfl)
  have h5 := exFits 5 0 [0, 1, 2] true (by decide) (by kernel_rfl)
  have s1 := (c17 [0, 1, 2] [0, 1, 2] 3 3 rfl rfl (by decide) (by decide)).wk [.sl 1 [.int .i64 0, .int .i64 1, .int .i64 2] .sh, .sl 1 [.int .i64 0, .int .i64 1, .int .i64 2] .full] (by simp) (by simp [All2, LeS])
  have s2 := (c17 [0, 2] [0, 2] 2 2 rfl rfl (by decide) (by decide)).wk [.sl 1 [.int .i64 0, .int .i64 2] .sh, .sl 1 [.int .i64 0, .int .i64 2] .full] (by simp) (by simp [All2, LeS])
  generalize hth : th3.map encL = T at *
  simp [r2, r3]
  refine ⟨_, _, .inl (by simpa using h26), by simp, ?_⟩
  simp [r2, r3]
  refine ⟨_, _, .inl (by simpa using h1), by simp, ?_⟩
  simp [r2, r3]
  refine ⟨_, _, .inl (by simpa using h26), by simp, ?_⟩
  simp [r2, r3]
  refine ⟨_, _, .inl (by simpa using h2), by simp, ?_⟩
  simp [r2, r3]
  refine ⟨_, _, .inl (by simpa using h26), by simp, ?_⟩
  simp [r2, r3]
  refine ⟨_, _, .inl (by simpa using h3), by simp, ?_⟩
  simp [r2, r3]
  refine ⟨_, _, .inl (by simpa using h26), by simp, ?_⟩
  simp [r2, r3]
  refine ⟨_, _, .inl (by simpa using h4), by simp, ?_⟩
  simp [r2, r3]
  refine ⟨_, _, .inl (by simpa using s1), by simp, ?_⟩
  simp [r2, r3]
  refine ⟨_, _, .inl (by simpa using s2), by simp, ?_⟩
  simp [r2, r3]
  refine ⟨_, _, .inl (by simpa using s2), by simp, ?_⟩
  simp [r2, r3]
  refine ⟨_, _, .inl (by simpa using h26), by simp, ?_⟩
  simp [r2, r3]
  refine ⟨_, _, .inl (by simpa using h5), by simp, ?_⟩
  simp [r2, r3]
end Go.Proofs.Ytgcnlmcpmocbhaa

/- What links and constraints bring as arguments. -/
namespace Go.Proofs.Ytgcnlmcpmocbhaa
open Go Go.Am

theorem Rds_int {k : IntKind} {ts : List CTy} {cs : List AVal} (h : Rds (.int k :: ts) cs) : ∃ n r, cs = .int k n :: r ∧ Rds ts r ∧ (Lit.int k n).wf = true := by
  simp only [Rds, Rd] at h
  obtain ⟨x, r, rfl, ⟨n, rfl, hn⟩, h2⟩ := h
  exact ⟨n, r, rfl, h2, hn⟩
theorem Rds_bool {ts : List CTy} {cs : List AVal} (h : Rds (.bool :: ts) cs) : ∃ b r, cs = .bool b :: r ∧ Rds ts r := by
  simp only [Rds, Rd] at h
  obtain ⟨x, r, rfl, ⟨n, rfl⟩, h2⟩ := h
  exact ⟨n, r, rfl, h2⟩
theorem Rds_nil {cs : List AVal} (h : Rds [] cs) : cs = [] := h

/-- A list of values, each of which encodes something. -/
theorem decAll {α : Type} {enc : α → AVal} : ∀ (xs : List AVal), (∀ y ∈ xs, ∃ a, y = enc a) → ∃ l : List α, xs = l.map enc := by
  intro xs
  induction xs with
  | nil => intro _; exact ⟨[], rfl⟩
  | cons x xs ih =>
    intro h
    obtain ⟨a, rfl⟩ := h x (by simp)
    obtain ⟨l, rfl⟩ := ih fun y hy => h y (by simp [hy])
    exact ⟨a :: l, rfl⟩
theorem Rds_sl {α : Type} {enc : α → AVal} {ag : Bool} {by_ : Nat} {e ts : List CTy} {cs : List AVal} (h : Rds (.sl ag by_ e :: ts) cs) (hd : ∀ y cs, (if ag = true then y = .agg cs else cs = [y]) → Rds e cs → ∃ a, y = enc a) :
    ∃ (l : List α) (r : List AVal), cs = .sl e.length (l.map enc) .sh :: r ∧ Rds ts r ∧ l.length * by_ ≤ reachBytes := by
  simp only [Rds, Rd] at h
  obtain ⟨x, r, rfl, ⟨xs, rfl, hl, hx⟩, h2⟩ := h
  obtain ⟨l, rfl⟩ := decAll (enc := enc) xs fun y hy => by
    obtain ⟨cs, h1, h2⟩ := hx y hy
    exact hd y cs h1 h2
  exact ⟨l, r, rfl, h2, by simpa using hl⟩

theorem wf_i64 {n : Int} (h : (Lit.int .i64 n).wf = true) : inI n := by
  simpa [Lit.wf, IntKind.min, IntKind.max, IntKind.signed, IntKind.bits, inI] using h
theorem rd_list {α : Type} {enc : α → AVal} {ag : Bool} {by_ : Nat} {e : List CTy} {x : AVal} (h : RdA (false, [.sl ag by_ e]) x) (hd : ∀ y cs, (if ag = true then y = .agg cs else cs = [y]) → Rds e cs → ∃ a, y = enc a) :
    ∃ l : List α, x = .sl e.length (l.map enc) .sh ∧ l.length * by_ ≤ reachBytes := by
  obtain ⟨cs, h1, h2⟩ := h
  simp only [Rds, Rd] at h2
  obtain ⟨y, r, rfl, ⟨xs, rfl, hl, hx⟩, rfl⟩ := h2
  simp at h1
  subst h1
  obtain ⟨l, rfl⟩ := decAll (enc := enc) xs fun y hy => by
    obtain ⟨cs, h1, h2⟩ := hx y hy
    exact hd y cs h1 h2
  exact ⟨l, rfl, by simpa using hl⟩
theorem own : ownKnob Try.prog.godebug = none := by kernel_rfl
def csL : List CTy := [.int .i64, .int .i64, .int .i64, .int .i64, .int .i64, .int .i64, .int .i64, .int .i64, .int .i64, .int .i64, .int .i64, .int .i64, .int .u32]
def tyLs : Bool × List CTy := (false, [.sl true 104 csL])
def tyIs : Bool × List CTy := (false, [.sl false 8 [.int .i64]])
def tyI : Bool × List CTy := (false, [.int .i64])
def tyC : Bool × List CTy := (true, [.int .i64, .int .i64, .int .i64, .int .u32, .int .u32, .int .i64, .sl false 8 [.int .i64], .sl false 8 [.int .i64]])
theorem rd_i {x : AVal} (h : RdA tyI x) : ∃ n : Int, x = .int .i64 n ∧ inI n := by
  obtain ⟨cs, h1, h2⟩ := h
  obtain ⟨n, r, rfl, h3, w⟩ := Rds_int h2
  obtain rfl := Rds_nil h3
  simp [tyI] at h1
  exact ⟨n, h1.symm, wf_i64 w⟩
theorem reach_eq : reachBytes = 140737488351232 := by decide
theorem rd_Ls {x : AVal} (h : RdA tyLs x) : ∃ l : List Lnk, x = .sl 13 (l.map encL) .sh ∧ l.length < 9223372036854775807 := by
  obtain ⟨l, rfl, hl⟩ := rd_list (enc := encL) h fun y cs h1 h => by
    obtain ⟨a1, r, rfl, h, _⟩ := Rds_int h
    obtain ⟨a2, r, rfl, h, _⟩ := Rds_int h
    obtain ⟨a3, r, rfl, h, _⟩ := Rds_int h
    obtain ⟨a4, r, rfl, h, _⟩ := Rds_int h
    obtain ⟨f0, r, rfl, h, _⟩ := Rds_int h
    obtain ⟨f1, r, rfl, h, _⟩ := Rds_int h
    obtain ⟨f2, r, rfl, h, _⟩ := Rds_int h
    obtain ⟨f3, r, rfl, h, _⟩ := Rds_int h
    obtain ⟨f4, r, rfl, h, _⟩ := Rds_int h
    obtain ⟨f5, r, rfl, h, _⟩ := Rds_int h
    obtain ⟨f6, r, rfl, h, _⟩ := Rds_int h
    obtain ⟨f7, r, rfl, h, _⟩ := Rds_int h
    obtain ⟨a5, r, rfl, h, _⟩ := Rds_int h
    obtain rfl := Rds_nil h
    exact ⟨⟨a1, a2, a3, a4, fun i => [f0, f1, f2, f3, f4, f5, f6, f7].getD i 0, a5⟩, by simpa [cellsL, frC, frs] using h1⟩
  have := reach_eq
  exact ⟨l, rfl, by omega⟩
theorem dec_i {y : AVal} {cs : List AVal} (h1 : if false = true then y = .agg cs else cs = [y]) (h : Rds [.int .i64] cs) : ∃ a, y = encI a := by
  obtain ⟨a1, r, rfl, h, _⟩ := Rds_int h
  obtain rfl := Rds_nil h
  simp at h1
  exact ⟨a1, h1.symm⟩
theorem rd_Is {x : AVal} (h : RdA tyIs x) : ∃ l : List Int, x = .sl 1 (l.map encI) .sh ∧ l.length < 9223372036854775807 := by
  obtain ⟨l, rfl, hl⟩ := rd_list (enc := encI) h fun y cs h1 h => dec_i h1 h
  have := reach_eq
  exact ⟨l, rfl, by omega⟩
theorem rd_C {x : AVal} (h : RdA tyC x) : ∃ c : Con, x = encC c ∧ c.Avoid.length < 9223372036854775807 ∧ c.Thru.length < 9223372036854775807 := by
  obtain ⟨cs, h1, h⟩ := h
  obtain ⟨a1, r, rfl, h, _⟩ := Rds_int h
  obtain ⟨a2, r, rfl, h, _⟩ := Rds_int h
  obtain ⟨a3, r, rfl, h, _⟩ := Rds_int h
  obtain ⟨a4, r, rfl, h, _⟩ := Rds_int h
  obtain ⟨a5, r, rfl, h, _⟩ := Rds_int h
  obtain ⟨a6, r, rfl, h, _⟩ := Rds_int h
  obtain ⟨l1, r, rfl, h, z1⟩ := Rds_sl (enc := encI) h (fun y cs h1 h => dec_i h1 h)
  obtain ⟨l2, r, rfl, h, z2⟩ := Rds_sl (enc := encI) h (fun y cs h1 h => dec_i h1 h)
  obtain rfl := Rds_nil h
  have := reach_eq
  refine ⟨⟨a1, a2, a3, a4, a5, a6, l1, l2⟩, by simpa [tyC] using h1, ?_, ?_⟩ <;> simp only <;> omega
end Go.Proofs.Ytgcnlmcpmocbhaa

/- The laws of checks and of fits, by the program. -/
namespace Go.Proofs.Ytgcnlmcpmocbhaa
open Go Go.Am Go.Wk

set_option maxHeartbeats 4000000 in
set_option maxRecDepth 10000 in
theorem c3 (n : Int) (l : List Lnk) (m : Nat) (hm : l.length = m) (hm2 : m < 9223372036854775807) (c : Con) (p q : Nat) (hp : c.Avoid.length = p) (hq : c.Thru.length = q) (hp2 : p < 9223372036854775807) (hq2 : q < 9223372036854775807) :
    CFun Try.prog 3 [.int .i64 n, .sl 13 (l.map encL) .sh, encC c] [] (.bool true) [] := by
  refine CFun.intro (tr := []) (fz := []) (n := 35) (rs := [.tmp 6]) Try.func3 rfl (by kernel_rfl) rfl rfl mixed (by kernel_rfl) (by simp) (by simp) ?_
  have h11 := fun H => c11.up' H rfl rfl
  have h12 := fun H => (c12 l m hm hm2 c n p q hp hq hp2 hq2).up' H (by simp [noid, noid0]) rfl
  have h13 := fun H => (c13 l m hm hm2 c n p q hp hq hp2 hq2).up' H (by simp [noid, noid0]) rfl
  have h9 := fun x H => (c9 x c p hp hp2).up' H (by simp [noid, noid0]) rfl
  have h10 := fun x H => (c10 x c p hp hp2).up' H (by simp [noid, noid0]) rfl
  generalize checkE n l c = e at *
  simp [hm]
  refine LoopK.intro (tr := []) mixed (by kernel_rfl) (fun i : Nat => [(0, .int .i64 n), (1, .sl 13 (l.map encL) .sh), (5, .ptr 0 0), (9, .sl 13 (l.map encL) .sh), (10, .int .i64 m), (11, .int .i64 i)]) (fun _ => [cellsC c]) (fun i => i ≤ m) (fun i => m - i) 0 ?_ ?_ ?_
  · simp
  · simp [hm]
  · intro i hi
    by_cases hi2 : i < m
    · obtain ⟨x, hx⟩ : ∃ x, l[i]? = some x := ⟨_, List.getElem?_eq_getElem (by omega)⟩
      have w1 : IntKind.i64.wrap ((i : Int) + 1) = i + 1 := wrap_in (by omega)
      have k9 := h9 x
      have k10 := h10 x
      generalize usableN x c = u at *
      simp [hi2, hm, hx, gE hx]
      refine ⟨_, _, .inl (by simpa using k9 _), by simp, ?_⟩
      simp
      refine ⟨_, _, .inl (by simpa using k10 _), by simp, ?_⟩
      simp [w1]
      exact ⟨i + 1, by omega, by omega, by simp⟩
    · have : i = m := by omega
      subst this
      simp [hm]
      refine ⟨_, _, .inl (by simpa using h11 _), by simp, ?_⟩
      simp
      refine ⟨_, _, .inl (by simpa using h12 _), by simp, ?_⟩
      simp
      refine ⟨_, _, .inl (by simpa using h13 _), by simp, ?_⟩
      simp
set_option maxHeartbeats 4000000 in
set_option maxRecDepth 10000 in
theorem c5 (n : Int) (l : List Lnk) (m : Nat) (hm : l.length = m) (hm2 : m < 9223372036854775807) (pa : List Int) (k : Nat) (hk : pa.length = k) (hk2 : k < 9223372036854775807) (c : Con) (p q : Nat) (hp : c.Avoid.length = p) (hq : c.Thru.length = q) (hp2 : p < 9223372036854775807) (hq2 : q < 9223372036854775807) :
    CFun Try.prog 5 [.int .i64 n, .sl 13 (l.map encL) .sh, .sl 1 (pa.map encI) .sh, encC c] [] (.bool true) [] := by
  refine CFun.intro (tr := []) (fz := []) (n := 32) (rs := [.tmp 8]) Try.func5 rfl (by kernel_rfl) rfl rfl mixed (by kernel_rfl) (by simp) (by simp) ?_
  have h11 := fun H => c11.up' H rfl rfl
  have h18 := fun H => (c18 l m hm hm2 pa k hk hk2 c p q hp hp2 hq hq2 n).up' H (by simp [noid, noid0]) rfl
  have h19 := fun H => (c19 l m hm hm2 pa k hk hk2 c p q hp hp2 hq hq2 n).up' H (by simp [noid, noid0]) rfl
  rw [fitsP_R] at h18
  generalize fitsR n l pa c = e at *
  by_cases b1 : 200 < m
  · have b1' : (200 : Int) < m := by omega
    simp [hm, hk, b1, b1']
    refine ⟨_, _, .inl (by simpa using h11 _), by simp, ?_⟩
    simp
  have b1' : ¬ (200 : Int) < m := by omega
  by_cases b2 : 200 < k
  · have b2' : (200 : Int) < k := by omega
    simp [hm, hk, b1, b2, b1', b2']
    refine ⟨_, _, .inl (by simpa using h11 _), by simp, ?_⟩
    simp
  have b2' : ¬ (200 : Int) < k := by omega
  simp [hm, hk, b1, b2, b1', b2']
  refine ⟨_, _, .inl (by simpa using h11 _), by simp, ?_⟩
  simp
  refine ⟨_, _, .inl (by simpa using h18 _), by simp, ?_⟩
  simp
  refine ⟨_, _, .inl (by simpa using h19 _), by simp, ?_⟩
  simp
end Go.Proofs.Ytgcnlmcpmocbhaa
