/- What is read off the arguments of a claim of the second form: every row is short. -/
import Derived.Test.YtfngaildaoahpaaAmU
namespace Go.AmU
open Go Go.Am Go.RowKit Go.WideShapes Go.ChangeShapes

/-- The bytes of a row, where all arguments together are of bulk at most 1048576 and no element has more than 2048 bytes. -/
def reachU : Nat := 4294967296
mutual
def Rd : CTy → AVal → Prop
  | .bool, x => ∃ b, x = .bool b
  | .int k, x => ∃ n, x = .int k n ∧ (Lit.int k n).wf = true
  | .sl ag by_ e, x => ∃ xs, x = .sl e.length xs .sh ∧ xs.length * by_ ≤ reachU ∧ ∀ y ∈ xs, ∃ cs, (if ag = true then y = .agg cs else cs = [y]) ∧ Rds e cs
def Rds : List CTy → List AVal → Prop
  | [], xs => xs = []
  | t :: ts, xs => ∃ x r, xs = x :: r ∧ Rd t x ∧ Rds ts r
end

theorem Rds_append : ∀ {ts : List CTy} {xs : List AVal} {ts' : List CTy} {xs' : List AVal}, Rds ts xs → Rds ts' xs' → Rds (ts ++ ts') (xs ++ xs') := by
  intro ts
  induction ts with
  | nil => intro xs ts' xs' h h'; simp only [Rds] at h; subst h; exact h'
  | cons t ts ih =>
    intro xs ts' xs' h h'
    simp only [Rds] at h
    obtain ⟨x, r, rfl, h1, h2⟩ := h
    simp only [List.cons_append, Rds]
    exact ⟨x, r ++ xs', rfl, h1, ih h2 h'⟩

theorem Rd_scalar {t : CTy} {x : AVal} (h : Rd t x) : x.scalar = true := by
  cases t with
  | bool => simp only [Rd] at h; obtain ⟨b, rfl⟩ := h; rfl
  | int k => simp only [Rd] at h; obtain ⟨b, rfl, _⟩ := h; rfl
  | sl ag b e => simp only [Rd] at h; obtain ⟨xs, rfl, _⟩ := h; rfl

theorem Rds_len : ∀ {ts : List CTy} {xs : List AVal}, Rds ts xs → xs.length = ts.length ∧ ∀ x ∈ xs, x.scalar = true := by
  intro ts
  induction ts with
  | nil => intro xs h; simp only [Rds] at h; subst h; simp
  | cons t ts ih =>
    intro xs h
    simp only [Rds] at h
    obtain ⟨x, r, rfl, h1, h2⟩ := h
    obtain ⟨g1, g2⟩ := ih h2
    refine ⟨by simp [g1], fun y hy => ?_⟩
    rcases List.mem_cons.1 hy with rfl | hy
    · exact Rd_scalar h1
    · exact g2 y hy

section
variable {H : Type} {enc : TypeId × Value → H} {P : Program} {w : World} {spare : Nat → Bool} {held : Bool}

def GoodAt (w : World) (ts : List CTy) (cs : List Value) : Prop :=
  ∃ xs, Rds ts xs ∧ cs.length = ts.length ∧ ∀ (i : Nat) (c : AVal) (v : Value), xs[i]? = some c → cs[i]? = some v → RepT (W0 w) c v

theorem rdFs_good {f : TypeId → Option (Bool × List CTy)} : ∀ (fs : List (Nat × TypeId)) (off : Nat) (ts : List CTy) (cs : List Value), rdFs P f fs off = some ts → cs.length = off + ts.length →
    (∀ (i : Nat) (o : Nat) (t : TypeId) (ag : Bool) (us : List CTy), fs[i]? = some (o, t) → f t = some (ag, us) → GoodAt w us ((cs.drop o).take (P.cellsOf t))) → GoodAt w ts (cs.drop off) := by
  intro fs
  induction fs with
  | nil =>
    intro off ts cs h hl _
    simp only [rdFs, Option.some.injEq] at h
    subst h
    exact ⟨[], by simp [Rds], by simp at hl ⊢; omega, by simp⟩
  | cons p fs ih =>
    intro off ts cs h hl hg
    obtain ⟨o, t⟩ := p
    simp only [rdFs] at h
    split at h
    · rename_i ho
      subst ho
      split at h
      · rename_i ag us hft
        split at h
        · rename_i hlen
          simp only [Option.map_eq_some_iff] at h
          obtain ⟨ts', h1, rfl⟩ := h
          obtain ⟨xs, x1, x2, x3⟩ := hg 0 o t ag us rfl hft
          obtain ⟨ys, y1, y2, y3⟩ := ih (o + us.length) ts' cs h1 (by simp at hl; omega) (fun i o' t' ag' us' h' => hg (i + 1) o' t' ag' us' (by simpa using h'))
          refine ⟨xs ++ ys, Rds_append x1 y1, by simp at hl ⊢; omega, fun i c v hc hv => ?_⟩
          have hxl := (Rds_len x1).1
          rw [← hlen] at x3
          by_cases hi : i < us.length
          · rw [List.getElem?_append_left (by omega)] at hc
            exact x3 i c v hc (by rw [List.getElem?_take, if_pos hi]; exact hv)
          · rw [List.getElem?_append_right (by omega)] at hc
            refine y3 _ c v hc ?_
            rw [List.getElem?_drop] at hv ⊢
            rw [← hv]; congr 1; omega
        · cases h
      · cases h
    · cases h

theorem trod_rd : ∀ (n : Nat) (t : TypeId) (ag : Bool) (ts : List CTy), rdT P n t = some (ag, ts) → ∀ (fuel : Nat) (cs : List Value) (x : DataW H × List MemPlace), DataW.trod enc P w 0 spare held fuel t cs = some x →
    (∀ m ∈ x.1.weights P t, m ≤ reachU) → GoodAt w ts cs := by
  intro n
  induction n with
  | zero => intro t ag ts h; simp [rdT] at h
  | succ n ih =>
    intro t ag ts h fuel cs x hx hw
    simp only [rdT] at h
    split at h
    · rename_i hu
      simp only [Option.some.injEq, Prod.mk.injEq] at h
      obtain ⟨_, rfl⟩ := h
      obtain ⟨b, rfl, _⟩ := DataW.trod_bool hu hx
      refine ⟨[.bool b], by simp [Rds, Rd], rfl, fun i c v hc hv => ?_⟩
      cases i <;> simp at hc hv
      subst hc hv; exact .bool b
    · rename_i k hu
      simp only [Option.some.injEq, Prod.mk.injEq] at h
      obtain ⟨_, rfl⟩ := h
      obtain ⟨b, rfl, _, hwf⟩ := DataW.trod_int hu hx
      refine ⟨[.int k b], by simp [Rds, Rd, hwf], rfl, fun i c v hc hv => ?_⟩
      cases i <;> simp at hc hv
      subst hc hv; exact .int k b
    · rename_i e hu
      split at h
      · rename_i ag' us hr
        split at h
        · rename_i hlen
          obtain ⟨hlen, hpos⟩ := hlen
          simp only [Option.some.injEq, Prod.mk.injEq] at h
          obtain ⟨_, rfl⟩ := h
          rcases DataW.trod_slice hu hx with ⟨rfl, rfl⟩ | ⟨a, len, cap, elems, rest, m, rfl, rfl, rfl, hb, hl, hc, hel, hel', _, _⟩
          · refine ⟨[.sl us.length [] .sh], by simp [Rds, Rd], rfl, fun i c v hc hv => ?_⟩
            cases i <;> simp at hc hv
            subst hc hv; exact .slnil _ _
          · have hw' : ∀ m ∈ (elems.length + rest.length) * P.bytesOf e :: DataW.weightsAll P e (elems.map (·.1)), m ≤ reachU := by
              intro m hm
              refine hw m ?_
              simp only [DataW.weights, hu, List.length_map]
              rcases List.mem_cons.1 hm with h | h
              · subst h; simp
              · simp [h]
            have each : ∀ i, i < len → ∃ y : AVal, (∃ xs, (if ag' = true then y = .agg xs else xs = [y]) ∧ Rds us xs ∧ ∀ (j : Nat) (c : AVal), xs[j]? = some c → ∃ v, w.cell? ⟨a.block, a.off + (i * us.length + j), none⟩ = some v ∧ RepT (W0 w) c v) := by
              intro i hi
              have h1 := hel' i hi
              have h2 : elems[i]? = some (elems[i]'(by omega)) := List.getElem?_eq_getElem _
              rw [h2] at h1
              simp only [Option.bind_eq_some_iff] at h1
              obtain ⟨ecs, hcells, htrod⟩ := h1
              obtain ⟨xs, x1, x2, x3⟩ := ih e ag' us hr _ ecs _ htrod (fun m hm => hw' m (List.mem_cons_of_mem _ (weights_all (i := i) (by rw [List.getElem?_map, h2]; rfl) m hm)))
              obtain ⟨_, c2, c3⟩ := World.cells?_some hcells
              have fin : ∀ (j : Nat) (c : AVal), xs[j]? = some c → ∃ v, w.cell? ⟨a.block, a.off + (i * us.length + j), none⟩ = some v ∧ RepT (W0 w) c v := by
                intro j c hc
                have hj : j < us.length := by rw [← (Rds_len x1).1]; exact (List.getElem?_eq_some_iff.1 hc).1
                have hv : ecs[j]? = some (ecs[j]'(by omega)) := List.getElem?_eq_getElem _
                have h3 := c3 j (by omega)
                rw [hv] at h3
                have h4 := cell_add2 h3
                rw [hlen]
                exact ⟨_, h4, x3 j c _ hc hv⟩
              cases ag' with
              | true => exact ⟨.agg xs, xs, by simp, x1, fin⟩
              | false =>
                obtain ⟨c, rfl⟩ := rdT_one hr
                have hl1 := (Rds_len x1).1
                obtain ⟨y, rfl⟩ := List.length_eq_one_iff.1 hl1
                exact ⟨y, [y], by simp, x1, fin⟩
            obtain ⟨ys, y1, y2⟩ := listOf len each
            have hk : ∀ y ∈ ys, y.cells.length = us.length ∧ (∀ c ∈ y.cells, c.scalar = true) ∧ ∃ cs, (if ag' = true then y = .agg cs else cs = [y]) ∧ Rds us cs := by
              intro y hy
              obtain ⟨i, hi⟩ := List.getElem?_of_mem hy
              obtain ⟨xs, q1, q2, _⟩ := y2 i y hi
              obtain ⟨l1, l2⟩ := Rds_len q2
              cases ag' with
              | true =>
                simp only [if_true] at q1; subst q1
                exact ⟨l1, l2, xs, by simp, q2⟩
              | false =>
                simp at q1; subst q1
                have hs := l2 y (by simp)
                rw [show y.cells = [y] by cases y <;> first | rfl | simp [AVal.scalar] at hs]
                exact ⟨l1, by simpa using hs, [y], by simp, q2⟩
            have cellsOf : ∀ (i j : Nat) (y c : AVal), ys[i]? = some y → y.cells[j]? = some c → ∃ v, w.cell? ⟨a.block, a.off + (i * us.length + j), none⟩ = some v ∧ RepT (W0 w) c v := by
              intro i j y c hy hc
              obtain ⟨xs, q1, q2, q3⟩ := y2 i y hy
              refine q3 j c ?_
              cases ag' with
              | true => simp only [if_true] at q1; subst q1; exact hc
              | false =>
                simp at q1; subst q1
                have hs := (Rds_len q2).2 y (by simp)
                rw [show y.cells = [y] by cases y <;> first | rfl | simp [AVal.scalar] at hs] at hc
                exact hc
            have total : ∀ j, j < len * us.length → ∃ v, w.cell? ⟨a.block, a.off + j, none⟩ = some v := by
              intro j hj
              have hq : j / us.length < len := (Nat.div_lt_iff_lt_mul hpos).2 hj
              have hm : j % us.length < us.length := Nat.mod_lt _ hpos
              have hy : ys[j / us.length]? = some (ys[j / us.length]'(by omega)) := List.getElem?_eq_getElem _
              have hl1 := (hk _ (List.getElem_mem (by omega : j / us.length < ys.length))).1
              have hc : (ys[j / us.length]'(by omega)).cells[j % us.length]? = some ((ys[j / us.length]'(by omega)).cells[j % us.length]'(by omega)) := List.getElem?_eq_getElem _
              obtain ⟨v, hv, _⟩ := cellsOf _ _ _ _ hy hc
              rw [show j / us.length * us.length + j % us.length = j by rw [Nat.mul_comm]; exact Nat.div_add_mod _ _] at hv
              exact ⟨v, hv⟩
            refine ⟨[.sl us.length ys .sh], ?_, rfl, fun i c v hc hv => ?_⟩
            · simp only [Rds, Rd]
              refine ⟨_, [], rfl, ⟨ys, rfl, ?_, fun y hy => (hk y hy).2.2⟩, rfl⟩
              have := hw' _ (List.mem_cons_self ..)
              rw [y1]
              refine Nat.le_trans (Nat.mul_le_mul_right _ ?_) this
              omega
            · cases i <;> simp at hc hv
              subst hc hv
              refine .sl _ ys .sh a len cap (fun j => (w.cell? ⟨a.block, a.off + j, none⟩).getD undef) y1.symm hl (fun hne => ?_) (fun _ => hpos) (by simp) (fun y hy => (hk y hy).1) (fun y hy => (hk y hy).2.1) (fun j hj => ?_) (fun i j y c hy hc => ?_)
              · have h0 : 0 < len := by rw [← y1]; exact List.length_pos_iff.2 hne
                have h1 := hel' 0 h0
                rw [show elems[0]? = some (elems[0]'(by omega)) from List.getElem?_eq_getElem _] at h1
                simp only [Option.bind_eq_some_iff] at h1
                obtain ⟨ecs, hcells, _⟩ := h1
                obtain ⟨_, c2, c3⟩ := World.cells?_some hcells
                have h3 := c3 0 (by omega)
                rw [Nat.zero_mul, show ecs[0]? = some (ecs[0]'(by omega)) from List.getElem?_eq_getElem _] at h3
                rw [show a.add 0 = a by unfold Addr.add; simp] at h3
                exact cell_spot0 h3
              · obtain ⟨v, hv⟩ := total j hj
                show w.cell? _ = _
                rw [hv]; rfl
              · obtain ⟨v, hv, hr'⟩ := cellsOf i j y c hy hc
                simp only [hv, Option.getD_some]
                exact hr'
        · cases h
      · cases h
    · rename_i fs hu
      split at h
      · rename_i us hr
        split at h
        · rename_i hlen
          simp only [Option.some.injEq, Prod.mk.injEq] at h
          obtain ⟨_, rfl⟩ := h
          obtain ⟨xs, m, rfl, rfl, hcl, hxl, hel⟩ := DataW.trod_struct hu hx
          refine rdFs_good _ 0 us cs hr (by omega) ?_
          intro i o t' ag' us' hi hf
          simp only [List.getElem?_map, Option.map_eq_some_iff, Prod.mk.injEq] at hi
          obtain ⟨f, hfi, rfl, rfl⟩ := hi
          have hfi' : fs[i]? = some f := by simpa using hfi
          have hlt : i < xs.length := by rw [hxl]; exact (Array.getElem?_eq_some_iff.1 hfi').1
          have h1 := hel i f hfi'
          rw [List.getElem?_eq_getElem hlt] at h1
          refine ih _ ag' us' hf _ _ _ h1 (fun m hm => hw m ?_)
          simp only [DataW.weights, hu]
          exact weights_each (i := i) (by simp [hfi']) (by simp [hlt]) m hm
        · cases h
      · cases h
    · rename_i k e hu
      split at h
      · rename_i us hr
        split at h
        · rename_i hlen
          simp only [Option.some.injEq, Prod.mk.injEq] at h
          obtain ⟨_, rfl⟩ := h
          obtain ⟨xs, m, rfl, rfl, hcl, hxl, hel⟩ := DataW.trod_array hu hx
          refine rdFs_good _ 0 us cs hr (by omega) ?_
          intro i o t' ag' us' hi hf
          simp only [List.getElem?_map, Option.map_eq_some_iff, Prod.mk.injEq] at hi
          obtain ⟨i', hi', rfl, rfl⟩ := hi
          obtain ⟨hlt', he⟩ := List.getElem?_eq_some_iff.1 hi'
          simp at he hlt'
          subst he
          have h1 := hel i hlt'
          rw [List.getElem?_eq_getElem (by omega)] at h1
          refine ih _ ag' us' hf _ _ _ h1 (fun m hm => hw m ?_)
          simp only [DataW.weights, hu]
          exact weights_all (i := i) (by simp; exact ⟨_, List.getElem?_eq_getElem (by omega)⟩) m hm
        · cases h
      · cases h
    · cases h

/-- What an argument may be. -/
def RdA (p : Bool × List CTy) (x : AVal) : Prop := ∃ cs, (if p.1 = true then x = .agg cs else cs = [x]) ∧ Rds p.2 cs

def RdAs : List (Bool × List CTy) → List AVal → Prop
  | [], xs => xs = []
  | p :: ps, xs => ∃ x r, xs = x :: r ∧ RdA p x ∧ RdAs ps r

theorem RdA.notOwn {p : Bool × List CTy} {x : AVal} (h : RdA p x) : x.isOwn = false := by
  obtain ⟨cs, h1, h2⟩ := h
  split at h1
  · subst h1; rfl
  · subst h1
    obtain ⟨ag, ts⟩ := p
    cases ts with
    | nil => simp [Rds] at h2
    | cons t ts =>
      simp only [Rds] at h2
      obtain ⟨y, r, e, h3, _⟩ := h2
      injection e with e1 e2
      subst e1
      cases t with
      | bool => simp only [Rd] at h3; obtain ⟨b, rfl⟩ := h3; rfl
      | int k => simp only [Rd] at h3; obtain ⟨b, rfl, _⟩ := h3; rfl
      | sl ag b e => simp only [Rd] at h3; obtain ⟨xs, rfl, _⟩ := h3; rfl

theorem arg_read {n : Nat} {t : TypeId} {p : Bool × List CTy} (hp : rdT P n t = some p) {base : Nat} {v : Value} {d : DataW H} {ps : List MemPlace} (hval : Value.okWide P w .any base t v)
    (h : DataW.Trod enc P w 0 spare held t v d ps) (hw : ∀ m ∈ d.weights P t, m ≤ reachU) : ∃ x, RdA p x ∧ RepT (W0 w) x v := by
  obtain ⟨fuel, hf⟩ := h
  obtain ⟨ag, ts⟩ := p
  obtain ⟨xs, x1, x2, x3⟩ := trod_rd n t ag ts hp fuel _ _ hf hw
  cases ag with
  | true =>
    have hv : ∃ cs, v = .agg cs := by
      rcases rdT_agg hp with ⟨fs, hu⟩ | ⟨k, e, hu⟩
      · obtain ⟨cs, h1, _⟩ := okWide_struct hu hval; exact ⟨cs, h1⟩
      · simp only [Value.okWide, hu] at hval; obtain ⟨cs, h1, _⟩ := hval; exact ⟨cs, h1⟩
    obtain ⟨cs, rfl⟩ := hv
    simp only [Value.cells] at x2 x3
    have hl := (Rds_len x1).1
    refine ⟨.agg xs, ⟨xs, by simp, x1⟩, .agg xs cs (by simp at x2; omega) (Rds_len x1).2 (fun i c u hc hu => x3 i c u hc (by simpa using hu))⟩
  | false =>
    obtain ⟨c, rfl⟩ := rdT_one hp
    obtain ⟨y, rfl⟩ := List.length_eq_one_iff.1 (Rds_len x1).1
    have hv : v.cells = #[v] := by
      rcases rdT_flat hp with hu | ⟨k, hu⟩ | ⟨e, hu⟩
      · obtain ⟨b, rfl⟩ := okWide_bool hu hval; rfl
      · obtain ⟨b, rfl⟩ := okWide_int hu hval; rfl
      · obtain ⟨a, l, c, rfl⟩ := okWide_slice hu hval; rfl
    exact ⟨y, ⟨[y], by simp, x1⟩, x3 0 y v rfl (by rw [hv]; rfl)⟩

theorem args_read {n : Nat} {base : Nat} : ∀ {ts : List TypeId} {ps : List (Bool × List CTy)} {vs : List Value} {ds : List (DataW H)} {q : List MemPlace}, ts.map (rdT P n) = ps.map some → DataW.TrodAll enc P w 0 spare held ts vs ds q →
    (∀ (j : Nat) t v, ts[j]? = some t → vs[j]? = some v → Value.okWide P w .any base t v) → (∀ m ∈ DataW.weightsEach P ts ds, m ≤ reachU) →
    ∃ xs, RdAs ps xs ∧ vs.length = xs.length ∧ ∀ (i : Nat) (x : AVal) (v : Value), xs[i]? = some x → vs[i]? = some v → RepT (W0 w) x v := by
  intro ts
  induction ts with
  | nil =>
    intro ps vs ds q hp h _ _
    cases ps with
    | cons => simp at hp
    | nil =>
      cases vs with
      | cons => cases ds <;> simp [DataW.TrodAll] at h
      | nil => exact ⟨[], by simp [RdAs], rfl, by simp⟩
  | cons t ts ih =>
    intro ps vs ds q hp h hv hw
    cases ps with
    | nil => simp at hp
    | cons p ps =>
      simp only [List.map_cons, List.cons.injEq] at hp
      cases vs with
      | nil => cases ds <;> simp [DataW.TrodAll] at h
      | cons v vs =>
        cases ds with
        | nil => simp [DataW.TrodAll] at h
        | cons d ds =>
          obtain ⟨q1, q2, h1, h2, _⟩ := h
          obtain ⟨x, r1, r2⟩ := arg_read hp.1 (hv 0 t v rfl rfl) h1 (fun m hm => hw m (by simp [DataW.weightsEach, hm]))
          obtain ⟨xs, s1, s2, s3⟩ := ih hp.2 h2 (fun j t v a b => hv (j + 1) t v (by simpa using a) (by simpa using b)) (fun m hm => hw m (by simp [DataW.weightsEach, hm]))
          refine ⟨x :: xs, ⟨x, xs, rfl, r1, s1⟩, by simp [s2], fun i y u hy hu => ?_⟩
          cases i with
          | zero => simp at hy hu; subst hy hu; exact r2
          | succ i => exact s3 i y u (by simpa using hy) (by simpa using hu)

/-- What a law's row asks of a call, out of the law's contract. -/
theorem law_calls {f : FuncId} {fn : Func} {s : ChangeSpec} {apart fresh handsOn again : Bool} (n : Nat) (ps : List (Bool × List CTy)) (tb : TypeId) (hb : lawB P fn = true) (hps : fn.params.toList.map (rdT P n) = ps.map some)
    (hres : fn.resultTypes = #[tb]) (htb : P.underlying tb = some .bool) (hvars : s.vars = []) (hs : ∀ (ds : List (DataW H)), ds.length = fn.params.size → s.fn H ds = { results := [.lit (.bool true)], args := ds })
    (hc : ∀ xs, RdAs ps xs → CFun P f xs [] (.bool true) [])
    (W : World) (base : Nat) (args : Array Value) (ds gs : List (DataW H)) (before : List MemPlace) (hval : ∀ (j : Nat) t v, fn.params[j]? = some t → args[j]? = some v → Value.okWide P W .any base t v)
    (hW : DataW.Whole enc P fn.params.toList s.vars apart W args.toList ds gs before) (hsz : (DataW.weightsEach P fn.params.toList ds).all (· ≤ reachU) = true) :
    Calls P f args W fun e W' => ∃ v, e = .returned v ∧ s.post enc P fn apart fresh handsOn again W args v W' := by
  have hW' := hW
  obtain ⟨p, q, hA, hV, rfl, hfz, hnd⟩ := hW
  rw [hvars] at hV
  have hg : gs = [] ∧ q = [] := by
    cases gs with
    | nil => exact ⟨rfl, hV⟩
    | cons => exact hV.elim
  obtain ⟨rfl, rfl⟩ := hg
  have hdl := trodAll_len hA
  obtain ⟨xs, x1, x2, x3⟩ := args_read (n := n) (base := base) hps hA (fun j t v a b => hval j t v (by simpa using a) (by simpa using b)) (fun m hm => by simpa using List.all_eq_true.1 hsz m hm)
  obtain ⟨_, hcall⟩ := hc xs x1
  have hsr : SR ⟨W0 W, fun _ => (0, 0), fun _ => none⟩ [] W := ⟨fun b o v h => h, by simp, fun _ _ => rfl⟩
  refine (hcall ⟨W0 W, fun _ => (0, 0), fun _ => none⟩ W args hsr (fun _ _ h => by cases h) (fun _ h => by cases h) (by simpa using x2) (fun i y v hy hv => .tree _ _ (x3 i y v hy (by simpa using hv)))).mono ?_
  rintro e W' ⟨v, G', rfl, he, hs', hx, _, _, _⟩
  have hv : v = .bool true := by
    cases hx with
    | tree _ _ h => cases h; rfl
  subst hv
  have hbel : Below W.heap.size W W' := ⟨he.os, he.tape, he.output, he.size, fun k hk => (he.old k hk (by rintro (⟨_, e⟩ | ⟨_, _, e⟩) <;> cases e)).1⟩
  refine ⟨_, rfl, ?_⟩
  have hsf := hs ds (by rw [hdl]; simp)
  simp only [lawB, Bool.and_eq_true] at hb
  obtain ⟨⟨⟨b1, b2⟩, b3⟩, b4⟩ := hb
  simp only [List.append_nil] at hW' 
  have hlt : ∀ p' ∈ p, p'.block < W.heap.size := fun p' hp' => hW'.lt p' hp'
  have hresd : ∀ (b : Nat) (sp : Nat → Bool) (hd : Bool), DataW.TrodAll enc P W' b sp hd fn.resultTypes.toList ((Value.bool true).resultList fn.resultTypes.size) (s.fn H (ds ++ [])).results [] := by
    intro b sp hd
    rw [hres, List.append_nil, hsf]
    exact ⟨[], [], shut_bool htb _, by simp [DataW.TrodAll], rfl⟩
  have hargd : ∀ sp : Nat → Bool, (∀ p' ∈ p, sp p'.block = true) → DataW.TrodAll enc P W' 0 sp true fn.params.toList args.toList (s.fn H (ds ++ [])).args p := by
    intro sp hsp
    rw [List.append_nil, hsf]
    have h1 := hA.respare (spare' := sp) (kids_rows b1 b2) (fun t e => slices_full_of P b3 t e) (fun t ht => by simpa using List.all_eq_true.1 b4 t ht) (fun p hp => hsp p hp)
    exact trodAll_carry h1 (fun p' hp' => hbel.same (hlt p' hp'))
  have hvard : ∀ sp : Nat → Bool, DataW.TrodVars enc P W' sp s.vars (s.fn H (ds ++ [])).vars [] := by
    intro sp
    rw [List.append_nil, hsf, hvars]; rfl
  refine ⟨ds, [], p, [], p, [], hW', hresd _ _ _, hargd _ (fun p' hp' => by simpa using hlt p' hp'), hvard _, World.keptBut_mono (fun p' hp' => ⟨hp', .inr (by simpa using hp')⟩) (hbel.frame (· ∈ p)), fun _ => ⟨?_, _, _, ([] ++ p) ++ [],
    ⟨[] ++ p, [], trodAll_append (hargd _ (fun _ _ => rfl)) (hresd _ _ _), hvard _, rfl, fun b off hp => ?_, fun ha => ?_⟩, fun p' hp' _ => by simpa using hp'⟩⟩
  · rw [hres]
    intro j t r hj hr
    cases j with
    | zero =>
      simp only [List.getElem?_toArray, List.getElem?_cons_zero, Option.some.injEq] at hj
      subst hj
      simp [Value.resultList] at hr
      subst hr
      exact okWide_bool_mk htb _
    | succ j => simp at hj
  · have hin : MemPlace.cell b off ∈ p := by simpa using hp
    rw [hbel.frozen (hlt _ hin)]
    exact hfz b off (by simpa using hin)
  · have := hnd ha
    simpa using this
theorem Rd_up (h0 : reachU ≤ reachBytes) : ∀ {t : CTy} {x : AVal}, Rd t x → Go.Am.Rd t x := by
  have key : ∀ n : Nat, (∀ (t : CTy) (x : AVal), SizeOf.sizeOf t ≤ n → Rd t x → Go.Am.Rd t x) ∧ ∀ (ts : List CTy) (xs : List AVal), SizeOf.sizeOf ts ≤ n → Rds ts xs → Go.Am.Rds ts xs := by
    intro n
    induction n with
    | zero => exact ⟨fun t x h => by cases t <;> simp at h, fun ts xs h => by cases ts <;> simp at h⟩
    | succ n ih =>
      refine ⟨fun t x h hr => ?_, fun ts xs h hr => ?_⟩
      · cases t with
        | bool => exact hr
        | int k => exact hr
        | sl ag b e =>
          simp only [Rd] at hr
          obtain ⟨xs, rfl, h1, h2⟩ := hr
          simp only [Go.Am.Rd]
          refine ⟨xs, rfl, Nat.le_trans h1 h0, fun y hy => ?_⟩
          obtain ⟨cs, h3, h4⟩ := h2 y hy
          exact ⟨cs, h3, ih.2 e cs (by simp at h; omega) h4⟩
      · cases ts with
        | nil => exact hr
        | cons t ts =>
          simp only [Rds] at hr
          obtain ⟨x, r, rfl, h1, h2⟩ := hr
          simp only [Go.Am.Rds]
          exact ⟨x, r, rfl, ih.1 t x (by simp at h; omega) h1, ih.2 ts r (by simp at h; omega) h2⟩
  exact fun {t x} h => (key _).1 t x (Nat.le_refl _) h
theorem Rds_up (h0 : reachU ≤ reachBytes) : ∀ {ts : List CTy} {xs : List AVal}, Rds ts xs → Go.Am.Rds ts xs := by
  intro ts
  induction ts with
  | nil => intro xs h; exact h
  | cons t ts ih =>
    intro xs h
    simp only [Rds] at h
    obtain ⟨x, r, rfl, h1, h2⟩ := h
    simp only [Go.Am.Rds]
    exact ⟨x, r, rfl, Rd_up h0 h1, ih h2⟩
theorem RdA_up {p : Bool × List CTy} {x : AVal} (h : RdA p x) : Go.Am.RdA p x := by
  obtain ⟨cs, h1, h2⟩ := h
  exact ⟨cs, h1, Rds_up (by decide) h2⟩
/-- A row in an argument is short. -/
theorem Rds_short {ag : Bool} {b : Nat} {e : List CTy} : ∀ {ts : List CTy} {xs : List AVal} (i : Nat), Rds ts xs → ts[i]? = some (.sl ag b e) → ∀ {k : Nat} {ys : List AVal} {md : Am.Mode}, xs[i]? = some (.sl k ys md) → ys.length * b ≤ reachU := by
  intro ts
  induction ts with
  | nil => intro xs i h hi; simp at hi
  | cons t ts ih =>
    intro xs i h hi k ys md hx
    simp only [Rds] at h
    obtain ⟨x, r, rfl, h1, h2⟩ := h
    cases i with
    | zero =>
      simp at hi hx
      subst hi hx
      simp only [Rd] at h1
      obtain ⟨zs, e1, h3, _⟩ := h1
      injection e1 with e2 e3 e4
      subst e3
      exact h3
    | succ i => exact ih i h2 (by simpa using hi) (by simpa using hx)

end
end Go.AmU
