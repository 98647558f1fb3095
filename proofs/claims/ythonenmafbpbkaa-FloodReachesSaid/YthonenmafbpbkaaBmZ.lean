/- The abstract machine, part twenty-six: runs on given data, by computation. -/
import Derived.Test.YthonenmafbpbkaaBmY
import Derived.Test.YthonenmafbpbkaaBmAG
import Derived.Tactics
namespace Go.Am
open Go

/-- What a run is told of functions: marks and freezings. -/
abbrev Cfg := List (FuncId × List Nat × List (Nat × Nat × Bool))
def cfgOf : Cfg → FuncId → Option (List Nat × List (Nat × Nat × Bool))
  | [], _ => none
  | (g, q) :: l, f => if g = f then some q else cfgOf l f

/-- A state, its slots in a list. -/
abbrev LSt := List AVal × List (List AVal)
def stOf (s : LSt) : ASt := ⟨argT s.1, s.2⟩
/-- The slots that an operation may change. -/
def chg (tr : List Nat) (o : Oper) : List Nat := wrOf tr o ++ (match o.op with
  | .store _ _ (.tmp s) => [s]
  | _ => [])
def norm (t : Nat → AVal) : List Nat → List AVal → List AVal
  | [], l => l
  | i :: is, l => norm t is (l.set i (t i))

theorem norm_len (t : Nat → AVal) : ∀ (is : List Nat) (l : List AVal), (norm t is l).length = l.length
  | [], _ => rfl
  | i :: is, l => by simp only [norm]; rw [norm_len t is]; simp
theorem argT_set {l : List AVal} {i j : Nat} {x : AVal} : argT (l.set i x) j = if i = j ∧ i < l.length then x else argT l j := by
  simp only [argT, List.getD_eq_getElem?_getD, List.getElem?_set]
  by_cases e : i = j
  · subst e
    by_cases h : i < l.length
    · simp [h]
    · simp [h]
  · simp [e]
theorem norm_get (t : Nat → AVal) : ∀ (is : List Nat) (l : List AVal) (j : Nat), argT (norm t is l) j = if j ∈ is ∧ j < l.length then t j else argT l j
  | [], l, j => by simp [norm]
  | i :: is, l, j => by
    simp only [norm]
    rw [norm_get t is, argT_set]
    simp only [List.length_set, List.mem_cons]
    by_cases e1 : j ∈ is ∧ j < l.length
    · rw [if_pos e1, if_pos ⟨.inr e1.1, e1.2⟩]
    · rw [if_neg e1]
      by_cases e2 : i = j ∧ i < l.length
      · obtain ⟨rfl, h⟩ := e2
        rw [if_pos ⟨rfl, h⟩, if_pos ⟨.inl rfl, h⟩]
      · rw [if_neg e2, if_neg]
        rintro ⟨h | h, h'⟩
        · subst h; exact e2 ⟨rfl, h'⟩
        · exact e1 ⟨h, h'⟩
/-- The list is what the state's slots are. -/
theorem norm_st {l : List AVal} {is : List Nat} {u : ASt} (hfar : ∀ i, i ∉ is → u.t i = argT l i) (hin : ∀ i ∈ is, i < l.length) : stOf (norm u.t is l, u.H) = u := by
  cases u with
  | mk t H =>
    simp only [stOf]
    congr 1
    funext j
    rw [norm_get]
    by_cases e : j ∈ is
    · rw [if_pos ⟨e, hin j e⟩]
    · rw [if_neg (fun h => e h.1)]
      exact (hfar j e).symm

section
variable {P : Program} {tr : List Nat}
theorem put_far {s : ASt} {d : Option Nat} {x : AVal} {i : Nat} (h : ∀ j, d = some j → i ≠ j) : (s.put d x).t i = s.t i := by
  cases d with
  | none => rfl
  | some j => simp only [ASt.put, upd]; rw [if_neg (h j rfl)]
theorem put_H {s : ASt} {d : Option Nat} {x : AVal} : (s.put d x).H = s.H := by cases d <;> rfl

theorem aeff_far {s u : ASt} {o : Oper} (h : aeff P tr s o = some u) {i : Nat} (hi : i ∉ chg tr o) : u.t i = s.t i := by
  have hd : ∀ j, o.dst = some j → i ≠ j := by
    rintro j hj rfl
    exact hi (by unfold chg wrOf; rw [hj]; simp)
  unfold aeff at h
  cases hop : o.op with
  | alloc t =>
    simp only [hop] at h
    split at h
    · injection h with h; subst h; exact put_far hd
    · cases h
  | box t x =>
    simp only [hop] at h
    split at h
    · injection h with h; subst h; exact put_far hd
    · cases h
  | store t x y =>
    simp only [hop] at h
    split at h
    case h_2 => cases h
    split at h
    case h_2 => cases h
    split at h
    case isFalse => cases h
    split at h
    · rename_i src hown
      injection h with h; subst h
      rw [put_far hd]
      simp only [upd]
      rw [if_neg]
      rintro rfl
      exact hi (by unfold chg; rw [hop]; simp)
    · injection h with h; subst h
      rw [put_far hd]
  | assign x =>
    simp only [hop] at h
    split at h
    · rename_i d src hdd
      split at h
      · cases h
      split at h
      · injection h with h; subst h
        simp only [upd]
        rw [if_neg (hd d hdd), if_neg]
        rintro rfl
        exact hi (by unfold chg wrOf rawOf; rw [hop]; simp)
      · injection h with h; subst h
        simp only [upd]
        rw [if_neg (hd d hdd)]
    · rename_i hdd _
      injection h with h; subst h
      simp only [upd]
      rw [if_neg (hd _ hdd)]
    · cases h
  | move x =>
    simp only [hop] at h
    split at h
    · rename_i d src hdd
      split at h
      · rename_i hc
        injection h with h; subst h
        simp only [upd]
        rw [if_neg (hd d hdd), if_neg]
        rintro rfl
        exact hi (by unfold chg wrOf rawOf; rw [hop, hdd]; simp only [hc.1, if_true]; simp)
      · cases h
    · cases h
  | load t x =>
    simp only [hop] at h
    split at h
    · rename_i d id off hdd hp
      split at h
      case isFalse => cases h
      split at h
      case h_2 => cases h
      split at h
      case h_2 => cases h
      split at h
      case isFalse => cases h
      injection h with h; subst h
      simp only [upd]
      rw [if_neg (hd d hdd)]
    · cases h
  | _ => simp only [hop] at h; cases h

theorem astep_far {s u : ASt} {o : Oper} (h : astep P tr s o = some u) {i : Nat} (hi : i ∉ chg tr o) : u.t i = s.t i := by
  have hd : ∀ j, o.dst = some j → i ≠ j := by
    rintro j hj rfl
    exact hi (by unfold chg wrOf; rw [hj]; simp)
  have hval : ∀ {u : ASt}, (aval P s o.op).map (s.put o.dst ·) = some u → u.t i = s.t i := by
    intro u h
    rw [Option.map_eq_some_iff] at h
    obtain ⟨x, _, rfl⟩ := h
    exact put_far hd
  have hbx : ∀ {u : ASt}, abx P tr s o = some u → u.t i = s.t i := by
    intro u h
    unfold abx at h
    split at h
    case h_2 => cases h
    split at h
    · unfold acopy at h
      split at h
      case h_3 => cases h
      case h_1 => injection h with h; subst h; exact put_far hd
      split at h
      case isFalse => cases h
      split at h
      · injection h with h; subst h; exact put_far hd
      · split at h
        · split at h
          · injection h with h; subst h; exact put_far hd
          · cases h
        · cases h
    · unfold aclear at h
      split at h
      case h_2 => cases h
      split at h
      case isFalse => cases h
      split at h
      · injection h with h; subst h; exact put_far hd
      · split at h
        · split at h
          · injection h with h; subst h; exact put_far hd
          · cases h
        · cases h
    · split at h
      case h_2 => cases h
      rename_i d hdd
      split at h
      case isFalse => cases h
      have hdi := hd d hdd
      unfold aappA aappM aappR at h
      repeat' split at h
      all_goals first
        | (cases h; done)
        | (injection h with h; subst h; simp only [upd]; rw [if_neg hdi])
    · cases h
  unfold astep at h
  split at h
  · rename_i c hop
    split at h
    · split at h
      · exact hbx h
      · rename_i hcal _
        unfold aapp at h
        split at h
        case h_2 => cases h
        rename_i c' d hop' hdd
        have hdi := hd d hdd
        split at h
        case h_2 => cases h
        rename_i x y ty tu hcal' hargs _
        split at h
        · cases h
        split at h
        case h_2 => cases h
        split at h
        case isFalse => cases h
        split at h
        · rename_i src hsrc
          split at h
          · cases h
          injection h with h; subst h
          have hxs : x = .tmp src := by
            unfold isTmp at hsrc
            split at hsrc
            · injection hsrc with hsrc; subst hsrc; rfl
            · cases hsrc
          have his : i ≠ src := by
            rintro rfl
            refine hi ?_
            have hcc : c' = c := by rw [hop] at hop'; injection hop' with e; exact e.symm
            subst hcc
            unfold chg wrOf rawOf
            rw [hop]
            simp only
            rw [hcal', hargs, hxs]
            simp
          simp only [upd]
          rw [if_neg hdi]
          split
          · simp only [upd]
            rw [if_neg his]
          · rfl
        · injection h with h; subst h
          simp only [upd]
          rw [if_neg hdi]
    · exact hbx h
    · exact hbx h
    · exact hval h
    · cases h
  · split at h
    · unfold abslO at h
      split at h
      case h_2 => cases h
      rename_i d hop hdd
      unfold abslR at h
      split at h
      · split at h
        · injection h with h; subst h
          simp only [upd]
          rw [if_neg (hd d hdd)]
        · cases h
      · cases h
    · unfold absl at h
      split at h
      case h_2 => cases h
      rename_i d hop hdd
      split at h
      · split at h
        · injection h with h; subst h
          simp only [upd]
          rw [if_neg (hd d hdd)]
        · cases h
      · cases h
  · split at h
    · unfold amkO at h
      split at h
      case h_2 => cases h
      rename_i d hop hdd
      unfold amkR at h
      split at h
      · split at h
        · injection h with h; subst h
          simp only [upd]
          rw [if_neg (hd d hdd)]
        · split at h
          · injection h with h; subst h
            simp only [upd]
            rw [if_neg (hd d hdd)]
          · split at h
            · injection h with h; subst h
              simp only [upd]
              rw [if_neg (hd d hdd)]
            · cases h
      · cases h
    · unfold amk at h
      split at h
      case h_2 => cases h
      rename_i d hop hdd
      split at h
      · split at h
        · injection h with h; subst h
          simp only [upd]
          rw [if_neg (hd d hdd)]
        · cases h
      · cases h
  · exact aeff_far h hi
  · exact aeff_far h hi
  · exact aeff_far h hi
  · exact aeff_far h hi
  · split at h
    · rename_i he
      injection h with h; subst h
      exact aeff_far he hi
    · exact hval h
  · split at h
    · rename_i he
      injection h with h; subst h
      exact aeff_far he hi
    · exact hval h
  · exact hval h

abbrev CallF := FuncId → List AVal → List (List AVal) → Option (AVal × List (List AVal))
def rPut (dst : Option Nat) (x : AVal) (l : List AVal) (H : List (List AVal)) : Option LSt :=
  match dst with
  | some d => if d < l.length then some (l.set d x, H) else none
  | none => some (l, H)
theorem rPut_st {dst : Option Nat} {x : AVal} {l : List AVal} {H : List (List AVal)} {s : LSt} (h : rPut dst x l H = some s) (H0 : List (List AVal)) : stOf s = ⟨((ASt.mk (argT l) H0).put dst x).t, H⟩ ∧ s.1.length = l.length := by
  unfold rPut at h
  cases dst with
  | none => injection h with h; subst h; exact ⟨rfl, rfl⟩
  | some d =>
    simp only at h
    split at h
    · rename_i hd
      injection h with h; subst h
      refine ⟨?_, by simp⟩
      simp only [stOf, ASt.put]
      congr 1
      funext j
      rw [argT_set]
      simp only [upd]
      by_cases e : d = j
      · subst e; rw [if_pos ⟨rfl, hd⟩, if_pos rfl]
      · rw [if_neg (fun h => e h.1), if_neg (fun h => e h.symm)]
    · cases h
def rStep (P : Program) (tr : List Nat) (d : Option Vw) (o : Oper) (s : LSt) : Option LSt :=
  match astepD P tr d (stOf s) o with
  | some u => if ((chg tr o).all fun i => decide (i < s.1.length)) = true then some (norm u.t (chg tr o) s.1, u.H) else none
  | none => none
/-- A call of a contract that names no variable. -/
def rClosed (call : CallF) (f : FuncId) (args : List AVal) : Option AVal :=
  match call f args [] with
  | some (x, []) => if args.all noid = true ∧ noid x = true then some x else none
  | _ => none
def eqL {α : Type} (r : α → α → Bool) : List α → List α → Bool
  | [], [] => true
  | x :: xs, y :: ys => r x y && eqL r xs ys
  | _, _ => false
theorem eqL_sound {α : Type} {r : α → α → Bool} (h : ∀ x y, r x y = true → x = y) : ∀ {xs ys : List α}, eqL r xs ys = true → xs = ys
  | [], [], _ => rfl
  | [], _ :: _, k => by simp [eqL] at k
  | _ :: _, [], k => by simp [eqL] at k
  | x :: xs, y :: ys, k => by
    simp only [eqL, Bool.and_eq_true] at k
    rw [h x y k.1, eqL_sound h k.2]
/-- Are two values the same? (So deep at most.) -/
def eqV : Nat → AVal → AVal → Bool
  | 0, _, _ => false
  | n + 1, x, y => match x, y with
    | .undef, .undef => true
    | .bool a, .bool b => a == b
    | .ubool, .ubool => true
    | .int k a, .int l b => decide (k = l) && decide (a = b)
    | .nilp, .nilp => true
    | .ptr i a, .ptr j b => decide (i = j) && decide (a = b)
    | .osl i a l c k, .osl i' a' l' c' k' => decide (i = i') && decide (a = a') && decide (l = l') && decide (c = c') && decide (k = k')
    | .iptr cs a, .iptr ds b => eqL (eqV n) cs ds && decide (a = b)
    | .nilf, .nilf => true
    | .fn f a b, .fn g c d => decide (f = g) && eqL (eqV n) a c && eqL (eqV n) b d
    | .agg cs, .agg ds => eqL (eqV n) cs ds
    | .mix cs, .mix ds => eqL (eqV n) cs ds
    | .tup cs, .tup ds => eqL (eqV n) cs ds
    | .sl k xs m, .sl l ys o => decide (k = l) && eqL (eqV n) xs ys && decide (m = o)
    | .str a, .str b => decide (a = b)
    | _, _ => false
theorem eqV_sound : ∀ (n : Nat) (x y : AVal), eqV n x y = true → x = y := by
  intro n
  induction n with
  | zero => intro x y h; cases h
  | succ n ih =>
    intro x y h
    have hl : ∀ {xs ys : List AVal}, eqL (eqV n) xs ys = true → xs = ys := fun h => eqL_sound ih h
    cases x <;> cases y <;> first
      | rfl
      | (exact (Bool.false_ne_true h).elim)
      | (simp only [eqV, Bool.and_eq_true, decide_eq_true_eq, beq_iff_eq] at h
         first
         | (rw [h])
         | (obtain ⟨rfl, rfl⟩ := h; rfl)
         | (obtain ⟨⟨⟨⟨rfl, rfl⟩, rfl⟩, rfl⟩, rfl⟩ := h; rfl)
         | (obtain ⟨h1, rfl⟩ := h; rw [hl h1])
         | (rw [hl h])
         | (obtain ⟨⟨rfl, h1⟩, h2⟩ := h; first | rw [hl h1, hl h2] | rw [hl h1, h2]))
def eqH (H H' : List (List AVal)) : Bool := eqL (eqL (eqV 40)) H H'
theorem eqH_sound {H H' : List (List AVal)} (h : eqH H H' = true) : H = H' := eqL_sound (fun _ _ k => eqL_sound (eqV_sound 40) k) h
/-- A call in a region whose order is open: it leaves the variables that the region sees alone. -/
def rKeep (call : CallF) (v : Vw) (f : FuncId) (args : List AVal) (H : List (List AVal)) : Option (AVal × List (List AVal)) :=
  match call f args (hideL v.2.2 H) with
  | some (x, H') => if eqH (vis v H') (vis v H) = true ∧ H.length ≤ H'.length then some (x, showL v.2.2 H H') else none
  | none => none
def rCall (call : CallF) (tr : List Nat) (d : Option Vw) (o : Oper) (f : FuncId) (args : List AVal) (s : LSt) : Option LSt :=
  if giftB tr o.dst d = true then none
  else if floB d = true then (match rClosed call f args with
    | some x => rPut o.dst x s.1 s.2
    | none => none)
  else if floC d = true then none
  else match kd tr o.dst d with
    | none => (match call f args s.2 with
      | some (x, H') => rPut o.dst x s.1 H'
      | none => none)
    | some v => if v.2.2.isEmpty = true ∧ args.all noid = true then (match rClosed call f args with
      | some x => rPut o.dst x s.1 s.2
      | none => none) else (match rKeep call v f args s.2 with
      | some (x, H') => rPut o.dst x s.1 H'
      | none => none)
def rOp (call : CallF) (P : Program) (tr : List Nat) (d : Option Vw) (o : Oper) (s : LSt) : Option LSt :=
  match o.op with
  | .call c => (match c.callee with
    | .value fo => (match av (argT s.1) fo with
      | .fn f fs cs => rCall call tr d o f (cargs (stOf s) fs c.args.toList cs) s
      | _ => none)
    | _ => rStep P tr d o s)
  | _ => rStep P tr d o s
def rGuard (all : Array Oper) (o : Oper) (l : List AVal) : Option Bool :=
  match o.guard with
  | none => some true
  | some (j, want) => match (all[j]?).bind (·.dst) with
    | some q => (match argT l q with
      | .bool b => some (b == want)
      | .tup [] => some false
      | _ => none)
    | none => none
def rOps (call : CallF) (P : Program) (tr : List Nat) (d : Option Vw) (all : Array Oper) : List Oper → LSt → Option LSt
  | [], s => some s
  | o :: os, s => match rGuard all o s.1 with
    | some true => (match rOp call P tr d o s with
      | some s' => rOps call P tr d all os s'
      | none => none)
    | some false => (match rPut o.dst (.tup []) s.1 s.2 with
      | some s' => rOps call P tr d all os s'
      | none => none)
    | none => none
abbrev CodeF := Code → List Nat → LSt → Option (AEx × LSt)
def rFrz (l : List (Nat × Nat × Bool)) (s : LSt) : Option LSt :=
  match l with
  | [] => some s
  | _ => if ((l.map (·.1)).all fun i => decide (i < s.1.length) || decide (500000 ≤ i ∧ s.1.length ≤ i)) = true then some (norm (frzS l (stOf s)).t (l.map (·.1)) s.1, (frzS l (stOf s)).H) else none
/-- Iterators: where in a struct the slice lies, and how many cells an element has. -/
abbrev Its := FuncId → Option (Nat × Nat)
def rHdr (idb c k : Nat) (H : List (List AVal)) : Option (Nat × Nat × Nat) := match H[idb]? with
  | some [.ptr id off] => (match H[id]? with
    | some cs => (match cs[off + c]? with
      | some (.osl id2 o2 len _ k') => if k' = k ∧ id2 < H.length then some (id2, o2, len) else none
      | _ => none)
    | none => none)
  | _ => none
def rRounds (run : CodeF) (tr : List Nat) (asg body : Code) (p : Nat) (t0 : List AVal) (idb c k id2 o2 len m : Nat) : Nat → Nat → List (List AVal) → Option (List (List AVal))
  | 0, _, H => some H
  | f + 1, j, H => (match run asg tr ((t0.map AVal.dis).set p (.ptr id2 (o2 + j * k)), H) with
    | some (.normal, s1) => (match run body tr s1 with
      | some (.normal, s2) => if (s2.2.all fun cs => cs.all (low s2.2.length)) = true ∧ rHdr idb c k s2.2 = some (id2, o2, len) ∧ m ≤ s2.2.length then rRounds run tr asg body p t0 idb c k id2 o2 len m f (j + 1) s2.2 else none
      | _ => none)
    | _ => none)
/-- A range over a function. -/
def rRange (its : Its) (run : CodeF) (g : Operand) (p : Nat) (asg body : Code) (tr : List Nat) (s : LSt) : Option (AEx × LSt) := match av (argT s.1) g with
  | .fn gf [] [.ptr idb 0] => (match its gf with
    | some (c, k) => (match rHdr idb c k s.2 with
      | some (id2, o2, len) => if (idb < s.2.length ∧ p < s.1.length ∧ len < 9223372036854775807) ∧ hasRange asg = false ∧ hasRange body = false ∧ (s.2.all fun cs => cs.all (low s.2.length)) = true then (match rRounds run tr asg body p s.1 idb c k id2 o2 len s.2.length len 0 s.2 with
        | some H' => some (.normal, (s.1, H'))
        | none => none) else none
      | none => none)
    | none => none)
  | _ => none
def rCode (P : Program) (its : Its) (run : CodeF) (call : CallF) : CodeF
  | .skip, _, s => some (.normal, s)
  | .region id ops d, tr, s => if (d && tr.contains (600000 + id)) = true then none else (match rFrz (frzC tr id) s with
    | some s1 => (match rOps call P tr (if d = true then some (vw tr ops s1.2.length) else none) ops ops.toList s1 with
      | some s2 => some (.normal, s2)
      | none => none)
    | none => none)
  | .seq a b, tr, s => (match run a tr s with
    | some (.normal, s1) => run b tr s1
    | r => r)
  | .cond (.tmp q) a b, tr, s => (match argT s.1 q with
    | .bool true => run a tr s
    | .bool false => run b tr s
    | _ => none)
  | .cond (.const (.bool true)) a _, tr, s => run a tr s
  | .cond (.const (.bool false)) _ b, tr, s => run b tr s
  | .block id c, tr, s => (match run c tr s with
    | some (.exit i, s1) => if i = id then some (.normal, s1) else some (.exit i, s1)
    | r => r)
  | .loop c, tr, s => (match run c tr s with
    | some (.normal, s1) => run (.loop c) tr s1
    | r => r)
  | .exit id, _, s => some (.exit id, s)
  | .scope c, tr, s => run c tr s
  | .label _, _, s => some (.normal, s)
  | .ret, _, s => some (.ret, s)
  | .rangeFunc g ps asg body, tr, s => (match ps with
    | ⟨[p]⟩ => rRange its run g p asg body tr s
    | _ => none)
  | _, _, _ => none
/-- The variables that the caller has back. -/
def rBack (m : Nat) (x : AVal) (H : List (List AVal)) : Option (List (List AVal)) :=
  if low m x = true ∧ ((H.take m).all fun cs => cs.all (low m)) = true then some (H.take m)
  else if low H.length x = true ∧ (H.all fun cs => cs.all (low H.length)) = true then some H else none
def rRet (P : Program) (fn : Func) (fz : List (Nat × Nat × Bool)) (m : Nat) (s : LSt) : Option (AVal × List (List AVal)) :=
  match ares P fn.results.toList (frzS fz (stOf s)) with
  | some x => if m ≤ (frzS fz (stOf s)).H.length then (match rBack m x (frzS fz (stOf s)).H with
    | some H' => some (x, H')
    | none => none) else none
  | none => none
def rFun (P : Program) (cfg : Cfg) (run : CodeF) : CallF := fun f args H =>
  match P.funcs[f]?, cfgOf cfg f with
  | some fn, some (tr, fz) => (match fn.body with
    | some c => if args.length ≤ fn.ntmps ∧ args.all (fun x => !x.isOwn) = true then (match run c tr (args ++ List.replicate (fn.ntmps - args.length) .undef, H) with
      | some (.normal, s) => rRet P fn fz H.length s
      | some (.ret, s) => rRet P fn fz H.length s
      | _ => none) else none
    | none => none)
  | _, _ => none
/-- Contracts that are given stand before runs. -/
def rOr (tb call : CallF) : CallF := fun f args H => match tb f args H with
  | some r => some r
  | none => call f args H
/-- A call that names no variable is run among none. -/
def rLow (call : CallF) : CallF := fun f args H => if args.all noid = true then (match call f args [] with
  | some (x, []) => if noid x = true then some (x, H) else call f args H
  | _ => call f args H) else call f args H
/-- A run, so deep at most. -/
def rRun (P : Program) (its : Its) (cfg : Cfg) (tb : CallF) : Nat → CodeF × CallF :=
  Nat.rec (fun _ _ _ => none, fun _ _ _ => none) fun _ ih => (rCode P its ih.1 ih.2, rOr tb (rLow (rFun P cfg ih.1)))
def cfgOk (P : Program) (cfg : Cfg) : Bool := cfg.all fun q => match P.funcs[q.1]? with
  | some fn => (match fn.body with
    | some c => !(fn.name == "runtime.NumGoroutine") && good q.2.1 fn.ntmps c
    | none => false)
  | none => false

theorem rStep_st {d : Option Vw} {o : Oper} {s s' : LSt} (h : rStep P tr d o s = some s') : astepD P tr d (stOf s) o = some (stOf s') ∧ s'.1.length = s.1.length := by
  unfold rStep at h
  split at h
  case h_2 => cases h
  rename_i u hu
  split at h
  case isFalse => cases h
  rename_i hall
  injection h with h; subst h
  refine ⟨?_, norm_len _ _ _⟩
  rw [norm_st (fun i hi => astep_far (astepD_step _ _ _ hu) hi) (fun i hi => by simpa using List.all_eq_true.1 hall i hi)]
  exact hu
theorem rClosed_st {call : CallF} (hcall : ∀ f args H x H', call f args H = some (x, H') → CFun P f args H x H') {f : FuncId} {args : List AVal} {x : AVal} (h : rClosed call f args = some x) : CFun P f args [] x [] ∧ args.all noid = true ∧ noid x = true := by
  unfold rClosed at h
  split at h
  · rename_i y hy
    split at h
    · rename_i hc
      injection h with h; subst h
      exact ⟨hcall _ _ _ _ _ hy, hc⟩
    · cases h
  · cases h
theorem rOps_sound {call : CallF} (hcall : ∀ f args H x H', call f args H = some (x, H') → CFun P f args H x H') {d : Option Vw} {all : Array Oper} : ∀ (os : List Oper) (s s' : LSt), rOps call P tr d all os s = some s' →
    s'.1.length = s.1.length ∧ ∀ K : ASt → Prop, K (stOf s') → awpOps P tr d all os K (stOf s) := by
  intro os
  induction os with
  | nil => intro s s' h; injection h with h; subst h; exact ⟨rfl, fun K hk => hk⟩
  | cons o os ih =>
    intro s s' h
    unfold rOps at h
    have exec : ∀ s1, rOp call P tr d o s = some s1 → s1.1.length = s.1.length ∧ ∀ K : ASt → Prop, K (stOf s1) → execK P tr d o K (stOf s) := by
      intro s1 h1
      unfold rOp at h1
      have step : rStep P tr d o s = some s1 → s1.1.length = s.1.length ∧ ∀ K : ASt → Prop, K (stOf s1) → okK (astepD P tr d (stOf s) o) K := by
        intro h2
        obtain ⟨e1, e2⟩ := rStep_st h2
        exact ⟨e2, fun K hk => by rw [e1]; exact hk⟩
      unfold execK
      split at h1
      · rename_i c hop
        rw [hop]
        simp only
        split at h1
        · rename_i fo hc
          rw [hc]
          simp only
          split at h1
          case h_2 => cases h1
          rename_i f fs cs hf
          have hf' : av (stOf s).t fo = .fn f fs cs := hf
          rw [hf']
          simp only
          unfold rCall at h1
          split at h1
          · cases h1
          rename_i hg
          simp only [if_neg hg]
          split at h1
          · rename_i hfl
            simp only [if_pos hfl]
            split at h1
            case h_2 => cases h1
            rename_i x hx
            obtain ⟨k1, k2, k3⟩ := rClosed_st hcall hx
            obtain ⟨p1, p2⟩ := rPut_st h1 s.2
            refine ⟨p2, fun K hk => ⟨x, k1, ⟨k2, k3⟩, ?_⟩⟩
            rw [p1] at hk
            have : (stOf s).put o.dst x = ⟨((ASt.mk (argT s.1) s.2).put o.dst x).t, s.2⟩ := by cases o.dst <;> rfl
            rw [this]; exact hk
          · rename_i hfl
            simp only [if_neg hfl]
            split at h1
            · cases h1
            rename_i hfc
            simp only [if_neg hfc]
            split at h1
            · rename_i hkd
              simp only [hkd]
              split at h1
              case h_2 => cases h1
              rename_i x H' hx
              obtain ⟨p1, p2⟩ := rPut_st h1 s.2
              refine ⟨p2, fun K hk => ⟨x, H', .inl (hcall _ _ _ _ _ hx), trivial, ?_⟩⟩
              rw [p1] at hk
              exact hk
            · rename_i v hkd
              simp only [hkd]
              split at h1
              case isFalse =>
                split at h1
                case h_2 => cases h1
                rename_i x H1 hx
                unfold rKeep at hx
                split at hx
                case h_2 => cases hx
                rename_i x' H' hc'
                split at hx
                case isFalse => cases hx
                rename_i hk1
                injection hx with hx
                injection hx with e1 e2
                subst e1 e2
                obtain ⟨p1, p2⟩ := rPut_st h1 s.2
                refine ⟨p2, fun K hk => ⟨x', H', .inl (hcall _ _ _ _ _ hc'), ⟨eqH_sound hk1.1, hk1.2⟩, ?_⟩⟩
                rw [p1] at hk
                exact hk
              rename_i hv
              replace hv := hv.1
              split at h1
              case h_2 => cases h1
              rename_i x hx
              obtain ⟨k1, k2, k3⟩ := rClosed_st hcall hx
              obtain ⟨p1, p2⟩ := rPut_st h1 s.2
              have hv' : v.2.2 = [] := List.isEmpty_iff.1 hv
              refine ⟨p2, fun K hk => ⟨x, s.2, ?_, ⟨rfl, Nat.le_refl _⟩, ?_⟩⟩
              · show CAny P f _ (hideL v.2.2 s.2) x s.2
                rw [hv']
                exact .inl (k1.closed k2 k3 s.2)
              · show K ⟨_, showL v.2.2 s.2 s.2⟩
                rw [hv']
                rw [p1] at hk
                exact hk
        · rename_i hno
          obtain ⟨e1, e2⟩ := step h1
          refine ⟨e1, fun K hk => ?_⟩
          split
          · rename_i fo hc; exact (hno fo hc).elim
          · exact e2 K hk
      · rename_i hno
        obtain ⟨e1, e2⟩ := step h1
        refine ⟨e1, fun K hk => ?_⟩
        split
        · rename_i c hc; exact (hno c hc).elim
        · exact e2 K hk
    -- the guard
    unfold rGuard at h
    cases hgd : o.guard with
    | none =>
      rw [hgd] at h
      simp only at h
      split at h
      case h_2 => cases h
      rename_i s1 h1
      obtain ⟨l1, e1⟩ := exec s1 h1
      obtain ⟨l2, e2⟩ := ih s1 s' h
      exact ⟨l2.trans l1, fun K hk => by unfold awpOps guardK; rw [hgd]; exact e1 _ (e2 K hk)⟩
    | some g =>
      obtain ⟨j, want⟩ := g
      rw [hgd] at h
      simp only at h
      cases hq : (all[j]?).bind (·.dst) with
      | none => rw [hq] at h; cases h
      | some q =>
        rw [hq] at h
        simp only at h
        have skip : ∀ s1, rPut o.dst (.tup []) s.1 s.2 = some s1 → rOps call P tr d all os s1 = some s' → s'.1.length = s.1.length ∧ ∀ K : ASt → Prop, K (stOf s') → skipK o (awpOps P tr d all os K) (stOf s) := by
          intro s1 h1 h2
          obtain ⟨p1, p2⟩ := rPut_st h1 s.2
          obtain ⟨l2, e2⟩ := ih s1 s' h2
          refine ⟨l2.trans p2, fun K hk => ?_⟩
          have := e2 K hk
          rw [p1] at this
          unfold skipK
          have e : (stOf s).put o.dst (.tup []) = ⟨((ASt.mk (argT s.1) s.2).put o.dst (.tup [])).t, s.2⟩ := by cases o.dst <;> rfl
          rw [e]; exact this
        cases hb : argT s.1 q with
        | bool b =>
          rw [hb] at h
          simp only at h
          have hs : ∀ b', b = b' → (⟨upd (stOf s).t q (.bool b'), (stOf s).H⟩ : ASt) = stOf s := fun b' e => upd_same (stOf s) q _ (by show argT s.1 q = _; rw [hb, e])
          have key : ∀ K1 K0 : ASt → Prop, (b = want → K1 (stOf s)) → (b ≠ want → K0 (stOf s)) → gboolK q want K1 K0 (stOf s) (argT s.1 q) := by
            intro K1 K0 h1 h0
            rw [hb]
            cases b <;> cases want
            · simp only [gboolK, boolK, Bool.false_eq_true, if_false]; rw [hs false rfl]; exact h1 rfl
            · simp only [gboolK, boolK, Bool.false_eq_true, if_false, if_true]; rw [hs false rfl]; exact h0 (by simp)
            · simp only [gboolK, boolK, Bool.false_eq_true, if_false, if_true]; rw [hs true rfl]; exact h0 (by simp)
            · simp only [gboolK, boolK, if_true]; rw [hs true rfl]; exact h1 rfl
          by_cases ebw : b = want
          · have e3 : (b == want) = true := by simpa using ebw
            rw [e3] at h
            simp only at h
            split at h
            case h_2 => cases h
            rename_i s1 h1
            obtain ⟨l1, e1⟩ := exec s1 h1
            obtain ⟨l2, e2⟩ := ih s1 s' h
            refine ⟨l2.trans l1, fun K hk => ?_⟩
            unfold awpOps guardK
            rw [hgd]
            simp only
            rw [hq]
            exact key _ _ (fun _ => e1 _ (e2 K hk)) (fun hn => (hn ebw).elim)
          · have e3 : (b == want) = false := by simpa using ebw
            rw [e3] at h
            simp only at h
            split at h
            case h_2 => cases h
            rename_i s1 h1
            obtain ⟨l1, e1⟩ := skip s1 h1 h
            refine ⟨l1, fun K hk => ?_⟩
            unfold awpOps guardK
            rw [hgd]
            simp only
            rw [hq]
            exact key _ _ (fun he => (ebw he).elim) (fun _ => e1 K hk)
        | tup vs =>
          rw [hb] at h
          cases vs with
          | cons v vs => cases h
          | nil =>
            simp only at h
            split at h
            case h_2 => cases h
            rename_i s1 h1
            obtain ⟨l1, e1⟩ := skip s1 h1 h
            refine ⟨l1, fun K hk => ?_⟩
            unfold awpOps guardK
            rw [hgd]
            simp only
            rw [hq]
            show gboolK q want _ _ (stOf s) (argT s.1 q)
            rw [hb]
            exact e1 K hk
        | _ => rw [hb] at h; cases h

theorem norm_st' {l : List AVal} {is : List Nat} {u : ASt} (hfar : ∀ i, i ∉ is → u.t i = argT l i) (hin : ∀ i ∈ is, i < l.length ∨ u.t i = argT l i) : stOf (norm u.t is l, u.H) = u := by
  cases u with
  | mk t H =>
    simp only [stOf]
    congr 1
    funext j
    rw [norm_get]
    by_cases e : j ∈ is
    · by_cases h : j < l.length
      · rw [if_pos ⟨e, h⟩]
      · rw [if_neg (fun q => h q.2)]
        exact ((hin j e).resolve_left h).symm
    · rw [if_neg (fun h => e h.1)]
      exact (hfar j e).symm
theorem frzS_cons (i id : Nat) (ag : Bool) (l : List (Nat × Nat × Bool)) (s : ASt) : frzS ((i, id, ag) :: l) s = frzS l s ∨ (i < 500000 ∧ ∃ v h, frzS ((i, id, ag) :: l) s = frzS l ⟨upd s.t i v, h⟩) ∨ (∃ h, frzS ((i, id, ag) :: l) s = frzS l ⟨s.t, h⟩) := by
  generalize hE : frzS ((i, id, ag) :: l) s = E
  rw [frzS] at hE
  split at hE
  · rename_i hlt
    split at hE
    · split at hE
      · exact .inr (.inl ⟨hlt, _, _, hE.symm⟩)
      · exact .inl hE.symm
    · exact .inl hE.symm
  · split at hE
    · split at hE
      · split at hE
        · split at hE
          · exact .inr (.inr ⟨_, hE.symm⟩)
          · exact .inl hE.symm
        · exact .inl hE.symm
      · exact .inl hE.symm
    · exact .inl hE.symm
theorem frzS_far (l : List (Nat × Nat × Bool)) : ∀ (s : ASt) (i : Nat), (i ∉ l.map (·.1) ∨ 500000 ≤ i) → (frzS l s).t i = s.t i := by
  induction l with
  | nil => intro _ _ _; rfl
  | cons p l ih =>
    obtain ⟨i0, id, ag⟩ := p
    intro s i h
    have hl : i ∉ l.map (·.1) ∨ 500000 ≤ i := by
      rcases h with h | h
      · exact .inl (fun q => h (by simp only [List.map_cons, List.mem_cons]; exact .inr q))
      · exact .inr h
    rcases frzS_cons i0 id ag l s with e | ⟨hlt, v, h', e⟩ | ⟨h', e⟩
    · rw [e]; exact ih s i hl
    · have hne : i ≠ i0 := by
        rcases h with h | h
        · rintro rfl; exact h (by simp)
        · exact fun e => Nat.lt_irrefl _ (Nat.lt_of_lt_of_le (e ▸ hlt) h)
      rw [e, ih _ i hl]
      simp only [upd]
      rw [if_neg hne]
    · rw [e, ih _ i hl]
theorem rFrz_st {l : List (Nat × Nat × Bool)} {s s1 : LSt} (h : rFrz l s = some s1) : stOf s1 = frzS l (stOf s) ∧ s1.1.length = s.1.length := by
  unfold rFrz at h
  split at h
  · injection h with h; subst h; exact ⟨rfl, rfl⟩
  · split at h
    case isFalse => cases h
    rename_i hall
    injection h with h; subst h
    refine ⟨norm_st' (fun i hi => frzS_far _ _ i (.inl hi)) (fun i hi => ?_), norm_len _ _ _⟩
    have := List.all_eq_true.1 hall i hi
    simp only [Bool.or_eq_true, decide_eq_true_eq] at this
    rcases this with h | h
    · exact .inl h
    · exact .inr (frzS_far _ _ i (.inr h.1))

theorem cfgOk_get {cfg : Cfg} (hok : cfgOk P cfg = true) {f : FuncId} {q : List Nat × List (Nat × Nat × Bool)} (h : cfgOf cfg f = some q) {fn : Func} {c : Code} (hf : P.funcs[f]? = some fn) (hb : fn.body = some c) :
    (fn.name == "runtime.NumGoroutine") = false ∧ good q.1 fn.ntmps c = true := by
  unfold cfgOk at hok
  induction cfg with
  | nil => cases h
  | cons p l ih =>
    obtain ⟨g, q'⟩ := p
    simp only [List.all_cons, Bool.and_eq_true] at hok
    unfold cfgOf at h
    split at h
    · rename_i e
      injection h with h
      subst e h
      have := hok.1
      rw [hf] at this
      simp only at this
      rw [hb] at this
      simpa using this
    · exact ih hok.2 h

theorem LeBoxes_refl {n : Nat} : ∀ {H : List (List AVal)}, (H.all fun cs => cs.all (low n)) = true → ∀ K : List (List AVal), LeBoxes n (H ++ K) H := by
  intro H
  induction H with
  | nil => intro _ K; cases K <;> trivial
  | cons c H ih =>
    intro h K
    simp only [List.all_cons, Bool.and_eq_true] at h
    refine ⟨?_, ih h.2 K⟩
    have : ∀ cs : List AVal, cs.all (low n) = true → LeCells n cs cs := by
      intro cs
      induction cs with
      | nil => intro _; trivial
      | cons y cs ihc =>
        intro hc
        simp only [List.all_cons, Bool.and_eq_true] at hc
        exact ⟨LeV_refl y, hc.1, ihc hc.2⟩
    exact this c h.1
theorem rBack_st {m : Nat} {x : AVal} {H H' : List (List AVal)} (hm : m ≤ H.length) (h : rBack m x H = some H') : low H'.length x = true ∧ m ≤ H'.length ∧ LeBoxes H'.length H H' := by
  unfold rBack at h
  split at h
  · rename_i hc
    injection h with h; subst h
    have hl : (H.take m).length = m := by rw [List.length_take]; omega
    rw [hl]
    refine ⟨hc.1, Nat.le_refl _, ?_⟩
    have := LeBoxes_refl hc.2 (H.drop m)
    rwa [List.take_append_drop] at this
  · split at h
    · rename_i hc
      injection h with h; subst h
      refine ⟨hc.1, hm, ?_⟩
      have := LeBoxes_refl hc.2 []
      rwa [List.append_nil] at this
    · cases h

def CodeOk (P : Program) (run : CodeF) : Prop := ∀ (c : Code) (tr : List Nat) (s s' : LSt) (e : AEx) (n : Nat), good tr n c = true → s.1.length = n → run c tr s = some (e, s') → s'.1.length = n ∧ ∀ (m : Nat) (Q : APost), Q e (stOf s') → SWp P n m c Q (stOf s)
def CallOk (P : Program) (call : CallF) : Prop := ∀ f args H x H', call f args H = some (x, H') → CFun P f args H x H'

theorem rFun_sound {cfg : Cfg} (hok : cfgOk P cfg = true) {run : CodeF} (hrun : CodeOk P run) : CallOk P (rFun P cfg run) := by
  intro f args H x H' h
  unfold rFun at h
  split at h
  case h_2 => cases h
  rename_i fn tr fz hf hcfg
  split at h
  case h_2 => cases h
  rename_i c hb
  split at h
  case isFalse => cases h
  rename_i ha
  obtain ⟨hname, hg⟩ := cfgOk_get hok hcfg hf hb
  have main : ∀ (e : AEx) (s : LSt), run c tr (args ++ List.replicate (fn.ntmps - args.length) .undef, H) = some (e, s) → (e = .normal ∨ e = .ret) → rRet P fn fz H.length s = some (x, H') → CFun P f args H x H' := by
    intro e s hr he hret
    obtain ⟨_, hsw⟩ := hrun c tr _ _ _ fn.ntmps hg (by simp; omega) hr
    have hst : stOf (args ++ List.replicate (fn.ntmps - args.length) .undef, H) = ⟨argT args, H⟩ := by
      simp only [stOf]
      congr 1
      funext j
      simp only [argT, List.getD_eq_getElem?_getD]
      by_cases hj : j < args.length
      · rw [List.getElem?_append_left hj]
      · rw [List.getElem?_append_right (by omega), List.getElem?_eq_none (l := args) (by omega)]
        by_cases hj2 : j - args.length < fn.ntmps - args.length
        · rw [List.getElem?_replicate, if_pos hj2]; rfl
        · rw [List.getElem?_eq_none (by simp; omega)]
    rw [hst] at hsw
    unfold rRet at hret
    split at hret
    case h_2 => cases hret
    rename_i y hy
    split at hret
    case isFalse => cases hret
    rename_i hm
    split at hret
    case h_2 => cases hret
    rename_i Hb hb2
    injection hret with hret
    injection hret with e1 e2
    subst e1 e2
    obtain ⟨k1, k2, k3⟩ := rBack_st hm hb2
    have hro : retOk H.length y Hb (frzS fz (stOf s)) (ares P fn.results.toList (frzS fz (stOf s))) := by
      rw [hy]; exact ⟨LeV_refl y, k1, k2, k3⟩
    refine CFun.introS (rs := fn.results.toList) (fz := fz) (n := fn.ntmps) hf hb hname (by simp) rfl ha.1 ha.2 (hsw H.length (retK P H.length fn.results.toList fz y Hb) ?_)
    rcases he with rfl | rfl
    · exact hro
    · exact hro
  split at h
  · rename_i s hr; exact main _ s hr (.inl rfl) h
  · rename_i s hr; exact main _ s hr (.inr rfl) h
  · cases h

theorem rOr_sound {tb call : CallF} (h1 : CallOk P tb) (h2 : CallOk P call) : CallOk P (rOr tb call) := by
  intro f args H x H' h
  unfold rOr at h
  split at h
  · rename_i r hr
    injection h with h; subst h
    exact h1 _ _ _ _ _ hr
  · exact h2 _ _ _ _ _ h
theorem rLow_sound {call : CallF} (h2 : CallOk P call) : CallOk P (rLow call) := by
  intro f args H x H' h
  unfold rLow at h
  split at h
  case isFalse => exact h2 _ _ _ _ _ h
  rename_i hn
  split at h
  · rename_i y hy
    split at h
    · rename_i hx
      injection h with h; injection h with e1 e2; subst e1 e2
      exact (h2 _ _ _ _ _ hy).up' H hn hx
    · exact h2 _ _ _ _ _ h
  · exact h2 _ _ _ _ _ h
def ItsOk (P : Program) (its : Its) : Prop := ∀ gf c k, its gf = some (c, k) → IterP P gf c k ∧ Enterable P gf
theorem rHdr_src {idb c k id2 o2 len : Nat} : SrcOk idb c k len (fun j => .ptr id2 (o2 + j * k)) (fun H => rHdr idb c k H = some (id2, o2, len)) := by
  intro G W H hs h
  unfold rHdr at h
  split at h
  case h_2 => cases h
  rename_i id off h1
  split at h
  case h_2 => cases h
  rename_i cs h2
  split at h
  case h_2 => cases h
  rename_i i2 oo ll cap k' h3
  split at h
  case isFalse => cases h
  rename_i hk
  injection h with h
  injection h with e1 h
  injection h with e2 e3
  subst e1 e2 e3
  obtain ⟨rfl, hlt⟩ := hk
  exact SrcOk.own (idb := idb) (id := id) (off := off) (c := c) (k := k') G W H hs ⟨hlt, h1, cs, cap, h2, h3⟩
theorem rRange_sound {its : Its} {run : CodeF} (hrun : CodeOk P run) (hit : ItsOk P its) {g : Operand} {p : Nat} {asg body : Code} {tr : List Nat} {s s' : LSt} {e : AEx} {n : Nat} (hga : good tr n asg = true) (hgb : good tr n body = true) (hl : s.1.length = n) (h : rRange its run g p asg body tr s = some (e, s')) :
    s'.1.length = n ∧ ∀ (m : Nat) (Q : APost), Q e (stOf s') → SWp P n m (.rangeFunc g ⟨[p]⟩ asg body) Q (stOf s) := by
  unfold rRange at h
  split at h
  case h_2 => cases h
  rename_i gf idb hgv
  split at h
  case h_2 => cases h
  rename_i c k hck
  split at h
  case h_2 => cases h
  rename_i id2 o2 len hh
  split at h
  case isFalse => cases h
  rename_i hc
  obtain ⟨⟨h1, h2, h3⟩, h4, h5, h6⟩ := hc
  split at h
  case h_2 => cases h
  rename_i H' hr
  injection h with h
  injection h with e1 e2
  subst e1 e2
  obtain ⟨hI, hE⟩ := hit gf c k hck
  refine ⟨hl, fun m Q hQ => ?_⟩
  refine RangeK.introS (s := stOf s) (ι := List (List AVal)) h4 h5 (by omega) hI hE h3 hgv (fun j => .ptr id2 (o2 + j * k)) (fun H => rHdr idb c k H = some (id2, o2, len)) h1 rHdr_src (fun H => H)
    (fun j H => rHdr idb c k H = some (id2, o2, len) ∧ s.2.length ≤ H.length ∧ ∃ f, f + j = len ∧ rRounds run tr asg body p s.1 idb c k id2 o2 len s.2.length f j H = some H') s.2 ⟨hh, Nat.le_refl _, len, rfl, hr⟩ (by simpa [stOf] using LeBoxes_refl h6 []) (fun j H hi => ⟨hi.2.1, hi.1⟩) ?_ ?_
  · rintro j H ⟨i1, i2, f, i3, i4⟩ hj
    cases f with
    | zero => omega
    | succ f =>
      simp only [rRounds] at i4
      split at i4
      case h_2 => cases i4
      rename_i s1 r1
      split at i4
      case h_2 => cases i4
      rename_i s2 r2
      split at i4
      case isFalse => cases i4
      rename_i hc2
      obtain ⟨q1, q2, q3⟩ := hc2
      obtain ⟨a1, a2⟩ := hrun asg tr _ s1 .normal n hga (by simp; exact hl) r1
      obtain ⟨b1, b2⟩ := hrun body tr s1 s2 .normal n hgb a1 r2
      have hst : stOf ((s.1.map AVal.dis).set p (.ptr id2 (o2 + j * k)), H) = ⟨fun q => if q = p then .ptr id2 (o2 + j * k) else ((stOf s).t q).dis, H⟩ := by
        simp only [stOf]
        congr 1
        funext q
        rw [argT_set]
        have hm : ∀ (l : List AVal) (q : Nat), argT (l.map AVal.dis) q = (argT l q).dis := by
          intro l q
          simp only [argT, List.getD_eq_getElem?_getD, List.getElem?_map]
          cases l[q]? <;> rfl
        by_cases e : q = p
        · subst e
          rw [if_pos ⟨rfl, by simpa using h2⟩, if_pos rfl]
        · rw [if_neg (by rintro ⟨e1, _⟩; exact e e1.symm), if_neg e, hm]
      rw [← hst]
      refine a2 _ _ ?_
      refine b2 _ _ ?_
      exact ⟨s2.2, ⟨q2, q3, f, by omega, i4⟩, by simpa [stOf] using LeBoxes_refl q1 []⟩
  · rintro H ⟨i1, i2, f, i3, i4⟩
    obtain rfl : f = 0 := by omega
    simp only [rRounds] at i4
    injection i4 with i4
    subst i4
    exact hQ
theorem rRun_sound (hmx : P.follows .mixedOrders = true) {its : Its} (hit : ItsOk P its) {cfg : Cfg} (hok : cfgOk P cfg = true) {tb : CallF} (htb : CallOk P tb) : ∀ k, CodeOk P (rRun P its cfg tb k).1 ∧ CallOk P (rRun P its cfg tb k).2 := by
  intro k
  induction k using Nat.strongRecOn with
  | _ k ih =>
    cases k with
    | zero => exact ⟨fun c tr s s' e n _ _ h => (by cases h), fun f args H x H' h => (by cases h)⟩
    | succ k =>
      obtain ⟨ihc, ihf⟩ := ih k (by omega)
      refine ⟨?_, rOr_sound htb (rLow_sound (rFun_sound hok ihc))⟩
      intro c tr s s' e n hg hl h
      have h : rCode P its (rRun P its cfg tb k).1 (rRun P its cfg tb k).2 c tr s = some (e, s') := h
      cases c with
      | skip =>
        injection h with h; injection h with e1 e2; subst e1 e2
        exact ⟨hl, fun m Q hq ρ hρ kk G0 w0 G a w hR => wpIn_skip ⟨_, G, hR, hq⟩⟩
      | exit id =>
        injection h with h; injection h with e1 e2; subst e1 e2
        exact ⟨hl, fun m Q hq ρ hρ kk G0 w0 G a w hR => wpIn_exit ⟨_, G, hR, hq⟩⟩
      | label l =>
        injection h with h; injection h with e1 e2; subst e1 e2
        exact ⟨hl, fun m Q hq ρ hρ kk G0 w0 G a w hR => wpIn_label ⟨_, G, hR, hq⟩⟩
      | ret =>
        injection h with h; injection h with e1 e2; subst e1 e2
        exact ⟨hl, fun m Q hq ρ hρ kk G0 w0 G a w hR => wpIn_ret ⟨_, G, hR, hq⟩⟩
      | region id ops d =>
        simp only [rCode] at h
        split at h
        case isTrue => cases h
        rename_i hany
        split at h
        case h_2 => cases h
        rename_i s1 h1
        split at h
        case h_2 => cases h
        rename_i s2 h2
        injection h with h; injection h with e1 e2; subst e1 e2
        obtain ⟨f1, f2⟩ := rFrz_st h1
        obtain ⟨g1, g2⟩ := rOps_sound ihf _ _ _ h2
        refine ⟨by omega, fun m Q hq => awp_sound hmx _ Q _ hg ?_⟩
        simp only [awp]
        rw [if_neg hany, ← f1]
        exact g2 _ hq
      | seq x y =>
        simp only [rCode] at h
        simp only [good, Bool.and_eq_true] at hg
        split at h
        · rename_i s1 h1
          obtain ⟨f1, f2⟩ := ihc x tr s s1 .normal n hg.1 hl h1
          obtain ⟨g1, g2⟩ := ihc y tr s1 s' e n hg.2 f1 h
          refine ⟨g1, fun m Q hq ρ hρ kk G0 w0 G a w hR => ?_⟩
          refine wpIn_seq (wpIn_mono (f2 m (fun e u => match e with | .normal => SWp P n m y Q u | e => Q e u) (g2 m Q hq) ρ (fun e => hρ (by first | simpa [hasRange] using e | simp [hasRange, e])) kk G0 w0 G a w hR) ?_)
          intro e' a' w' he
          cases e' with
          | normal => obtain ⟨u, G', hR', hk⟩ := he; exact hk ρ (fun e => hρ (by simp [hasRange, e])) kk G0 w0 G' a' w' hR'
          | exit id => exact he
          | ret => exact he
          | goto l => exact he
          | panic c => exact he
          | outgrown => exact he
        · rename_i hno
          obtain ⟨f1, f2⟩ := ihc x tr s s' e n hg.1 hl h
          have hne : e ≠ .normal := by rintro rfl; exact hno _ h
          refine ⟨f1, fun m Q hq ρ hρ kk G0 w0 G a w hR => ?_⟩
          refine wpIn_seq (wpIn_mono (f2 m (fun e u => match e with | .normal => False | e => Q e u) (by cases e <;> first | exact (hne rfl).elim | exact hq) ρ (fun e => hρ (by first | simpa [hasRange] using e | simp [hasRange, e])) kk G0 w0 G a w hR) ?_)
          intro e' a' w' he
          cases e' with
          | normal => obtain ⟨u, G', hR', hk⟩ := he; exact hk.elim
          | exit id => exact he
          | ret => exact he
          | goto l => exact he
          | panic c => exact he
          | outgrown => exact he
      | cond c x y =>
        simp only [good, Bool.and_eq_true] at hg
        cases c with
        | tmp q =>
          simp only [rCode] at h
          have hv : ∀ (b : Bool) {n m : Nat} {G0 : Gh} {w0 : World} {G : Gh} {a : Act} {w : World}, argT s.1 q = .bool b → R n m G0 w0 (stOf s) G a w → a.eval (.tmp q) = .bool b := by
            intro b n m G0 w0 G a w hb hR
            have := hR.get (.tmp q)
            have e2 : av (stOf s).t (.tmp q) = .bool b := hb
            rw [e2] at this
            exact this.bool_inv
          split at h
          · rename_i hb
            obtain ⟨f1, f2⟩ := ihc x tr s s' e n hg.1 hl h
            exact ⟨f1, fun m Q hq ρ hρ kk G0 w0 G a w hR => wpIn_cond_true (hv true hb hR) (f2 m Q hq ρ (fun e => hρ (by first | simpa [hasRange] using e | simp [hasRange, e])) kk G0 w0 G a w hR)⟩
          · rename_i hb
            obtain ⟨f1, f2⟩ := ihc y tr s s' e n hg.2 hl h
            exact ⟨f1, fun m Q hq ρ hρ kk G0 w0 G a w hR => wpIn_cond_false (hv false hb hR) (f2 m Q hq ρ (fun e => hρ (by first | simpa [hasRange] using e | simp [hasRange, e])) kk G0 w0 G a w hR)⟩
          · cases h
        | const v =>
          cases v with
          | bool b =>
            cases b with
            | true =>
              obtain ⟨f1, f2⟩ := ihc x tr s s' e n hg.1 hl h
              exact ⟨f1, fun m Q hq ρ hρ kk G0 w0 G a w hR => wpIn_cond_true rfl (f2 m Q hq ρ (fun e => hρ (by first | simpa [hasRange] using e | simp [hasRange, e])) kk G0 w0 G a w hR)⟩
            | false =>
              obtain ⟨f1, f2⟩ := ihc y tr s s' e n hg.2 hl h
              exact ⟨f1, fun m Q hq ρ hρ kk G0 w0 G a w hR => wpIn_cond_false rfl (f2 m Q hq ρ (fun e => hρ (by first | simpa [hasRange] using e | simp [hasRange, e])) kk G0 w0 G a w hR)⟩
          | _ => cases h
        | _ => cases h
      | block id x =>
        simp only [rCode] at h
        have bl : ∀ (m : Nat) (Q : APost) (e0 : AEx) (u : LSt), (∀ Q' : APost, Q' e0 (stOf u) → SWp P n m x Q' (stOf s)) → blkK id Q e0 (stOf u) → SWp P n m (.block id x) Q (stOf s) := by
          intro m Q e0 u f2 hq ρ hρ kk G0 w0 G a w hR
          refine wpIn_block (wpIn_mono (f2 (blkK id Q) hq ρ (fun e => hρ (by first | simpa [hasRange] using e | simp [hasRange, e])) kk G0 w0 G a w hR) ?_)
          intro e' a' w' he
          cases e' with
          | normal => exact he
          | exit i =>
            obtain ⟨u', G', hR', hk⟩ := he
            simp only [blkK] at hk
            simp only [Exit.inBlock]
            split at hk
            · rename_i e; rw [if_pos e]; exact ⟨u', G', hR', hk⟩
            · rename_i e; rw [if_neg e]; exact ⟨u', G', hR', hk⟩
          | ret => exact he
          | goto l => exact he
          | panic c => exact he
          | outgrown => exact he
        split at h
        · rename_i i s1 h1
          obtain ⟨f1, f2⟩ := ihc x tr s s1 (.exit i) n hg hl h1
          split at h
          · rename_i ei
            injection h with h; injection h with e1 e2; subst e1 e2
            exact ⟨f1, fun m Q hq => bl m Q _ _ (f2 m) (by simp only [blkK]; rw [if_pos ei]; exact hq)⟩
          · rename_i ei
            injection h with h; injection h with e1 e2; subst e1 e2
            exact ⟨f1, fun m Q hq => bl m Q _ _ (f2 m) (by simp only [blkK]; rw [if_neg ei]; exact hq)⟩
        · rename_i hno
          obtain ⟨f1, f2⟩ := ihc x tr s s' e n hg hl h
          refine ⟨f1, fun m Q hq => bl m Q _ _ (f2 m) ?_⟩
          cases e with
          | normal => exact hq
          | ret => exact hq
          | exit i => exact (hno i _ h).elim
      | scope x =>
        obtain ⟨f1, f2⟩ := ihc x tr s s' e n hg hl h
        refine ⟨f1, fun m Q hq ρ hρ kk G0 w0 G a w hR => wpIn_scope_straight (wpIn_mono (f2 m Q hq ρ (fun e => hρ (by first | simpa [hasRange] using e | simp [hasRange, e])) kk G0 w0 G a w hR) ?_)⟩
        intro e' a' w' he
        cases e' <;> exact he
      | loop x =>
        have hlen : ∀ j, j ≤ k + 1 → ∀ s : LSt, s.1.length = n → (rRun P its cfg tb j).1 (.loop x) tr s = some (e, s') → s'.1.length = n := by
          intro j
          induction j with
          | zero => intro _ s _ h; cases h
          | succ j ihj =>
            intro hj s hl h
            obtain ⟨ic, _⟩ := ih j (by omega)
            have h : rCode P its (rRun P its cfg tb j).1 (rRun P its cfg tb j).2 (.loop x) tr s = some (e, s') := h
            simp only [rCode] at h
            split at h
            · rename_i s1 h1
              exact ihj (by omega) s1 (ic x tr s s1 .normal n hg hl h1).1 h
            · exact (ic x tr s s' e n hg hl h).1
        refine ⟨hlen (k + 1) (Nat.le_refl _) s hl h, fun m Q hq ρ hρ kk G0 w0 G a w hR => ?_⟩
        refine wpIn_loop_ix (fun j a w => ∃ u G, R n m G0 w0 (stOf u) G a w ∧ u.1.length = n ∧ j ≤ k + 1 ∧ (rRun P its cfg tb j).1 (.loop x) tr u = some (e, s')) (k + 1) ⟨s, G, hR, hl, Nat.le_refl _, h⟩ ?_
        rintro j a w ⟨u, G, hR, hu, hj, hrun⟩
        cases j with
        | zero => cases hrun
        | succ j =>
          obtain ⟨ic, _⟩ := ih j (by omega)
          have hrun : rCode P its (rRun P its cfg tb j).1 (rRun P its cfg tb j).2 (.loop x) tr u = some (e, s') := hrun
          simp only [rCode] at hrun
          have post : ∀ (e0 : AEx) (u1 : LSt), (∀ Q' : APost, Q' e0 (stOf u1) → SWp P n m x Q' (stOf u)) →
              (match e0 with | .normal => u1.1.length = n ∧ (rRun P its cfg tb j).1 (.loop x) tr u1 = some (e, s') | e0 => Q e0 (stOf u1)) →
              x.wpIn (WR ρ) kk P (Exit.then (fun a' w' => ∃ i, i < j + 1 ∧ ∃ u G, R n m G0 w0 (stOf u) G a' w' ∧ u.1.length = n ∧ i ≤ k + 1 ∧ (rRun P its cfg tb i).1 (.loop x) tr u = some (e, s')) (conc n m G0 w0 Q)) a w := by
            intro e0 u1 f2 hq
            refine wpIn_mono (f2 (fun e' u' => match e' with | .normal => ∃ u2 : LSt, stOf u2 = u' ∧ u2.1.length = n ∧ (rRun P its cfg tb j).1 (.loop x) tr u2 = some (e, s') | e' => Q e' u') (by cases e0 <;> first | exact ⟨u1, rfl, hq⟩ | exact hq) ρ (fun e => hρ (by first | simpa [hasRange] using e | simp [hasRange, e])) kk G0 w0 G a w hR) ?_
            intro e' a' w' he
            cases e' with
            | normal =>
              obtain ⟨u', G', hR', u2, rfl, h2, h3⟩ := he
              exact ⟨j, by omega, u2, G', hR', h2, by omega, h3⟩
            | exit id => exact he
            | ret => exact he
            | goto l => exact he
            | panic c => exact he
            | outgrown => exact he
          split at hrun
          · rename_i s1 h1
            obtain ⟨f1, f2⟩ := ic x tr u s1 .normal n hg hu h1
            exact post .normal s1 (f2 m) ⟨f1, hrun⟩
          · rename_i hno
            obtain ⟨f1, f2⟩ := ic x tr u s' e n hg hu hrun
            refine post e s' (f2 m) ?_
            cases e with
            | normal => exact (hno _ hrun).elim
            | ret => exact hq
            | exit i => exact hq
      | goto l => cases h
      | rangeFunc g ps as b =>
        simp only [rCode] at h
        simp only [good, Bool.and_eq_true] at hg
        split at h
        · exact rRange_sound ihc hit hg.1 hg.2 hl h
        · cases h
      | refuse y => cases h

/-- A contract, by a run. -/
theorem CFun.run (hmx : P.follows .mixedOrders = true) {its : Its} (hit : ItsOk P its) (cfg : Cfg) (tb : CallF) (htb : CallOk P tb) (k : Nat) {f : FuncId} {args : List AVal} {H : List (List AVal)} {x : AVal} {H' : List (List AVal)} (h : cfgOk P cfg = true) (hr : (rRun P its cfg tb k).2 f args H = some (x, H')) : CFun P f args H x H' :=
  (rRun_sound hmx hit h htb k).2 f args H x H' hr
end
end Go.Am
