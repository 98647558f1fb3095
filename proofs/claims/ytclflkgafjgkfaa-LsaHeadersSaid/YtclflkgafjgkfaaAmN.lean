/- The abstract machine, part fourteen: a region whose order Go leaves open comes to what the text's order comes to. -/
import Derived.Test.YtclflkgafjgkfaaAmM
namespace Go.Am
open Go

def rawOf (tr : List Nat) (o : Oper) : List Nat :=
  match o.op with
  | .assign (.tmp s) => [s]
  | .move (.tmp s) => match o.dst with
    | some d => if tr.contains d = true then [s] else []
    | none => []
  | .call c => match c.callee, c.args.toList with
    | .builtin .append, .tmp s :: _ => [s]
    | _, _ => []
  | _ => []
def wrOf (tr : List Nat) (o : Oper) : List Nat := (match o.dst with | some d => [d] | none => []) ++ rawOf tr o
def opTmps (o : Oper) : List Nat := o.op.operands.toList.filterMap fun | .tmp t => some t | _ => none
def rdOf (all : Array Oper) (o : Oper) : List Nat := opTmps o ++ (match o.guard with
  | some (j, _) => match (all[j]?).bind (·.dst) with
    | some q => [q]
    | none => []
  | none => [])
def wrs (t : Nat → AVal) : List (Nat × AVal) → Nat → AVal
  | [] => t
  | (d, x) :: l => wrs (upd t d x) l

section
variable {P : Program} {tr : List Nat} {all : Array Oper}

theorem av_congr {s u : ASt} {o : Oper} (h : ∀ i ∈ opTmps o, u.t i = s.t i) {x : Operand} (hx : x ∈ o.op.operands) : av u.t x = av s.t x := by
  cases x with
  | tmp i => exact h i (List.mem_filterMap.2 ⟨.tmp i, by simpa using hx, rfl⟩)
  | const v => rfl
  | global g => rfl
  | func f => rfl

theorem map_av_congr {s u : ASt} {o : Oper} (h : ∀ i ∈ opTmps o, u.t i = s.t i) (l : List Operand) (hl : ∀ x ∈ l, x ∈ o.op.operands) : l.map (av u.t) = l.map (av s.t) :=
  List.map_congr_left fun x hx => av_congr h (hl x hx)

theorem aval_congr {s u : ASt} {o : Oper} (h : ∀ i ∈ opTmps o, u.t i = s.t i) : aval P u o.op = aval P ⟨s.t, u.H⟩ o.op := by
  cases hop : o.op with
  | move x => simp only [aval]; rw [av_congr h (x := x) (by rw [hop]; simp [Op.operands])]
  | pick c p q => simp only [aval]; rw [av_congr h (x := c) (by rw [hop]; simp [Op.operands]), av_congr h (x := p) (by rw [hop]; simp [Op.operands]), av_congr h (x := q) (by rw [hop]; simp [Op.operands])]
  | build t parts =>
    simp only [aval]
    congr 1
    refine List.map_congr_left fun p hp => ?_
    rw [av_congr h (x := p.2) (by rw [hop]; simp only [Op.operands, List.mem_toArray]; exact List.mem_map.2 ⟨p, hp, rfl⟩)]
  | load t x => simp only [aval]; rw [av_congr h (x := x) (by rw [hop]; simp [Op.operands])]
  | nilCheck x => simp only [aval]; rw [av_congr h (x := x) (by rw [hop]; simp [Op.operands])]
  | binOp op t x y yt => simp only [aval]; rw [av_congr h (x := x) (by rw [hop]; simp [Op.operands]), av_congr h (x := y) (by rw [hop]; simp [Op.operands])]
  | unOp op t x => simp only [aval]; rw [av_congr h (x := x) (by rw [hop]; simp [Op.operands])]
  | convert src dst x => simp only [aval]; rw [av_congr h (x := x) (by rw [hop]; simp [Op.operands])]
  | makeFunc fn first captured =>
    cases fn with
    | func f =>
      simp only [aval]
      congr 2
      · refine List.map_congr_left fun x hx => ?_
        rw [av_congr h (x := x) (by rw [hop]; simp only [Op.operands, Array.mem_append]; exact .inl (by simpa using hx))]
      · refine List.map_congr_left fun x hx => ?_
        rw [av_congr h (x := x) (by rw [hop]; simp only [Op.operands, Array.mem_append]; exact .inr (by simpa using hx))]
    | _ => rfl
  | slice t x lo hi mx =>
    simp only [aval]
    have e : ∀ (z : Option Operand), (∀ y, z = some y → y ∈ o.op.operands) → z.map (av u.t) = z.map (av s.t) := by
      intro z hz
      cases z with
      | none => rfl
      | some y => simp only [Option.map_some]; rw [av_congr h (hz y rfl)]
    rw [av_congr h (x := x) (by rw [hop]; simp [Op.operands]), e lo (by rintro y rfl; rw [hop]; simp [Op.operands]), e hi (by rintro y rfl; rw [hop]; simp [Op.operands]), e mx (by rintro y rfl; rw [hop]; simp [Op.operands])]
  | fieldAddr t x i => simp only [aval]; rw [av_congr h (x := x) (by rw [hop]; simp [Op.operands])]
  | field t x i => simp only [aval]; rw [av_congr h (x := x) (by rw [hop]; simp [Op.operands])]
  | indexAddr t x i => simp only [aval]; rw [av_congr h (x := x) (by rw [hop]; simp [Op.operands]), av_congr h (x := i) (by rw [hop]; simp [Op.operands])]
  | extract x i => simp only [aval]; rw [av_congr h (x := x) (by rw [hop]; simp [Op.operands])]
  | call c =>
    have hargs : ∀ x ∈ c.args.toList, x ∈ o.op.operands := by
      intro x hx
      rw [hop]
      simp only [Op.operands, Call.operands, Array.mem_append]
      exact .inr (by simpa using hx)
    simp only [aval]
    split
    · split
      · rename_i x t e1 e2
        rw [av_congr h (hargs x (by rw [e1]; simp))]
      · rfl
    · split
      · rename_i x t e1 e2
        rw [av_congr h (hargs x (by rw [e1]; simp))]
      · rfl
    · rw [map_av_congr h _ hargs]
    · rw [map_av_congr h _ hargs]
    · rfl
  | _ => rfl

theorem aval_sub {s u : ASt} {op : Op} {x : AVal} (hH : Sub s.H u.H) (h : aval P s op = some x) : aval P ⟨s.t, u.H⟩ op = some x := by
  cases op with
  | load t y =>
    simp only [aval, aloadp] at h ⊢
    split at h
    · rename_i id off hp
      simp only [Option.bind_eq_some_iff] at h
      obtain ⟨cs, h1, h2⟩ := h
      simp only [hH _ _ h1, Option.bind_some, h2]
    · rename_i cs off hp
      simp only [h]
    · cases h
  | makeFunc fn a b => cases fn <;> exact h
  | _ => exact h

/-- What an operation writes, and that it writes the same wherever it reads the same. -/
def Frame (tr : List Nat) (o : Oper) (f : ASt → ASt → Prop) (s s' : ASt) : Prop :=
  ∃ W : List (Nat × AVal), (∀ p ∈ W, p.1 ∈ wrOf tr o) ∧ (∀ i ∈ wrOf tr o, i ∈ W.map (·.1) ∨ i ∈ opTmps o) ∧ s' = ⟨wrs s.t W, s.H⟩ ∧
    ∀ u : ASt, Sub s.H u.H → (∀ i ∈ opTmps o, u.t i = s.t i) → f u ⟨wrs u.t W, u.H⟩

theorem raw_sub (o : Oper) : ∀ i ∈ rawOf tr o, i ∈ opTmps o := by
  intro i hi
  unfold rawOf at hi
  split at hi
  · rename_i s hop
    simp at hi; subst hi
    exact List.mem_filterMap.2 ⟨.tmp i, by rw [hop]; simp [Op.operands], rfl⟩
  · rename_i s hop
    split at hi
    · split at hi
      · simp at hi; subst hi
        exact List.mem_filterMap.2 ⟨.tmp i, by rw [hop]; simp [Op.operands], rfl⟩
      · simp at hi
    · simp at hi
  · rename_i c hop
    split at hi
    · rename_i s l hc hl
      simp at hi; subst hi
      refine List.mem_filterMap.2 ⟨.tmp i, ?_, rfl⟩
      rw [hop]
      simp only [Op.operands, Call.operands, Array.toList_append]
      refine List.mem_append.2 (.inr ?_)
      rw [hl]; simp
    · simp at hi
  · simp at hi

theorem frame_put {o : Oper} {f : ASt → ASt → Prop} {s : ASt} (x : AVal) (hf : ∀ u : ASt, Sub s.H u.H → (∀ i ∈ opTmps o, u.t i = s.t i) → f u (u.put o.dst x)) : Frame tr o f s (s.put o.dst x) := by
  cases hd : o.dst with
  | none =>
    refine ⟨[], by simp, fun i hi => .inr (raw_sub (tr := tr) o i ?_), rfl, fun u h1 h2 => ?_⟩
    · unfold wrOf at hi; rw [hd] at hi; simpa using hi
    · have := hf u h1 h2
      rw [hd] at this
      exact this
  | some d =>
    refine ⟨[(d, x)], by simp [wrOf, hd], fun i hi => ?_, rfl, fun u h1 h2 => ?_⟩
    · unfold wrOf at hi
      rw [hd] at hi
      rcases List.mem_append.1 hi with h | h
      · simp at h; left; simp [h]
      · exact .inr (raw_sub o i h)
    · have := hf u h1 h2
      rw [hd] at this
      exact this

theorem aval_frame {o : Oper} {s s' : ASt} (hx : (aval P s o.op).map (s.put o.dst ·) = some s') : Frame tr o (fun u u' => (aval P u o.op).map (u.put o.dst ·) = some u') s s' := by
  rw [Option.map_eq_some_iff] at hx
  obtain ⟨x, hx, rfl⟩ := hx
  refine frame_put x (fun u h1 h2 => ?_)
  rw [aval_congr h2, aval_sub h1 hx]
  rfl

theorem aeff_frame {o : Oper} {s s' : ASt} (hm : mild tr o = true) (hx : aeff P tr s o = some s') : Frame tr o (fun u u' => aeff P tr u o = some u') s s' := by
  unfold aeff at hx
  cases hop : o.op with
  | alloc t => simp [mild, hop] at hm
  | box t x => simp [mild, hop] at hm
  | store t x y => simp [mild, hop] at hm
  | assign x =>
    simp only [hop] at hx
    cases hdd : o.dst with
    | none => simp only [hdd] at hx; cases hx
    | some d =>
      simp only [hdd] at hx
      cases x with
      | tmp src =>
        have hsrc : src ∈ opTmps o := List.mem_filterMap.2 ⟨.tmp src, by rw [hop]; simp [Op.operands], rfl⟩
        have hwr : wrOf tr o = [d, src] := by simp [wrOf, hdd, rawOf, hop]
        simp only at hx
        split at hx
        · cases hx
        rename_i hne
        split at hx
        · rename_i ho
          injection hx with hx
          subst hx
          refine ⟨[(src, (s.t src).dis), (d, s.t src)], by simp [hwr], fun i hi => .inl (by rw [hwr] at hi; simp at hi ⊢; exact hi.symm), rfl, fun u h1 h2 => ?_⟩
          unfold aeff
          simp only [hop, hdd, if_neg hne, h2 src hsrc, ho]
          rfl
        · rename_i ho
          injection hx with hx
          subst hx
          refine ⟨[(d, s.t src)], by simp [hwr], fun i hi => ?_, rfl, fun u h1 h2 => ?_⟩
          · rw [hwr] at hi
            simp at hi
            rcases hi with hi | hi
            · left; simp [hi]
            · right; rw [hi]; exact hsrc
          · unfold aeff
            simp only [hop, hdd, if_neg hne, h2 src hsrc, ho]
            rfl
      | const v =>
        injection hx with hx
        subst hx
        exact ⟨[(d, ofC v)], by simp [wrOf, hdd], fun i hi => by simp [wrOf, hdd, rawOf, hop] at hi; left; simp [hi], rfl, fun u h1 h2 => by unfold aeff; simp only [hop, hdd]; rfl⟩
      | global g =>
        injection hx with hx
        subst hx
        exact ⟨[(d, .undef)], by simp [wrOf, hdd], fun i hi => by simp [wrOf, hdd, rawOf, hop] at hi; left; simp [hi], rfl, fun u h1 h2 => by unfold aeff; simp only [hop, hdd]; rfl⟩
      | func f =>
        injection hx with hx
        subst hx
        exact ⟨[(d, .fn f [] [])], by simp [wrOf, hdd], fun i hi => by simp [wrOf, hdd, rawOf, hop] at hi; left; simp [hi], rfl, fun u h1 h2 => by unfold aeff; simp only [hop, hdd]; rfl⟩
  | move x =>
    simp only [hop] at hx
    cases hdd : o.dst with
    | none => simp only [hdd] at hx; cases hx
    | some d =>
      simp only [hdd] at hx
      cases x with
      | tmp src =>
        have hsrc : src ∈ opTmps o := List.mem_filterMap.2 ⟨.tmp src, by rw [hop]; simp [Op.operands], rfl⟩
        simp only at hx
        split at hx
        case isFalse => cases hx
        rename_i hc
        injection hx with hx
        subst hx
        have hwr : wrOf tr o = [d, src] := by simp only [wrOf, hdd, rawOf, hop, hc.1, if_true]; rfl
        refine ⟨[(src, (s.t src).dis), (d, s.t src)], by simp [hwr], fun i hi => .inl (by rw [hwr] at hi; simp at hi ⊢; exact hi.symm), rfl, fun u h1 h2 => ?_⟩
        unfold aeff
        simp only [hop, hdd, h2 src hsrc]
        rw [if_pos hc]
        rfl
      | _ => cases hx
  | load t x =>
    simp only [hop] at hx
    split at hx
    case h_2 => cases hx
    rename_i d id off hdd hptr
    split at hx
    case isFalse => cases hx
    rename_i hc
    simp [mild, hop, hdd] at hm
    simp at hc
    exact (hm hc).elim
  | _ => simp only [hop] at hx; cases hx

theorem aeff_none_congr {o : Oper} {s u : ASt} (hm : mild tr o = true) (hx : aeff P tr s o = none) (h : ∀ i ∈ opTmps o, u.t i = s.t i) (hop : (∃ x, o.op = .move x) ∨ ∃ t x, o.op = .load t x) : aeff P tr u o = none := by
  rcases hop with ⟨x, hop⟩ | ⟨t, x, hop⟩
  · unfold aeff at hx ⊢
    simp only [hop] at hx ⊢
    cases hdd : o.dst with
    | none => rfl
    | some d =>
      simp only [hdd] at hx ⊢
      cases x with
      | tmp src =>
        have hsrc : src ∈ opTmps o := List.mem_filterMap.2 ⟨.tmp src, by rw [hop]; simp [Op.operands], rfl⟩
        simp only [h src hsrc] at hx ⊢
        split at hx
        · cases hx
        · rename_i hc; rw [if_neg hc]
      | _ => rfl
  · unfold aeff
    simp only [hop]
    split
    · rename_i d id off hdd hptr
      split
      · rename_i hc
        simp [mild, hop, hdd] at hm
        simp at hc
        exact (hm hc).elim
      · rfl
    · rfl

theorem aapp_frame {o : Oper} {s s' : ASt} (hx : aapp P s o = some s') : Frame tr o (fun u u' => aapp P u o = some u') s s' := by
  have hx0 := hx
  unfold aapp at hx
  split at hx
  case h_2 => cases hx
  rename_i c d hop hdd
  split at hx
  case h_2 => cases hx
  rename_i x y t u hc e1 e2
  split at hx
  · cases hx
  rename_i htu
  split at hx
  case h_2 => cases hx
  rename_i k by_ k1 xs mm k2 ys m2 hk ex ey
  split at hx
  case isFalse => cases hx
  rename_i hcond
  have hargs : ∀ z ∈ c.args.toList, z ∈ o.op.operands := by
    intro z hz
    rw [hop]
    simp only [Op.operands, Call.operands, Array.mem_append]
    exact .inr (by simpa using hz)
  have gen : ∀ v : ASt, Sub s.H v.H → (∀ i ∈ opTmps o, v.t i = s.t i) → ∀ r, (match isTmp x with
      | some src => if src = d then none else some (⟨upd (if mm = .own then upd v.t src (.sl k1 xs .sh) else v.t) d (.sl k (xs ++ ys) .own), v.H⟩ : ASt)
      | none => some ⟨upd v.t d (.sl k (xs ++ ys) .own), v.H⟩) = r → aapp P v o = r := by
    intro v h1 h2 r hr
    unfold aapp
    rw [hop, hdd]
    simp only [hc, e1, e2, if_neg htu, hk]
    rw [av_congr h2 (hargs x (by rw [e1]; simp)), av_congr h2 (hargs y (by rw [e1]; simp)), ex, ey]
    simp only [if_pos hcond]
    exact hr
  split at hx
  · rename_i src hsrc
    split at hx
    · cases hx
    rename_i hne
    injection hx with hx
    subst hx
    have hxt : x = .tmp src := by
      unfold isTmp at hsrc
      split at hsrc
      · injection hsrc with hsrc; subst hsrc; rfl
      · cases hsrc
    subst hxt
    have hwr : wrOf tr o = [d, src] := by simp [wrOf, hdd, rawOf, hop, hc, e1]
    have hsrcm : src ∈ opTmps o := List.mem_filterMap.2 ⟨.tmp src, by simpa using hargs (.tmp src) (by rw [e1]; simp), rfl⟩
    by_cases hm : mm = .own
    · subst hm
      refine ⟨[(src, .sl k1 xs .sh), (d, .sl k (xs ++ ys) .own)], by simp [hwr], fun i hi => .inl (by rw [hwr] at hi; simp at hi ⊢; exact hi.symm), rfl, fun v h1 h2 => gen v h1 h2 _ ?_⟩
      simp only [hsrc, if_neg hne]
      rfl
    · refine ⟨[(d, .sl k (xs ++ ys) .own)], by simp [hwr], fun i hi => ?_, ?_, fun v h1 h2 => gen v h1 h2 _ ?_⟩
      · rw [hwr] at hi
        simp at hi
        rcases hi with hi | hi
        · left; simp [hi]
        · right; rw [hi]; exact hsrcm
      · rw [if_neg hm]; rfl
      · simp only [hsrc, if_neg hne, if_neg hm]
        rfl
  · rename_i hsrc
    injection hx with hx
    subst hx
    have hraw : rawOf tr o = [] := by
      unfold rawOf
      rw [hop]
      simp only [hc, e1]
      cases x <;> first | rfl | simp [isTmp] at hsrc
    refine ⟨[(d, .sl k (xs ++ ys) .own)], by simp [wrOf, hdd], fun i hi => ?_, rfl, fun v h1 h2 => gen v h1 h2 _ ?_⟩
    · simp [wrOf, hdd, hraw] at hi; left; simp [hi]
    · simp only [hsrc]
      rfl

theorem absl_frame {o : Oper} {s s' : ASt} (hx : absl P s o = some s') : Frame tr o (fun u u' => absl P u o = some u') s s' := by
  unfold absl at hx
  split at hx
  case h_2 => cases hx
  rename_i t len parts d hop hdd
  split at hx
  case h_2 => cases hx
  rename_i k by_ hk
  split at hx
  case isFalse => cases hx
  rename_i hc
  injection hx with hx
  subst hx
  refine ⟨[(d, .sl k (parts.toList.map fun p => (av s.t p.2).dis) .full)], by simp [wrOf, hdd], fun i hi => by simp [wrOf, hdd, rawOf, hop] at hi; left; simp [hi], rfl, fun u h1 h2 => ?_⟩
  have hops : ∀ p ∈ parts.toList, av u.t p.2 = av s.t p.2 := fun p hp => av_congr h2 (x := p.2) (by rw [hop]; simp only [Op.operands, List.mem_toArray]; exact List.mem_map.2 ⟨p, hp, rfl⟩)
  have hall : (parts.toList.all fun p => (av u.t p.2).part && (av u.t p.2).cells.length == k) = (parts.toList.all fun p => (av s.t p.2).part && (av s.t p.2).cells.length == k) := by
    rw [Bool.eq_iff_iff, List.all_eq_true, List.all_eq_true]
    constructor
    · intro h p hp; rw [← hops p hp]; exact h p hp
    · intro h p hp; rw [hops p hp]; exact h p hp
  have hmap : (parts.toList.map fun p => (av u.t p.2).dis) = parts.toList.map fun p => (av s.t p.2).dis := List.map_congr_left fun p hp => by rw [hops p hp]
  unfold absl
  rw [hop, hdd]
  simp only [hk]
  rw [hall, hmap, if_pos hc]
  rfl

theorem amk_frame {o : Oper} {s s' : ASt} (hx : amk P s o = some s') : Frame tr o (fun u u' => amk P u o = some u') s s' := by
  unfold amk at hx
  split at hx
  case h_2 => cases hx
  rename_i t l c d hop hdd
  split at hx
  case h_2 => cases hx
  rename_i k by_ kl l' kc c' hk el ec
  split at hx
  case isFalse => cases hx
  rename_i hc
  injection hx with hx
  subst hx
  refine ⟨[(d, .sl k [] .own)], by simp [wrOf, hdd], fun i hi => by simp [wrOf, hdd, rawOf, hop] at hi; left; simp [hi], rfl, fun u h1 h2 => ?_⟩
  unfold amk
  rw [hop, hdd]
  simp only [hk]
  rw [av_congr h2 (x := l) (by rw [hop]; simp [Op.operands]), av_congr h2 (x := c) (by rw [hop]; simp [Op.operands]), el, ec]
  simp only [if_pos hc]
  rfl

theorem astep_frame {o : Oper} {s s' : ASt} (hm : mild tr o = true) (hx : astep P tr s o = some s') : Frame tr o (fun u u' => astep P tr u o = some u') s s' := by
  have lift : ∀ {f g : ASt → ASt → Prop}, (∀ u u', Sub s.H u.H → (∀ i ∈ opTmps o, u.t i = s.t i) → f u u' → g u u') → Frame tr o f s s' → Frame tr o g s s' := by
    rintro f g hfg ⟨W, h1, h2, h3, h4⟩
    exact ⟨W, h1, h2, h3, fun u e1 e2 => hfg _ _ e1 e2 (h4 u e1 e2)⟩
  unfold astep at hx
  cases hop : o.op with
  | call c =>
    simp only [hop] at hx
    split at hx
    · rename_i hc
      have hr : ¬ (rowOp tr o = true) := by simpa [mild, hop, hc] using hm
      rw [if_neg hr] at hx
      exact lift (fun u u' _ _ h => by unfold astep; simp only [hop, hc]; rw [if_neg hr]; exact h) (aapp_frame hx)
    · rename_i hc
      simp [mild, hop, hc] at hm
    · rename_i hc
      simp [mild, hop, hc] at hm
    · rename_i b hb hb2 hb3 hc
      rw [← hop] at hx
      refine lift (fun u u' _ _ h => ?_) (aval_frame hx)
      unfold astep
      simp only [hop, hc]
      rw [hop] at h
      exact h
    · cases hx
  | buildSlice t len parts =>
    simp only [hop] at hx
    exact lift (fun u u' _ _ h => by unfold astep; simp only [hop]; exact h) (absl_frame hx)
  | makeSlice t l c =>
    simp only [hop] at hx
    exact lift (fun u u' _ _ h => by unfold astep; simp only [hop]; exact h) (amk_frame hx)
  | alloc t => simp [mild, hop] at hm
  | box t x => simp [mild, hop] at hm
  | store t x y => simp [mild, hop] at hm
  | assign x =>
    simp only [hop] at hx
    exact lift (fun u u' _ _ h => by unfold astep; simp only [hop]; exact h) (aeff_frame hm hx)
  | move x =>
    simp only [hop] at hx
    split at hx
    · rename_i s'' he
      injection hx with hx
      subst hx
      exact lift (fun u u' _ _ h => by unfold astep; simp only [hop, h]) (aeff_frame hm he)
    · rename_i he
      rw [← hop] at hx
      exact lift (fun u u' _ e2 h => by unfold astep; simp only [hop, aeff_none_congr hm he e2 (.inl ⟨_, hop⟩)]; rw [hop] at h; exact h) (aval_frame hx)
  | load t x =>
    simp only [hop] at hx
    split at hx
    · rename_i s'' he
      injection hx with hx
      subst hx
      exact lift (fun u u' _ _ h => by unfold astep; simp only [hop, h]) (aeff_frame hm he)
    · rename_i he
      rw [← hop] at hx
      exact lift (fun u u' _ e2 h => by unfold astep; simp only [hop, aeff_none_congr hm he e2 (.inr ⟨_, _, hop⟩)]; rw [hop] at h; exact h) (aval_frame hx)
  | _ =>
    simp only [hop] at hx
    rw [← hop] at hx
    exact lift (fun u u' _ _ h => by unfold astep; simp only [hop]; rw [hop] at h; exact h) (aval_frame hx)

theorem wrs_get (W : List (Nat × AVal)) : ∀ (t u : Nat → AVal) (i : Nat), (i ∈ W.map (·.1) ∨ t i = u i) → wrs t W i = wrs u W i := by
  induction W with
  | nil => intro t u i h; simpa [wrs] using h
  | cons p W ih =>
    intro t u i h
    obtain ⟨d, x⟩ := p
    simp only [wrs]
    refine ih _ _ i ?_
    by_cases e : i ∈ W.map (·.1)
    · exact .inl e
    · right
      simp only [upd]
      by_cases ed : i = d
      · rw [if_pos ed, if_pos ed]
      · rw [if_neg ed, if_neg ed]
        rcases h with h | h
        · simp only [List.map_cons, List.mem_cons] at h
          rcases h with h | h
          · exact (ed h).elim
          · exact (e h).elim
        · exact h
theorem wrs_far (W : List (Nat × AVal)) : ∀ (t : Nat → AVal) (i : Nat), i ∉ W.map (·.1) → wrs t W i = t i := by
  induction W with
  | nil => intro t i _; rfl
  | cons p W ih =>
    intro t i h
    obtain ⟨d, x⟩ := p
    simp only [List.map_cons, List.mem_cons, not_or] at h
    simp only [wrs]
    rw [ih _ i h.2]
    simp only [upd]
    rw [if_neg h.1]

theorem astepD_step {d : Option Nat} (s s' : ASt) (o : Oper) (h : astepD P tr d s o = some s') : astep P tr s o = some s' := by
  cases d with
  | none => exact h
  | some h0 =>
    simp only [astepD] at h
    split at h
    · rename_i hm
      rw [Option.map_eq_some_iff] at h
      obtain ⟨s1, h1, rfl⟩ := h
      obtain ⟨W, f1, f2, f3, f4⟩ := astep_frame hm h1
      subst f3
      exact f4 s (Sub.take _ _) (fun _ _ => rfl)
    · exact h

theorem astepD_frame {h0 : Nat} {o : Oper} {s s' : ASt} (hm : mild tr o = true) (hx : astepD P tr (some h0) s o = some s') :
    s'.H = s.H ∧ ∃ W : List (Nat × AVal), (∀ p ∈ W, p.1 ∈ wrOf tr o) ∧ (∀ i ∈ wrOf tr o, i ∈ W.map (·.1) ∨ i ∈ opTmps o) ∧ s' = ⟨wrs s.t W, s.H⟩ ∧
      ∀ u : ASt, u.H.take h0 = s.H.take h0 → (∀ i ∈ opTmps o, u.t i = s.t i) → astepD P tr (some h0) u o = some ⟨wrs u.t W, u.H⟩ := by
  simp only [astepD, hm, if_true] at hx ⊢
  rw [Option.map_eq_some_iff] at hx
  obtain ⟨s1, h1, rfl⟩ := hx
  obtain ⟨W, f1, f2, f3, f4⟩ := astep_frame hm h1
  subst f3
  refine ⟨rfl, W, f1, f2, rfl, fun u e1 e2 => ?_⟩
  have := f4 ⟨u.t, u.H.take h0⟩ (by rw [e1]; exact Sub.refl _) e2
  rw [this]
  rfl

/-- The same for a whole step, its guard included. -/
theorem step1_frame {h0 : Nat} {o : Oper} {s s' : ASt} (hm : mild tr o = true) (hs : AStep1 P tr (some h0) all o s s') :
    Keep (some h0) s.H s'.H ∧ (vcall o = false → s'.H = s.H) ∧ (∀ i, i ∉ wrOf tr o → s'.t i = s.t i) ∧ ∀ u : ASt, u.H.take h0 = s.H.take h0 → (vcall o = true → u.H = s.H) → (∀ i ∈ rdOf all o, u.t i = s.t i) →
      ∃ u', AStep1 P tr (some h0) all o u u' ∧ (vcall o = true → u'.H = s'.H) ∧ (vcall o = false → u'.H = u.H) ∧ (∀ i ∈ wrOf tr o, u'.t i = s'.t i) ∧ ∀ i, i ∉ wrOf tr o → u'.t i = u.t i := by
  have hsub : ∀ i ∈ opTmps o, i ∈ rdOf all o := fun i hi => List.mem_append.2 (.inl hi)
  -- what is written, whatever the variables
  have fin : ∀ (f : ASt → ASt → Prop) (W : List (Nat × AVal)) (H' : List (List AVal)), (∀ p ∈ W, p.1 ∈ wrOf tr o) → (∀ i ∈ wrOf tr o, i ∈ W.map (·.1) ∨ i ∈ opTmps o) → s' = ⟨wrs s.t W, H'⟩ → Keep (some h0) s.H H' → (vcall o = false → H' = s.H) →
      (∀ u : ASt, u.H.take h0 = s.H.take h0 → (vcall o = true → u.H = s.H) → (∀ i ∈ rdOf all o, u.t i = s.t i) → AStep1 P tr (some h0) all o u ⟨wrs u.t W, if vcall o = true then H' else u.H⟩) →
      Keep (some h0) s.H s'.H ∧ (vcall o = false → s'.H = s.H) ∧ (∀ i, i ∉ wrOf tr o → s'.t i = s.t i) ∧ ∀ u : ASt, u.H.take h0 = s.H.take h0 → (vcall o = true → u.H = s.H) → (∀ i ∈ rdOf all o, u.t i = s.t i) →
      ∃ u', AStep1 P tr (some h0) all o u u' ∧ (vcall o = true → u'.H = s'.H) ∧ (vcall o = false → u'.H = u.H) ∧ (∀ i ∈ wrOf tr o, u'.t i = s'.t i) ∧ ∀ i, i ∉ wrOf tr o → u'.t i = u.t i := by
    rintro f W H' h1 h2 rfl h3 h4 hf
    have hfar : ∀ i, i ∉ wrOf tr o → i ∉ W.map (·.1) := by
      intro i hi hW
      obtain ⟨p, hp, rfl⟩ := List.mem_map.1 hW
      exact hi (h1 p hp)
    refine ⟨h3, h4, fun i hi => wrs_far W _ i (hfar i hi), fun u e1 e1' e2 => ⟨_, hf u e1 e1' e2, fun e => by simp only [e, if_true], fun e => by simp only [e, Bool.false_eq_true, if_false], fun i hi => ?_, fun i hi => wrs_far W _ i (hfar i hi)⟩⟩
    refine wrs_get W _ _ i ?_
    rcases h2 i hi with h | h
    · exact .inl h
    · exact .inr (e2 i (hsub i h))
  have ex : ∀ {s'' : ASt}, AExec P tr (some h0) o s s'' → ∃ (W : List (Nat × AVal)) (H' : List (List AVal)), (∀ p ∈ W, p.1 ∈ wrOf tr o) ∧ (∀ i ∈ wrOf tr o, i ∈ W.map (·.1) ∨ i ∈ opTmps o) ∧ s'' = ⟨wrs s.t W, H'⟩ ∧ Keep (some h0) s.H H' ∧ (vcall o = false → H' = s.H) ∧
      (∀ u : ASt, u.H.take h0 = s.H.take h0 → (vcall o = true → u.H = s.H) → (∀ i ∈ rdOf all o, u.t i = s.t i) → AExec P tr (some h0) o u ⟨wrs u.t W, if vcall o = true then H' else u.H⟩) := by
    intro s'' h
    rcases h with h | ⟨c, fo, f, fs, cs, x, H', h1, h2, h3, h4, h5, h6⟩ | ⟨h, _⟩
    rotate_right
    · cases h
    · obtain ⟨f0, W, f1, f2, f3, f4⟩ := astepD_frame hm h
      subst f3
      refine ⟨W, s.H, f1, f2, rfl, ⟨rfl, Nat.le_refl _⟩, fun _ => rfl, fun u e1 e1' e2 => .inl ?_⟩
      rw [f4 u e1 (fun i hi => e2 i (hsub i hi))]
      by_cases hv : vcall o = true
      · rw [if_pos hv, e1' hv]
      · rw [if_neg hv]
    · have hv : vcall o = true := by simp [vcall, h1, h2]
      have hw : wild tr o = false := by
        unfold mild at hm
        rw [h1] at hm
        simp only [h2] at hm
        simpa using hm
      have hkd : kd tr o.dst (some h0) = some h0 := by
        unfold wild at hw
        unfold kd
        cases hdd : o.dst with
        | none => rfl
        | some i => rw [hdd] at hw; simp only at hw ⊢; rw [hw]; rfl
      rw [hkd] at h5
      subst h6
      have hput : ∀ (u : ASt), ∃ W : List (Nat × AVal), (∀ p ∈ W, p.1 ∈ wrOf tr o) ∧ (∀ i ∈ wrOf tr o, i ∈ W.map (·.1) ∨ i ∈ opTmps o) ∧ ∀ u : ASt, (u.put o.dst x).t = wrs u.t W := by
        intro _
        cases hd : o.dst with
        | none =>
          refine ⟨[], by simp, fun i hi => .inr (raw_sub (tr := tr) o i ?_), fun _ => rfl⟩
          unfold wrOf at hi; rw [hd] at hi; simpa using hi
        | some d =>
          refine ⟨[(d, x)], by simp [wrOf, hd], fun i hi => ?_, fun _ => rfl⟩
          unfold wrOf at hi
          rw [hd] at hi
          rcases List.mem_append.1 hi with h | h
          · simp at h; left; simp [h]
          · exact .inr (raw_sub o i h)
      obtain ⟨W, f1, f2, f3⟩ := hput s
      refine ⟨W, H', f1, f2, by rw [f3], h5, (fun e => by rw [hv] at e; cases e), fun u e1 e1' e2' => ?_⟩
      have e2 : ∀ i ∈ opTmps o, u.t i = s.t i := fun i hi => e2' i (hsub i hi)
      have eH := e1' hv
      have hops : ∀ y ∈ c.operands, y ∈ o.op.operands := by intro y hy; rw [h1]; exact hy
      have hfo : av u.t fo = av s.t fo := av_congr e2 (hops fo (by simp [Call.operands, h2]))
      have hca : cargs u fs c.args.toList cs = cargs s fs c.args.toList cs := by
        unfold cargs
        congr 2
        refine List.map_congr_left fun y hy => ?_
        rw [av_congr e2 (hops y (by simp only [Call.operands, Array.mem_append]; exact .inr (by simpa using hy)))]
      refine .inr (.inl ⟨c, fo, f, fs, cs, x, H', h1, h2, by rw [hfo]; exact h3, by rw [hca, eH]; exact h4, by rw [hkd, eH]; exact h5, by rw [if_pos hv, f3]⟩)
  unfold AStep1 at hs
  split at hs
  · rename_i hg
    obtain ⟨W, H', f1, f2, f3, f4, f5, f6⟩ := ex hs
    exact fin (fun _ _ => True) W H' f1 f2 f3 f4 f5 (fun u e1 e1' e2 => by unfold AStep1; rw [hg]; exact f6 u e1 e1' e2)
  · rename_i j want hg
    obtain ⟨q, hq, hs⟩ := hs
    have hqr : q ∈ rdOf all o := by
      unfold rdOf
      rw [hg]
      simp only
      rw [hq]
      exact List.mem_append.2 (.inr (by simp))
    have skip : s' = s.put o.dst (.tup []) → (∀ u : ASt, (∀ i ∈ rdOf all o, u.t i = s.t i) → AStep1 P tr (some h0) all o u (u.put o.dst (.tup []))) →
        Keep (some h0) s.H s'.H ∧ (vcall o = false → s'.H = s.H) ∧ (∀ i, i ∉ wrOf tr o → s'.t i = s.t i) ∧ ∀ u : ASt, u.H.take h0 = s.H.take h0 → (vcall o = true → u.H = s.H) → (∀ i ∈ rdOf all o, u.t i = s.t i) →
        ∃ u', AStep1 P tr (some h0) all o u u' ∧ (vcall o = true → u'.H = s'.H) ∧ (vcall o = false → u'.H = u.H) ∧ (∀ i ∈ wrOf tr o, u'.t i = s'.t i) ∧ ∀ i, i ∉ wrOf tr o → u'.t i = u.t i := by
      intro hs hstep
      subst hs
      obtain ⟨W, f1, f2, f3, f4⟩ := frame_put (tr := tr) (o := o) (f := fun u u' => u' = u.put o.dst (.tup [])) (s := s) (.tup []) (fun u _ _ => rfl)
      refine fin (fun _ _ => True) W s.H f1 f2 f3 ⟨rfl, Nat.le_refl _⟩ (fun _ => rfl) (fun u e1 e1' e2 => ?_)
      have h4 : ∀ u : ASt, (∀ i ∈ opTmps o, u.t i = s.t i) → (⟨wrs u.t W, u.H⟩ : ASt) = u.put o.dst (.tup []) := by
        intro u e2
        have := f4 ⟨u.t, s.H⟩ (Sub.refl _) e2
        have h5 : wrs u.t W = (ASt.put ⟨u.t, s.H⟩ o.dst (.tup [])).t := by rw [← this]
        rw [h5]
        cases o.dst <;> rfl
      have h6 := h4 u (fun i hi => e2 i (hsub i hi))
      have h7 := hstep u e2
      rw [← h6] at h7
      by_cases hv : vcall o = true
      · rw [if_pos hv, ← e1' hv]; exact h7
      · rw [if_neg hv]; exact h7
    rcases hs with ⟨b, hb, hs⟩ | ⟨hb, hs⟩
    · by_cases e : b = want
      · rw [if_pos e] at hs
        obtain ⟨W, H', f1, f2, f3, f4, f5, f6⟩ := ex hs
        exact fin (fun _ _ => True) W H' f1 f2 f3 f4 f5 (fun u e1 e1' e2 => by unfold AStep1; rw [hg]; exact ⟨q, hq, .inl ⟨b, by rw [e2 q hqr]; exact hb, by rw [if_pos e]; exact f6 u e1 e1' e2⟩⟩)
      · rw [if_neg e] at hs
        exact skip hs (fun u e2 => by unfold AStep1; rw [hg]; exact ⟨q, hq, .inl ⟨b, by rw [e2 q hqr]; exact hb, by rw [if_neg e]⟩⟩)
    · exact skip hs (fun u e2 => by unfold AStep1; rw [hg]; exact ⟨q, hq, .inr ⟨by rw [e2 q hqr]; exact hb, rfl⟩⟩)

def disj (l l' : List Nat) : Bool := l.all fun i => !(l'.contains i)
/-- The two may change places. -/
def indep (tr : List Nat) (all : Array Oper) (p q : Oper) : Bool :=
  mild tr p && mild tr q && !(vcall p && vcall q) && disj (wrOf tr p) (rdOf all q ++ wrOf tr q) && disj (wrOf tr q) (rdOf all p ++ wrOf tr p)

theorem disj_spec {l l' : List Nat} (h : disj l l' = true) : ∀ i ∈ l, i ∉ l' := by
  intro i hi hi'
  have := List.all_eq_true.1 h i hi
  simp at this
  exact this hi'

theorem swap {h0 : Nat} {p q : Oper} {s s1 s2 : ASt} (hi : indep tr all p q = true) (h1 : AStep1 P tr (some h0) all p s s1) (h2 : AStep1 P tr (some h0) all q s1 s2) :
    ∃ s1', AStep1 P tr (some h0) all q s s1' ∧ AStep1 P tr (some h0) all p s1' s2 := by
  simp only [indep, Bool.and_eq_true] at hi
  obtain ⟨⟨⟨⟨mp, mq⟩, hvv⟩, d1⟩, d2⟩ := hi
  have d1' := disj_spec d1
  have d2' := disj_spec d2
  obtain ⟨p0, p1, p2, p3⟩ := step1_frame mp h1
  obtain ⟨q0, q1, q2, q3⟩ := step1_frame mq h2
  have rq : ∀ i ∈ rdOf all q, i ∉ wrOf tr p := fun i hi hp => d1' i hp (List.mem_append.2 (.inl hi))
  have rp : ∀ i ∈ rdOf all p, i ∉ wrOf tr q := fun i hi hq => d2' i hq (List.mem_append.2 (.inl hi))
  have ww : ∀ i ∈ wrOf tr p, i ∉ wrOf tr q := fun i hi hq => d1' i hi (List.mem_append.2 (.inr hq))
  have hpq : vcall q = true → vcall p = false := by
    intro e; rw [e] at hvv; simpa using hvv
  obtain ⟨s1', a1, a2, a2', a3, a4⟩ := q3 s p0.1.symm (fun e => (p1 (hpq e)).symm) (fun i hi => (p2 i (rq i hi)).symm)
  have hs1 : s1'.H.take h0 = s.H.take h0 := by
    by_cases e : vcall q = true
    · rw [a2 e, q0.1, p0.1]
    · rw [a2' (by simpa using e)]
  obtain ⟨s2', b1, b2, b2', b3, b4⟩ := p3 s1' hs1 (fun e => a2' (by
    cases hq : vcall q with
    | false => rfl
    | true => rw [hpq hq] at e; cases e)) (fun i hi => a4 i (rp i hi))
  refine ⟨s1', a1, ?_⟩
  have : s2' = s2 := by
    have ht : s2'.t = s2.t := by
      funext i
      by_cases hp : i ∈ wrOf tr p
      · rw [b3 i hp, q2 i (ww i hp)]
      · rw [b4 i hp]
        by_cases hq : i ∈ wrOf tr q
        · exact a3 i hq
        · rw [a4 i hq, q2 i hq, p2 i hp]
    have hH : s2'.H = s2.H := by
      cases hp : vcall p with
      | true =>
        have hq : vcall q = false := by
          cases hq : vcall q with
          | false => rfl
          | true => have := hpq hq; rw [hp] at this; cases this
        rw [b2 hp, q1 hq]
      | false =>
        rw [b2' hp]
        cases hq : vcall q with
        | true => exact a2 hq
        | false => rw [a2' hq, q1 hq, p1 hp]
    cases s2'; cases s2
    simp only at ht hH
    rw [ht, hH]
  rw [← this]
  exact b1

end

end Go.Am
