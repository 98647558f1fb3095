/- The abstract machine, part nineteen: how it is evaluated. -/
import Derived.Test.YtapgoboiljjecaaGreatDoorAmQ
namespace Go.Am
open Go
set_option linter.unusedSectionVars false
variable [Globs]
section
variable {P:Program} {tr:List Nat} {n m:Nat} {Q:APost} {s:ASt}
@[simp] theorem awp_skip:awp P tr n m .skip Q s = Q .normal s:=Eq.trans rfl rfl
@[simp] theorem awp_region {id:Nat} {ops:Array Oper}:awp P tr n m (.region id ops false) Q s = awpOps P tr none ops ops.toList (Q .normal) (frzS (frzC tr id) s):=Eq.trans rfl rfl
theorem awp_region_open0 {id:Nat} {ops:Array Oper}:awp P tr n m (.region id ops true) Q s = if (true && tr.contains (600000 + id)) = true then AnyK P tr ops (Q .normal) (frzS (frzC tr id) s) else awpOps P tr (some (vw tr ops (frzS (frzC tr id) s).H.length)) ops ops.toList (Q .normal) (frzS (frzC tr id) s):=Eq.trans rfl rfl
@[simp] theorem awp_region_open {id:Nat} {ops:Array Oper}:awp P tr n m (.region id ops true) Q s = if tr.contains (600000 + id) = true then AnyK P tr ops (Q .normal) (frzS (frzC tr id) s) else awpOps P tr (some (vw tr ops (frzS (frzC tr id) s).H.length)) ops ops.toList (Q .normal) (frzS (frzC tr id) s):=by
  rw [awp_region_open0,Bool.true_and]
@[simp] theorem awp_seq {a b:Code}:awp P tr n m (.seq a b) Q s = awp P tr n m a (thenK (awp P tr n m b Q) Q) s:=Eq.trans rfl rfl
@[simp] theorem awp_cond {c:Operand} {a b:Code}:awp P tr n m (.cond c a b) Q s = condK c (awp P tr n m a Q) (awp P tr n m b Q) s:=Eq.trans rfl rfl
@[simp] theorem awp_block {id:Nat} {c:Code}:awp P tr n m (.block id c) Q s = awp P tr n m c (blkK id Q) s:=Eq.trans rfl rfl
@[simp] theorem awp_loop {c:Code}:awp P tr n m (.loop c) Q s = LoopK P n m c Q s:=Eq.trans rfl rfl
@[simp] theorem awp_exit {id:Nat}:awp P tr n m (.exit id) Q s = Q (.exit id) s:=Eq.trans rfl rfl
@[simp] theorem awp_scope {c:Code}:awp P tr n m (.scope c) Q s = awp P tr n m c Q s:=Eq.trans rfl rfl
@[simp] theorem awp_label {l:Nat}:awp P tr n m (.label l) Q s = Q .normal s:=Eq.trans rfl rfl
@[simp] theorem awp_ret:awp P tr n m .ret Q s = Q .ret s:=Eq.trans rfl rfl
@[simp] theorem thenK_normal {k:ASt → Prop}:thenK k Q .normal = k:=Eq.trans rfl rfl
@[simp] theorem thenK_exit {k:ASt → Prop} {i:Nat}:thenK k Q (.exit i) = Q (.exit i):=Eq.trans rfl rfl
@[simp] theorem thenK_ret {k:ASt → Prop}:thenK k Q .ret = Q .ret:=Eq.trans rfl rfl
@[simp] theorem blkK_normal {i:Nat}:blkK i Q .normal = Q .normal:=Eq.trans rfl rfl
@[simp] theorem blkK_exit_same {i:Nat}:blkK i Q (.exit i) s = Q .normal s:=by simp [blkK]
@[simp] theorem blkK_exit {i j:Nat}:blkK i Q (.exit j) s = if j = i then Q .normal s else Q (.exit j) s:=Eq.trans rfl rfl
@[simp] theorem blkK_ret {i:Nat}:blkK i Q .ret = Q .ret:=Eq.trans rfl rfl
@[simp] theorem condK_tmp {q:Nat} {Ka Kb:ASt → Prop}:condK (.tmp q) Ka Kb s = cboolK q Ka Kb s (s.t q):=Eq.trans rfl rfl
@[simp] theorem cboolK_bool {q:Nat} {b:Bool} {Ka Kb:ASt → Prop}:cboolK q Ka Kb s (.bool b) = if b = true then Ka ⟨upd s.t q (.bool true),s.H⟩ else Kb ⟨upd s.t q (.bool false),s.H⟩:=Eq.trans rfl rfl
@[simp] theorem cboolK_ubool {q:Nat} {Ka Kb:ASt → Prop}:cboolK q Ka Kb s .ubool = (Ka ⟨upd s.t q (.bool true),s.H⟩ ∧ Kb ⟨upd s.t q (.bool false),s.H⟩):=Eq.trans rfl rfl
@[simp] theorem boolK_bool {q:Nat} {w b:Bool} {K1 K0:ASt → Prop}:boolK q w K1 K0 s (.bool b) = if b = true then (if w = true then K1 else K0) ⟨upd s.t q (.bool true),s.H⟩ else (if w = true then K0 else K1) ⟨upd s.t q (.bool false),s.H⟩:=Eq.trans rfl rfl
@[simp] theorem awpOps_nil {d:Option Vw} {all:Array Oper} {K:ASt → Prop}:awpOps P tr d all [] K s = K s:=Eq.trans rfl rfl
@[simp] theorem awpOps_cons {d:Option Vw} {all:Array Oper} {o:Oper} {os:List Oper} {K:ASt → Prop}:awpOps P tr d all (o :: os) K s = guardK all o (execK P tr d o (awpOps P tr d all os K)) (skipK o (awpOps P tr d all os K)) s:=Eq.trans rfl rfl
@[simp] theorem guardK_none {all:Array Oper} {dst:Option Nat} {op:Op} {ty:TypeId} {pos:String} {af:Array Edge} {K1 K0:ASt → Prop}:guardK all ⟨dst,op,ty,pos,af,none⟩ K1 K0 s = K1 s:=Eq.trans rfl rfl
@[simp] theorem guardK_some {all:Array Oper} {dst:Option Nat} {op:Op} {ty:TypeId} {pos:String} {af:Array Edge} {j:Nat} {want:Bool} {K1 K0:ASt → Prop} :
    guardK all ⟨dst,op,ty,pos,af,some (j,want)⟩ K1 K0 s = match (all[j]?).bind (·.dst) with
      | some q=>gboolK q want K1 K0 s (s.t q)
      | none=>False:=Eq.trans rfl rfl
@[simp] theorem gboolK_skip {q:Nat} {want:Bool} {K1 K0:ASt → Prop}:gboolK q want K1 K0 s (.tup []) = K0 s:=Eq.trans rfl rfl
@[simp] theorem gboolK_bool {q:Nat} {w b:Bool} {K1 K0:ASt → Prop}:gboolK q w K1 K0 s (.bool b) = if b = true then (if w = true then K1 else K0) ⟨upd s.t q (.bool true),s.H⟩ else (if w = true then K0 else K1) ⟨upd s.t q (.bool false),s.H⟩:=Eq.trans rfl rfl
@[simp] theorem skipK_put {dst:Option Nat} {op:Op} {ty:TypeId} {pos:String} {af:Array Edge} {g:Option (Nat × Bool)} {K:ASt → Prop}:skipK ⟨dst,op,ty,pos,af,g⟩ K s = K (s.put dst (.tup [])):=Eq.trans rfl rfl
@[simp] theorem okK_some {s':ASt} {K:ASt → Prop}:okK (some s') K = K s':=Eq.trans rfl rfl
@[simp] theorem okK_none {K:ASt → Prop}:okK none K = False:=Eq.trans rfl rfl
@[simp] theorem put_some {d:Nat} {x:AVal}:s.put (some d) x = ⟨upd s.t d x,s.H⟩:=Eq.trans rfl rfl
@[simp] theorem put_none {x:AVal}:s.put none x = s:=Eq.trans rfl rfl
@[simp] theorem upd_get {t:Nat → AVal} {d i:Nat} {x:AVal}:upd t d x i = if i = d then x else t i:=Eq.trans rfl rfl
@[simp] theorem look_nil {i:Nat}:look [] i = .undef:=Eq.trans rfl rfl
@[simp] theorem look_cons {d i:Nat} {x:AVal} {l:List (Nat × AVal)}:look ((d,x) :: l) i = if i = d then x else look l i:=Eq.trans rfl rfl
@[simp] theorem argT_get {l:List AVal} {i:Nat}:argT l i = l.getD i .undef:=Eq.trans rfl rfl
@[simp] theorem av_tmp {t:Nat → AVal} {i:Nat}:av t (.tmp i) = t i:=Eq.trans rfl rfl
@[simp] theorem av_int {t:Nat → AVal} {k:IntKind} {i:Int}:av t (.const (.int k i)) = .int k i:=Eq.trans rfl rfl
@[simp] theorem av_bool {t:Nat → AVal} {b:Bool}:av t (.const (.bool b)) = .bool b:=Eq.trans rfl rfl
@[simp] theorem av_nilsl {t:Nat → AVal}:av t (.const (.slice none 0 0)) = .sl 0 [] .full:=Eq.trans rfl rfl
@[simp] theorem av_func {t:Nat → AVal} {f:FuncId}:av t (.func f) = .fn f [] []:=Eq.trans rfl rfl
variable {dst:Option Nat} {ty:TypeId} {pos:String} {af:Array Edge} {g:Option (Nat × Bool)} {d:Option Vw} {K:ASt → Prop}
theorem wrap_in {x:Int} (h:-9223372036854775808 ≤ x ∧ x ≤ 9223372036854775807):IntKind.i64.wrap x = x:=by rw [IntKind.wrap_i64]; omega
@[simp] theorem okK_map {o:Option AVal} {dst:Option Nat}:okK (o.map (s.put dst ·)) K = match o with
  | some x=>K (s.put dst x)
  | none=>False:=by cases o <;> rfl
theorem astepD_val {o:Oper} (h1:∀ s,astep P tr s o = (aval P s o.op).map (s.put o.dst ·)) (hm:mild tr o = true) (h2:∀ H,aval P ⟨s.t,H⟩ o.op = aval P s o.op):astepD P tr d s o = (aval P s o.op).map (s.put o.dst ·):=by
 cases d with
 | none=>exact h1 s
 | some h =>
   simp only [astepD,hm,if_true,h1,h2]
   cases aval P s o.op with
   | none=>rfl
   | some x=>simp only [Option.map_some]; cases o.dst <;> rfl
theorem astepD_hard {o:Oper} (hm:mild tr o = false) (ho:oload tr o = false) (hst:∀ v,stOk v s o = true):astepD P tr d s o = astep P tr s o:=by
 cases d with
 | none=>rfl
 | some h=>simp only [astepD,hm,Bool.false_eq_true,if_false,seenOk,hst,ho,Bool.not_false,Bool.true_or,Bool.true_and,if_true]
theorem astepD_free {o:Oper} (hm:mild tr o = true) (h2:∀ H,astep P tr ⟨s.t,H⟩ o = (astep P tr s o).map fun s'=>⟨s'.t,H⟩) (h3:∀ s',astep P tr s o = some s' → s'.H = s.H):astepD P tr d s o = astep P tr s o:=by
 cases d with
 | none=>rfl
 | some h =>
   have e1:astepD P tr (some h) s o = (astep P tr ⟨s.t,vis h s.H⟩ o).map fun s'=>⟨s'.t,s.H⟩:=by simp only [astepD,hm,if_true]
   rw [e1,h2 (vis h s.H)]
   cases e:astep P tr s o with
   | none=>rfl
   | some s' =>
     have:=h3 s' e
     cases s'
     simp only at this
     simp only [Option.map_some,this]
theorem absl_H {o:Oper} {H:List (List AVal)}:absl P ⟨s.t,H⟩ o = (absl P s o).map fun s'=>⟨s'.t,H⟩:=by
 unfold absl
 dsimp only
 repeat' split
 all_goals rfl
theorem absl_sH {o:Oper} {s':ASt} (h:absl P s o = some s'):s'.H = s.H:=by
 unfold absl at h
 repeat' split at h
 all_goals first | cases h; done | (injection h with h; subst h; rfl)
theorem amk_H {o:Oper} {H:List (List AVal)}:amk P ⟨s.t,H⟩ o = (amk P s o).map fun s'=>⟨s'.t,H⟩:=by
 unfold amk
 dsimp only
 repeat' split
 all_goals rfl
theorem amk_sH {o:Oper} {s':ASt} (h:amk P s o = some s'):s'.H = s.H:=by
 unfold amk at h
 repeat' split at h
 all_goals first | cases h; done | (injection h with h; subst h; rfl)
theorem aapp_H {o:Oper} {H:List (List AVal)}:aapp P ⟨s.t,H⟩ o = (aapp P s o).map fun s'=>⟨s'.t,H⟩:=by
 unfold aapp
 dsimp only
 repeat' split
 all_goals rfl
theorem aapp_sH {o:Oper} {s':ASt} (h:aapp P s o = some s'):s'.H = s.H:=by
 unfold aapp at h
 repeat' split at h
 all_goals first | cases h; done | (injection h with h; subst h; rfl)
theorem aeff_assign_H {x:Operand} {H:List (List AVal)}:aeff P tr ⟨s.t,H⟩ ⟨dst,.assign x,ty,pos,af,g⟩ = (aeff P tr s ⟨dst,.assign x,ty,pos,af,g⟩).map fun s'=>⟨s'.t,H⟩:=by
 unfold aeff
 dsimp only
 repeat' split
 all_goals rfl
theorem aeff_assign_sH {x:Operand} {s':ASt} (h:aeff P tr s ⟨dst,.assign x,ty,pos,af,g⟩ = some s'):s'.H = s.H:=by
 unfold aeff at h
 dsimp only at h
 repeat' split at h
 all_goals first | cases h; done | (injection h with h; subst h; rfl)
theorem aeff_move_H {x:Operand} {H:List (List AVal)}:aeff P tr ⟨s.t,H⟩ ⟨dst,.move x,ty,pos,af,g⟩ = (aeff P tr s ⟨dst,.move x,ty,pos,af,g⟩).map fun s'=>⟨s'.t,H⟩:=by
 unfold aeff
 dsimp only
 repeat' split
 all_goals rfl
theorem aeff_move_sH {x:Operand} {s':ASt} (h:aeff P tr s ⟨dst,.move x,ty,pos,af,g⟩ = some s'):s'.H = s.H:=by
 unfold aeff at h
 dsimp only at h
 repeat' split at h
 all_goals first | cases h; done | (injection h with h; subst h; rfl)
@[simp] theorem exec_pick {c a b:Operand}:execK P tr d ⟨dst,.pick c a b,ty,pos,af,g⟩ K s = okK ((aval P s (.pick c a b)).map (s.put dst ·)) K:=congrArg (okK · K) (astepD_val (o:=⟨dst,.pick c a b,ty,pos,af,g⟩) (fun _=>rfl) rfl (fun _=>rfl))
@[simp] theorem exec_build {t:TypeId} {ps:Array (Nat × Operand)}:execK P tr d ⟨dst,.build t ps,ty,pos,af,g⟩ K s = okK ((aval P s (.build t ps)).map (s.put dst ·)) K:=congrArg (okK · K) (astepD_val (o:=⟨dst,.build t ps,ty,pos,af,g⟩) (fun _=>rfl) rfl (fun _=>rfl))
@[simp] theorem exec_nilCheck {x:Operand}:execK P tr d ⟨dst,.nilCheck x,ty,pos,af,g⟩ K s = okK ((aval P s (.nilCheck x)).map (s.put dst ·)) K:=congrArg (okK · K) (astepD_val (o:=⟨dst,.nilCheck x,ty,pos,af,g⟩) (fun _=>rfl) rfl (fun _=>rfl))
@[simp] theorem exec_binOp {op:BinOp} {t u:TypeId} {x y:Operand}:execK P tr d ⟨dst,.binOp op t x y u,ty,pos,af,g⟩ K s = okK ((if isNilSl y = true then anil op (te P t) (av s.t x) else abin P op t (av s.t x) (av s.t y)).map (s.put dst ·)) K:=congrArg (okK · K) (astepD_val (o:=⟨dst,.binOp op t x y u,ty,pos,af,g⟩) (fun _=>rfl) rfl (fun _=>rfl))
@[simp] theorem exec_unOp {op:UnOp} {t:TypeId} {x:Operand}:execK P tr d ⟨dst,.unOp op t x,ty,pos,af,g⟩ K s = okK ((aun op (av s.t x)).map (s.put dst ·)) K:=congrArg (okK · K) (astepD_val (o:=⟨dst,.unOp op t x,ty,pos,af,g⟩) (fun _=>rfl) rfl (fun _=>rfl))
@[simp] theorem exec_convert {t u:TypeId} {x:Operand}:execK P tr d ⟨dst,.convert t u x,ty,pos,af,g⟩ K s = okK ((aval P s (.convert t u x)).map (s.put dst ·)) K:=congrArg (okK · K) (astepD_val (o:=⟨dst,.convert t u x,ty,pos,af,g⟩) (fun _=>rfl) rfl (fun _=>rfl))
@[simp] theorem exec_makeFunc {f:Fn} {a b:Array Operand}:execK P tr d ⟨dst,.makeFunc f a b,ty,pos,af,g⟩ K s = okK ((aval P s (.makeFunc f a b)).map (s.put dst ·)) K:=congrArg (okK · K) (astepD_val (o:=⟨dst,.makeFunc f a b,ty,pos,af,g⟩) (fun _=>rfl) rfl (fun _=>by cases f <;> rfl))
@[simp] theorem exec_slice {t:TypeId} {x:Operand} {a b c:Option Operand}:execK P tr d ⟨dst,.slice t x a b c,ty,pos,af,g⟩ K s = okK ((aslice (te P t) (av s.t x) (a.map (av s.t)) (b.map (av s.t)) (c.map (av s.t))).map (s.put dst ·)) K:=congrArg (okK · K) (astepD_val (o:=⟨dst,.slice t x a b c,ty,pos,af,g⟩) (fun _=>rfl) rfl (fun _=>rfl))
@[simp] theorem exec_fieldAddr {t:TypeId} {x:Operand} {i:Nat}:execK P tr d ⟨dst,.fieldAddr t x i,ty,pos,af,g⟩ K s = okK ((afieldAddr (tf P t i) (av s.t x)).map (s.put dst ·)) K:=congrArg (okK · K) (astepD_val (o:=⟨dst,.fieldAddr t x i,ty,pos,af,g⟩) (fun _=>rfl) rfl (fun _=>rfl))
@[simp] theorem exec_field {t:TypeId} {x:Operand} {i:Nat}:execK P tr d ⟨dst,.field t x i,ty,pos,af,g⟩ K s = okK ((afield (tf P t i) (av s.t x)).map (s.put dst ·)) K:=congrArg (okK · K) (astepD_val (o:=⟨dst,.field t x i,ty,pos,af,g⟩) (fun _=>rfl) rfl (fun _=>rfl))
@[simp] theorem exec_indexAddr {t:TypeId} {x y:Operand}:execK P tr d ⟨dst,.indexAddr t x y,ty,pos,af,g⟩ K s = okK ((aindexAddr (te P t) (av s.t x) (av s.t y)).map (s.put dst ·)) K:=congrArg (okK · K) (astepD_val (o:=⟨dst,.indexAddr t x y,ty,pos,af,g⟩) (fun _=>rfl) rfl (fun _=>rfl))
@[simp] theorem exec_index {t:TypeId} {x y:Operand}:execK P tr d ⟨dst,.index t x y,ty,pos,af,g⟩ K s = okK ((aindex (tx P t) (av s.t x) (av s.t y)).map (s.put dst ·)) K:=congrArg (okK · K) (astepD_val (o:=⟨dst,.index t x y,ty,pos,af,g⟩) (fun _=>rfl) rfl (fun _=>rfl))
@[simp] theorem exec_extract {x:Operand} {i:Nat}:execK P tr d ⟨dst,.extract x i,ty,pos,af,g⟩ K s = okK ((aval P s (.extract x i)).map (s.put dst ·)) K:=congrArg (okK · K) (astepD_val (o:=⟨dst,.extract x i,ty,pos,af,g⟩) (fun _=>rfl) rfl (fun _=>rfl))
@[simp] theorem exec_len {x:Operand} {t:TypeId}:execK P tr d ⟨dst,.call ⟨.builtin .len,#[x],#[t]⟩,ty,pos,af,g⟩ K s = okK ((alen (te P t) (av s.t x)).map (s.put dst ·)) K:=congrArg (okK · K) (astepD_val (o:=⟨dst,.call ⟨.builtin .len,#[x],#[t]⟩,ty,pos,af,g⟩) (fun _=>rfl) rfl (fun _=>rfl))
@[simp] theorem exec_cap {x:Operand} {t:TypeId}:execK P tr d ⟨dst,.call ⟨.builtin .cap,#[x],#[t]⟩,ty,pos,af,g⟩ K s = okK ((acap (te P t) (av s.t x)).map (s.put dst ·)) K:=congrArg (okK · K) (astepD_val (o:=⟨dst,.call ⟨.builtin .cap,#[x],#[t]⟩,ty,pos,af,g⟩) (fun _=>rfl) rfl (fun _=>rfl))
@[simp] theorem exec_min {as:Array Operand} {ts:Array TypeId}:execK P tr d ⟨dst,.call ⟨.builtin .min,as,ts⟩,ty,pos,af,g⟩ K s = okK ((aval P s (.call ⟨.builtin .min,as,ts⟩)).map (s.put dst ·)) K:=congrArg (okK · K) (astepD_val (o:=⟨dst,.call ⟨.builtin .min,as,ts⟩,ty,pos,af,g⟩) (fun _=>rfl) rfl (fun _=>rfl))
@[simp] theorem exec_max {as:Array Operand} {ts:Array TypeId}:execK P tr d ⟨dst,.call ⟨.builtin .max,as,ts⟩,ty,pos,af,g⟩ K s = okK ((aval P s (.call ⟨.builtin .max,as,ts⟩)).map (s.put dst ·)) K:=congrArg (okK · K) (astepD_val (o:=⟨dst,.call ⟨.builtin .max,as,ts⟩,ty,pos,af,g⟩) (fun _=>rfl) rfl (fun _=>rfl))
@[simp] theorem exec_alloc {t:TypeId}:execK P tr d ⟨dst,.alloc t,ty,pos,af,g⟩ K s = okK (aeff P tr s ⟨dst,.alloc t,ty,pos,af,g⟩) K:=congrArg (okK · K) (astepD_hard (o:=⟨dst,.alloc t,ty,pos,af,g⟩) rfl rfl (fun _=>rfl))
@[simp] theorem exec_box {t:TypeId} {x:Operand}:execK P tr d ⟨dst,.box t x,ty,pos,af,g⟩ K s = okK (aeff P tr s ⟨dst,.box t x,ty,pos,af,g⟩) K:=congrArg (okK · K) (astepD_hard (o:=⟨dst,.box t x,ty,pos,af,g⟩) rfl rfl (fun _=>rfl))
@[simp] theorem exec_store {t:TypeId} {x y:Operand}:execK P tr none ⟨dst,.store t x y,ty,pos,af,g⟩ K s = okK (aeff P tr s ⟨dst,.store t x y,ty,pos,af,g⟩) K:=rfl
@[simp] theorem exec_store_open {t:TypeId} {x y:Operand} {v:Vw}:execK P tr (some v) ⟨dst,.store t x y,ty,pos,af,g⟩ K s = if stOk v s ⟨dst,.store t x y,ty,pos,af,g⟩ = true then okK (aeff P tr s ⟨dst,.store t x y,ty,pos,af,g⟩) K else False:=by
  have hm:mild tr ⟨dst,.store t x y,ty,pos,af,g⟩ = false:=rfl
  have hse:seenOk v tr s ⟨dst,.store t x y,ty,pos,af,g⟩ = stOk v s ⟨dst,.store t x y,ty,pos,af,g⟩:=by
    simp only [seenOk]
    exact Bool.and_true _
  show okK (astepD P tr (some v) s ⟨dst,.store t x y,ty,pos,af,g⟩) K = _
  simp only [astepD,hm,Bool.false_eq_true,if_false,hse]
  split
  · rfl
  · rfl
@[simp] theorem exec_assign {x:Operand}:execK P tr d ⟨dst,.assign x,ty,pos,af,g⟩ K s = okK (aeff P tr s ⟨dst,.assign x,ty,pos,af,g⟩) K:=congrArg (okK · K) (astepD_free (o:=⟨dst,.assign x,ty,pos,af,g⟩) rfl (fun _=>aeff_assign_H (P:=P) (tr:=tr)) (fun _ h=>aeff_assign_sH (P:=P) (tr:=tr) h))
@[simp] theorem exec_buildSlice {t:TypeId} {l:Nat} {ps:Array (Nat × Operand)} {d0:Nat}:execK P tr d ⟨some d0,.buildSlice t l ps,ty,pos,af,g⟩ K s = if amark tr d0 = true then okK (abslR P s d0 t l ps.toList) K else okK (absl P s ⟨some d0,.buildSlice t l ps,ty,pos,af,g⟩) K:=by
  by_cases hm:amark tr d0 = true
  · rw [if_pos hm]
    refine congrArg (okK · K) ((astepD_hard (o:=⟨some d0,.buildSlice t l ps,ty,pos,af,g⟩) ?_ rfl (fun _=>rfl)).trans ?_)
    · show (!(amark tr d0)) = false
      rw [hm]; rfl
    · show (if amark tr d0 = true then abslR P s d0 t l ps.toList else _) = _
      rw [if_pos hm]
  · rw [if_neg hm]
    have e:∀ s:ASt,astep P tr s ⟨some d0,.buildSlice t l ps,ty,pos,af,g⟩ = absl P s ⟨some d0,.buildSlice t l ps,ty,pos,af,g⟩:=by
      intro s
      show (if amark tr d0 = true then _ else _) = _
      rw [if_neg hm]
    refine congrArg (okK · K) ((astepD_free (o:=⟨some d0,.buildSlice t l ps,ty,pos,af,g⟩) ?_ (fun _=>?_) (fun _ h=>?_)).trans (e s))
    · show (!(amark tr d0)) = true
      simp [hm]
    · rw [e,e]; exact absl_H (P:=P)
    · rw [e] at h; exact absl_sH (P:=P) h
@[simp] theorem exec_makeSlice {t:TypeId} {l c:Operand} {d0:Nat}:execK P tr d ⟨some d0,.makeSlice t l c,ty,pos,af,g⟩ K s = if amark tr d0 = true then okK (amkR P s d0 t (av s.t l) (av s.t c)) K else okK (amk P s ⟨some d0,.makeSlice t l c,ty,pos,af,g⟩) K:=by
  by_cases hm:amark tr d0 = true
  · rw [if_pos hm]
    refine congrArg (okK · K) ((astepD_hard (o:=⟨some d0,.makeSlice t l c,ty,pos,af,g⟩) ?_ rfl (fun _=>rfl)).trans ?_)
    · show (!(amark tr d0)) = false
      rw [hm]; rfl
    · show (if amark tr d0 = true then amkR P s d0 t (av s.t l) (av s.t c) else _) = _
      rw [if_pos hm]
  · rw [if_neg hm]
    have e:∀ s:ASt,astep P tr s ⟨some d0,.makeSlice t l c,ty,pos,af,g⟩ = amk P s ⟨some d0,.makeSlice t l c,ty,pos,af,g⟩:=by
      intro s
      show (if amark tr d0 = true then _ else _) = _
      rw [if_neg hm]
    refine congrArg (okK · K) ((astepD_free (o:=⟨some d0,.makeSlice t l c,ty,pos,af,g⟩) ?_ (fun _=>?_) (fun _ h=>?_)).trans (e s))
    · show (!(amark tr d0)) = true
      simp [hm]
    · rw [e,e]; exact amk_H (P:=P)
    · rw [e] at h; exact amk_sH (P:=P) h
@[simp] theorem exec_append {x y:Operand} {t u:TypeId} {d0:Nat}:execK P tr d ⟨some d0,.call ⟨.builtin .append,#[x,y],#[t,u]⟩,ty,pos,af,g⟩ K s = if amark tr d0 = true then okK (aappA P s d0 t u (av s.t x) (av s.t y)) K else
    okK (aapp P s ⟨some d0,.call ⟨.builtin .append,#[x,y],#[t,u]⟩,ty,pos,af,g⟩) K:=by
  by_cases hm:amark tr d0 = true
  · rw [if_pos hm]
    refine congrArg (okK · K) ((astepD_hard (o:=⟨some d0,.call ⟨.builtin .append,#[x,y],#[t,u]⟩,ty,pos,af,g⟩) ?_ rfl (fun _=>rfl)).trans ?_)
    · show (!(amark tr d0)) = false
      rw [hm]; rfl
    · show (if amark tr d0 = true then (if amark tr d0 = true then aappA P s d0 t u (av s.t x) (av s.t y) else none) else _) = _
      rw [if_pos hm,if_pos hm]
  · rw [if_neg hm]
    have e:∀ s:ASt,astep P tr s ⟨some d0,.call ⟨.builtin .append,#[x,y],#[t,u]⟩,ty,pos,af,g⟩ = aapp P s ⟨some d0,.call ⟨.builtin .append,#[x,y],#[t,u]⟩,ty,pos,af,g⟩:=by
      intro s
      show (if amark tr d0 = true then _ else _) = _
      rw [if_neg hm]
    refine congrArg (okK · K) ((astepD_free (o:=⟨some d0,.call ⟨.builtin .append,#[x,y],#[t,u]⟩,ty,pos,af,g⟩) ?_ (fun H=>?_) (fun s' h=>?_)).trans (e s))
    · show (!(amark tr d0)) = true
      simpa using hm
    · rw [e,e]; exact aapp_H
    · rw [e] at h; exact aapp_sH h
@[simp] theorem exec_copy {dst:Option Nat} {x y:Operand} {t u:TypeId}:execK P tr d ⟨dst,.call ⟨.builtin .copy,#[x,y],#[t,u]⟩,ty,pos,af,g⟩ K s = okK (acopy P s dst t (av s.t x) (av s.t y)) K:=congrArg (okK · K) (astepD_hard (o:=⟨dst,.call ⟨.builtin .copy,#[x,y],#[t,u]⟩,ty,pos,af,g⟩) rfl rfl (fun _=>rfl))
@[simp] theorem exec_clear {dst:Option Nat} {x:Operand} {t:TypeId}:execK P tr d ⟨dst,.call ⟨.builtin .clear,#[x],#[t]⟩,ty,pos,af,g⟩ K s = okK (aclear P s dst t (av s.t x)) K:=congrArg (okK · K) (astepD_hard (o:=⟨dst,.call ⟨.builtin .clear,#[x],#[t]⟩,ty,pos,af,g⟩) rfl rfl (fun _=>rfl))
@[simp] theorem exec_move {x:Operand}:execK P tr d ⟨dst,.move x,ty,pos,af,g⟩ K s = okK (match aeff P tr s ⟨dst,.move x,ty,pos,af,g⟩ with | some s'=>some s' | none=>some (s.put dst (av s.t x).dis)) K:=by
  refine congrArg (okK · K) ((astepD_free (o:=⟨dst,.move x,ty,pos,af,g⟩) rfl (fun H=>?_) (fun s' h=>?_)).trans rfl)
  · show (match aeff P tr ⟨s.t,H⟩ _ with | some s'=>some s' | none=>some ((⟨s.t,H⟩:ASt).put dst (av s.t x).dis)) = (match aeff P tr s _ with | some s'=>some s' | none=>some (s.put dst (av s.t x).dis)).map _
    rw [aeff_move_H]
    cases aeff P tr s ⟨dst,.move x,ty,pos,af,g⟩ with
    | none=>cases dst <;> rfl
    | some s'=>rfl
  · have h':(match aeff P tr s ⟨dst,.move x,ty,pos,af,g⟩ with | some s'=>some s' | none=>some (s.put dst (av s.t x).dis)) = some s':=h
    split at h'
    · rename_i s2 e
      injection h' with h'
      subst h'
      exact aeff_move_sH e
    · injection h' with h'
      subst h'
      cases dst <;> rfl
@[simp] theorem exec_load {t:TypeId} {x:Operand}:execK P tr none ⟨dst,.load t x,ty,pos,af,g⟩ K s = okK (match aeff P tr s ⟨dst,.load t x,ty,pos,af,g⟩ with | some s'=>some s' | none=>(aloadp (tk P t) s.H (av s.t x)).map (s.put dst ·)) K:=Eq.trans rfl rfl
@[simp] theorem exec_load_open {t:TypeId} {x:Operand} {v:Vw} {d:Nat}:execK P tr (some v) ⟨some d,.load t x,ty,pos,af,g⟩ K s = if tr.contains d = true then (if seenOk v tr s ⟨some d,.load t x,ty,pos,af,g⟩ = true then okK (match aeff P tr s ⟨some d,.load t x,ty,pos,af,g⟩ with | some s'=>some s' | none=>(aloadp (tk P t) s.H (av s.t x)).map (s.put (some d) ·)) K else False) else
    okK ((aloadp (tk P t) (vis v s.H) (av s.t x)).map (s.put (some d) ·)) K:=by
  by_cases hc:tr.contains d = true
  · rw [if_pos hc]
    have hm:mild tr ⟨some d,.load t x,ty,pos,af,g⟩ = false:=by simp only [mild,hc]; rfl
    by_cases hs:seenOk v tr s ⟨some d,.load t x,ty,pos,af,g⟩ = true
    · rw [if_pos hs]
      refine congrArg (okK · K) ?_
      simp only [astepD,hm,Bool.false_eq_true,if_false,hs,if_true]
      rfl
    · rw [if_neg hs]
      have:astepD P tr (some v) s ⟨some d,.load t x,ty,pos,af,g⟩ = none:=by
        simp only [astepD,hm,Bool.false_eq_true,if_false,hs]
      show okK (astepD P tr (some v) s ⟨some d,.load t x,ty,pos,af,g⟩) K = False
      rw [this]
      rfl
  · rw [if_neg hc]
    have hm:mild tr ⟨some d,.load t x,ty,pos,af,g⟩ = true:=by simp only [mild]; simpa using hc
    refine congrArg (okK · K) ?_
    simp only [astepD,hm,if_true]
    have ha:∀ s:ASt,aeff P tr s ⟨some d,.load t x,ty,pos,af,g⟩ = none:=by
      intro s
      unfold aeff
      simp only
      split
      · rename_i e1 e2; injection e1 with e1; subst e1; rw [if_neg hc]
      · rfl
    have hb:∀ s:ASt,astep P tr s ⟨some d,.load t x,ty,pos,af,g⟩ = (aloadp (tk P t) s.H (av s.t x)).map (s.put (some d) ·):=by
      intro s
      show (match aeff P tr s ⟨some d,.load t x,ty,pos,af,g⟩ with | some s'=>some s' | none=>(aval P s (.load t x)).map (s.put (some d) ·)) = _
      rw [ha]; rfl
    rw [hb]
    cases aloadp (tk P t) (vis v s.H) (av s.t x) <;> rfl
@[simp] theorem vw_nil {all:Array Oper} {h:Nat}:vw [] all h = (h,[],[]):=Eq.trans rfl rfl
@[simp] theorem vis_nil {h:Nat} {H:List (List AVal)}:vis (h,[],[]) H = H.take h:=Eq.trans rfl rfl
@[simp] theorem vis_cons {h e:Nat} {E E':List Nat} {H:List (List AVal)}:vis (h,e :: E,E') H = hmask (e :: (E ++ E')) 0 (H.take h):=Eq.trans rfl rfl
@[simp] theorem vis_cons' {h e:Nat} {E:List Nat} {H:List (List AVal)}:vis (h,[],e :: E) H = hmask (e :: E) 0 (H.take h):=Eq.trans rfl rfl
@[simp] theorem giftB_nil {dst:Option Nat} {d:Option Vw}:giftB [] dst d = false:=by
  unfold giftB
  split <;> rfl
@[simp] theorem giftB_open {i:Nat} {h:Vw}:giftB tr (some i) (some h) = (tr.contains (i + 400000) && (tr.contains (i + 200000) && !(h.2.2.contains 900000))):=Eq.trans rfl rfl
@[simp] theorem giftB_none {d:Option Vw}:giftB tr none d = false:=Eq.trans rfl rfl
@[simp] theorem giftB_some {i:Nat}:giftB tr (some i) none = tr.contains (i + 400000):=Eq.trans rfl rfl
@[simp] theorem GiftK_tmp {f:FuncId} {t:Nat} {rest:List Operand} {K:ASt → Prop} {dst:Option Nat}:GiftK P f [] (.tmp t :: rest) [] dst K s = ∃ x H',CFunO P f (s.t t :: rest.map fun y=>(av s.t y).dis) s.H x H' ∧ K ⟨((ASt.mk (upd s.t t (s.t t).dis) s.H).put dst x).t,H'⟩:=Eq.trans rfl rfl
@[simp] theorem kd_none {dst:Option Nat}:kd tr dst none = none:=by
  unfold kd
  split
  · split <;> rfl
  · rfl
@[simp] theorem kd_nil {dst:Option Nat} {d:Option Vw}:kd [] dst d = d:=by
  unfold kd
  split <;> rfl
@[simp] theorem kd_some {i:Nat} {d:Option Vw}:kd tr (some i) d = if tr.contains (i + 200000) = true then none else d:=Eq.trans rfl rfl
@[simp] theorem Keep_none {H H':List (List AVal)}:Keep none H H' = True:=Eq.trans rfl rfl
@[simp] theorem Keep_some {v:Vw} {H H':List (List AVal)}:Keep (some v) H H' = (vis v H' = vis v H ∧ H.length ≤ H'.length):=Eq.trans rfl rfl
@[simp] theorem hideD_none {H:List (List AVal)}:hideD none H = H:=Eq.trans rfl rfl
@[simp] theorem hideD_some {v:Vw} {H:List (List AVal)}:hideD (some v) H = hideL v.2.2 H:=Eq.trans rfl rfl
@[simp] theorem showD_none {H H':List (List AVal)}:showD none H H' = H':=Eq.trans rfl rfl
@[simp] theorem showD_some {v:Vw} {H H':List (List AVal)}:showD (some v) H H' = showL v.2.2 H H':=Eq.trans rfl rfl
@[simp] theorem exec_call {fo:Operand} {as:Array Operand} {ts:Array TypeId}:execK P tr d ⟨dst,.call ⟨.value fo,as,ts⟩,ty,pos,af,g⟩ K s = match av s.t fo with
  | .fn f fs cs=>if giftB tr dst d = true then GiftK P f fs as.toList cs dst K s else if floB d = true then FloK P f (fs ++ as.toList.map (fun x=>(av s.t x).dis) ++ cs) dst K s else if floC d = true then FloCK P (kd tr dst d) f (fs ++ as.toList.map (fun x=>(av s.t x).dis) ++ cs) dst K s else CallK P (kd tr dst d) f (fs ++ as.toList.map (fun x=>(av s.t x).dis) ++ cs) dst K s
  | _=>False:=Eq.trans rfl rfl
end
@[simp] theorem tree_undef :AVal.tree (.undef ) = false:=rfl
@[simp] theorem scalar_undef :AVal.scalar (.undef ) = false:=rfl
@[simp] theorem tree_bool (b:Bool):AVal.tree (.bool b) = true:=rfl
@[simp] theorem scalar_bool (b:Bool):AVal.scalar (.bool b) = true:=rfl
@[simp] theorem tree_ubool :AVal.tree (.ubool ) = true:=rfl
@[simp] theorem scalar_ubool :AVal.scalar (.ubool ) = true:=rfl
@[simp] theorem tree_int (k:IntKind) (n:Int):AVal.tree (.int k n) = true:=rfl
@[simp] theorem scalar_int (k:IntKind) (n:Int):AVal.scalar (.int k n) = true:=rfl
@[simp] theorem tree_nilp :AVal.tree (.nilp ) = true:=rfl
@[simp] theorem scalar_nilp :AVal.scalar (.nilp ) = true:=rfl
@[simp] theorem tree_ptr (id off:Nat):AVal.tree (.ptr id off) = false:=rfl
@[simp] theorem scalar_ptr (id off:Nat):AVal.scalar (.ptr id off) = true:=rfl
@[simp] theorem tree_osl (id off len:Nat) (cap:Option Nat) (k:Nat):AVal.tree (.osl id off len cap k) = false:=rfl
@[simp] theorem scalar_osl (id off len:Nat) (cap:Option Nat) (k:Nat):AVal.scalar (.osl id off len cap k) = true:=rfl
@[simp] theorem tree_iptr (cs:List AVal) (off:Nat):AVal.tree (.iptr cs off) = false:=rfl
@[simp] theorem scalar_iptr (cs:List AVal) (off:Nat):AVal.scalar (.iptr cs off) = true:=rfl
@[simp] theorem tree_nilf :AVal.tree (.nilf ) = true:=rfl
@[simp] theorem scalar_nilf :AVal.scalar (.nilf ) = true:=rfl
@[simp] theorem tree_fn (f:FuncId) (a b:List AVal):AVal.tree (.fn f a b) = false:=rfl
@[simp] theorem scalar_fn (f:FuncId) (a b:List AVal):AVal.scalar (.fn f a b) = true:=rfl
@[simp] theorem tree_agg (cs:List AVal):AVal.tree (.agg cs) = false:=rfl
@[simp] theorem scalar_agg (cs:List AVal):AVal.scalar (.agg cs) = false:=rfl
@[simp] theorem tree_mix (cs:List AVal):AVal.tree (.mix cs) = false:=rfl
@[simp] theorem scalar_mix (cs:List AVal):AVal.scalar (.mix cs) = false:=rfl
@[simp] theorem tree_tup (vs:List AVal):AVal.tree (.tup vs) = false:=rfl
@[simp] theorem scalar_tup (vs:List AVal):AVal.scalar (.tup vs) = false:=rfl
@[simp] theorem tree_sl (k:Nat) (xs:List AVal) (m:Mode):AVal.tree (.sl k xs m) = true:=rfl
@[simp] theorem scalar_sl (k:Nat) (xs:List AVal) (m:Mode):AVal.scalar (.sl k xs m) = true:=rfl
@[simp] theorem tree_str (bs:List Int):AVal.tree (.str bs) = true:=rfl
@[simp] theorem scalar_str (bs:List Int):AVal.scalar (.str bs) = true:=rfl
attribute [simp] hmask hideL showL floB floC stOk seenOk oload hasCode vw codes abytes amark acopy aclear aappA aappM aappR asrc acapOf isNilSl nilb anil acap frzS frzC frzN frzV frz1 frz0 fmode fzI fzF mixN aval aeff absl abslR amk amkR aapp aload aloadp abin aint abit ashift BinOp.isShift aun afield afieldAddr aindexAddr aindex alen amin amax aslice abnd albnd abuild abuildK afill afillM setR AVal.dis AVal.cells AVal.part AVal.isMix AVal.stow AVal.isOwn acmp isTmp LoopPost ares ares1 retOk retK LeV LeS LeC All2 low low0 low00 Le LeLook LeCells LeBoxes
end Go.Am
