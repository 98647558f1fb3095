/- The abstract machine, part twelve: what a call of a function comes to, and a call's place in a caller. -/
import Derived.Test.YtapgoboiljjecaaGreatDoorAmK
namespace Go.Am
open Go
set_option linter.unusedSectionVars false
variable [Globs]
def Enterable (P:Program) (f:FuncId):Prop:=∃ fn,P.funcs[f]? = some fn ∧ (fn.name == "runtime.NumGoroutine") = false ∧ fn.body.isNone = false
def CPost (G:Gh) (w:World) (H:List (List AVal)) (x:AVal) (H':List (List AVal)) (e:Ending) (w':World):Prop :=
 ∃ v G',e = .returned v ∧ Ext H.length G.Tch G w G' w' ∧ SR G' H' w' ∧ Rep H'.length G'.r G'.F x v ∧ OwnAt G' w' .ret x v ∧ (∀ b i,G'.K b ≠ some (.tmp i)) ∧ H.length ≤ H'.length
def CFun (P:Program) (f:FuncId) (args:List AVal) (H:List (List AVal)) (x:AVal) (H':List (List AVal)):Prop :=
 Enterable P f ∧ ∀ (G:Gh) (w:World) (cargs:Array Value),SR G H w → (∀ b i,G.K b ≠ some (.tmp i)) → (∀ b,G.K b ≠ some .ret) → cargs.size = args.length →
   (∀ (i:Nat) (y:AVal) (v:Value),args[i]? = some y → cargs[i]? = some v → Rep H.length G.r G.F y v) → Calls P f cargs w (CPost G w H x H')
def EFun (P:Program) (f:FuncId) (args:List AVal) (H:List (List AVal)) (x:AVal):Prop :=
 x.isOwn = false ∧ ∀ (G:Gh) (w:World) (cargs:Array Value),SR G H w → cargs.size = args.length → (∀ (i:Nat) (y:AVal) (v:Value),args[i]? = some y → cargs[i]? = some v → Rep H.length G.r G.F y v) →
   ∃ v,(callFunc f cargs).run P w = .ok (.value v) w ∧ Rep H.length G.r G.F x v
def CAny (P:Program) (f:FuncId) (args:List AVal) (H:List (List AVal)) (x:AVal) (H':List (List AVal)):Prop:=CFun P f args H x H' ∨ (H' = H ∧ EFun P f args H x)
section
variable {P:Program} {n m:Nat} {G0:Gh} {w0:World} {s:ASt} {G:Gh} {a:Act} {w:World}
def Gh.away (G:Gh):Gh:={ G with K:=fun b=>match G.K b with
 | some (.tmp _)=>some .far
 | some .ret=>some .far
 | x=>x }
theorem away_tch (G:Gh) (b:Nat):G.away.Tch b ↔ G.Tch b:=by
 unfold Gh.Tch Gh.away
 simp only
 constructor
 · rintro (⟨id,e⟩ | ⟨id,j,e⟩)
   · left; refine ⟨id,?_⟩; split at e <;> first | (cases e; done) | exact e
   · right; refine ⟨id,j,?_⟩; split at e <;> first | (cases e; done) | exact e
 · rintro (⟨id,e⟩ | ⟨id,j,e⟩)
   · left; exact ⟨id,by rw [e]⟩
   · right; exact ⟨id,j,by rw [e]⟩
theorem SR.away {G:Gh} {H:List (List AVal)} {w:World} (h:SR G H w):SR G.away H w:=by
 refine ⟨h.frz,fun id cs hid hne=>?_,fun b hb=>?_⟩
 · obtain ⟨c,T,h1,h2,h3,h4,h5⟩:=h.box id cs hid hne
   refine ⟨c,T,h1,h2,?_,h4,fun j x v hx hv=>⟨(h5 j x v hx hv).1,?_⟩⟩
   · show (match G.K (G.r id).1 with | some (.tmp _)=>some Pos.far | some .ret=>some .far | x=>x) = _
     rw [h3]
   · intro k xs ad len cap f1 f2 f3
     obtain ⟨g1,g2⟩:=(h5 j x v hx hv).2 k xs ad len cap f1 f2 f3
     refine ⟨?_,g2⟩
     show (match G.K ad.block with | some (.tmp _)=>some Pos.far | some .ret=>some .far | x=>x) = _
     rw [g1]
 · show (match G.K b with | some (.tmp _)=>some Pos.far | some .ret=>some .far | x=>x) = none
   rw [h.new b hb]
def toDst (dst:Option Nat):Option Pos → Option Pos
 | some .ret=>match dst with
   | some d=>some (.tmp d)
   | none=>some .far
 | x=>x
noncomputable def Gh.back (G:Gh) (w:World) (dst:Option Nat) (G':Gh):Gh :=
 { G' with K:=fun b=>@ite _ (b < w.heap.size ∧ ¬ (G.Tch b)) (Classical.propDecidable _) (G.K b) (toDst dst (G'.K b)) }
theorem call_back (h:R n m G0 w0 s G a w) (dst:Option Nat) (hd:∀ i:Nat,dst = some i → i < n) {x:AVal} {v:Value} {H':List (List AVal)} {G':Gh} {w':World}
   (he:Ext s.H.length G.away.Tch G.away w G' w') (hs:SR G' H' w') (hx:Rep H'.length G'.r G'.F x v) (ho:OwnAt G' w' .ret x v) (hH:s.H.length ≤ H'.length) :
   R n m G0 w0 ⟨(s.put dst x).t,H'⟩ (G.back w dst G') (a.put dst v) w':=by
 have hK:∀ b,b < w.heap.size → ¬ (G.Tch b) → (G.back w dst G').K b = G.K b:=fun b h1 h2=>if_pos ⟨h1,h2⟩
 have hK':∀ b p,G'.K b = some p → (G.away.K b = some p → b < w.heap.size → ¬ (G.Tch b) → False) → (G.back w dst G').K b = toDst dst (some p):=by
   intro b p hp hq
   unfold Gh.back
   simp only
   by_cases e:b < w.heap.size ∧ ¬ (G.Tch b)
   · exfalso
     have:=(he.old b e.1 (fun t=>e.2 ((away_tch G b).1 t))).2.1
     exact hq (by rw [← this,hp]) e.1 e.2
   · rw [if_neg e,hp]
 have notch:∀ b p,G.away.K b = some p → (∃ id,p = .box id) ∨ (∃ id j,p = .cell id j) → G.Tch b:=by
   intro b p hp hh
   refine (away_tch G b).1 ?_
   rcases hh with ⟨id,e⟩ | ⟨id,j,e⟩
   · subst e; exact .inl ⟨id,hp⟩
   · subst e; exact .inr ⟨id,j,hp⟩
 have mono:∀ {x v},Rep s.H.length G.r G.F x v → Rep H'.length (G.back w dst G').r (G.back w dst G').F x v:=fun hx=>hx.mono hH he.rho he.mono
 have ownd:∀ d,dst = some d → OwnAt (G.back w dst G') w' (.tmp d) x v:=by
   intro d hdd k xs ad len cap f1 f2 f3
   obtain ⟨g1,g2⟩:=ho k xs ad len cap f1 f2 f3
   refine ⟨?_,g2⟩
   rw [hK' _ _ g1 (fun e _ _=>by
     have:(match G.K ad.block with | some (.tmp _)=>some Pos.far | some .ret=>some .far | x=>x) = some .ret:=e
     split at this <;> first | (cases this; done) | (rename_i e1 e2; exact e2 this))]
   subst hdd
   rfl
 refine h.build (s':=⟨(s.put dst x).t,H'⟩) ?_ ?_ hH (by rw [put_tmps]; exact h.sz) (by rw [put_defers]; exact h.dfr) (fun i hi=>?_) (fun i u hu=>?_)
 · refine ⟨he.os,he.tape,he.output,he.size,he.rho,he.mono,fun b hb ht=>?_⟩
   have hnt:¬ G.Tch b:=fun t=>ht (.inl t)
   obtain ⟨e1,e2,e3⟩:=he.old b hb (fun t=>hnt ((away_tch G b).1 t))
   exact ⟨e1,hK b hb hnt,e3⟩
 · refine ⟨hs.frz,fun id cs hid hne=>?_,fun b hb=>?_⟩
   · obtain ⟨c,T,h1,h2,h3,h4,h5⟩:=hs.box id cs hid hne
     refine ⟨c,T,h1,h2,?_,h4,fun j x v hx hv=>⟨(h5 j x v hx hv).1,?_⟩⟩
     · have:=hK' _ _ h3 (fun e _ e2=>(e2 (notch _ _ e (.inl ⟨_,rfl⟩))).elim)
       exact this
     · intro k xs ad len cap f1 f2 f3
       obtain ⟨g1,g2⟩:=(h5 j x v hx hv).2 k xs ad len cap f1 f2 f3
       refine ⟨?_,g2⟩
       have:=hK' _ _ g1 (fun e _ e2=>(e2 (notch _ _ e (.inr ⟨_,_,rfl⟩))).elim)
       exact this
   · have:=he.size
     unfold Gh.back
     simp only
     rw [if_neg (by omega),hs.new b hb]
     rfl
 · cases dst with
   | none=>exact h.out i hi
   | some d =>
     simp only [ASt.put,upd]
     have:=hd d rfl
     rw [if_neg (by omega)]
     exact h.out i hi
 · have old:∀ i u,a.tmps[i]? = some u → Rep H'.length (G.back w dst G').r (G.back w dst G').F (s.t i) u ∧ OwnAt (G.back w dst G') w' (.tmp i) (s.t i) u:=by
     intro i u hu
     obtain ⟨t1,t2⟩:=h.tmp i u hu
     refine ⟨mono t1,fun k xs ad len cap f1 f2 f3=>?_⟩
     obtain ⟨g1,g2,g3,g4,c,T,g5,g6⟩:=t2 k xs ad len cap f1 f2 f3
     have hlt:=(Array.getElem?_eq_some_iff.1 g5).1
     have hnt:¬ G.Tch ad.block:=by
       rintro (⟨id,e⟩ | ⟨id,j,e⟩) <;> rw [g1] at e <;> cases e
     obtain ⟨e1,e2,e3⟩:=he.old _ hlt (fun t=>hnt ((away_tch G _).1 t))
     exact ⟨by rw [hK _ hlt hnt]; exact g1,g2,g3,fun o ho=>(e3 o).trans (g4 o ho),c,T,e1.trans g5,g6⟩
   cases dst with
   | none=>exact old i u hu
   | some d =>
     simp only [Act.put,Array.getElem?_setIfInBounds] at hu
     by_cases hi:d = i
     · subst hi
       have hlt:d < a.tmps.size:=by rw [h.sz]; exact hd d rfl
       simp only [if_true,hlt,Option.some.injEq] at hu
       subst hu
       simp only [ASt.put,upd,if_true]
       exact ⟨hx,ownd d rfl⟩
     · rw [if_neg hi] at hu
       simp only [ASt.put,upd]
       rw [if_neg (fun e=>hi e.symm)]
       exact old i u hu
def cargs (s:ASt) (fs:List AVal) (as:List Operand) (cs:List AVal):List AVal:=fs ++ as.map (fun x=>(av s.t x).dis) ++ cs
theorem call_sound (h:R n m G0 w0 s G a w) {o:Oper} (hd:∀ i:Nat,o.dst = some i → i < n) {c:Call} (hop:o.op = .call c) {fo:Operand} (hc:c.callee = .value fo) {f:FuncId} {fs cs:List AVal}
   (hf:av s.t fo = .fn f fs cs) {x:AVal} {H':List (List AVal)} (hcf:CAny P f (cargs s fs c.args.toList cs) s.H x H') {K:Act → World → Prop} {Q:Exit → Act → World → Prop}
   (hK:∀ a' w' G',R n m G0 w0 ⟨(s.put o.dst x).t,H'⟩ G' a' w' → K a' w'):o.wp P a w K Q:=by
 have hg:=h.get fo
 rw [hf] at hg
 have hfv:∃ fs' cs',a.eval fo = .func (.func f) fs' cs' ∧ fs'.size = fs.length ∧ cs'.size = cs.length ∧ (∀ (i:Nat) (x:AVal) (v:Value),fs[i]? = some x → fs'[i]? = some v → Rep s.H.length G.r G.F x v) ∧
     (∀ (i:Nat) (x:AVal) (v:Value),cs[i]? = some x → cs'[i]? = some v → Rep s.H.length G.r G.F x v):=by
   generalize a.eval fo = v at hg
   cases hg with
   | fn _ _ _ fs' cs' e1 e2 e3 e4=>exact ⟨fs',cs',rfl,e1,e2,e3,e4⟩
   | tree _ _ ht=>cases ht
 obtain ⟨fs',cs',e0,e1,e2,e3,e4⟩:=hfv
 have hargs:∀ (i:Nat) (y:AVal) (v:Value),(cargs s fs c.args.toList cs)[i]? = some y → (fs' ++ c.args.map a.eval ++ cs')[i]? = some v → Rep s.H.length G.r G.F y v:=by
   intro i y v hy hv
   have hv':(fs'.toList ++ c.args.toList.map a.eval ++ cs'.toList)[i]? = some v:=by
     have:(fs' ++ c.args.map a.eval ++ cs').toList[i]? = some v:=by rw [Array.getElem?_toList]; exact hv
     rw [Array.toList_append,Array.toList_append,Array.toList_map] at this
     exact this
   unfold cargs at hy
   have l1:fs'.toList.length = fs.length:=by simpa using e1
   by_cases h1:i < fs.length
   · rw [List.append_assoc,List.getElem?_append_left h1] at hy
     rw [List.append_assoc,List.getElem?_append_left (by omega)] at hv'
     exact e3 i y v hy (by simpa using hv')
   · rw [List.append_assoc,List.getElem?_append_right (by omega)] at hy
     rw [List.append_assoc,List.getElem?_append_right (by omega),l1] at hv'
     by_cases h2:i - fs.length < c.args.toList.length
     · rw [List.getElem?_append_left (by simpa using h2)] at hy hv'
       obtain ⟨o',_,f1,f2⟩:=map_get hy hv'
       subst f1 f2
       exact (h.get o').dis
     · rw [List.getElem?_append_right (by simp at h2 ⊢; omega)] at hy hv'
       simp only [List.length_map] at hy hv'
       exact e4 _ y v hy (by simpa using hv')
 have hsz:(fs' ++ c.args.map a.eval ++ cs').size = (cargs s fs c.args.toList cs).length:=by simp [cargs,e1,e2]
 rcases hcf with ⟨⟨fn,hfn,hname,hbody⟩,hcall⟩ | ⟨rfl,hown,hef⟩
 case inr =>
   obtain ⟨v,hr,hv⟩:=hef G w _ h.sr hsz hargs
   have hrun:(execOp a.eval o).run P w = .ok (.value v) w:=by
     rw [Array.append_assoc] at hr
     simp [execOp,hop,resolve,hc,e0,Deferred.ofValue,invoke,hr]
   unfold Oper.wp
   rw [hrun]
   have:=h.put o.dst hd hv hown
   refine hK _ _ G ?_
   cases hdd:o.dst <;> rw [hdd] at this <;> exact this
 have hrun:(execOp a.eval o).run P w = .ok (.enter f (fs' ++ c.args.map a.eval ++ cs')) w:=by
   have h1:¬ fn.name = "runtime.NumGoroutine":=by simpa using hname
   have h2:¬ fn.body = none:=by intro e; rw [e] at hbody; cases hbody
   simp [execOp,hop,resolve,hc,e0,Deferred.ofValue,invoke,callFunc,hfn,h1,h2]
 unfold Oper.wp
 rw [hrun,Oper.upon_enter]
 refine (hcall G.away w (fs' ++ c.args.map a.eval ++ cs') h.sr.away ?_ ?_ ?_ ?_).mono ?_
 · intro b i e
   have:(match G.K b with | some (.tmp _)=>some Pos.far | some .ret=>some .far | x=>x) = some (.tmp i):=e
   split at this <;> first | (cases this; done) | (rename_i e1 e2; exact (e1 _ this))
 · intro b e
   have:(match G.K b with | some (.tmp _)=>some Pos.far | some .ret=>some .far | x=>x) = some .ret:=e
   split at this <;> first | (cases this; done) | (rename_i e1 e2; exact e2 this)
 · exact hsz
 · exact hargs
 · rintro e w' ⟨v,G',rfl,g1,g2,g3,g4,g5,g6⟩
   exact hK _ _ _ (call_back h o.dst hd g1 g2 g3 g4 g6)
def CFunO (P:Program) (f:FuncId) (args:List AVal) (H:List (List AVal)) (x:AVal) (H':List (List AVal)):Prop :=
 Enterable P f ∧ ∀ (G:Gh) (w:World) (cargs:Array Value),SR G H w → (∀ b i,G.K b ≠ some (.tmp i)) → (∀ b,G.K b ≠ some .ret) → cargs.size = args.length →
   (∀ (i:Nat) (y:AVal) (v:Value),args[i]? = some y → cargs[i]? = some v → Rep H.length G.r G.F y v ∧ OwnAt G w (.cell H.length i) y v) → Calls P f cargs w (CPost G w H x H')
theorem R.yield (h:R n m G0 w0 s G a w) (t:Nat):∃ G1:Gh,G1.r = G.r ∧ G1.F = G.F ∧ R n m G0 w0 ⟨upd s.t t (s.t t).dis,s.H⟩ G1 a w ∧
   ∀ v,a.tmps[t]? = some v → Rep s.H.length G.r G.F (s.t t) v ∧ OwnAt G1 w (.cell s.H.length 0) (s.t t) v:=by
 let G1:Gh:={ G with K:=fun b=>if G.K b = some (.tmp t) then some (.cell s.H.length 0) else G.K b }
 have hk:∀ b,G.K b ≠ some (.tmp t) → G1.K b = G.K b:=fun b hb=>if_neg hb
 refine ⟨G1,rfl,rfl,h.build (s':=⟨upd s.t t (s.t t).dis,s.H⟩) ?_ ?_ (Nat.le_refl _) h.sz h.dfr (fun i hi=>?_) (fun i u hu=>?_),fun v hv=>?_⟩
 · exact ⟨rfl,rfl,rfl,Nat.le_refl _,fun _ _=>rfl,Frz.le.refl _,fun b _ hb=>⟨rfl,hk b (fun e=>hb (.inr ⟨t,e⟩)),fun _=>rfl⟩⟩
 · refine ⟨h.sr.frz,fun id cs hid hne=>?_,fun b hb=>?_⟩
   · obtain ⟨c,T,h1,h2,h3,h4,h5⟩:=h.sr.box id cs hid hne
     refine ⟨c,T,h1,h2,?_,h4,fun j x v hx hv=>⟨(h5 j x v hx hv).1,fun k xs ad len cap f1 f2 f3=>?_⟩⟩
     · rw [hk _ (by rw [h3]; simp)]; exact h3
     · obtain ⟨g1,g2⟩:=(h5 j x v hx hv).2 k xs ad len cap f1 f2 f3
       exact ⟨by rw [hk _ (by rw [g1]; simp)]; exact g1,g2⟩
   · rw [hk _ (by rw [h.sr.new b hb]; simp)]; exact h.sr.new b hb
 · simp only [upd]
   split
   · rename_i e; subst e; rw [h.out i hi]; rfl
   · exact h.out i hi
 · obtain ⟨t1,t2⟩:=h.tmp i u hu
   simp only [upd]
   split
   · rename_i e; subst e; exact ⟨t1.dis,OwnAt.of_not (isOwn_dis _)⟩
   · rename_i hne
     refine ⟨t1,fun k xs ad len cap f1 f2 f3=>?_⟩
     obtain ⟨g1,g2⟩:=t2 k xs ad len cap f1 f2 f3
     exact ⟨by rw [hk _ (by rw [g1]; intro e; injection e with e; injection e with e; exact hne e)]; exact g1,g2⟩
 · obtain ⟨t1,t2⟩:=h.tmp t v hv
   refine ⟨t1,fun k xs ad len cap f1 f2 f3=>?_⟩
   obtain ⟨g1,g2⟩:=t2 k xs ad len cap f1 f2 f3
   exact ⟨if_pos g1,g2⟩
def GiftK (P:Program) (f:FuncId) (fs:List AVal) (as:List Operand) (cs:List AVal) (dst:Option Nat) (K:ASt → Prop) (s:ASt):Prop :=
 match fs,as,cs with
 | [],.tmp t :: rest,[]=>∃ x H',CFunO P f (s.t t :: rest.map fun y=>(av s.t y).dis) s.H x H' ∧ K ⟨((ASt.mk (upd s.t t (s.t t).dis) s.H).put dst x).t,H'⟩
 | _,_,_=>False
theorem gift_sound (h:R n m G0 w0 s G a w) {o:Oper} (hd:∀ i:Nat,o.dst = some i → i < n) {c:Call} (hop:o.op = .call c) {fo:Operand} (hc:c.callee = .value fo) {f:FuncId} {t:Nat} {rest:List Operand} (has:c.args.toList = .tmp t :: rest)
   (hf:av s.t fo = .fn f [] []) {x:AVal} {H':List (List AVal)} (hcf:CFunO P f (s.t t :: rest.map fun y=>(av s.t y).dis) s.H x H') {K:Act → World → Prop} {Q:Exit → Act → World → Prop}
   (hK:∀ a' w' G',R n m G0 w0 ⟨((ASt.mk (upd s.t t (s.t t).dis) s.H).put o.dst x).t,H'⟩ G' a' w' → K a' w'):o.wp P a w K Q:=by
 have hg:=h.get fo
 rw [hf] at hg
 have hfv:a.eval fo = .func (.func f) #[] #[]:=by
   generalize a.eval fo = v at hg
   cases hg with
   | fn _ _ _ fs' cs' e1 e2 e3 e4=>rw [Array.size_eq_zero_iff.1 e1,Array.size_eq_zero_iff.1 e2]
   | tree _ _ ht=>cases ht
 obtain ⟨G1,g1r,g1F,h1,hy⟩:=h.yield t
 have hlist:(c.args.map a.eval).toList = a.eval (.tmp t) :: rest.map a.eval:=by rw [Array.toList_map,has]; rfl
 have htn:t < n ∨ s.t t = .undef:=by
   by_cases e:t < n
   · exact .inl e
   · exact .inr (h.out t (by omega))
 have hargs:∀ (i:Nat) (y:AVal) (v:Value),(s.t t :: rest.map fun y=>(av s.t y).dis)[i]? = some y → (c.args.map a.eval)[i]? = some v → Rep s.H.length G1.away.r G1.away.F y v ∧ OwnAt G1.away w (.cell s.H.length i) y v:=by
   intro i y v hy' hv
   have hv':(a.eval (.tmp t) :: rest.map a.eval)[i]? = some v:=by rw [← hlist,Array.getElem?_toList]; exact hv
   have er:G1.away.r = G.r:=g1r
   have eF:G1.away.F = G.F:=g1F
   rw [er,eF]
   cases i with
   | zero =>
     simp at hy' hv'
     subst hy' hv'
     refine ⟨h.get (.tmp t),fun k xs ad len cap f1 f2 f3=>?_⟩
     have htn':t < n:=htn.resolve_right (by rw [f1]; simp)
     have hv0:a.tmps[t]? = some (a.eval (.tmp t)):=by
       have:=h.sz
       simp [Act.eval,Array.getD,this,htn']
     obtain ⟨q1,q2⟩:=(hy _ hv0).2 k xs ad len cap f1 f2 f3
     refine ⟨?_,by rw [eF]; rw [g1F] at q2; exact q2⟩
     show (match G1.K ad.block with | some (.tmp _)=>some Pos.far | some .ret=>some .far | x=>x) = _
     rw [q1]
   | succ i =>
     simp only [List.getElem?_cons_succ] at hy' hv'
     obtain ⟨o',_,f1,f2⟩:=map_get hy' hv'
     subst f1 f2
     exact ⟨(h.get o').dis,OwnAt.of_not (isOwn_dis _)⟩
 have hsz:(c.args.map a.eval).size = (s.t t :: rest.map fun y=>(av s.t y).dis).length:=by
   have:=congrArg List.length hlist
   simpa using this
 obtain ⟨⟨fn,hfn,hname,hbody⟩,hcall⟩:=hcf
 have hrun:(execOp a.eval o).run P w = .ok (.enter f (c.args.map a.eval)) w:=by
   have e1:¬ fn.name = "runtime.NumGoroutine":=by simpa using hname
   have e2:¬ fn.body = none:=by intro e; rw [e] at hbody; cases hbody
   simp [execOp,hop,resolve,hc,hfv,Deferred.ofValue,invoke,callFunc,hfn,e1,e2]
 unfold Oper.wp
 rw [hrun,Oper.upon_enter]
 refine (hcall G1.away w (c.args.map a.eval) h1.sr.away ?_ ?_ hsz hargs).mono ?_
 · intro b i e
   have:(match G1.K b with | some (.tmp _)=>some Pos.far | some .ret=>some .far | x=>x) = some (.tmp i):=e
   split at this <;> first | (cases this; done) | (rename_i e1 e2; exact (e1 _ this))
 · intro b e
   have:(match G1.K b with | some (.tmp _)=>some Pos.far | some .ret=>some .far | x=>x) = some .ret:=e
   split at this <;> first | (cases this; done) | (rename_i e1 e2; exact e2 this)
 · rintro e w' ⟨v,G',rfl,g1,g2,g3,g4,g5,g6⟩
   exact hK _ _ _ (call_back h1 o.dst hd g1 g2 g3 g4 g6)
end
theorem CFun.closed {P:Program} {f:FuncId} {args:List AVal} {x:AVal} (h:CFun P f args [] x []) (ha:args.all noid = true) (hx:noid x = true) (H:List (List AVal)):CFun P f args H x H:=by
 classical
 refine ⟨h.1,fun G w cargs hs hk1 hk2 hz hr=>?_⟩
 let G1:Gh:=⟨G.F,G.r,fun b=>if G.K b = none then none else some .far⟩
 have hK1:∀ b,G1.K b = none ∨ G1.K b = some .far:=fun b=>by
   show (if G.K b = none then none else some Pos.far) = none ∨ (if G.K b = none then none else some Pos.far) = some .far
   split
   · exact .inl rfl
   · exact .inr rfl
 have hs1:SR G1 [] w:=by
   refine ⟨hs.frz,fun i cs' hi _=>by simp at hi,fun b hb=>?_⟩
   show (if G.K b = none then none else some Pos.far) = none
   rw [hs.new b hb]; rfl
 refine (h.2 G1 w cargs hs1 (fun b i e=>by rcases hK1 b with h | h <;> rw [h] at e <;> cases e) (fun b e=>by rcases hK1 b with h | h <;> rw [h] at e <;> cases e) hz (fun i y v hy hv=>noid_rep (hr i y v hy hv) (List.all_eq_true.1 ha y (List.mem_of_getElem? hy)))).mono ?_
 rintro e w' ⟨v,G',rfl,g1,g2,g3,g4,g5,g6⟩
 have hT:∀ b,¬ G1.Tch b:=by
   rintro b (⟨i,e⟩ | ⟨i,j,e⟩) <;> rcases hK1 b with h | h <;> rw [h] at e <;> cases e
 have old:∀ b,b < w.heap.size → w'.heap[b]? = w.heap[b]? ∧ G'.K b = G1.K b ∧ ∀ o,G'.F b o = G.F b o:=fun b hb=>g1.old b hb (hT b)
 let G2:Gh:=⟨G'.F,G.r,fun b=>if b < w.heap.size then G.K b else (match G'.K b with | none=>none | some .ret=>some .ret | _=>some .far)⟩
 have K2:∀ b,b < w.heap.size → G2.K b = G.K b:=fun b hb=>if_pos hb
 refine ⟨v,G2,rfl,⟨g1.os,g1.tape,g1.output,g1.size,fun i _=>rfl,g1.mono,fun b hb _=>⟨(old b hb).1,K2 b hb,(old b hb).2.2⟩⟩,⟨g2.frz,fun i cs' hi hne'=>?_,fun b hb=>?_⟩,noid_rep g3 hx,?_,fun b i hb=>?_,Nat.le_refl _⟩
 · obtain ⟨c',T',h1,h2,h3,h4,h5⟩:=hs.box i cs' hi hne'
   have hlt:=(Array.getElem?_eq_some_iff.1 h1).1
   refine ⟨c',T',by rw [show (G2.r i).1 = (G.r i).1 from rfl,(old _ hlt).1]; exact h1,h2,(K2 _ hlt).trans h3,fun o=>((old _ hlt).2.2 o).trans (h4 o),fun j y u hy hu=>⟨(h5 j y u hy hu).1.mono (Nat.le_refl _) (fun _ _=>rfl) g1.mono,fun k xs ad len cap f1 f2 f3=>?_⟩⟩
   obtain ⟨o1,o2,o3,o4,c'',T'',o5,o6⟩:=(h5 j y u hy hu).2 k xs ad len cap f1 f2 f3
   have hlt':=(Array.getElem?_eq_some_iff.1 o5).1
   exact ⟨(K2 _ hlt').trans o1,o2,o3,fun o ho=>((old _ hlt').2.2 o).trans (o4 o ho),c'',T'',by rw [(old _ hlt').1]; exact o5,o6⟩
 · show (if b < w.heap.size then G.K b else (match G'.K b with | none=>none | some .ret=>some Pos.ret | _=>some .far)) = none
   have:=g1.size
   rw [if_neg (by omega),g2.new b hb]
 · intro k xs ad len cap f1 f2 f3
   obtain ⟨o1,o2⟩:=g4 k xs ad len cap f1 f2 f3
   refine ⟨?_,o2⟩
   have hge:¬ ad.block < w.heap.size:=by
     intro hlt
     have:=(old _ hlt).2.1
     rw [o1] at this
     rcases hK1 ad.block with h | h <;> rw [h] at this <;> cases this
   show (if ad.block < w.heap.size then G.K ad.block else (match G'.K ad.block with | none=>none | some .ret=>some Pos.ret | _=>some .far)) = some .ret
   rw [if_neg hge,o1]
 · have hb':(if b < w.heap.size then G.K b else (match G'.K b with | none=>none | some .ret=>some Pos.ret | _=>some .far)) = some (.tmp i):=hb
   split at hb'
   · exact hk1 b i hb'
   · split at hb' <;> cases hb'
theorem SR.hide {G:Gh} {H:List (List AVal)} {w:World} (h:SR G H w) (id:Nat):∃ G1:Gh,G1.r = G.r ∧ G1.F = G.F ∧ (∀ b,(G.K b = some (.box id) ∨ ∃ j,G.K b = some (.cell id j)) → G1.K b = some .far) ∧
   (∀ b,¬ (G.K b = some (.box id) ∨ ∃ j,G.K b = some (.cell id j)) → G1.K b = G.K b) ∧ SR G1 (H.set id []) w:=by
 classical
 refine ⟨{ G with K:=fun b=>if G.K b = some (.box id) ∨ ∃ j,G.K b = some (.cell id j) then some .far else G.K b },rfl,rfl,fun b hb=>if_pos hb,fun b hb=>if_neg hb,h.frz,fun i cs hi hne=>?_,fun b hb=>?_⟩
 · have hii:i ≠ id:=by
     rintro rfl
     rw [List.getElem?_set] at hi
     split at hi
     · split at hi
       · injection hi with hi; exact hne hi.symm
       · cases hi
     · rename_i e; exact e rfl
   rw [List.getElem?_set_ne (fun e=>hii e.symm)] at hi
   obtain ⟨c,T,h1,h2,h3,h4,h5⟩:=h.box i cs hi hne
   refine ⟨c,T,h1,h2,?_,h4,fun j x v hx hv=>⟨by rw [List.length_set]; exact (h5 j x v hx hv).1,fun k xs ad len cap f1 f2 f3=>?_⟩⟩
   · show (if _ then _ else _) = _
     rw [if_neg ?_]
     · exact h3
     · rw [h3]
       rintro (e | ⟨j,e⟩)
       · injection e with e; injection e with e; exact hii e
       · cases e
   · obtain ⟨g1,g2⟩:=(h5 j x v hx hv).2 k xs ad len cap f1 f2 f3
     refine ⟨?_,g2⟩
     show (if _ then _ else _) = _
     rw [if_neg ?_]
     · exact g1
     · rw [g1]
       rintro (e | ⟨j,e⟩)
       · cases e
       · injection e with e; injection e with e; exact hii e
 · show (if _ then _ else _) = _
   rw [if_neg ?_]
   · exact h.new b hb
   · rw [h.new b hb]; rintro (e | ⟨j,e⟩) <;> cases e
theorem CFun.hide {P:Program} {f:FuncId} {args:List AVal} {H:List (List AVal)} {x:AVal} {H':List (List AVal)} {id:Nat} {cs:List AVal} (h:CFun P f args (H.set id []) x H') (hid:H[id]? = some cs):CFun P f args H x (H'.set id cs):=by
 classical
 refine ⟨h.1,fun G w cargs hs hk1 hk2 hz hr=>?_⟩
 obtain ⟨G1,er,eF,eIn,eOut,hs1⟩:=hs.hide id
 have hl:(H.set id []).length = H.length:=List.length_set
 have t1:∀ b,G1.Tch b → G.Tch b ∧ ¬ (G.K b = some (.box id) ∨ ∃ j,G.K b = some (.cell id j)):=by
   intro b hb
   by_cases e:G.K b = some (.box id) ∨ ∃ j,G.K b = some (.cell id j)
   · exfalso
     rcases hb with ⟨i,hb⟩ | ⟨i,j,hb⟩ <;> rw [eIn b e] at hb <;> cases hb
   · refine ⟨?_,e⟩
     rcases hb with ⟨i,hb⟩ | ⟨i,j,hb⟩
     · exact .inl ⟨i,by rw [← eOut b e]; exact hb⟩
     · exact .inr ⟨i,j,by rw [← eOut b e]; exact hb⟩
 refine (h.2 G1 w cargs hs1 (fun b i hb=>?_) (fun b hb=>?_) hz (fun i y v hy hv=>by rw [hl,er,eF]; exact hr i y v hy hv)).mono ?_
 · by_cases e:G.K b = some (.box id) ∨ ∃ j,G.K b = some (.cell id j)
   · rw [eIn b e] at hb; cases hb
   · rw [eOut b e] at hb; exact hk1 b i hb
 · by_cases e:G.K b = some (.box id) ∨ ∃ j,G.K b = some (.cell id j)
   · rw [eIn b e] at hb; cases hb
   · rw [eOut b e] at hb; exact hk2 b hb
 rintro e w' ⟨v,G',rfl,g1,g2,g3,g4,g5,g6⟩
 rw [hl] at g1 g6
 let S:Nat → Prop:=fun b=>b < w.heap.size ∧ (G.K b = some (.box id) ∨ ∃ j,G.K b = some (.cell id j))
 have farS:∀ b,S b → w'.heap[b]? = w.heap[b]? ∧ G'.K b = some .far ∧ ∀ o,G'.F b o = G.F b o:=by
   rintro b ⟨hb1,hb2⟩
   obtain ⟨q1,q2,q3⟩:=g1.old b hb1 (fun ht=>(t1 b ht).2 hb2)
   exact ⟨q1,by rw [q2]; exact eIn b hb2,fun o=>by rw [q3,eF]⟩
 let G2:Gh:={ G' with K:=fun b=>if S b then G.K b else G'.K b }
 have kS:∀ b,S b → G2.K b = G.K b:=fun b hb=>if_pos hb
 have kN:∀ b,¬ S b → G2.K b = G'.K b:=fun b hb=>if_neg hb
 have nofar:∀ b p,G'.K b = some p → p ≠ .far → ¬ S b:=by
   intro b p hp hne hb
   have:=(farS b hb).2.1
   rw [hp] at this
   injection this with this
   exact hne this
 refine ⟨v,G2,rfl,⟨g1.os,g1.tape,g1.output,g1.size,fun i hi=>(g1.rho i hi).trans (by rw [er]),(by have:=g1.mono; rw [eF] at this; exact this),fun b hb ht=>?_⟩,⟨g2.frz,fun i cs' hi hne=>?_,fun b hb=>?_⟩,?_,?_,?_,?_⟩
 · have hnS:¬ S b:=by
     rintro ⟨_,e | ⟨j,e⟩⟩
     · exact ht (.inl ⟨id,e⟩)
     · exact ht (.inr ⟨id,j,e⟩)
   have hnot:¬ (G.K b = some (.box id) ∨ ∃ j,G.K b = some (.cell id j)):=fun e=>hnS ⟨hb,e⟩
   obtain ⟨q1,q2,q3⟩:=g1.old b hb (fun t=>ht (t1 b t).1)
   exact ⟨q1,by rw [kN b hnS,q2,eOut b hnot],fun o=>by rw [show G2.F = G'.F from rfl,q3,eF]⟩
 · by_cases hii:i = id
   · subst hii
     have hcs:cs' = cs:=by
       rw [List.getElem?_set] at hi
       rw [if_pos rfl] at hi
       split at hi
       · injection hi with hi; exact hi.symm
       · cases hi
     subst hcs
     obtain ⟨c,T,h1,h2,h3,h4,h5⟩:=hs.box i cs' hid hne
     have hlt:i < H.length:=(List.getElem?_eq_some_iff.1 hid).1
     have hrr:G2.r i = G.r i:=(g1.rho i hlt).trans (by rw [er])
     have hB:S (G.r i).1:=⟨(Array.getElem?_eq_some_iff.1 h1).1,.inl h3⟩
     obtain ⟨q1,q2,q3⟩:=farS _ hB
     refine ⟨c,T,by rw [hrr,q1]; exact h1,by rw [hrr]; exact h2,by rw [hrr,kS _ hB]; exact h3,fun o=>by rw [hrr]; exact (q3 o).trans (h4 o),fun j x u hx hu=>?_⟩
     obtain ⟨p1,p2⟩:=h5 j x u hx hu
     refine ⟨by rw [List.length_set]; exact p1.mono g6 (fun i hi=>(g1.rho i hi).trans (by rw [er])) (by have:=g1.mono; rw [eF] at this; exact this),fun k xs ad len cap f1 f2 f3=>?_⟩
     obtain ⟨o1,o2,o3,o4,c',T',o5,o6⟩:=p2 k xs ad len cap f1 f2 f3
     have hB':S ad.block:=⟨(Array.getElem?_eq_some_iff.1 o5).1,.inr ⟨j,o1⟩⟩
     obtain ⟨z1,z2,z3⟩:=farS _ hB'
     exact ⟨by rw [kS _ hB']; exact o1,o2,o3,fun o ho=>(z3 o).trans (o4 o ho),c',T',z1.trans o5,o6⟩
   · rw [List.getElem?_set_ne (fun e=>hii e.symm)] at hi
     obtain ⟨c,T,h1,h2,h3,h4,h5⟩:=g2.box i cs' hi hne
     refine ⟨c,T,h1,h2,by rw [kN _ (nofar _ _ h3 (by simp))]; exact h3,h4,fun j x u hx hu=>?_⟩
     obtain ⟨p1,p2⟩:=h5 j x u hx hu
     refine ⟨by rw [List.length_set]; exact p1,fun k xs ad len cap f1 f2 f3=>?_⟩
     obtain ⟨o1,o2⟩:=p2 k xs ad len cap f1 f2 f3
     exact ⟨by rw [kN _ (nofar _ _ o1 (by simp))]; exact o1,o2⟩
 · have hnS:¬ S b:=by rintro ⟨hb1,_⟩; have:=g1.size; omega
   rw [kN b hnS]; exact g2.new b hb
 · rw [List.length_set]; exact g3
 · intro k xs ad len cap f1 f2 f3
   obtain ⟨o1,o2⟩:=g4 k xs ad len cap f1 f2 f3
   exact ⟨by rw [kN _ (nofar _ _ o1 (by simp))]; exact o1,o2⟩
 · intro b i hb
   by_cases hS:S b
   · rw [kS b hS] at hb; exact hk1 b i hb
   · rw [kN b hS] at hb; exact g5 b i hb
 · rw [List.length_set]; exact g6
theorem EFun.hide {P:Program} {f:FuncId} {args:List AVal} {H:List (List AVal)} {x:AVal} {id:Nat} (h:EFun P f args (H.set id []) x):EFun P f args H x:=by
 refine ⟨h.1,fun G w cargs hs hz hr=>?_⟩
 obtain ⟨G1,er,eF,_,_,hs1⟩:=hs.hide id
 have hl:(H.set id []).length = H.length:=List.length_set
 obtain ⟨v,h1,h2⟩:=h.2 G1 w cargs hs1 hz (fun i y v hy hv=>by rw [hl,er,eF]; exact hr i y v hy hv)
 exact ⟨v,h1,by rw [hl,er,eF] at h2; exact h2⟩
def hideL:List Nat → List (List AVal) → List (List AVal)
 | [],H=>H
 | i :: E,H=>hideL E (H.set i [])
def showL:List Nat → List (List AVal) → List (List AVal) → List (List AVal)
 | [],_,H'=>H'
 | i :: E,H,H'=>(match H[i]? with
   | some cs=>(showL E (H.set i []) H').set i cs
   | none=>showL E (H.set i []) H')
theorem CAny.hide {P:Program} {f:FuncId} {args:List AVal} {x:AVal}:∀ (E:List Nat) (H H':List (List AVal)),CAny P f args (hideL E H) x H' → CAny P f args H x (showL E H H')
 | [],_,_,h=>h
 | i :: E,H,H',h=>by
   have ih:=CAny.hide E (H.set i []) H' h
   simp only [showL]
   cases hi:H[i]? with
   | none =>
     have:H.set i [] = H:=List.set_eq_of_length_le (by simpa using hi)
     rw [this] at ih
     rw [this]
     exact ih
   | some cs =>
     rcases ih with ih | ⟨e,ih⟩
     · exact .inl (ih.hide hi)
     · refine .inr ⟨?_,ih.hide⟩
       simp only
       rw [e,List.set_set]
       have hlt:=(List.getElem?_eq_some_iff.1 hi)
       obtain ⟨h1,h2⟩:=hlt
       rw [← h2,List.set_getElem_self]
end Go.Am
