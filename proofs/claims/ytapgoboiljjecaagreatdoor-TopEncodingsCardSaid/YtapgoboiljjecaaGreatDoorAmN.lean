/- The abstract machine, part fourteen: a region whose order Go leaves open comes to what the text's order comes to. -/
import Derived.Test.YtapgoboiljjecaaGreatDoorAmM
namespace Go.Am
open Go
set_option linter.unusedSectionVars false
variable [Globs]
def rawOf (tr:List Nat) (o:Oper):List Nat :=
 match o.op with
 | .assign (.tmp s)=>[s]
 | .move (.tmp s)=>match o.dst with
   | some d=>if tr.contains d = true then [s] else []
   | none=>[]
 | .call c=>match c.callee,c.args.toList with
   | .builtin .append,.tmp s :: _=>[s]
   | _,_=>[]
 | _=>[]
def wrOf (tr:List Nat) (o:Oper):List Nat:=(match o.dst with | some d=>[d] | none=>[]) ++ rawOf tr o
def opTmps (o:Oper):List Nat:=o.op.operands.toList.filterMap fun | .tmp t=>some t | _=>none
def rdOf (all:Array Oper) (o:Oper):List Nat:=opTmps o ++ (match o.guard with
 | some (j,_)=>match (all[j]?).bind (·.dst) with
   | some q=>[q]
   | none=>[]
 | none=>[])
def wrs (t:Nat → AVal):List (Nat × AVal) → Nat → AVal
 | []=>t
 | (d,x) :: l=>wrs (upd t d x) l
section
variable {P:Program} {tr:List Nat} {all:Array Oper}
theorem av_congr {s u:ASt} {o:Oper} (h:∀ i ∈ opTmps o,u.t i = s.t i) {x:Operand} (hx:x ∈ o.op.operands):av u.t x = av s.t x:=by
 cases x with
 | tmp i=>exact h i (List.mem_filterMap.2 ⟨.tmp i,by simpa using hx,rfl⟩)
 | const v=>rfl
 | global g=>rfl
 | func f=>rfl
theorem map_av_congr {s u:ASt} {o:Oper} (h:∀ i ∈ opTmps o,u.t i = s.t i) (l:List Operand) (hl:∀ x ∈ l,x ∈ o.op.operands):l.map (av u.t) = l.map (av s.t) :=
 List.map_congr_left fun x hx=>av_congr h (hl x hx)
theorem aval_congr {s u:ASt} {o:Oper} (h:∀ i ∈ opTmps o,u.t i = s.t i):aval P u o.op = aval P ⟨s.t,u.H⟩ o.op:=by
 cases hop:o.op with
 | move x=>simp only [aval]; rw [av_congr h (x:=x) (by rw [hop]; simp [Op.operands])]
 | pick c p q=>simp only [aval]; rw [av_congr h (x:=c) (by rw [hop]; simp [Op.operands]),av_congr h (x:=p) (by rw [hop]; simp [Op.operands]),av_congr h (x:=q) (by rw [hop]; simp [Op.operands])]
 | build t parts =>
   simp only [aval]
   congr 1
   refine List.map_congr_left fun p hp=>?_
   rw [av_congr h (x:=p.2) (by rw [hop]; simp only [Op.operands,List.mem_toArray]; exact List.mem_map.2 ⟨p,hp,rfl⟩)]
 | load t x=>simp only [aval]; rw [av_congr h (x:=x) (by rw [hop]; simp [Op.operands])]
 | nilCheck x=>simp only [aval]; rw [av_congr h (x:=x) (by rw [hop]; simp [Op.operands])]
 | binOp op t x y yt=>simp only [aval]; rw [av_congr h (x:=x) (by rw [hop]; simp [Op.operands]),av_congr h (x:=y) (by rw [hop]; simp [Op.operands])]
 | unOp op t x=>simp only [aval]; rw [av_congr h (x:=x) (by rw [hop]; simp [Op.operands])]
 | convert src dst x=>simp only [aval]; rw [av_congr h (x:=x) (by rw [hop]; simp [Op.operands])]
 | makeFunc fn first captured =>
   cases fn with
   | func f =>
     simp only [aval]
     congr 2
     · refine List.map_congr_left fun x hx=>?_
       rw [av_congr h (x:=x) (by rw [hop]; simp only [Op.operands,Array.mem_append]; exact .inl (by simpa using hx))]
     · refine List.map_congr_left fun x hx=>?_
       rw [av_congr h (x:=x) (by rw [hop]; simp only [Op.operands,Array.mem_append]; exact .inr (by simpa using hx))]
   | _=>rfl
 | slice t x lo hi mx =>
   simp only [aval]
   have e:∀ (z:Option Operand),(∀ y,z = some y → y ∈ o.op.operands) → z.map (av u.t) = z.map (av s.t):=by
     intro z hz
     cases z with
     | none=>rfl
     | some y=>simp only [Option.map_some]; rw [av_congr h (hz y rfl)]
   rw [av_congr h (x:=x) (by rw [hop]; simp [Op.operands]),e lo (by rintro y rfl; rw [hop]; simp [Op.operands]),e hi (by rintro y rfl; rw [hop]; simp [Op.operands]),e mx (by rintro y rfl; rw [hop]; simp [Op.operands])]
 | fieldAddr t x i=>simp only [aval]; rw [av_congr h (x:=x) (by rw [hop]; simp [Op.operands])]
 | field t x i=>simp only [aval]; rw [av_congr h (x:=x) (by rw [hop]; simp [Op.operands])]
 | indexAddr t x i=>simp only [aval]; rw [av_congr h (x:=x) (by rw [hop]; simp [Op.operands]),av_congr h (x:=i) (by rw [hop]; simp [Op.operands])]
 | index t x i=>simp only [aval]; rw [av_congr h (x:=x) (by rw [hop]; simp [Op.operands]),av_congr h (x:=i) (by rw [hop]; simp [Op.operands])]
 | extract x i=>simp only [aval]; rw [av_congr h (x:=x) (by rw [hop]; simp [Op.operands])]
 | call c =>
   have hargs:∀ x ∈ c.args.toList,x ∈ o.op.operands:=by
     intro x hx
     rw [hop]
     simp only [Op.operands,Call.operands,Array.mem_append]
     exact .inr (by simpa using hx)
   simp only [aval]
   split
   · split
     · rename_i x t e1 e2
       rw [av_congr h (hargs x (by rw [e1]; simp))]
     · rfl
   · split
     · rename_i x t e1 e2
       rw [av_congr h (hargs x (by rw [e1]; simp))]
     · rfl
   · rw [map_av_congr h _ hargs]
   · rw [map_av_congr h _ hargs]
   · rfl
 | _=>rfl
theorem aval_sub {s u:ASt} {op:Op} {x:AVal} (hH:Sub s.H u.H) (h:aval P s op = some x):aval P ⟨s.t,u.H⟩ op = some x:=by
 cases op with
 | load t y =>
   simp only [aval,aloadp] at h ⊢
   split at h
   · rename_i id off hp
     simp only [Option.bind_eq_some_iff] at h
     obtain ⟨cs,h1,h2⟩:=h
     have hne:cs ≠ []:=by
       rintro rfl
       cases hq:tk P t with
       | none=>rw [hq] at h2; simp [aload] at h2
       | some q =>
         rw [hq] at h2
         obtain ⟨g,sz⟩:=q
         cases g with
         | true=>simp only [aload,List.length_nil] at h2; split at h2 <;> first | omega | (split at h2 <;> first | omega | (cases h2; done))
         | false=>simp [aload] at h2
     simp only [hH _ _ h1 hne,Option.bind_some,h2]
   · rename_i cs off hp
     simp only [h]
   · cases h
 | makeFunc fn a b=>cases fn <;> exact h
 | _=>exact h
def Frame (tr:List Nat) (o:Oper) (f:ASt → ASt → Prop) (s s':ASt):Prop :=
 ∃ W:List (Nat × AVal),(∀ p ∈ W,p.1 ∈ wrOf tr o) ∧ (∀ i ∈ wrOf tr o,i ∈ W.map (·.1) ∨ i ∈ opTmps o) ∧ s' = ⟨wrs s.t W,s.H⟩ ∧
   ∀ u:ASt,Sub s.H u.H → (∀ i ∈ opTmps o,u.t i = s.t i) → f u ⟨wrs u.t W,u.H⟩
theorem raw_sub (o:Oper):∀ i ∈ rawOf tr o,i ∈ opTmps o:=by
 intro i hi
 unfold rawOf at hi
 split at hi
 · rename_i s hop
   simp at hi; subst hi
   exact List.mem_filterMap.2 ⟨.tmp i,by rw [hop]; simp [Op.operands],rfl⟩
 · rename_i s hop
   split at hi
   · split at hi
     · simp at hi; subst hi
       exact List.mem_filterMap.2 ⟨.tmp i,by rw [hop]; simp [Op.operands],rfl⟩
     · simp at hi
   · simp at hi
 · rename_i c hop
   split at hi
   · rename_i s l hc hl
     simp at hi; subst hi
     refine List.mem_filterMap.2 ⟨.tmp i,?_,rfl⟩
     rw [hop]
     simp only [Op.operands,Call.operands,Array.toList_append]
     refine List.mem_append.2 (.inr ?_)
     rw [hl]; simp
   · simp at hi
 · simp at hi
theorem frame_put {o:Oper} {f:ASt → ASt → Prop} {s:ASt} (x:AVal) (hf:∀ u:ASt,Sub s.H u.H → (∀ i ∈ opTmps o,u.t i = s.t i) → f u (u.put o.dst x)):Frame tr o f s (s.put o.dst x):=by
 cases hd:o.dst with
 | none =>
   refine ⟨[],by simp,fun i hi=>.inr (raw_sub (tr:=tr) o i ?_),rfl,fun u h1 h2=>?_⟩
   · unfold wrOf at hi; rw [hd] at hi; simpa using hi
   · have:=hf u h1 h2
     rw [hd] at this
     exact this
 | some d =>
   refine ⟨[(d,x)],by simp [wrOf,hd],fun i hi=>?_,rfl,fun u h1 h2=>?_⟩
   · unfold wrOf at hi
     rw [hd] at hi
     rcases List.mem_append.1 hi with h | h
     · simp at h; left; simp [h]
     · exact .inr (raw_sub o i h)
   · have:=hf u h1 h2
     rw [hd] at this
     exact this
theorem aval_frame {o:Oper} {s s':ASt} (hx:(aval P s o.op).map (s.put o.dst ·) = some s'):Frame tr o (fun u u'=>(aval P u o.op).map (u.put o.dst ·) = some u') s s':=by
 rw [Option.map_eq_some_iff] at hx
 obtain ⟨x,hx,rfl⟩:=hx
 refine frame_put x (fun u h1 h2=>?_)
 rw [aval_congr h2,aval_sub h1 hx]
 rfl
theorem aeff_frame {o:Oper} {s s':ASt} (hm:mild tr o = true) (hx:aeff P tr s o = some s'):Frame tr o (fun u u'=>aeff P tr u o = some u') s s':=by
 unfold aeff at hx
 cases hop:o.op with
 | alloc t=>simp [mild,hop] at hm
 | box t x=>simp [mild,hop] at hm
 | store t x y=>simp [mild,hop] at hm
 | assign x =>
   simp only [hop] at hx
   cases hdd:o.dst with
   | none=>simp only [hdd] at hx; cases hx
   | some d =>
     simp only [hdd] at hx
     cases x with
     | tmp src =>
       have hsrc:src ∈ opTmps o:=List.mem_filterMap.2 ⟨.tmp src,by rw [hop]; simp [Op.operands],rfl⟩
       have hwr:wrOf tr o = [d,src]:=by simp [wrOf,hdd,rawOf,hop]
       simp only at hx
       split at hx
       · cases hx
       rename_i hne
       split at hx
       · rename_i ho
         injection hx with hx
         subst hx
         refine ⟨[(src,(s.t src).dis),(d,s.t src)],by simp [hwr],fun i hi=>.inl (by rw [hwr] at hi; simp at hi ⊢; exact hi.symm),rfl,fun u h1 h2=>?_⟩
         unfold aeff
         simp only [hop,hdd,if_neg hne,h2 src hsrc,ho]
         rfl
       · rename_i ho
         injection hx with hx
         subst hx
         refine ⟨[(d,s.t src)],by simp [hwr],fun i hi=>?_,rfl,fun u h1 h2=>?_⟩
         · rw [hwr] at hi
           simp at hi
           rcases hi with hi | hi
           · left; simp [hi]
           · right; rw [hi]; exact hsrc
         · unfold aeff
           simp only [hop,hdd,if_neg hne,h2 src hsrc,ho]
           rfl
     | const v =>
       injection hx with hx
       subst hx
       exact ⟨[(d,ofC v)],by simp [wrOf,hdd],fun i hi=>by simp [wrOf,hdd,rawOf,hop] at hi; left; simp [hi],rfl,fun u h1 h2=>by unfold aeff; simp only [hop,hdd]; rfl⟩
     | global g =>
       injection hx with hx
       subst hx
       exact ⟨[(d,.iptr ((Globs.tab g).map fun x=>.int x.1 x.2) 0)],by simp [wrOf,hdd],fun i hi=>by simp [wrOf,hdd,rawOf,hop] at hi; left; simp [hi],rfl,fun u h1 h2=>by unfold aeff; simp only [hop,hdd]; rfl⟩
     | func f =>
       injection hx with hx
       subst hx
       exact ⟨[(d,.fn f [] [])],by simp [wrOf,hdd],fun i hi=>by simp [wrOf,hdd,rawOf,hop] at hi; left; simp [hi],rfl,fun u h1 h2=>by unfold aeff; simp only [hop,hdd]; rfl⟩
 | move x =>
   simp only [hop] at hx
   cases hdd:o.dst with
   | none=>simp only [hdd] at hx; cases hx
   | some d =>
     simp only [hdd] at hx
     cases x with
     | tmp src =>
       have hsrc:src ∈ opTmps o:=List.mem_filterMap.2 ⟨.tmp src,by rw [hop]; simp [Op.operands],rfl⟩
       simp only at hx
       split at hx
       case isFalse=>cases hx
       rename_i hc
       injection hx with hx
       subst hx
       have hwr:wrOf tr o = [d,src]:=by simp only [wrOf,hdd,rawOf,hop,hc.1,if_true]; rfl
       refine ⟨[(src,(s.t src).dis),(d,s.t src)],by simp [hwr],fun i hi=>.inl (by rw [hwr] at hi; simp at hi ⊢; exact hi.symm),rfl,fun u h1 h2=>?_⟩
       unfold aeff
       simp only [hop,hdd,h2 src hsrc]
       rw [if_pos hc]
       rfl
     | _=>cases hx
 | load t x =>
   simp only [hop] at hx
   split at hx
   case h_2=>cases hx
   rename_i d id off hdd hptr
   split at hx
   case isFalse=>cases hx
   rename_i hc
   simp [mild,hop,hdd] at hm
   simp at hc
   exact (hm hc).elim
 | _=>simp only [hop] at hx; cases hx
theorem aeff_none_congr {o:Oper} {s u:ASt} (hm:mild tr o = true) (hx:aeff P tr s o = none) (h:∀ i ∈ opTmps o,u.t i = s.t i) (hop:(∃ x,o.op = .move x) ∨ ∃ t x,o.op = .load t x):aeff P tr u o = none:=by
 rcases hop with ⟨x,hop⟩ | ⟨t,x,hop⟩
 · unfold aeff at hx ⊢
   simp only [hop] at hx ⊢
   cases hdd:o.dst with
   | none=>rfl
   | some d =>
     simp only [hdd] at hx ⊢
     cases x with
     | tmp src =>
       have hsrc:src ∈ opTmps o:=List.mem_filterMap.2 ⟨.tmp src,by rw [hop]; simp [Op.operands],rfl⟩
       simp only [h src hsrc] at hx ⊢
       split at hx
       · cases hx
       · rename_i hc; rw [if_neg hc]
     | _=>rfl
 · unfold aeff
   simp only [hop]
   split
   · rename_i d id off hdd hptr
     split
     · rename_i hc
       simp [mild,hop,hdd] at hm
       simp at hc
       exact (hm hc).elim
     · rfl
   · rfl
theorem aapp_frame {o:Oper} {s s':ASt} (hx:aapp P s o = some s'):Frame tr o (fun u u'=>aapp P u o = some u') s s':=by
 have hx0:=hx
 unfold aapp at hx
 split at hx
 case h_2=>cases hx
 rename_i c d hop hdd
 split at hx
 case h_2=>cases hx
 rename_i x y t u hc e1 e2
 split at hx
 · cases hx
 rename_i htu
 split at hx
 case h_2=>cases hx
 rename_i k by_ k1 xs mm k2 ys m2 hk ex ey
 split at hx
 case isFalse=>cases hx
 rename_i hcond
 have hargs:∀ z ∈ c.args.toList,z ∈ o.op.operands:=by
   intro z hz
   rw [hop]
   simp only [Op.operands,Call.operands,Array.mem_append]
   exact .inr (by simpa using hz)
 have gen:∀ v:ASt,Sub s.H v.H → (∀ i ∈ opTmps o,v.t i = s.t i) → ∀ r,(match isTmp x with
     | some src=>if src = d then none else some (⟨upd (if mm = .own then upd v.t src (.sl k1 xs .sh) else v.t) d (.sl k (xs ++ ys) .own),v.H⟩:ASt)
     | none=>some ⟨upd v.t d (.sl k (xs ++ ys) .own),v.H⟩) = r → aapp P v o = r:=by
   intro v h1 h2 r hr
   unfold aapp
   rw [hop,hdd]
   simp only [hc,e1,e2,if_neg htu,hk]
   rw [av_congr h2 (hargs x (by rw [e1]; simp)),av_congr h2 (hargs y (by rw [e1]; simp)),ex,ey]
   simp only [if_pos hcond]
   exact hr
 split at hx
 · rename_i src hsrc
   split at hx
   · cases hx
   rename_i hne
   injection hx with hx
   subst hx
   have hxt:x = .tmp src:=by
     unfold isTmp at hsrc
     split at hsrc
     · injection hsrc with hsrc; subst hsrc; rfl
     · cases hsrc
   subst hxt
   have hwr:wrOf tr o = [d,src]:=by simp [wrOf,hdd,rawOf,hop,hc,e1]
   have hsrcm:src ∈ opTmps o:=List.mem_filterMap.2 ⟨.tmp src,by simpa using hargs (.tmp src) (by rw [e1]; simp),rfl⟩
   by_cases hm:mm = .own
   · subst hm
     refine ⟨[(src,.sl k1 xs .sh),(d,.sl k (xs ++ ys) .own)],by simp [hwr],fun i hi=>.inl (by rw [hwr] at hi; simp at hi ⊢; exact hi.symm),rfl,fun v h1 h2=>gen v h1 h2 _ ?_⟩
     simp only [hsrc,if_neg hne]
     rfl
   · refine ⟨[(d,.sl k (xs ++ ys) .own)],by simp [hwr],fun i hi=>?_,?_,fun v h1 h2=>gen v h1 h2 _ ?_⟩
     · rw [hwr] at hi
       simp at hi
       rcases hi with hi | hi
       · left; simp [hi]
       · right; rw [hi]; exact hsrcm
     · rw [if_neg hm]; rfl
     · simp only [hsrc,if_neg hne,if_neg hm]
       rfl
 · rename_i hsrc
   injection hx with hx
   subst hx
   have hraw:rawOf tr o = []:=by
     unfold rawOf
     rw [hop]
     simp only [hc,e1]
     cases x <;> first | rfl | simp [isTmp] at hsrc
   refine ⟨[(d,.sl k (xs ++ ys) .own)],by simp [wrOf,hdd],fun i hi=>?_,rfl,fun v h1 h2=>gen v h1 h2 _ ?_⟩
   · simp [wrOf,hdd,hraw] at hi; left; simp [hi]
   · simp only [hsrc]
     rfl
theorem absl_frame {o:Oper} {s s':ASt} (hx:absl P s o = some s'):Frame tr o (fun u u'=>absl P u o = some u') s s':=by
 unfold absl at hx
 split at hx
 case h_2=>cases hx
 rename_i t len parts d hop hdd
 split at hx
 case h_2=>cases hx
 rename_i k by_ hk
 split at hx
 case isFalse=>cases hx
 rename_i hc
 injection hx with hx
 subst hx
 refine ⟨[(d,.sl k (parts.toList.map fun p=>(av s.t p.2).dis) .full)],by simp [wrOf,hdd],fun i hi=>by simp [wrOf,hdd,rawOf,hop] at hi; left; simp [hi],rfl,fun u h1 h2=>?_⟩
 have hops:∀ p ∈ parts.toList,av u.t p.2 = av s.t p.2:=fun p hp=>av_congr h2 (x:=p.2) (by rw [hop]; simp only [Op.operands,List.mem_toArray]; exact List.mem_map.2 ⟨p,hp,rfl⟩)
 have hall:(parts.toList.all fun p=>(av u.t p.2).part && (av u.t p.2).cells.length == k) = (parts.toList.all fun p=>(av s.t p.2).part && (av s.t p.2).cells.length == k):=by
   rw [Bool.eq_iff_iff,List.all_eq_true,List.all_eq_true]
   constructor
   · intro h p hp; rw [← hops p hp]; exact h p hp
   · intro h p hp; rw [hops p hp]; exact h p hp
 have hmap:(parts.toList.map fun p=>(av u.t p.2).dis) = parts.toList.map fun p=>(av s.t p.2).dis:=List.map_congr_left fun p hp=>by rw [hops p hp]
 unfold absl
 rw [hop,hdd]
 simp only [hk]
 rw [hall,hmap,if_pos hc]
 rfl
theorem amk_frame {o:Oper} {s s':ASt} (hx:amk P s o = some s'):Frame tr o (fun u u'=>amk P u o = some u') s s':=by
 unfold amk at hx
 split at hx
 case h_2=>cases hx
 rename_i t l c d hop hdd
 split at hx
 case h_2=>cases hx
 rename_i k by_ kl l' kc c' hk el ec
 split at hx
 case isFalse=>cases hx
 rename_i hc
 injection hx with hx
 subst hx
 refine ⟨[(d,.sl k [] .own)],by simp [wrOf,hdd],fun i hi=>by simp [wrOf,hdd,rawOf,hop] at hi; left; simp [hi],rfl,fun u h1 h2=>?_⟩
 unfold amk
 rw [hop,hdd]
 simp only [hk]
 rw [av_congr h2 (x:=l) (by rw [hop]; simp [Op.operands]),av_congr h2 (x:=c) (by rw [hop]; simp [Op.operands]),el,ec]
 simp only [if_pos hc]
 rfl
theorem astep_frame {o:Oper} {s s':ASt} (hm:mild tr o = true) (hx:astep P tr s o = some s'):Frame tr o (fun u u'=>astep P tr u o = some u') s s':=by
 have lift:∀ {f g:ASt → ASt → Prop},(∀ u u',Sub s.H u.H → (∀ i ∈ opTmps o,u.t i = s.t i) → f u u' → g u u') → Frame tr o f s s' → Frame tr o g s s':=by
   rintro f g hfg ⟨W,h1,h2,h3,h4⟩
   exact ⟨W,h1,h2,h3,fun u e1 e2=>hfg _ _ e1 e2 (h4 u e1 e2)⟩
 unfold astep at hx
 cases hop:o.op with
 | call c =>
   simp only [hop] at hx
   split at hx
   · rename_i hc
     have hr:¬ (rowOp tr o = true):=by simpa [mild,hop,hc] using hm
     rw [if_neg hr] at hx
     exact lift (fun u u' _ _ h=>by unfold astep; simp only [hop,hc]; rw [if_neg hr]; exact h) (aapp_frame hx)
   · rename_i hc
     simp [mild,hop,hc] at hm
   · rename_i hc
     simp [mild,hop,hc] at hm
   · rename_i b hb hb2 hb3 hc
     rw [← hop] at hx
     refine lift (fun u u' _ _ h=>?_) (aval_frame hx)
     unfold astep
     simp only [hop,hc]
     rw [hop] at h
     exact h
   · cases hx
 | buildSlice t len parts =>
   simp only [hop] at hx
   have hr:¬ (rowOp tr o = true):=by simpa [mild,hop] using hm
   rw [if_neg hr] at hx
   exact lift (fun u u' _ _ h=>by unfold astep; simp only [hop]; rw [if_neg hr]; exact h) (absl_frame hx)
 | makeSlice t l c =>
   simp only [hop] at hx
   have hr:¬ (rowOp tr o = true):=by simpa [mild,hop] using hm
   rw [if_neg hr] at hx
   exact lift (fun u u' _ _ h=>by unfold astep; simp only [hop]; rw [if_neg hr]; exact h) (amk_frame hx)
 | alloc t=>simp [mild,hop] at hm
 | box t x=>simp [mild,hop] at hm
 | store t x y=>simp [mild,hop] at hm
 | assign x =>
   simp only [hop] at hx
   exact lift (fun u u' _ _ h=>by unfold astep; simp only [hop]; exact h) (aeff_frame hm hx)
 | move x =>
   simp only [hop] at hx
   split at hx
   · rename_i s'' he
     injection hx with hx
     subst hx
     exact lift (fun u u' _ _ h=>by unfold astep; simp only [hop,h]) (aeff_frame hm he)
   · rename_i he
     rw [← hop] at hx
     exact lift (fun u u' _ e2 h=>by unfold astep; simp only [hop,aeff_none_congr hm he e2 (.inl ⟨_,hop⟩)]; rw [hop] at h; exact h) (aval_frame hx)
 | load t x =>
   simp only [hop] at hx
   split at hx
   · rename_i s'' he
     injection hx with hx
     subst hx
     exact lift (fun u u' _ _ h=>by unfold astep; simp only [hop,h]) (aeff_frame hm he)
   · rename_i he
     rw [← hop] at hx
     exact lift (fun u u' _ e2 h=>by unfold astep; simp only [hop,aeff_none_congr hm he e2 (.inr ⟨_,_,hop⟩)]; rw [hop] at h; exact h) (aval_frame hx)
 | _ =>
   simp only [hop] at hx
   rw [← hop] at hx
   exact lift (fun u u' _ _ h=>by unfold astep; simp only [hop]; rw [hop] at h; exact h) (aval_frame hx)
theorem wrs_get (W:List (Nat × AVal)):∀ (t u:Nat → AVal) (i:Nat),(i ∈ W.map (·.1) ∨ t i = u i) → wrs t W i = wrs u W i:=by
 induction W with
 | nil=>intro t u i h; simpa [wrs] using h
 | cons p W ih =>
   intro t u i h
   obtain ⟨d,x⟩:=p
   simp only [wrs]
   refine ih _ _ i ?_
   by_cases e:i ∈ W.map (·.1)
   · exact .inl e
   · right
     simp only [upd]
     by_cases ed:i = d
     · rw [if_pos ed,if_pos ed]
     · rw [if_neg ed,if_neg ed]
       rcases h with h | h
       · simp only [List.map_cons,List.mem_cons] at h
         rcases h with h | h
         · exact (ed h).elim
         · exact (e h).elim
       · exact h
theorem wrs_far (W:List (Nat × AVal)):∀ (t:Nat → AVal) (i:Nat),i ∉ W.map (·.1) → wrs t W i = t i:=by
 induction W with
 | nil=>intro t i _; rfl
 | cons p W ih =>
   intro t i h
   obtain ⟨d,x⟩:=p
   simp only [List.map_cons,List.mem_cons,not_or] at h
   simp only [wrs]
   rw [ih _ i h.2]
   simp only [upd]
   rw [if_neg h.1]
theorem astepD_step {d:Option Vw} (s s':ASt) (o:Oper) (h:astepD P tr d s o = some s'):astep P tr s o = some s':=by
 cases d with
 | none=>exact h
 | some h0 =>
   simp only [astepD] at h
   split at h
   · rename_i hm
     rw [Option.map_eq_some_iff] at h
     obtain ⟨s1,h1,rfl⟩:=h
     obtain ⟨W,f1,f2,f3,f4⟩:=astep_frame hm h1
     subst f3
     exact f4 s (vis_sub _ _) (fun _ _=>rfl)
   · split at h
     · exact h
     · cases h
theorem astepD_frame {h0:Nat} {o:Oper} {s s':ASt} (hm:mild tr o = true) (hx:astepD P tr (some (vw tr all h0)) s o = some s') :
   s'.H = s.H ∧ ∃ W:List (Nat × AVal),(∀ p ∈ W,p.1 ∈ wrOf tr o) ∧ (∀ i ∈ wrOf tr o,i ∈ W.map (·.1) ∨ i ∈ opTmps o) ∧ s' = ⟨wrs s.t W,s.H⟩ ∧
     ∀ u:ASt,vis (vw tr all h0) u.H = vis (vw tr all h0) s.H → (∀ i ∈ opTmps o,u.t i = s.t i) → astepD P tr (some (vw tr all h0)) u o = some ⟨wrs u.t W,u.H⟩:=by
 simp only [astepD,hm,if_true] at hx ⊢
 rw [Option.map_eq_some_iff] at hx
 obtain ⟨s1,h1,rfl⟩:=hx
 obtain ⟨W,f1,f2,f3,f4⟩:=astep_frame hm h1
 subst f3
 refine ⟨rfl,W,f1,f2,rfl,fun u e1 e2=>?_⟩
 have:=f4 ⟨u.t,vis (vw tr all h0) u.H⟩ (by rw [e1]; exact Sub.refl _) e2
 rw [this]
 rfl
theorem step1_frame {h0:Nat} {o:Oper} {s s':ASt} (hm:mild tr o = true) (hs:AStep1 P tr (some (vw tr all h0)) all o s s') :
   Keep (some (vw tr all h0)) s.H s'.H ∧ (vcall o = false → s'.H = s.H) ∧ (∀ i,i ∉ wrOf tr o → s'.t i = s.t i) ∧ ∀ u:ASt,vis (vw tr all h0) u.H = vis (vw tr all h0) s.H → (vcall o = true → u.H = s.H) → (∀ i ∈ rdOf all o,u.t i = s.t i) →
     ∃ u',AStep1 P tr (some (vw tr all h0)) all o u u' ∧ (vcall o = true → u'.H = s'.H) ∧ (vcall o = false → u'.H = u.H) ∧ (∀ i ∈ wrOf tr o,u'.t i = s'.t i) ∧ ∀ i,i ∉ wrOf tr o → u'.t i = u.t i:=by
 have hsub:∀ i ∈ opTmps o,i ∈ rdOf all o:=fun i hi=>List.mem_append.2 (.inl hi)
 have fin:∀ (f:ASt → ASt → Prop) (W:List (Nat × AVal)) (H':List (List AVal)),(∀ p ∈ W,p.1 ∈ wrOf tr o) → (∀ i ∈ wrOf tr o,i ∈ W.map (·.1) ∨ i ∈ opTmps o) → s' = ⟨wrs s.t W,H'⟩ → Keep (some (vw tr all h0)) s.H H' → (vcall o = false → H' = s.H) →
     (∀ u:ASt,vis (vw tr all h0) u.H = vis (vw tr all h0) s.H → (vcall o = true → u.H = s.H) → (∀ i ∈ rdOf all o,u.t i = s.t i) → AStep1 P tr (some (vw tr all h0)) all o u ⟨wrs u.t W,if vcall o = true then H' else u.H⟩) →
     Keep (some (vw tr all h0)) s.H s'.H ∧ (vcall o = false → s'.H = s.H) ∧ (∀ i,i ∉ wrOf tr o → s'.t i = s.t i) ∧ ∀ u:ASt,vis (vw tr all h0) u.H = vis (vw tr all h0) s.H → (vcall o = true → u.H = s.H) → (∀ i ∈ rdOf all o,u.t i = s.t i) →
     ∃ u',AStep1 P tr (some (vw tr all h0)) all o u u' ∧ (vcall o = true → u'.H = s'.H) ∧ (vcall o = false → u'.H = u.H) ∧ (∀ i ∈ wrOf tr o,u'.t i = s'.t i) ∧ ∀ i,i ∉ wrOf tr o → u'.t i = u.t i:=by
   rintro f W H' h1 h2 rfl h3 h4 hf
   have hfar:∀ i,i ∉ wrOf tr o → i ∉ W.map (·.1):=by
     intro i hi hW
     obtain ⟨p,hp,rfl⟩:=List.mem_map.1 hW
     exact hi (h1 p hp)
   refine ⟨h3,h4,fun i hi=>wrs_far W _ i (hfar i hi),fun u e1 e1' e2=>⟨_,hf u e1 e1' e2,fun e=>by simp only [e,if_true],fun e=>by simp only [e,Bool.false_eq_true,if_false],fun i hi=>?_,fun i hi=>wrs_far W _ i (hfar i hi)⟩⟩
   refine wrs_get W _ _ i ?_
   rcases h2 i hi with h | h
   · exact .inl h
   · exact .inr (e2 i (hsub i h))
 have ex:∀ {s'':ASt},AExec P tr (some (vw tr all h0)) o s s'' → ∃ (W:List (Nat × AVal)) (H':List (List AVal)),(∀ p ∈ W,p.1 ∈ wrOf tr o) ∧ (∀ i ∈ wrOf tr o,i ∈ W.map (·.1) ∨ i ∈ opTmps o) ∧ s'' = ⟨wrs s.t W,H'⟩ ∧ Keep (some (vw tr all h0)) s.H H' ∧ (vcall o = false → H' = s.H) ∧
     (∀ u:ASt,vis (vw tr all h0) u.H = vis (vw tr all h0) s.H → (vcall o = true → u.H = s.H) → (∀ i ∈ rdOf all o,u.t i = s.t i) → AExec P tr (some (vw tr all h0)) o u ⟨wrs u.t W,if vcall o = true then H' else u.H⟩):=by
   intro s'' h
   have flo4:∀ {c:Call} {fo:Operand} {f:FuncId} {fs cs:List AVal} {x:AVal},floB (some (vw tr all h0)) = true → o.op = .call c → c.callee = .value fo → av s.t fo = .fn f fs cs → CFun P f (cargs s fs c.args.toList cs) [] x [] → (cargs s fs c.args.toList cs).all noid = true → noid x = true → s'' = s.put o.dst x →
       ∃ (W:List (Nat × AVal)) (H':List (List AVal)),(∀ p ∈ W,p.1 ∈ wrOf tr o) ∧ (∀ i ∈ wrOf tr o,i ∈ W.map (·.1) ∨ i ∈ opTmps o) ∧ s'' = ⟨wrs s.t W,H'⟩ ∧ Keep (some (vw tr all h0)) s.H H' ∧ (vcall o = false → H' = s.H) ∧
         (∀ u:ASt,vis (vw tr all h0) u.H = vis (vw tr all h0) s.H → (vcall o = true → u.H = s.H) → (∀ i ∈ rdOf all o,u.t i = s.t i) → AExec P tr (some (vw tr all h0)) o u ⟨wrs u.t W,if vcall o = true then H' else u.H⟩):=by
     intro c fo f fs cs x h0' h1 h2 h3 h4 h5 h6 h7
     subst h7
     obtain ⟨W,f1,f2,f3,f4⟩:=frame_put (tr:=tr) (o:=o) (f:=fun u u'=>u' = u.put o.dst x) (s:=s) x (fun u _ _=>rfl)
     have hv:vcall o = true:=by simp [vcall,h1,h2]
     refine ⟨W,s.H,f1,f2,f3,⟨rfl,Nat.le_refl _⟩,fun _=>rfl,fun u e1 e1' e2'=>?_⟩
     have e2:∀ i ∈ opTmps o,u.t i = s.t i:=fun i hi=>e2' i (hsub i hi)
     have hops:∀ y ∈ c.operands,y ∈ o.op.operands:=by intro y hy; rw [h1]; exact hy
     have hfo:av u.t fo = av s.t fo:=av_congr e2 (hops fo (by simp [Call.operands,h2]))
     have hca:cargs u fs c.args.toList cs = cargs s fs c.args.toList cs:=by
       unfold cargs
       congr 2
       refine List.map_congr_left fun y hy=>?_
       rw [av_congr e2 (hops y (by simp only [Call.operands,Array.mem_append]; exact .inr (by simpa using hy)))]
     have h9:=f4 u (by rw [e1' hv]; exact Sub.refl _) e2
     refine .inr (.inr (.inr (.inl ⟨h0',c,fo,f,fs,cs,x,h1,h2,by rw [hfo]; exact h3,by rw [hca]; exact h4,by rw [hca]; exact h5,h6,?_⟩)))
     rw [if_pos hv,← h9,e1' hv]
   rcases h with h | ⟨c,fo,f,fs,cs,x,H',⟨h0',h1⟩,h2,h3,h4,h5,h6⟩ | ⟨h,c,fo,_,_,_,_,_,h1,h2,_⟩ | ⟨h0',c,fo,f,fs,cs,x,h1,h2,h3,h4,h5,h6,h7⟩ | ⟨hfc,c,fo,f,fs,cs,x,H',⟨h0',h1⟩,h2,h3,h4,h5,h6⟩
   rotate_left 2
   · rcases h with h | ⟨h,_⟩
     · cases h
     · exfalso
       unfold mild at hm
       rw [h1] at hm
       simp only [h2,h] at hm
       cases hm
   · exact flo4 h0' h1 h2 h3 h4 h5 h6 h7
   · have hv:vcall o = true:=by simp [vcall,h1,h2]
     have hw:wild tr o = false:=by
       unfold mild at hm
       rw [h1] at hm
       simp only [h2] at hm
       simpa using hm
     have hkd:kd tr o.dst (some (vw tr all h0)) = some (vw tr all h0):=by
       unfold wild at hw
       unfold kd
       cases hdd:o.dst with
       | none=>rfl
       | some i=>rw [hdd] at hw; simp only at hw ⊢; rw [hw]; rfl
     rw [hkd] at h5
     subst h6
     have hput:∀ (u:ASt),∃ W:List (Nat × AVal),(∀ p ∈ W,p.1 ∈ wrOf tr o) ∧ (∀ i ∈ wrOf tr o,i ∈ W.map (·.1) ∨ i ∈ opTmps o) ∧ ∀ u:ASt,(u.put o.dst x).t = wrs u.t W:=by
       intro _
       cases hd:o.dst with
       | none =>
         refine ⟨[],by simp,fun i hi=>.inr (raw_sub (tr:=tr) o i ?_),fun _=>rfl⟩
         unfold wrOf at hi; rw [hd] at hi; simpa using hi
       | some d =>
         refine ⟨[(d,x)],by simp [wrOf,hd],fun i hi=>?_,fun _=>rfl⟩
         unfold wrOf at hi
         rw [hd] at hi
         rcases List.mem_append.1 hi with h | h
         · simp at h; left; simp [h]
         · exact .inr (raw_sub o i h)
     obtain ⟨W,f1,f2,f3⟩:=hput s
     refine ⟨W,H',f1,f2,by rw [f3],h5,(fun e=>by rw [hv] at e; cases e),fun u e1 e1' e2'=>?_⟩
     have e2:∀ i ∈ opTmps o,u.t i = s.t i:=fun i hi=>e2' i (hsub i hi)
     have eH:=e1' hv
     have hops:∀ y ∈ c.operands,y ∈ o.op.operands:=by intro y hy; rw [h1]; exact hy
     have hfo:av u.t fo = av s.t fo:=av_congr e2 (hops fo (by simp [Call.operands,h2]))
     have hca:cargs u fs c.args.toList cs = cargs s fs c.args.toList cs:=by
       unfold cargs
       congr 2
       refine List.map_congr_left fun y hy=>?_
       rw [av_congr e2 (hops y (by simp only [Call.operands,Array.mem_append]; exact .inr (by simpa using hy)))]
     refine .inr (.inr (.inr (.inr ⟨hfc,c,fo,f,fs,cs,x,H',⟨h0',h1⟩,h2,by rw [hfo]; exact h3,by rw [hca,eH]; exact h4,by rw [hkd,eH]; exact h5,by rw [if_pos hv,f3]⟩)))
   · obtain ⟨f0,W,f1,f2,f3,f4⟩:=astepD_frame hm h
     subst f3
     refine ⟨W,s.H,f1,f2,rfl,⟨rfl,Nat.le_refl _⟩,fun _=>rfl,fun u e1 e1' e2=>.inl ?_⟩
     rw [f4 u e1 (fun i hi=>e2 i (hsub i hi))]
     by_cases hv:vcall o = true
     · rw [if_pos hv,e1' hv]
     · rw [if_neg hv]
   · have hv:vcall o = true:=by simp [vcall,h1,h2]
     have hw:wild tr o = false:=by
       unfold mild at hm
       rw [h1] at hm
       simp only [h2] at hm
       simpa using hm
     have hkd:kd tr o.dst (some (vw tr all h0)) = some (vw tr all h0):=by
       unfold wild at hw
       unfold kd
       cases hdd:o.dst with
       | none=>rfl
       | some i=>rw [hdd] at hw; simp only at hw ⊢; rw [hw]; rfl
     rw [hkd] at h4 h5 h6
     subst h6
     have hks:Keep (some (vw tr all h0)) s.H (showD (some (vw tr all h0)) s.H H'):=by
       refine ⟨(vis_showL (vw tr all h0) _ _ _ fun i hi=>List.mem_append.2 (.inr hi)).trans h5.1,?_⟩
       show s.H.length ≤ (showL _ s.H H').length
       rw [showL_len]; exact h5.2
     have hput:∀ (u:ASt),∃ W:List (Nat × AVal),(∀ p ∈ W,p.1 ∈ wrOf tr o) ∧ (∀ i ∈ wrOf tr o,i ∈ W.map (·.1) ∨ i ∈ opTmps o) ∧ ∀ u:ASt,(u.put o.dst x).t = wrs u.t W:=by
       intro _
       cases hd:o.dst with
       | none =>
         refine ⟨[],by simp,fun i hi=>.inr (raw_sub (tr:=tr) o i ?_),fun _=>rfl⟩
         unfold wrOf at hi; rw [hd] at hi; simpa using hi
       | some d =>
         refine ⟨[(d,x)],by simp [wrOf,hd],fun i hi=>?_,fun _=>rfl⟩
         unfold wrOf at hi
         rw [hd] at hi
         rcases List.mem_append.1 hi with h | h
         · simp at h; left; simp [h]
         · exact .inr (raw_sub o i h)
     obtain ⟨W,f1,f2,f3⟩:=hput s
     refine ⟨W,showD (some (vw tr all h0)) s.H H',f1,f2,by rw [f3],hks,(fun e=>by rw [hv] at e; cases e),fun u e1 e1' e2'=>?_⟩
     have e2:∀ i ∈ opTmps o,u.t i = s.t i:=fun i hi=>e2' i (hsub i hi)
     have eH:=e1' hv
     have hops:∀ y ∈ c.operands,y ∈ o.op.operands:=by intro y hy; rw [h1]; exact hy
     have hfo:av u.t fo = av s.t fo:=av_congr e2 (hops fo (by simp [Call.operands,h2]))
     have hca:cargs u fs c.args.toList cs = cargs s fs c.args.toList cs:=by
       unfold cargs
       congr 2
       refine List.map_congr_left fun y hy=>?_
       rw [av_congr e2 (hops y (by simp only [Call.operands,Array.mem_append]; exact .inr (by simpa using hy)))]
     refine .inr (.inl ⟨c,fo,f,fs,cs,x,H',⟨h0',h1⟩,h2,by rw [hfo]; exact h3,by rw [hca,hkd,eH]; exact h4,by rw [hkd,eH]; exact h5,by rw [if_pos hv,f3,hkd,eH]⟩)
 unfold AStep1 at hs
 split at hs
 · rename_i hg
   obtain ⟨W,H',f1,f2,f3,f4,f5,f6⟩:=ex hs
   exact fin (fun _ _=>True) W H' f1 f2 f3 f4 f5 (fun u e1 e1' e2=>by unfold AStep1; rw [hg]; exact f6 u e1 e1' e2)
 · rename_i j want hg
   obtain ⟨q,hq,hs⟩:=hs
   have hqr:q ∈ rdOf all o:=by
     unfold rdOf
     rw [hg]
     simp only
     rw [hq]
     exact List.mem_append.2 (.inr (by simp))
   have skip:s' = s.put o.dst (.tup []) → (∀ u:ASt,(∀ i ∈ rdOf all o,u.t i = s.t i) → AStep1 P tr (some (vw tr all h0)) all o u (u.put o.dst (.tup []))) →
       Keep (some (vw tr all h0)) s.H s'.H ∧ (vcall o = false → s'.H = s.H) ∧ (∀ i,i ∉ wrOf tr o → s'.t i = s.t i) ∧ ∀ u:ASt,vis (vw tr all h0) u.H = vis (vw tr all h0) s.H → (vcall o = true → u.H = s.H) → (∀ i ∈ rdOf all o,u.t i = s.t i) →
       ∃ u',AStep1 P tr (some (vw tr all h0)) all o u u' ∧ (vcall o = true → u'.H = s'.H) ∧ (vcall o = false → u'.H = u.H) ∧ (∀ i ∈ wrOf tr o,u'.t i = s'.t i) ∧ ∀ i,i ∉ wrOf tr o → u'.t i = u.t i:=by
     intro hs hstep
     subst hs
     obtain ⟨W,f1,f2,f3,f4⟩:=frame_put (tr:=tr) (o:=o) (f:=fun u u'=>u' = u.put o.dst (.tup [])) (s:=s) (.tup []) (fun u _ _=>rfl)
     refine fin (fun _ _=>True) W s.H f1 f2 f3 ⟨rfl,Nat.le_refl _⟩ (fun _=>rfl) (fun u e1 e1' e2=>?_)
     have h4:∀ u:ASt,(∀ i ∈ opTmps o,u.t i = s.t i) → (⟨wrs u.t W,u.H⟩:ASt) = u.put o.dst (.tup []):=by
       intro u e2
       have:=f4 ⟨u.t,s.H⟩ (Sub.refl _) e2
       have h5:wrs u.t W = (ASt.put ⟨u.t,s.H⟩ o.dst (.tup [])).t:=by rw [← this]
       rw [h5]
       cases o.dst <;> rfl
     have h6:=h4 u (fun i hi=>e2 i (hsub i hi))
     have h7:=hstep u e2
     rw [← h6] at h7
     by_cases hv:vcall o = true
     · rw [if_pos hv,← e1' hv]; exact h7
     · rw [if_neg hv]; exact h7
   rcases hs with ⟨b,hb,hs⟩ | ⟨hb,hs⟩
   · by_cases e:b = want
     · rw [if_pos e] at hs
       obtain ⟨W,H',f1,f2,f3,f4,f5,f6⟩:=ex hs
       exact fin (fun _ _=>True) W H' f1 f2 f3 f4 f5 (fun u e1 e1' e2=>by unfold AStep1; rw [hg]; exact ⟨q,hq,.inl ⟨b,by rw [e2 q hqr]; exact hb,by rw [if_pos e]; exact f6 u e1 e1' e2⟩⟩)
     · rw [if_neg e] at hs
       exact skip hs (fun u e2=>by unfold AStep1; rw [hg]; exact ⟨q,hq,.inl ⟨b,by rw [e2 q hqr]; exact hb,by rw [if_neg e]⟩⟩)
   · exact skip hs (fun u e2=>by unfold AStep1; rw [hg]; exact ⟨q,hq,.inr ⟨by rw [e2 q hqr]; exact hb,rfl⟩⟩)
def disj (l l':List Nat):Bool:=l.all fun i=>!(l'.contains i)
def isAl (o:Oper):Bool :=
 match o.op,o.dst,o.guard with
 | .alloc _,some _,none=>true
 | _,_,_=>false
def isSt (o:Oper):Bool :=
 match o.op,o.dst,o.guard with
 | .store ..,none,none=>true
 | _,_,_=>false
def isCp (q:Oper):Bool :=
 match q.op,q.guard with
 | .call c,none=>(match c.callee,c.args.toList,c.argTypes.toList with
   | .builtin .copy,[_,_],_ :: _=>true
   | _,_,_=>false)
 | _,_=>false
def isAp (tr:List Nat) (p:Oper):Bool :=
 match p.op,p.dst,p.guard with
 | .call c,some d,none=>(match c.callee,c.args.toList,c.argTypes.toList with
   | .builtin .append,[_,_],[_,_]=>amark tr d
   | _,_,_=>false)
 | _,_,_=>false
def dry (o:Oper):Bool :=
 match o.op with
 | .binOp .. | .unOp .. | .convert .. | .extract .. | .pick .. | .field .. | .fieldAddr .. | .indexAddr .. | .index .. | .slice .. | .nilCheck .. | .build .. | .move ..=>true
 | .call c=>match c.callee with
   | .value _=>true
   | _=>false
 | _=>false
def floA (tr:List Nat) (all:Array Oper):Bool:=(codes tr 0 all).contains 900000
def floS (tr:List Nat) (all:Array Oper):Bool:=(codes tr 0 all).contains 900001
def floF (tr:List Nat) (all:Array Oper):Bool:=(codes tr 0 all).contains 900003
def indep (tr:List Nat) (all:Array Oper) (p q:Oper):Bool :=
 (((mild tr p && mild tr q && !(vcall p && vcall q)) || (oload tr p && mild tr q && (!(vcall q) || (q.guard.isNone && !(floF tr all)))) || (mild tr p && !(vcall p) && oload tr q)) && disj (wrOf tr p) (rdOf all q ++ wrOf tr q) && disj (wrOf tr q) (rdOf all p ++ wrOf tr p)) ||
 (floA tr all && mild tr p && isAl q && disj (wrOf tr q) (rdOf all p ++ wrOf tr p)) ||
 (floA tr all && mild tr p && (dry p || floS tr all) && isSt q && disj (wrOf tr p) (opTmps q) && disj (opTmps q) (rdOf all p ++ wrOf tr p)) ||
 (mild tr p && !(vcall p) && isAl q && disj (wrOf tr q) (rdOf all p ++ wrOf tr p)) ||
 (floF tr all && mild tr p && vcall p && isAl q && disj (wrOf tr q) (rdOf all p ++ wrOf tr p)) ||
 (mild tr p && !(vcall p) && dry p && isSt q && disj (wrOf tr p) (opTmps q) && disj (opTmps q) (rdOf all p ++ wrOf tr p)) ||
 (mild tr p && !(vcall p) && dry p && isCp q && disj (wrOf tr p) (rdOf all q ++ wrOf tr q) && disj (wrOf tr q) (rdOf all p ++ wrOf tr p)) ||
 (isAp tr p && mild tr q && !(vcall q) && dry q && disj (wrOf tr p) (rdOf all q ++ wrOf tr q) && disj (wrOf tr q) (rdOf all p ++ wrOf tr p)) ||
 (isAp tr q && mild tr p && !(vcall p) && dry p && disj (wrOf tr p) (rdOf all q ++ wrOf tr q) && disj (wrOf tr q) (rdOf all p ++ wrOf tr p))
theorem disj_spec {l l':List Nat} (h:disj l l' = true):∀ i ∈ l,i ∉ l':=by
 intro i hi hi'
 have:=List.all_eq_true.1 h i hi
 simp at this
 exact this hi'
theorem swap0 {h0:Nat} {p q:Oper} {s s1 s2:ASt} (mp:mild tr p = true) (mq:mild tr q = true) (hvv:(!(vcall p && vcall q)) = true) (d1:disj (wrOf tr p) (rdOf all q ++ wrOf tr q) = true) (d2:disj (wrOf tr q) (rdOf all p ++ wrOf tr p) = true) (h1:AStep1 P tr (some (vw tr all h0)) all p s s1) (h2:AStep1 P tr (some (vw tr all h0)) all q s1 s2) :
   ∃ s1',AStep1 P tr (some (vw tr all h0)) all q s s1' ∧ AStep1 P tr (some (vw tr all h0)) all p s1' s2:=by
 have d1':=disj_spec d1
 have d2':=disj_spec d2
 obtain ⟨p0,p1,p2,p3⟩:=step1_frame mp h1
 obtain ⟨q0,q1,q2,q3⟩:=step1_frame mq h2
 have rq:∀ i ∈ rdOf all q,i ∉ wrOf tr p:=fun i hi hp=>d1' i hp (List.mem_append.2 (.inl hi))
 have rp:∀ i ∈ rdOf all p,i ∉ wrOf tr q:=fun i hi hq=>d2' i hq (List.mem_append.2 (.inl hi))
 have ww:∀ i ∈ wrOf tr p,i ∉ wrOf tr q:=fun i hi hq=>d1' i hi (List.mem_append.2 (.inr hq))
 have hpq:vcall q = true → vcall p = false:=by
   intro e; rw [e] at hvv; simpa using hvv
 obtain ⟨s1',a1,a2,a2',a3,a4⟩:=q3 s p0.1.symm (fun e=>(p1 (hpq e)).symm) (fun i hi=>(p2 i (rq i hi)).symm)
 have hs1:vis (vw tr all h0) s1'.H = vis (vw tr all h0) s.H:=by
   by_cases e:vcall q = true
   · rw [a2 e,q0.1,p0.1]
   · rw [a2' (by simpa using e)]
 obtain ⟨s2',b1,b2,b2',b3,b4⟩:=p3 s1' hs1 (fun e=>a2' (by
   cases hq:vcall q with
   | false=>rfl
   | true=>rw [hpq hq] at e; cases e)) (fun i hi=>a4 i (rp i hi))
 refine ⟨s1',a1,?_⟩
 have:s2' = s2:=by
   have ht:s2'.t = s2.t:=by
     funext i
     by_cases hp:i ∈ wrOf tr p
     · rw [b3 i hp,q2 i (ww i hp)]
     · rw [b4 i hp]
       by_cases hq:i ∈ wrOf tr q
       · exact a3 i hq
       · rw [a4 i hq,q2 i hq,p2 i hp]
   have hH:s2'.H = s2.H:=by
     cases hp:vcall p with
     | true =>
       have hq:vcall q = false:=by
         cases hq:vcall q with
         | false=>rfl
         | true=>have:=hpq hq; rw [hp] at this; cases this
       rw [b2 hp,q1 hq]
     | false =>
       rw [b2' hp]
       cases hq:vcall q with
       | true=>exact a2 hq
       | false=>rw [a2' hq,q1 hq,p1 hp]
   cases s2'; cases s2
   simp only at ht hH
   rw [ht,hH]
 rw [← this]
 exact b1
theorem oload_frame {h0:Nat} {o:Oper} {s s':ASt} (ho:oload tr o = true) (hs:AStep1 P tr (some (vw tr all h0)) all o s s') :
   ∃ d id cs cs' y,o.dst = some d ∧ id ∈ (vw tr all h0).2.2 ∧ s.H[id]? = some cs ∧ s' = ⟨upd s.t d y,s.H.set id cs'⟩ ∧
     ∀ u:ASt,(∀ i ∈ opTmps o,u.t i = s.t i) → u.H[id]? = some cs → AStep1 P tr (some (vw tr all h0)) all o u ⟨upd u.t d y,u.H.set id cs'⟩:=by
 have hg:o.guard = none ∧ (∃ t x,o.op = .load t x) ∧ ∃ d,o.dst = some d ∧ tr.contains d = true:=by
   unfold oload at ho
   split at ho
   · rename_i t x d h1 h2 h3
     simp only [Bool.and_eq_true] at ho
     exact ⟨h3,⟨t,x,h1⟩,d,h2,ho.1⟩
   · cases ho
 obtain ⟨hg,⟨t,x,hop⟩,d,hd,hc⟩:=hg
 have hmild:mild tr o = false:=by unfold mild; rw [hop]; simp only [hd,hc]; rfl
 unfold AStep1 at hs ⊢
 rw [hg] at hs ⊢
 simp only at hs ⊢
 have hs1:astepD P tr (some (vw tr all h0)) s o = some s':=by
   rcases hs with h | ⟨c,fo,f,fs,cs,x,H',⟨_,h1⟩,_⟩ | ⟨_,c,fo,f,fs,cs,x,H',h1,_⟩ | ⟨_,c,fo,f,fs,cs,x,h1,_⟩ | ⟨_,c,fo,f,fs,cs,x,H',⟨_,h1⟩,_⟩
   · exact h
   · rw [hop] at h1; cases h1
   · rw [hop] at h1; cases h1
   · rw [hop] at h1; cases h1
   · rw [hop] at h1; cases h1
 simp only [astepD,hmild,Bool.false_eq_true,if_false] at hs1
 split at hs1
 case isFalse=>cases hs1
 rename_i hseen
 simp only [seenOk,stOk,ho,Bool.not_true,Bool.false_or,Bool.true_and,hop] at hseen
 split at hseen
 case h_2=>cases hseen
 rename_i id off hp
 have hid:id ∈ (vw tr all h0).2.2:=by simpa using hseen
 have hxm:∀ u:ASt,(∀ i ∈ opTmps o,u.t i = s.t i) → av u.t x = .ptr id off:=fun u e2=>by
   rw [av_congr e2 (x:=x) (by rw [hop]; simp [Op.operands])]; exact hp
 have step:∀ u:ASt,av u.t x = .ptr id off → astep P tr u o = (match u.H[id]? with
     | some cs=>match (match tk P t with | some (false,1)=>(match cs[off]? with | some y=>if y.isOwn = true then some (y,cs.set off y.dis) else none | none=>none) | _=>none) with
       | some (y,cs')=>some ⟨upd u.t d y,u.H.set id cs'⟩
       | none=>(aload (tk P t) cs off).map fun y=>⟨upd u.t d y,u.H.set id cs⟩
     | none=>none):=by
   intro u hu
   have hav:(aval P u (.load t x)).map (u.put (some d) ·) = (match u.H[id]? with | some cs=>(aload (tk P t) cs off).map fun y=>(⟨upd u.t d y,u.H.set id cs⟩:ASt) | none=>none):=by
     simp only [aval,aloadp,hu]
     cases hcs:u.H[id]? with
     | none=>rfl
     | some cs =>
       have:u.H.set id cs = u.H:=by
         obtain ⟨h1,h2⟩:=List.getElem?_eq_some_iff.1 hcs
         rw [← h2,List.set_getElem_self]
       simp only [Option.bind_some,this]
       rfl
   unfold astep
   simp only [hop,hd]
   rw [hav]
   unfold aeff
   simp only [hop,hd,hu,hc,if_true]
   cases hcs:u.H[id]? with
   | none=>rfl
   | some cs =>
     simp only
     cases hk:tk P t with
     | none=>rfl
     | some q =>
       obtain ⟨b,sz⟩:=q
       cases b with
       | true=>rfl
       | false =>
         cases sz with
         | zero=>rfl
         | succ sz =>
           cases sz with
           | succ sz=>rfl
           | zero =>
             simp only
             cases hy:cs[off]? with
             | none=>rfl
             | some y =>
               simp only
               by_cases hown:y.isOwn = true
               · rw [if_pos hown,if_pos hown]
               · rw [if_neg hown,if_neg hown]
 rw [step s hp] at hs1
 cases hcs:s.H[id]? with
 | none=>rw [hcs] at hs1; cases hs1
 | some cs =>
   rw [hcs] at hs1
   simp only at hs1
   have fin:∀ cs' y,s' = ⟨upd s.t d y,s.H.set id cs'⟩ → (∀ u:ASt,av u.t x = .ptr id off → u.H[id]? = some cs → astep P tr u o = some ⟨upd u.t d y,u.H.set id cs'⟩) → ∃ d id cs cs' y,o.dst = some d ∧ id ∈ (vw tr all h0).2.2 ∧ s.H[id]? = some cs ∧ s' = ⟨upd s.t d y,s.H.set id cs'⟩ ∧
       ∀ u:ASt,(∀ i ∈ opTmps o,u.t i = s.t i) → u.H[id]? = some cs → AExec P tr (some (vw tr all h0)) o u ⟨upd u.t d y,u.H.set id cs'⟩:=by
     intro cs' y e hst
     refine ⟨d,id,cs,cs',y,hd,hid,hcs,e,fun u e2 eH=>.inl ?_⟩
     have hseen':seenOk (vw tr all h0) tr u o = true:=by
       simp only [seenOk,stOk,ho,Bool.not_true,Bool.false_or,Bool.true_and,hop,hxm u e2]
       simpa using hid
     simp only [astepD,hmild,Bool.false_eq_true,if_false,hseen',if_true]
     exact hst u (hxm u e2) eH
   split at hs1
   · rename_i y cs' hin
     injection hs1 with hs1
     refine fin cs' y hs1.symm fun u hu eH=>?_
     rw [step u hu,eH]
     simp only [hin]
   · rename_i hin
     rw [Option.map_eq_some_iff] at hs1
     obtain ⟨y,hy,rfl⟩:=hs1
     refine fin cs y rfl fun u hu eH=>?_
     rw [step u hu,eH]
     simp only [hin,hy]
     rfl
theorem oload_wr {o:Oper} {d:Nat} (ho:oload tr o = true) (hd:o.dst = some d):wrOf tr o = [d]:=by
 unfold oload at ho
 split at ho
 · rename_i t x d h1 h2 h3
   rw [hd] at h2
   injection h2 with h2
   subst h2
   simp [wrOf,rawOf,hd,h1]
 · cases ho
theorem upd_comm {t:Nat → AVal} {i j:Nat} {x y:AVal} (h:i ≠ j):upd (upd t i x) j y = upd (upd t j y) i x:=by
 funext k
 simp only [upd]
 split <;> split <;> simp_all
theorem step1_free {h0:Nat} {o:Oper} {s s':ASt} (hfl:floB (some (vw tr all h0)) = true ∨ vcall o = false) (ok:List (List AVal) → Prop)
   (hA:∀ s'',astepD P tr (some (vw tr all h0)) s o = some s'' → ∃ W:List (Nat × AVal),(∀ p ∈ W,p.1 ∈ wrOf tr o) ∧ (∀ i ∈ wrOf tr o,i ∈ W.map (·.1) ∨ i ∈ opTmps o) ∧ s'' = ⟨wrs s.t W,s.H⟩ ∧
     ∀ u:ASt,ok u.H → (∀ i ∈ opTmps o,u.t i = s.t i) → astepD P tr (some (vw tr all h0)) u o = some ⟨wrs u.t W,u.H⟩)
   (hs:AStep1 P tr (some (vw tr all h0)) all o s s') :
   s'.H = s.H ∧ (∀ i,i ∉ wrOf tr o → s'.t i = s.t i) ∧ ∀ u:ASt,ok u.H → (∀ i ∈ rdOf all o,u.t i = s.t i) →
     ∃ u',AStep1 P tr (some (vw tr all h0)) all o u u' ∧ u'.H = u.H ∧ (∀ i ∈ wrOf tr o,u'.t i = s'.t i) ∧ ∀ i,i ∉ wrOf tr o → u'.t i = u.t i:=by
 have hsub:∀ i ∈ opTmps o,i ∈ rdOf all o:=fun i hi=>List.mem_append.2 (.inl hi)
 have fin:∀ (W:List (Nat × AVal)),(∀ p ∈ W,p.1 ∈ wrOf tr o) → (∀ i ∈ wrOf tr o,i ∈ W.map (·.1) ∨ i ∈ opTmps o) → s' = ⟨wrs s.t W,s.H⟩ →
     (∀ u:ASt,ok u.H → (∀ i ∈ rdOf all o,u.t i = s.t i) → AStep1 P tr (some (vw tr all h0)) all o u ⟨wrs u.t W,u.H⟩) →
     s'.H = s.H ∧ (∀ i,i ∉ wrOf tr o → s'.t i = s.t i) ∧ ∀ u:ASt,ok u.H → (∀ i ∈ rdOf all o,u.t i = s.t i) →
     ∃ u',AStep1 P tr (some (vw tr all h0)) all o u u' ∧ u'.H = u.H ∧ (∀ i ∈ wrOf tr o,u'.t i = s'.t i) ∧ ∀ i,i ∉ wrOf tr o → u'.t i = u.t i:=by
   rintro W h1 h2 rfl hf
   have hfar:∀ i,i ∉ wrOf tr o → i ∉ W.map (·.1):=by
     intro i hi hW
     obtain ⟨p,hp,rfl⟩:=List.mem_map.1 hW
     exact hi (h1 p hp)
   refine ⟨rfl,fun i hi=>wrs_far W _ i (hfar i hi),fun u e1 e2=>⟨_,hf u e1 e2,rfl,fun i hi=>?_,fun i hi=>wrs_far W _ i (hfar i hi)⟩⟩
   refine wrs_get W _ _ i ?_
   rcases h2 i hi with h | h
   · exact .inl h
   · exact .inr (e2 i (hsub i h))
 have ex:∀ {s'':ASt},AExec P tr (some (vw tr all h0)) o s s'' → ∃ (W:List (Nat × AVal)),(∀ p ∈ W,p.1 ∈ wrOf tr o) ∧ (∀ i ∈ wrOf tr o,i ∈ W.map (·.1) ∨ i ∈ opTmps o) ∧ s'' = ⟨wrs s.t W,s.H⟩ ∧
     (∀ u:ASt,ok u.H → (∀ i ∈ rdOf all o,u.t i = s.t i) → AExec P tr (some (vw tr all h0)) o u ⟨wrs u.t W,u.H⟩):=by
   intro s'' h
   have nov:∀ {c:Call} {fo:Operand},o.op = .call c → c.callee = .value fo → floB (some (vw tr all h0)) = false → False:=by
     intro c fo h1 h2 h3
     rcases hfl with e | e
     · rw [h3] at e; cases e
     · simp [vcall,h1,h2] at e
   rcases h with h | ⟨c,fo,f,fs,cs,x,H',⟨⟨h0',_⟩,h1⟩,h2,_⟩ | ⟨h | ⟨_,h⟩,c,fo,_,_,_,_,_,h1,h2,_⟩ | ⟨h0',c,fo,f,fs,cs,x,h1,h2,h3,h4,h5,h6,h7⟩ | ⟨_,c,fo,f,fs,cs,x,H',⟨h0',h1⟩,h2,_⟩
   · obtain ⟨W,f1,f2,f3,f4⟩:=hA _ h
     exact ⟨W,f1,f2,f3,fun u e1 e2=>.inl (f4 u e1 (fun i hi=>e2 i (hsub i hi)))⟩
   · exact (nov h1 h2 h0').elim
   · cases h
   · exact (nov h1 h2 h).elim
   · subst h7
     obtain ⟨W,f1,f2,f3,f4⟩:=frame_put (tr:=tr) (o:=o) (f:=fun u u'=>u' = u.put o.dst x) (s:=⟨s.t,[]⟩) x (fun u _ _=>rfl)
     have f5:∀ u:ASt,(∀ i ∈ opTmps o,u.t i = s.t i) → u.put o.dst x = ⟨wrs u.t W,u.H⟩:=fun u e2=>(f4 u (fun id cs e _=>by simp at e) e2).symm
     refine ⟨W,f1,f2,f5 s (fun _ _=>rfl),fun u e1 e2'=>?_⟩
     have e2:∀ i ∈ opTmps o,u.t i = s.t i:=fun i hi=>e2' i (hsub i hi)
     have hops:∀ y ∈ c.operands,y ∈ o.op.operands:=by intro y hy; rw [h1]; exact hy
     have hfo:av u.t fo = av s.t fo:=av_congr e2 (hops fo (by simp [Call.operands,h2]))
     have hca:cargs u fs c.args.toList cs = cargs s fs c.args.toList cs:=by
       unfold cargs
       congr 2
       refine List.map_congr_left fun y hy=>?_
       rw [av_congr e2 (hops y (by simp only [Call.operands,Array.mem_append]; exact .inr (by simpa using hy)))]
     exact .inr (.inr (.inr (.inl ⟨h0',c,fo,f,fs,cs,x,h1,h2,by rw [hfo]; exact h3,by rw [hca]; exact h4,by rw [hca]; exact h5,h6,(f5 u e2).symm⟩)))
   · exact (nov h1 h2 h0').elim
 unfold AStep1 at hs
 split at hs
 · rename_i hg
   obtain ⟨W,f1,f2,f3,f6⟩:=ex hs
   exact fin W f1 f2 f3 (fun u e1 e2=>by unfold AStep1; rw [hg]; exact f6 u e1 e2)
 · rename_i j want hg
   obtain ⟨q,hq,hs⟩:=hs
   have hqr:q ∈ rdOf all o:=by
     unfold rdOf
     rw [hg]
     simp only
     rw [hq]
     exact List.mem_append.2 (.inr (by simp))
   have skip:s' = s.put o.dst (.tup []) → (∀ u:ASt,(∀ i ∈ rdOf all o,u.t i = s.t i) → AStep1 P tr (some (vw tr all h0)) all o u (u.put o.dst (.tup []))) →
       s'.H = s.H ∧ (∀ i,i ∉ wrOf tr o → s'.t i = s.t i) ∧ ∀ u:ASt,ok u.H → (∀ i ∈ rdOf all o,u.t i = s.t i) →
       ∃ u',AStep1 P tr (some (vw tr all h0)) all o u u' ∧ u'.H = u.H ∧ (∀ i ∈ wrOf tr o,u'.t i = s'.t i) ∧ ∀ i,i ∉ wrOf tr o → u'.t i = u.t i:=by
     intro hs hstep
     subst hs
     obtain ⟨W,f1,f2,f3,f4⟩:=frame_put (tr:=tr) (o:=o) (f:=fun u u'=>u' = u.put o.dst (.tup [])) (s:=⟨s.t,[]⟩) (.tup []) (fun u _ _=>rfl)
     have f5:∀ u:ASt,(∀ i ∈ opTmps o,u.t i = s.t i) → u.put o.dst (.tup []) = ⟨wrs u.t W,u.H⟩:=fun u e2=>(f4 u (fun id cs e _=>by simp at e) e2).symm
     exact fin W f1 f2 (f5 s (fun _ _=>rfl)) (fun u e1 e2=>by rw [← f5 u (fun i hi=>e2 i (hsub i hi))]; exact hstep u e2)
   rcases hs with ⟨b,hb,hs⟩ | ⟨hb,hs⟩
   · by_cases e:b = want
     · rw [if_pos e] at hs
       obtain ⟨W,f1,f2,f3,f6⟩:=ex hs
       exact fin W f1 f2 f3 (fun u e1 e2=>by unfold AStep1; rw [hg]; exact ⟨q,hq,.inl ⟨b,by rw [e2 q hqr]; exact hb,by rw [if_pos e]; exact f6 u e1 e2⟩⟩)
     · rw [if_neg e] at hs
       exact skip hs (fun u e2=>by unfold AStep1; rw [hg]; exact ⟨q,hq,.inl ⟨b,by rw [e2 q hqr]; exact hb,by rw [if_neg e]⟩⟩)
   · exact skip hs (fun u e2=>by unfold AStep1; rw [hg]; exact ⟨q,hq,.inr ⟨by rw [e2 q hqr]; exact hb,rfl⟩⟩)
theorem mildA {h0 : Nat} {o : Oper} {s : ASt} (hm : mild tr o = true) : ∀ s'', astepD P tr (some (vw tr all h0)) s o = some s'' → ∃ W : List (Nat × AVal), (∀ p ∈ W, p.1 ∈ wrOf tr o) ∧ (∀ i ∈ wrOf tr o, i ∈ W.map (·.1) ∨ i ∈ opTmps o) ∧ s'' = ⟨wrs s.t W, s.H⟩ ∧
     ∀ u:ASt,Sub (vis (vw tr all h0) s.H) (vis (vw tr all h0) u.H) → (∀ i ∈ opTmps o,u.t i = s.t i) → astepD P tr (some (vw tr all h0)) u o = some ⟨wrs u.t W,u.H⟩:=by
 intro s'' hx
 simp only [astepD,hm,if_true] at hx ⊢
 rw [Option.map_eq_some_iff] at hx
 obtain ⟨s1,h1,rfl⟩:=hx
 obtain ⟨W,f1,f2,f3,f4⟩:=astep_frame hm h1
 subst f3
 refine ⟨W,f1,f2,rfl,fun u e1 e2=>?_⟩
 have:=f4 ⟨u.t,vis (vw tr all h0) u.H⟩ e1 e2
 rw [this]
 rfl
theorem dry_nil {o:Oper} {t:Nat → AVal} {H:List (List AVal)} (hd:dry o = true) {s':ASt} (h:astep P tr ⟨t,H⟩ o = some s'):astep P tr ⟨t,[]⟩ o = some ⟨s'.t,[]⟩:=by
 unfold dry at hd
 unfold astep at h ⊢
 cases hop:o.op with
 | call c =>
   simp only [hop] at hd h ⊢
   split at hd
   · rename_i fo hc
     simp only [hc] at h
     cases h
   · cases hd
 | binOp op t x y yt=>simp only [hop,aval] at h ⊢; rw [Option.map_eq_some_iff] at h ⊢; obtain ⟨v,h1,rfl⟩:=h; exact ⟨v,h1,by cases o.dst <;> rfl⟩
 | unOp op t x=>simp only [hop,aval] at h ⊢; rw [Option.map_eq_some_iff] at h ⊢; obtain ⟨v,h1,rfl⟩:=h; exact ⟨v,h1,by cases o.dst <;> rfl⟩
 | convert a b x=>simp only [hop,aval] at h ⊢; rw [Option.map_eq_some_iff] at h ⊢; obtain ⟨v,h1,rfl⟩:=h; exact ⟨v,h1,by cases o.dst <;> rfl⟩
 | extract x i=>simp only [hop,aval] at h ⊢; rw [Option.map_eq_some_iff] at h ⊢; obtain ⟨v,h1,rfl⟩:=h; exact ⟨v,h1,by cases o.dst <;> rfl⟩
 | pick c a b=>simp only [hop,aval] at h ⊢; rw [Option.map_eq_some_iff] at h ⊢; obtain ⟨v,h1,rfl⟩:=h; exact ⟨v,h1,by cases o.dst <;> rfl⟩
 | field t x i=>simp only [hop,aval] at h ⊢; rw [Option.map_eq_some_iff] at h ⊢; obtain ⟨v,h1,rfl⟩:=h; exact ⟨v,h1,by cases o.dst <;> rfl⟩
 | fieldAddr t x i=>simp only [hop,aval] at h ⊢; rw [Option.map_eq_some_iff] at h ⊢; obtain ⟨v,h1,rfl⟩:=h; exact ⟨v,h1,by cases o.dst <;> rfl⟩
 | indexAddr t x i=>simp only [hop,aval] at h ⊢; rw [Option.map_eq_some_iff] at h ⊢; obtain ⟨v,h1,rfl⟩:=h; exact ⟨v,h1,by cases o.dst <;> rfl⟩
 | index t x i=>simp only [hop,aval] at h ⊢; rw [Option.map_eq_some_iff] at h ⊢; obtain ⟨v,h1,rfl⟩:=h; exact ⟨v,h1,by cases o.dst <;> rfl⟩
 | slice t x a b c=>simp only [hop,aval] at h ⊢; rw [Option.map_eq_some_iff] at h ⊢; obtain ⟨v,h1,rfl⟩:=h; exact ⟨v,h1,by cases o.dst <;> rfl⟩
 | nilCheck x=>simp only [hop,aval] at h ⊢; rw [Option.map_eq_some_iff] at h ⊢; obtain ⟨v,h1,rfl⟩:=h; exact ⟨v,h1,by cases o.dst <;> rfl⟩
 | build t ps=>simp only [hop,aval] at h ⊢; rw [Option.map_eq_some_iff] at h ⊢; obtain ⟨v,h1,rfl⟩:=h; exact ⟨v,h1,by cases o.dst <;> rfl⟩
 | move x =>
   simp only [hop,aeff,aval] at h ⊢
   cases hdd:o.dst with
   | none =>
     simp only [hdd,Option.map_some] at h ⊢
     injection h with h
     subst h
     rfl
   | some d =>
     cases x with
     | tmp src =>
       simp only [hdd] at h ⊢
       by_cases hc:tr.contains d = true ∧ d ≠ src ∧ (t src).isOwn = true
       · rw [if_pos hc] at h ⊢
         simp only at h ⊢
         injection h with h
         subst h
         rfl
       · rw [if_neg hc] at h ⊢
         simp only [Option.map_some] at h ⊢
         injection h with h
         subst h
         rfl
     | _ =>
       simp only [hdd,Option.map_some] at h ⊢
       injection h with h
       subst h
       rfl
 | _=>simp only [hop] at hd; cases hd
theorem dryA {h0 : Nat} {o : Oper} {s : ASt} (hm : mild tr o = true) (hd : dry o = true) : ∀ s'', astepD P tr (some (vw tr all h0)) s o = some s'' → ∃ W : List (Nat × AVal), (∀ p ∈ W, p.1 ∈ wrOf tr o) ∧ (∀ i ∈ wrOf tr o, i ∈ W.map (·.1) ∨ i ∈ opTmps o) ∧ s'' = ⟨wrs s.t W, s.H⟩ ∧
     ∀ u:ASt,True → (∀ i ∈ opTmps o,u.t i = s.t i) → astepD P tr (some (vw tr all h0)) u o = some ⟨wrs u.t W,u.H⟩:=by
 intro s'' hx
 simp only [astepD,hm,if_true] at hx ⊢
 rw [Option.map_eq_some_iff] at hx
 obtain ⟨s1,h1,rfl⟩:=hx
 have h2:=dry_nil hd h1
 obtain ⟨W,f1,f2,f3,f4⟩:=astep_frame hm h2
 have f3':s1.t = wrs s.t W:=congrArg ASt.t f3
 refine ⟨W,f1,f2,by rw [f3'],fun u _ e2=>?_⟩
 have:=f4 ⟨u.t,vis (vw tr all h0) u.H⟩ (fun id cs e _=>by simp at e) e2
 rw [this]
 rfl
theorem vis_app (v:Vw) (H K:List (List AVal)):Sub (vis v H) (vis v (H ++ K)):=by
 have ht:∀ n,Sub (H.take n) ((H ++ K).take n):=by
   intro n id cs e _
   rw [List.getElem?_take] at e ⊢
   split at e
   · rename_i h
     rw [if_pos h,List.getElem?_append_left (List.getElem?_eq_some_iff.1 e).1]; exact e
   · cases e
 have hmk:∀ (E:List Nat) (A B:List (List AVal)) (i:Nat),Sub A B → Sub (hmask E i A) (hmask E i B):=by
   intro E A
   induction A with
   | nil=>intro B i _ id cs e; simp [hmask] at e
   | cons a A ih =>
     intro B i hs id cs e hne
     simp only [hmask] at e
     cases id with
     | zero =>
       simp only [List.getElem?_cons_zero,Option.some.injEq] at e
       by_cases hE:E.contains i = true
       · rw [if_pos hE] at e; exact (hne e.symm).elim
       · rw [if_neg hE] at e
         subst e
         have:=hs 0 a rfl hne
         cases B with
         | nil=>simp at this
         | cons b B =>
           simp only [List.getElem?_cons_zero,Option.some.injEq] at this
           subst this
           simp only [hmask,List.getElem?_cons_zero]
           rw [if_neg hE]
     | succ id =>
       simp only [List.getElem?_cons_succ] at e
       cases B with
       | nil =>
         have hA:Sub A []:=by
           intro id cs e hne
           have:=hs (id + 1) cs (by simpa using e) hne
           simp at this
         have:=ih [] (i + 1) hA id cs e hne
         simp [hmask] at this
       | cons b B =>
         have hAB:Sub A B:=by
           intro id cs e hne
           have:=hs (id + 1) cs (by simpa using e) hne
           simpa using this
         simp only [hmask,List.getElem?_cons_succ]
         exact ih B (i + 1) hAB id cs e hne
 unfold vis
 cases v.2.1 ++ v.2.2 with
 | nil=>exact ht _
 | cons e E=>exact hmk _ _ _ _ (ht _)
theorem hmask_app (E:List Nat):∀ (A B:List (List AVal)) (i:Nat),hmask E i (A ++ B) = hmask E i A ++ hmask E (i + A.length) B
 | [],B,i=>by simp [hmask]
 | a :: A,B,i=>by
   simp only [List.cons_append,hmask,hmask_app E A B (i + 1),List.length_cons]
   rw [show i + 1 + A.length = i + (A.length + 1) by omega]
theorem vis_appZ {v:Vw} {H H':List (List AVal)} (hl:H'.length = H.length) (hv:vis v H' = vis v H) (Z:List (List AVal)):vis v (H' ++ Z) = vis v (H ++ Z):=by
 unfold vis at hv ⊢
 split
 · rename_i e
   rw [e] at hv
   simp only at hv
   rw [List.take_append,List.take_append,hv,hl]
 · rename_i e E he
   rw [he] at hv
   simp only at hv
   rw [List.take_append,List.take_append,hmask_app,hmask_app,hv,hl]
   simp only [List.length_take,hl]
theorem step1_call {h0:Nat} {o:Oper} {s s':ASt} (hfc:floC (some (vw tr all h0)) = true) (hfb:floB (some (vw tr all h0)) = false) (hm:mild tr o = true) (hv:vcall o = true) (hs:AStep1 P tr (some (vw tr all h0)) all o s s') :
   s'.H.length = s.H.length ∧ ∃ x,s'.t = (s.put o.dst x).t ∧ ∀ (u:ASt) (Z:List (List AVal)),u.H = s.H ++ Z → (∀ i ∈ rdOf all o,u.t i = s.t i) → AStep1 P tr (some (vw tr all h0)) all o u ⟨(u.put o.dst x).t,s'.H ++ Z⟩:=by
 have hsub:∀ i ∈ opTmps o,i ∈ rdOf all o:=fun i hi=>List.mem_append.2 (.inl hi)
 obtain ⟨c0,fo0,hop,hcal⟩:∃ c fo,o.op = .call c ∧ c.callee = .value fo:=by
   unfold vcall at hv
   split at hv
   · rename_i c hop
     split at hv
     · rename_i fo hc; exact ⟨c,fo,hop,hc⟩
     · cases hv
   · cases hv
 have hw:wild tr o = false:=by
   unfold mild at hm
   rw [hop] at hm
   simp only [hcal] at hm
   simpa using hm
 have hkd:kd tr o.dst (some (vw tr all h0)) = some (vw tr all h0):=by
   unfold wild at hw
   unfold kd
   cases hdd:o.dst with
   | none=>rfl
   | some i=>rw [hdd] at hw; simp only at hw ⊢; rw [hw]; rfl
 have ex:∀ {s'':ASt},AExec P tr (some (vw tr all h0)) o s s'' → s''.H.length = s.H.length ∧ ∃ x,s''.t = (s.put o.dst x).t ∧ ∀ (u:ASt) (Z:List (List AVal)),u.H = s.H ++ Z → (∀ i ∈ rdOf all o,u.t i = s.t i) →
     AExec P tr (some (vw tr all h0)) o u ⟨(u.put o.dst x).t,s''.H ++ Z⟩:=by
   intro s'' h
   rcases h with h | ⟨c,fo,f,fs,cs,x,H',⟨⟨_,h0'⟩,_⟩,_⟩ | ⟨h | ⟨h,_⟩,_⟩ | ⟨h,_⟩ | ⟨_,c,fo,f,fs,cs,x,H',⟨h0',h1⟩,h2,h3,⟨h4,h5⟩,h6,h7⟩
   · exfalso
     simp only [astepD,hm,if_true] at h
     rw [Option.map_eq_some_iff] at h
     obtain ⟨z,hz,_⟩:=h
     unfold astep at hz
     simp only [hop,hcal] at hz
     cases hz
   · rw [hfc] at h0'; cases h0'
   · cases h
   · rw [hw] at h; cases h
   · rw [hfb] at h; cases h
   · subst h7
     refine ⟨h4,x,rfl,fun u Z eH e2'=>?_⟩
     have e2:∀ i ∈ opTmps o,u.t i = s.t i:=fun i hi=>e2' i (hsub i hi)
     have hops:∀ y ∈ c.operands,y ∈ o.op.operands:=by intro y hy; rw [h1]; exact hy
     have hfo:av u.t fo = av s.t fo:=av_congr e2 (hops fo (by simp [Call.operands,h2]))
     have hca:cargs u fs c.args.toList cs = cargs s fs c.args.toList cs:=by
       unfold cargs
       congr 2
       refine List.map_congr_left fun y hy=>?_
       rw [av_congr e2 (hops y (by simp only [Call.operands,Array.mem_append]; exact .inr (by simpa using hy)))]
     rw [hkd] at h6
     refine .inr (.inr (.inr (.inr ⟨hfc,c,fo,f,fs,cs,x,H' ++ Z,⟨h0',h1⟩,h2,by rw [hfo]; exact h3,⟨by rw [eH]; simp [h4],fun Z'=>?_⟩,?_,rfl⟩)))
     · rw [hca,eH,List.append_assoc,List.append_assoc]
       exact h5 (Z ++ Z')
     · rw [hkd,eH]
       exact ⟨vis_appZ h4 h6.1 Z,by simp [h4]⟩
 unfold AStep1 at hs
 split at hs
 · rename_i hg
   obtain ⟨a1,x,a2,a3⟩:=ex hs
   exact ⟨a1,x,a2,fun u Z e1 e2=>by unfold AStep1; rw [hg]; exact a3 u Z e1 e2⟩
 · rename_i j want hg
   obtain ⟨q,hq,hs⟩:=hs
   have hqr:q ∈ rdOf all o:=by
     unfold rdOf
     rw [hg]
     simp only
     rw [hq]
     exact List.mem_append.2 (.inr (by simp))
   have putH:∀ (z:ASt) (y:AVal),(z.put o.dst y).H = z.H:=fun z y=>by cases o.dst <;> rfl
   rcases hs with ⟨b,hb,hs⟩ | ⟨hb,hs⟩
   · by_cases e:b = want
     · rw [if_pos e] at hs
       obtain ⟨a1,x,a2,a3⟩:=ex hs
       exact ⟨a1,x,a2,fun u Z e1 e2=>by unfold AStep1; rw [hg]; exact ⟨q,hq,.inl ⟨b,by rw [e2 q hqr]; exact hb,by rw [if_pos e]; exact a3 u Z e1 e2⟩⟩⟩
     · rw [if_neg e] at hs
       subst hs
       refine ⟨by rw [putH],.tup [],rfl,fun u Z e1 e2=>by unfold AStep1; rw [hg]; exact ⟨q,hq,.inl ⟨b,by rw [e2 q hqr]; exact hb,by rw [if_neg e,putH,← e1,← putH u (.tup [])]⟩⟩⟩
   · subst hs
     refine ⟨by rw [putH],.tup [],rfl,fun u Z e1 e2=>by unfold AStep1; rw [hg]; exact ⟨q,hq,.inr ⟨by rw [e2 q hqr]; exact hb,by rw [putH,← e1,← putH u (.tup [])]⟩⟩⟩
theorem swapA {h0:Nat} {p q:Oper} {s s1 s2:ASt} (hfl0:(floB (some (vw tr all h0)) = true ∨ vcall p = false) ∨ floC (some (vw tr all h0)) = true) (mp:mild tr p = true) (hq:isAl q = true) (d2:disj (wrOf tr q) (rdOf all p ++ wrOf tr p) = true)
   (h1:AStep1 P tr (some (vw tr all h0)) all p s s1) (h2:AStep1 P tr (some (vw tr all h0)) all q s1 s2) :
   ∃ s1',AStep1 P tr (some (vw tr all h0)) all q s s1' ∧ AStep1 P tr (some (vw tr all h0)) all p s1' s2:=by
 have d2':=disj_spec d2
 unfold isAl at hq
 split at hq
 case h_2=>cases hq
 rename_i t d hop hd hg
 have hw:d ∈ wrOf tr q:=by unfold wrOf; rw [hd]; simp
 have hdp:d ∉ rdOf all p ∧ d ∉ wrOf tr p:=⟨fun h=>d2' d hw (List.mem_append.2 (.inl h)),fun h=>d2' d hw (List.mem_append.2 (.inr h))⟩
 have step:∀ u:ASt,∀ u',AStep1 P tr (some (vw tr all h0)) all q u u' ↔ ∃ zs,tz P t = some zs ∧ u' = ⟨upd u.t d (.ptr u.H.length 0),u.H ++ [zs]⟩:=by
   intro u u'
   have hm:mild tr q = false:=by unfold mild; rw [hop]
   have hse:seenOk (vw tr all h0) tr u q = true:=by
     have:oload tr q = false:=by unfold oload; rw [hop]
     simp [seenOk,stOk,hop,this]
   have hst:astepD P tr (some (vw tr all h0)) u q = (match tz P t with | some zs=>some ⟨upd u.t d (.ptr u.H.length 0),u.H ++ [zs]⟩ | none=>none):=by
     simp only [astepD,hm,Bool.false_eq_true,if_false,hse,if_true]
     unfold astep aeff
     simp only [hop,hd]
     rfl
   unfold AStep1
   rw [hg]
   simp only
   constructor
   · rintro (h | ⟨c,fo,f,fs,cs,x,H',⟨_,h1⟩,_⟩ | ⟨_,c,fo,f,fs,cs,x,H',h1,_⟩ | ⟨_,c,fo,f,fs,cs,x,h1,_⟩ | ⟨_,c,fo,f,fs,cs,x,H',⟨_,h1⟩,_⟩)
     · rw [hst] at h
       split at h
       · rename_i zs hz
         injection h with h
         exact ⟨zs,hz,h.symm⟩
       · cases h
     · rw [hop] at h1; cases h1
     · rw [hop] at h1; cases h1
     · rw [hop] at h1; cases h1
     · rw [hop] at h1; cases h1
   · rintro ⟨zs,hz,rfl⟩
     refine .inl ?_
     rw [hst,hz]
 obtain ⟨zs,hz,rfl⟩:=(step s1 s2).1 h2
 refine ⟨⟨upd s.t d (.ptr s.H.length 0),s.H ++ [zs]⟩,(step s _).2 ⟨zs,hz,rfl⟩,?_⟩
 by_cases hfl:floB (some (vw tr all h0)) = true ∨ vcall p = false
 case neg =>
   have hfc:floC (some (vw tr all h0)) = true:=hfl0.resolve_left hfl
   have hfb:floB (some (vw tr all h0)) = false:=by
     cases e:floB (some (vw tr all h0)) with
     | false=>rfl
     | true=>exact (hfl (.inl e)).elim
   have hvp:vcall p = true:=by
     cases e:vcall p with
     | true=>rfl
     | false=>exact (hfl (.inr e)).elim
   obtain ⟨a1,x,a2,a3⟩:=step1_call hfc hfb mp hvp h1
   have hr:=a3 ⟨upd s.t d (.ptr s.H.length 0),s.H ++ [zs]⟩ [zs] rfl (fun i hi=>by
     show upd s.t d _ i = s.t i
     simp only [upd]
     rw [if_neg]
     rintro rfl
     exact hdp.1 hi)
   have heq:(⟨(ASt.put ⟨upd s.t d (.ptr s.H.length 0),s.H ++ [zs]⟩ p.dst x).t,s1.H ++ [zs]⟩:ASt) = ⟨upd s1.t d (.ptr s1.H.length 0),s1.H ++ [zs]⟩:=by
     congr 1
     rw [a1,a2]
     funext i
     cases hpd:p.dst with
     | none=>rfl
     | some e =>
       have hne:e ≠ d:=by
         rintro rfl
         exact hdp.2 (by unfold wrOf; rw [hpd]; simp)
       show upd (upd s.t d _) e x i = upd (upd s.t e x) d _ i
       simp only [upd]
       by_cases e1:i = e
       · rw [if_pos e1,if_neg (fun h=>hne (e1.symm.trans h)),if_pos e1]
       · rw [if_neg e1,if_neg e1]
   rw [← heq]
   exact hr
 obtain ⟨q1,q2,q3⟩:=step1_free hfl (fun H=>Sub (vis (vw tr all h0) s.H) (vis (vw tr all h0) H)) (mildA mp) h1
 obtain ⟨u',r1,r2,r3,r4⟩:=q3 ⟨upd s.t d (.ptr s.H.length 0),s.H ++ [zs]⟩ (vis_app _ _ _) (fun i hi=>by
   show upd s.t d _ i = s.t i
   simp only [upd]
   rw [if_neg]
   rintro rfl
   exact hdp.1 hi)
 have heq:u' = ⟨upd s1.t d (.ptr s1.H.length 0),s1.H ++ [zs]⟩:=by
   have e1:u'.H = s1.H ++ [zs]:=by rw [r2,q1]
   have e2:u'.t = upd s1.t d (.ptr s1.H.length 0):=by
     funext i
     simp only [upd]
     by_cases hwp:i ∈ wrOf tr p
     · rw [r3 i hwp,if_neg]
       intro e
       exact hdp.2 (e ▸ hwp)
     · rw [r4 i hwp]
       show upd s.t d _ i = _
       simp only [upd]
       rw [q1,q2 i hwp]
   cases u'
   simp only at e1 e2
   rw [e1,e2]
 rw [← heq]
 exact r1
theorem swapS {h0:Nat} {p q:Oper} {s s1 s2:ASt} (hfl:floB (some (vw tr all h0)) = true ∨ vcall p = false) (mp:mild tr p = true) (hdry:dry p = true ∨ floS tr all = true) (hq:isSt q = true) (d1:disj (wrOf tr p) (opTmps q) = true) (d2:disj (opTmps q) (rdOf all p ++ wrOf tr p) = true)
   (h1:AStep1 P tr (some (vw tr all h0)) all p s s1) (h2:AStep1 P tr (some (vw tr all h0)) all q s1 s2) :
   ∃ s1',AStep1 P tr (some (vw tr all h0)) all q s s1' ∧ AStep1 P tr (some (vw tr all h0)) all p s1' s2:=by
 have d1':=disj_spec d1
 have d2':=disj_spec d2
 unfold isSt at hq
 split at hq
 case h_2=>cases hq
 rename_i t x y hop hd hg
 have hxm:∀ z,z = x ∨ z = y → z ∈ q.op.operands:=by
   intro z hz
   rw [hop]
   rcases hz with rfl | rfl <;> simp [Op.operands]
 have step:∀ u u':ASt,AStep1 P tr (some (vw tr all h0)) all q u u' ↔ (stOk (vw tr all h0) u q = true ∧ aeff P tr u q = some u'):=by
   intro u u'
   have hm:mild tr q = false:=by unfold mild; rw [hop]
   have hse:seenOk (vw tr all h0) tr u q = stOk (vw tr all h0) u q:=by
     have:oload tr q = false:=by unfold oload; rw [hop]
     simp [seenOk,this]
   have hst:astepD P tr (some (vw tr all h0)) u q = if stOk (vw tr all h0) u q = true then aeff P tr u q else none:=by
     simp only [astepD,hm,Bool.false_eq_true,if_false,hse]
     unfold astep
     simp only [hop]
   unfold AStep1
   rw [hg]
   simp only
   constructor
   · rintro (h | ⟨c,fo,f,fs,cs,x,H',⟨_,h1⟩,_⟩ | ⟨_,c,fo,f,fs,cs,x,H',h1,_⟩ | ⟨_,c,fo,f,fs,cs,x,h1,_⟩ | ⟨_,c,fo,f,fs,cs,x,H',⟨_,h1⟩,_⟩)
     · rw [hst] at h
       split at h
       · rename_i hs; exact ⟨hs,h⟩
       · cases h
     · rw [hop] at h1; cases h1
     · rw [hop] at h1; cases h1
     · rw [hop] at h1; cases h1
     · rw [hop] at h1; cases h1
   · rintro ⟨hs,h⟩
     exact .inl (by rw [hst,if_pos hs]; exact h)
 have stc:∀ z u:ASt,(∀ i ∈ opTmps q,z.t i = u.t i) → stOk (vw tr all h0) z q = stOk (vw tr all h0) u q:=by
   intro z u e
   unfold stOk
   simp only [hop]
   rw [av_congr e (hxm x (.inl rfl))]
 have frame:∀ u u':ASt,aeff P tr u q = some u' → ∃ (L:List (Nat × AVal)) (id off:Nat) (cs':List AVal),av u.t x = .ptr id off ∧ (∀ r ∈ L,r.1 ∈ opTmps q) ∧ u' = ⟨wrs u.t L,u.H.set id cs'⟩ ∧
     ∀ z:ASt,z.H = u.H → (∀ i ∈ opTmps q,z.t i = u.t i) → aeff P tr z q = some ⟨wrs z.t L,u.H.set id cs'⟩:=by
   intro u u' h
   have hax:∀ z:ASt,(∀ i ∈ opTmps q,z.t i = u.t i) → av z.t x = av u.t x ∧ av z.t y = av u.t y:=fun z e=>⟨av_congr e (hxm x (.inl rfl)),av_congr e (hxm y (.inr rfl))⟩
   unfold aeff at h
   simp only [hop] at h
   split at h
   case h_2=>cases h
   rename_i id off g k hptr hk
   split at h
   case h_2=>cases h
   rename_i cs hcs
   split at h
   case isFalse=>cases h
   rename_i hc
   split at h
   · rename_i src hown
     injection h with h
     have hsrc:src ∈ opTmps q:=List.mem_filterMap.2 ⟨.tmp src,by simpa using hxm (.tmp src) (.inr rfl),rfl⟩
     refine ⟨[(src,(u.t src).dis)],id,off,cs.set off (u.t src),hptr,by simpa using hsrc,?_,fun z e1 e2=>?_⟩
     · rw [← h,hd]; rfl
     · obtain ⟨a1,a2⟩:=hax z e2
       unfold aeff
       simp only [hop]
       rw [a1,a2,hptr,hk]
       simp only
       rw [e1,hcs]
       simp only
       rw [if_pos hc,hown]
       simp only
       rw [e2 src hsrc,hd]; rfl
   · rename_i hno
     injection h with h
     refine ⟨[],id,off,_,hptr,by simp,(by rw [← h,hd]; rfl),fun z e1 e2=>?_⟩
     obtain ⟨a1,a2⟩:=hax z e2
     unfold aeff
     simp only [hop]
     rw [a1,a2,hptr,hk]
     simp only
     rw [e1,hcs]
     simp only
     rw [if_pos hc]
     rw [hd]; rfl
 obtain ⟨hst2,hae2⟩:=(step _ _).1 h2
 obtain ⟨L,id,off,cs',hpt,l1,l2,l3⟩:=frame s1 s2 hae2
 have hfar:∀ i,i ∉ opTmps q → i ∉ L.map (·.1):=by
   intro i hi hL
   obtain ⟨r,hr,rfl⟩:=List.mem_map.1 hL
   exact hi (l1 r hr)
 obtain ⟨q1,q2,q3⟩:s1.H = s.H ∧ (∀ i,i ∉ wrOf tr p → s1.t i = s.t i) ∧ ((∀ i ∈ rdOf all p,wrs s.t L i = s.t i) →
     ∃ u',AStep1 P tr (some (vw tr all h0)) all p ⟨wrs s.t L,s1.H.set id cs'⟩ u' ∧ u'.H = s1.H.set id cs' ∧ (∀ i ∈ wrOf tr p,u'.t i = s1.t i) ∧ (∀ i,i ∉ wrOf tr p → u'.t i = wrs s.t L i)):=by
   rcases hdry with hdry | hfs
   · obtain ⟨q1,q2,q3⟩:=step1_free hfl (fun _=>True) (dryA mp hdry) h1
     exact ⟨q1,q2,fun e=>q3 ⟨wrs s.t L,s1.H.set id cs'⟩ trivial e⟩
   · obtain ⟨q1,q2,q3⟩:=step1_free hfl (fun H=>Sub (vis (vw tr all h0) s.H) (vis (vw tr all h0) H)) (mildA mp) h1
     refine ⟨q1,q2,fun e=>q3 ⟨wrs s.t L,s1.H.set id cs'⟩ ?_ e⟩
     have hid:id ∈ (vw tr all h0).2.1 ++ (vw tr all h0).2.2:=by
       have hc:(vw tr all h0).2.2.contains 900001 = true:=hfs
       unfold stOk at hst2
       simp only [hop,hpt,hc,Bool.not_true,Bool.false_or] at hst2
       exact List.mem_append.2 (.inl (by simpa using hst2))
     show Sub _ (vis (vw tr all h0) (s1.H.set id cs'))
     rw [vis_set _ _ _ _ hid,q1]
     exact Sub.refl _
 subst l2
 have hag:∀ i ∈ opTmps q,s.t i = s1.t i:=fun i hi=>(q2 i (fun hw=>d1' i hw hi)).symm
 have hz:=l3 s q1.symm hag
 refine ⟨_,(step _ _).2 ⟨by rw [stc s s1 hag]; exact hst2,hz⟩,?_⟩
 obtain ⟨u',r1,r2,r3,r4⟩:=q3 (fun i hi=>wrs_far L _ i (hfar i (fun h=>d2' i h (List.mem_append.2 (.inl hi)))))
 have heq:u' = ⟨wrs s1.t L,s1.H.set id cs'⟩:=by
   have e2:u'.t = wrs s1.t L:=by
     funext i
     by_cases hw:i ∈ wrOf tr p
     · rw [r3 i hw,wrs_far L _ i (hfar i (fun h=>d1' i hw h))]
     · rw [r4 i hw]
       exact wrs_get L _ _ i (.inr (q2 i hw).symm)
   cases u'
   simp only at r2 e2
   rw [r2,e2]
 rw [← heq]
 exact r1
theorem swapC {h0:Nat} {p q:Oper} {s s1 s2:ASt} (hvp:vcall p = false) (mp:mild tr p = true) (hdry:dry p = true) (hq:isCp q = true) (d1:disj (wrOf tr p) (rdOf all q ++ wrOf tr q) = true) (d2:disj (wrOf tr q) (rdOf all p ++ wrOf tr p) = true)
   (h1:AStep1 P tr (some (vw tr all h0)) all p s s1) (h2:AStep1 P tr (some (vw tr all h0)) all q s1 s2) :
   ∃ s1',AStep1 P tr (some (vw tr all h0)) all q s s1' ∧ AStep1 P tr (some (vw tr all h0)) all p s1' s2:=by
 have d1':=disj_spec d1
 have d2':=disj_spec d2
 unfold isCp at hq
 split at hq
 case h_2=>cases hq
 rename_i c hop hg
 split at hq
 case h_2=>cases hq
 rename_i x y t ts hcal hargs htys
 have hxm:∀ z,z = x ∨ z = y → z ∈ q.op.operands:=by
   intro z hz
   rw [hop]
   simp only [Op.operands,Call.operands,Array.mem_append]
   refine .inr ?_
   have:z ∈ c.args.toList:=by rw [hargs]; rcases hz with rfl | rfl <;> simp
   simpa using this
 have step:∀ u u':ASt,AStep1 P tr (some (vw tr all h0)) all q u u' ↔ acopy P u q.dst t (av u.t x) (av u.t y) = some u':=by
   intro u u'
   have hm:mild tr q = false:=by unfold mild; rw [hop]; simp only [hcal]
   have hse:seenOk (vw tr all h0) tr u q = true:=by
     have:oload tr q = false:=by unfold oload; rw [hop]
     have h2:stOk (vw tr all h0) u q = true:=by unfold stOk; rw [hop]
     simp [seenOk,this,h2]
   have hst:astepD P tr (some (vw tr all h0)) u q = acopy P u q.dst t (av u.t x) (av u.t y):=by
     simp only [astepD,hm,Bool.false_eq_true,if_false,hse,if_true]
     unfold astep
     simp only [hop,hcal]
     unfold abx
     simp only [hop,hcal,hargs,htys]
   unfold AStep1
   rw [hg]
   simp only
   constructor
   · rintro (h | ⟨c',fo,f,fs,cs,x,H',⟨_,h1⟩,hcl,_⟩ | ⟨_,c',fo,f,fs,cs,x,H',h1,hcl,_⟩ | ⟨_,c',fo,f,fs,cs,x,h1,hcl,_⟩ | ⟨_,c',fo,f,fs,cs,x,H',⟨_,h1⟩,hcl,_⟩)
     · rw [← hst]; exact h
     · rw [hop] at h1; injection h1 with h1; subst h1; rw [hcal] at hcl; cases hcl
     · rw [hop] at h1; injection h1 with h1; subst h1; rw [hcal] at hcl; cases hcl
     · rw [hop] at h1; injection h1 with h1; subst h1; rw [hcal] at hcl; cases hcl
     · rw [hop] at h1; injection h1 with h1; subst h1; rw [hcal] at hcl; cases hcl
   · intro h
     exact .inl (by rw [hst]; exact h)
 have putT:∀ (u z:ASt) (d:Option Nat) (v:AVal),(z.put d v).H = z.H:=fun _ _ d _=>by cases d <;> rfl
 have frame:∀ u u':ASt,acopy P u q.dst t (av u.t x) (av u.t y) = some u' → ∃ (v:AVal) (H':List (List AVal)),u' = ⟨(u.put q.dst v).t,H'⟩ ∧
     ∀ z:ASt,z.H = u.H → (∀ i ∈ opTmps q,z.t i = u.t i) → acopy P z q.dst t (av z.t x) (av z.t y) = some ⟨(z.put q.dst v).t,H'⟩:=by
   intro u u' h
   have hax:∀ z:ASt,(∀ i ∈ opTmps q,z.t i = u.t i) → av z.t x = av u.t x ∧ av z.t y = av u.t y:=fun z e=>⟨av_congr e (hxm x (.inl rfl)),av_congr e (hxm y (.inr rfl))⟩
   have hput:∀ (z:ASt) (v:AVal),z.H = u.H → some (z.put q.dst v) = some (⟨(z.put q.dst v).t,u.H⟩:ASt):=by
     intro z v e
     rw [← e]
     cases q.dst <;> rfl
   unfold acopy at h
   split at h
   · rename_i e1 e2 e3
     injection h with h
     refine ⟨_,u.H,by rw [← h]; cases q.dst <;> rfl,fun z z1 z2=>?_⟩
     obtain ⟨a1,a2⟩:=hax z z2
     unfold acopy
     rw [a1,a2,z1,e1,e2,e3]
     simp only
     exact hput z _ z1
   · rename_i sz id off len cap k k2 len2 ys e1 e2 e3
     split at h
     case isFalse=>cases h
     rename_i hc
     split at h
     · rename_i hm0
       injection h with h
       refine ⟨_,u.H,by rw [← h]; cases q.dst <;> rfl,fun z z1 z2=>?_⟩
       obtain ⟨a1,a2⟩:=hax z z2
       unfold acopy
       rw [a1,a2,z1,e1,e2,e3]
       simp only [if_pos hc,if_pos hm0]
       exact hput z _ z1
     · rename_i hm0
       split at h
       case h_2=>cases h
       rename_i cs hcs
       split at h
       case isFalse=>cases h
       rename_i hok
       injection h with h
       refine ⟨_,_,h.symm,fun z z1 z2=>?_⟩
       obtain ⟨a1,a2⟩:=hax z z2
       unfold acopy
       rw [a1,a2,z1,e1,e2,e3]
       simp only [if_pos hc,if_neg hm0,hcs,if_pos hok]
   · cases h
 obtain ⟨v,H',l1,l2⟩:=frame s1 s2 ((step _ _).1 h2)
 have hput:∀ (z:ASt) (i:Nat),i ∉ wrOf tr q → (z.put q.dst v).t i = z.t i:=by
   intro z i hi
   cases hqd:q.dst with
   | none=>rfl
   | some e =>
     show upd z.t e v i = z.t i
     simp only [upd]
     rw [if_neg]
     rintro rfl
     exact hi (by unfold wrOf; rw [hqd]; simp)
 have hput2:∀ (z w:ASt) (i:Nat),z.t i = w.t i → (z.put q.dst v).t i = (w.put q.dst v).t i:=by
   intro z w i e
   cases hqd:q.dst with
   | none=>exact e
   | some d =>
     show upd z.t d v i = upd w.t d v i
     simp only [upd]
     rw [e]
 obtain ⟨q1,q2,q3⟩:=step1_free (.inr hvp) (fun _=>True) (dryA mp hdry) h1
 have hsub:∀ i ∈ opTmps q,i ∈ rdOf all q:=fun i hi=>List.mem_append.2 (.inl hi)
 have hag:∀ i ∈ opTmps q,s.t i = s1.t i:=fun i hi=>(q2 i (fun hw=>d1' i hw (List.mem_append.2 (.inl (hsub i hi))))).symm
 have hz:=l2 s q1.symm hag
 refine ⟨_,(step _ _).2 hz,?_⟩
 obtain ⟨u',r1,r2,r3,r4⟩:=q3 ⟨(s.put q.dst v).t,H'⟩ trivial (fun i hi=>hput s i (fun hw=>d2' i hw (List.mem_append.2 (.inl hi))))
 have heq:u' = s2:=by
   rw [l1]
   have e2:u'.t = (s1.put q.dst v).t:=by
     funext i
     by_cases hw:i ∈ wrOf tr p
     · rw [r3 i hw,hput s1 i (fun h=>d2' i h (List.mem_append.2 (.inr hw)))]
     · rw [r4 i hw]
       exact hput2 s s1 i (q2 i hw).symm
   cases u'
   simp only at r2 e2
   rw [r2,e2]
 rw [← heq]
 exact r1
theorem aappA_frame {u u':ASt} {d:Nat} {t t2:TypeId} {x y:AVal} (h:aappA P u d t t2 x y = some u') :
   ∃ (v:AVal) (H':List (List AVal)),u' = ⟨upd u.t d v,H'⟩ ∧ ∀ z:ASt,z.H = u.H → aappA P z d t t2 x y = some ⟨upd z.t d v,H'⟩:=by
 obtain ⟨ut,uH⟩:=u
 have key:∀ zt:Nat → AVal,∀ r,aappA P ⟨ut,uH⟩ d t t2 x y = some r → ∃ (v:AVal) (H':List (List AVal)),r = ⟨upd ut d v,H'⟩ ∧ aappA P ⟨zt,uH⟩ d t t2 x y = some ⟨upd zt d v,H'⟩:=by
   intro zt r hr
   unfold aappA aappM aappR at hr ⊢
   simp only at hr ⊢
   repeat' split at hr
   all_goals first
     | (cases hr; done)
     | (injection hr with hr
        subst hr
        refine ⟨_,_,rfl,?_⟩
        first
          | (simp_all; done)
          | (simp_all [-List.all_eq_true]; done)
          | (simp_all [-List.all_eq_true]; intro hc; exfalso; omega)
          | (simp only [*,if_true,ne_eq,not_false_eq_true,and_self]; done))
 obtain ⟨v,H',e1,_⟩:=key ut u' h
 refine ⟨v,H',e1,?_⟩
 rintro ⟨zt,zH⟩ hz
 simp only at hz
 subst hz
 obtain ⟨v2,H2,e2,e3⟩:=key zt u' h
 rw [e1] at e2
 have ev:v2 = v:=by
   have:=congrFun (congrArg ASt.t e2) d
   simpa [upd] using this.symm
 have eH:H2 = H':=(congrArg ASt.H e2).symm
 rw [e3,ev,eH]
theorem apStep {h0:Nat} {p:Oper} (hp:isAp tr p = true):∃ d t t2 x y,d ∈ wrOf tr p ∧ x ∈ p.op.operands ∧ y ∈ p.op.operands ∧
   ∀ u u':ASt,AStep1 P tr (some (vw tr all h0)) all p u u' ↔ aappA P u d t t2 (av u.t x) (av u.t y) = some u':=by
 unfold isAp at hp
 split at hp
 case h_2=>cases hp
 rename_i c d hop hdst hg
 split at hp
 case h_2=>cases hp
 rename_i x y t t2 hcal hargs htys
 have hrow:rowOp tr p = true:=by unfold rowOp; rw [hdst]; exact hp
 have hxm:∀ z,z = x ∨ z = y → z ∈ p.op.operands:=by
   intro z hz
   rw [hop]
   simp only [Op.operands,Call.operands,Array.mem_append]
   refine .inr ?_
   have:z ∈ c.args.toList:=by rw [hargs]; rcases hz with rfl | rfl <;> simp
   simpa using this
 have step:∀ u u':ASt,AStep1 P tr (some (vw tr all h0)) all p u u' ↔ aappA P u d t t2 (av u.t x) (av u.t y) = some u':=by
   intro u u'
   have hm:mild tr p = false:=by unfold mild; rw [hop]; simp only [hcal,hrow]; rfl
   have hse:seenOk (vw tr all h0) tr u p = true:=by
     have:oload tr p = false:=by unfold oload; rw [hop]
     have h2:stOk (vw tr all h0) u p = true:=by unfold stOk; rw [hop]
     simp [seenOk,this,h2]
   have hst:astepD P tr (some (vw tr all h0)) u p = aappA P u d t t2 (av u.t x) (av u.t y):=by
     simp only [astepD,hm,Bool.false_eq_true,if_false,hse,if_true]
     unfold astep
     simp only [hop,hcal,hrow,if_true]
     unfold abx
     simp only [hop,hcal,hargs,htys,hdst]
     rw [if_pos hp]
   unfold AStep1
   rw [hg]
   simp only
   constructor
   · rintro (h | ⟨c',fo,f,fs,cs,x,H',⟨_,h1⟩,hcl,_⟩ | ⟨_,c',fo,f,fs,cs,x,H',h1,hcl,_⟩ | ⟨_,c',fo,f,fs,cs,x,h1,hcl,_⟩ | ⟨_,c',fo,f,fs,cs,x,H',⟨_,h1⟩,hcl,_⟩)
     · rw [← hst]; exact h
     · rw [hop] at h1; injection h1 with h1; subst h1; rw [hcal] at hcl; cases hcl
     · rw [hop] at h1; injection h1 with h1; subst h1; rw [hcal] at hcl; cases hcl
     · rw [hop] at h1; injection h1 with h1; subst h1; rw [hcal] at hcl; cases hcl
     · rw [hop] at h1; injection h1 with h1; subst h1; rw [hcal] at hcl; cases hcl
   · intro h
     exact .inl (by rw [hst]; exact h)
 exact ⟨d,t,t2,x,y,by unfold wrOf; rw [hdst]; simp,hxm x (.inl rfl),hxm y (.inr rfl),step⟩
theorem swapD {h0:Nat} {p q:Oper} {s s1 s2:ASt} (hp:isAp tr p = true) (hvq:vcall q = false) (mq:mild tr q = true) (hdry:dry q = true) (d1:disj (wrOf tr p) (rdOf all q ++ wrOf tr q) = true) (d2:disj (wrOf tr q) (rdOf all p ++ wrOf tr p) = true)
   (h1:AStep1 P tr (some (vw tr all h0)) all p s s1) (h2:AStep1 P tr (some (vw tr all h0)) all q s1 s2) :
   ∃ s1',AStep1 P tr (some (vw tr all h0)) all q s s1' ∧ AStep1 P tr (some (vw tr all h0)) all p s1' s2:=by
 have d1':=disj_spec d1
 have d2':=disj_spec d2
 obtain ⟨d,t,t2,x,y,hdp,hxo,hyo,step⟩:=apStep (P:=P) (all:=all) (h0:=h0) hp
 obtain ⟨v,H',l1,l2⟩:=aappA_frame ((step _ _).1 h1)
 obtain ⟨q1,q2,q3⟩:=step1_free (.inr hvq) (fun _=>True) (dryA mq hdry) h2
 have hdq1:d ∉ rdOf all q:=fun h=>d1' d hdp (List.mem_append.2 (.inl h))
 have hdq2:d ∉ wrOf tr q:=fun h=>d1' d hdp (List.mem_append.2 (.inr h))
 have hs1:∀ i,i ≠ d → s1.t i = s.t i:=by
   intro i hi
   rw [l1]
   simp only [upd]
   rw [if_neg hi]
 have hs1d:s1.t d = v:=by rw [l1]; simp [upd]
 obtain ⟨u',r1,r2,r3,r4⟩:=q3 s trivial (fun i hi=>(hs1 i (fun e=>hdq1 (e ▸ hi))).symm)
 refine ⟨u',r1,(step _ _).2 ?_⟩
 have hag:∀ i ∈ opTmps p,u'.t i = s.t i:=fun i hi=>r4 i (fun hw=>d2' i hw (List.mem_append.2 (.inl (List.mem_append.2 (.inl hi)))))
 have ax:av u'.t x = av s.t x:=av_congr hag hxo
 have ay:av u'.t y = av s.t y:=av_congr hag hyo
 rw [ax,ay,l2 u' r2]
 have e2:s2.t = upd u'.t d v:=by
   funext i
   by_cases hid:i = d
   · subst hid
     rw [q2 i hdq2,hs1d]
     simp [upd]
   · simp only [upd]
     rw [if_neg hid]
     by_cases hw:i ∈ wrOf tr q
     · exact (r3 i hw).symm
     · rw [q2 i hw,r4 i hw,hs1 i hid]
 have eH:s2.H = H':=by rw [q1,l1]
 cases s2
 simp only at e2 eH
 rw [e2,eH]
theorem swapE {h0:Nat} {p q:Oper} {s s1 s2:ASt} (hq:isAp tr q = true) (hvp:vcall p = false) (mp:mild tr p = true) (hdry:dry p = true) (d1:disj (wrOf tr p) (rdOf all q ++ wrOf tr q) = true) (d2:disj (wrOf tr q) (rdOf all p ++ wrOf tr p) = true)
   (h1:AStep1 P tr (some (vw tr all h0)) all p s s1) (h2:AStep1 P tr (some (vw tr all h0)) all q s1 s2) :
   ∃ s1',AStep1 P tr (some (vw tr all h0)) all q s s1' ∧ AStep1 P tr (some (vw tr all h0)) all p s1' s2:=by
 have d1':=disj_spec d1
 have d2':=disj_spec d2
 obtain ⟨d,t,t2,x,y,hdq,hxo,hyo,step⟩:=apStep (P:=P) (all:=all) (h0:=h0) hq
 obtain ⟨v,H',l1,l2⟩:=aappA_frame ((step _ _).1 h2)
 obtain ⟨q1,q2,q3⟩:=step1_free (.inr hvp) (fun _=>True) (dryA mp hdry) h1
 have hdp1:d ∉ rdOf all p:=fun h=>d2' d hdq (List.mem_append.2 (.inl h))
 have hdp2:d ∉ wrOf tr p:=fun h=>d2' d hdq (List.mem_append.2 (.inr h))
 have hag:∀ i ∈ opTmps q,s1.t i = s.t i:=fun i hi=>q2 i (fun hw=>d1' i hw (List.mem_append.2 (.inl (List.mem_append.2 (.inl hi)))))
 have ax:av s1.t x = av s.t x:=av_congr hag hxo
 have ay:av s1.t y = av s.t y:=av_congr hag hyo
 have l3:=l2 s q1.symm
 rw [ax,ay] at l3
 obtain ⟨u',r1,r2,r3,r4⟩:=q3 ⟨upd s.t d v,H'⟩ trivial (fun i hi=>by
   have hne:i ≠ d:=fun e=>hdp1 (e ▸ hi)
   simp [upd,hne])
 refine ⟨_,(step _ _).2 l3,?_⟩
 have e:u' = s2:=by
   rw [l1]
   have e2:u'.t = upd s1.t d v:=by
     funext i
     by_cases hw:i ∈ wrOf tr p
     · rw [r3 i hw]
       have hne:i ≠ d:=fun e=>hdp2 (e ▸ hw)
       simp [upd,hne]
     · rw [r4 i hw]
       by_cases hid:i = d
       · subst hid
         simp [upd]
       · simp only [upd]
         rw [if_neg hid,if_neg hid,q2 i hw]
   cases u'
   simp only at e2 r2
   rw [e2,r2]
 rw [← e]
 exact r1
theorem swap {h0:Nat} {p q:Oper} {s s1 s2:ASt} (hi:indep tr all p q = true) (h1:AStep1 P tr (some (vw tr all h0)) all p s s1) (h2:AStep1 P tr (some (vw tr all h0)) all q s1 s2) :
   ∃ s1',AStep1 P tr (some (vw tr all h0)) all q s s1' ∧ AStep1 P tr (some (vw tr all h0)) all p s1' s2:=by
 simp only [indep,Bool.and_eq_true,Bool.or_eq_true] at hi
 rcases hi with (((((((⟨⟨hk,d1⟩,d2⟩ | ⟨⟨⟨hfl,mp⟩,hq⟩,d2⟩) | ⟨⟨⟨⟨⟨hfl,mp⟩,hdry⟩,hq⟩,d1⟩,d2⟩) | ⟨⟨⟨mp,hvp⟩,hq⟩,d2⟩) | ⟨⟨⟨⟨hfc,mp⟩,hvp⟩,hq⟩,d2⟩) | ⟨⟨⟨⟨⟨mp,hvp⟩,hdry⟩,hq⟩,d1⟩,d2⟩) | ⟨⟨⟨⟨⟨mp,hvp⟩,hdry⟩,hq⟩,d1⟩,d2⟩) | ⟨⟨⟨⟨⟨hap,mq⟩,hvq⟩,hdry⟩,d1⟩,d2⟩) | ⟨⟨⟨⟨⟨hap,mp⟩,hvp⟩,hdry⟩,d1⟩,d2⟩
 rotate_left
 · exact swapA (.inl (.inl hfl)) mp hq d2 h1 h2
 · exact swapS (.inl hfl) mp hdry hq d1 d2 h1 h2
 · exact swapA (.inl (.inr (by simpa using hvp))) mp hq d2 h1 h2
 · exact swapA (.inr hfc) mp hq d2 h1 h2
 · exact swapS (.inr (by simpa using hvp)) mp (.inl hdry) hq d1 d2 h1 h2
 · exact swapC (by simpa using hvp) mp hdry hq d1 d2 h1 h2
 · exact swapD hap (by simpa using hvq) mq hdry d1 d2 h1 h2
 · exact swapE hap (by simpa using hvp) mp hdry d1 d2 h1 h2
 rcases hk with (⟨⟨mp,mq⟩,hvv⟩ | ⟨⟨op,mq⟩,hvg⟩) | ⟨⟨mp,hvp⟩,oq⟩
 · exact swap0 mp mq hvv d1 d2 h1 h2
 · have d1':=disj_spec d1
   have d2':=disj_spec d2
   obtain ⟨d,id,cs,cs',y,hd,hid,hcs,e1,hrun⟩:=oload_frame op h1
   have hwp:=oload_wr op hd
   have hdq:d ∉ rdOf all q ∧ d ∉ wrOf tr q:=by
     have:=d1' d (by rw [hwp]; simp)
     exact ⟨fun h=>this (List.mem_append.2 (.inl h)),fun h=>this (List.mem_append.2 (.inr h))⟩
   have hidv:id ∈ (vw tr all h0).2.1 ++ (vw tr all h0).2.2:=List.mem_append.2 (.inr hid)
   have hlt:id < s.H.length:=(List.getElem?_eq_some_iff.1 hcs).1
   have hop:∀ i ∈ opTmps p,i ∉ wrOf tr q:=fun i hi hq=>d2' i hq (List.mem_append.2 (.inl (List.mem_append.2 (.inl hi))))
   subst e1
   by_cases hv:vcall q = true
   · -- a call
     have hvg':q.guard = none ∧ floF tr all = false:=by
       rw [hv] at hvg
       simpa using hvg
     have hgq:q.guard = none:=hvg'.1
     unfold AStep1 at h2
     rw [hgq] at h2
     simp only at h2
     have hcall:∃ c fo,q.op = .call c ∧ c.callee = .value fo:=by
       unfold vcall at hv
       split at hv
       · rename_i c hc
         split at hv
         · rename_i fo hfo; exact ⟨c,fo,hc,hfo⟩
         · cases hv
       · cases hv
     obtain ⟨c,fo,hc,hfo⟩:=hcall
     rcases h2 with h2 | ⟨c',fo',f,fs,cs2,x,H',⟨g0,g1⟩,g2,g3,g4,g5,g6⟩ | ⟨h2 | ⟨h2,_⟩,c',fo',_,_,_,_,_,g1,g2,_⟩ | ⟨g0,c',fo',f,fs,cs2,x,g1,g2,g3,g4,g5,g6,g7⟩ | ⟨hfc,_⟩
     · exfalso
       have:=astepD_step _ _ _ h2
       unfold astep at this
       simp only [hc,hfo] at this
       cases this
     · have hw:wild tr q = false:=by
         unfold mild at mq
         rw [g1] at mq
         simp only [g2] at mq
         simpa using mq
       have hkd:kd tr q.dst (some (vw tr all h0)) = some (vw tr all h0):=by
         unfold wild at hw
         unfold kd
         cases hdd:q.dst with
         | none=>rfl
         | some i=>rw [hdd] at hw; simp only at hw ⊢; rw [hw]; rfl
       rw [hkd] at g4 g5 g6
       have hops:∀ z ∈ c'.operands,z ∈ q.op.operands:=by intro z hz; rw [g1]; exact hz
       have ht:∀ i ∈ opTmps q,s.t i = upd s.t d y i:=by
         intro i hi
         simp only [upd]
         rw [if_neg]
         rintro rfl
         exact hdq.1 (List.mem_append.2 (.inl hi))
       have hfo':av s.t fo' = av (upd s.t d y) fo':=av_congr (s:=⟨upd s.t d y,s.H⟩) (u:=s) ht (hops fo' (by simp [Call.operands,g2]))
       have hca:cargs s fs c'.args.toList cs2 = cargs ⟨upd s.t d y,s.H.set id cs'⟩ fs c'.args.toList cs2:=by
         unfold cargs
         congr 2
         refine List.map_congr_left fun z hz=>?_
         rw [av_congr (s:=⟨upd s.t d y,s.H⟩) (u:=s) ht (hops z (by simp only [Call.operands,Array.mem_append]; exact .inr (by simpa using hz)))]
       have hhide:hideL (vw tr all h0).2.2 (s.H.set id cs') = hideL (vw tr all h0).2.2 s.H:=hideL_set _ _ _ _ hid
       have hk1:vis (vw tr all h0) H' = vis (vw tr all h0) s.H:=by rw [g5.1]; exact vis_set _ _ _ _ hidv
       have hk2:s.H.length ≤ H'.length:=by have:=g5.2; simpa using this
       refine ⟨⟨(s.put q.dst x).t,showL (vw tr all h0).2.2 s.H H'⟩,?_,?_⟩
       · unfold AStep1
         rw [hgq]
         exact .inr (.inl ⟨c',fo',f,fs,cs2,x,H',⟨g0,g1⟩,g2,by rw [hfo']; exact g3,by rw [hkd,hca]; show CAny P f _ (hideL _ s.H) x H'; rw [← hhide]; exact g4,by rw [hkd]; exact ⟨hk1,hk2⟩,by rw [hkd]; rfl⟩)
       · have hput:∀ i,i ∉ wrOf tr q → (s.put q.dst x).t i = s.t i:=by
           intro i hi
           cases hqd:q.dst with
           | none=>rfl
           | some e =>
             show upd s.t e x i = s.t i
             simp only [upd]
             rw [if_neg]
             rintro rfl
             exact hi (by unfold wrOf; rw [hqd]; simp)
         have:=hrun ⟨(s.put q.dst x).t,showL (vw tr all h0).2.2 s.H H'⟩ (fun i hi=>hput i (hop i hi)) (showL_get _ _ _ _ _ hid hcs hk2)
         have heq:(⟨upd (s.put q.dst x).t d y,(showL (vw tr all h0).2.2 s.H H').set id cs'⟩:ASt) = s2:=by
           rw [g6]
           congr 1
           · cases hqd:q.dst with
             | none=>rfl
             | some e =>
               show upd (upd s.t e x) d y = upd (upd s.t d y) e x
               refine upd_comm ?_
               rintro rfl
               exact hdq.2 (by unfold wrOf; rw [hqd]; simp)
           · show _ = showL _ (s.H.set id cs') H'
             rw [showL_set _ _ _ _ _ _ hid hcs hk2]
         rw [← heq]
         exact this
     · cases h2
     · exfalso
       unfold mild at mq
       rw [g1] at mq
       simp only [g2,h2] at mq
       cases mq
     · have hops:∀ z ∈ c'.operands,z ∈ q.op.operands:=by intro z hz; rw [g1]; exact hz
       have ht:∀ i ∈ opTmps q,s.t i = upd s.t d y i:=by
         intro i hi
         simp only [upd]
         rw [if_neg]
         rintro rfl
         exact hdq.1 (List.mem_append.2 (.inl hi))
       have hfo':av s.t fo' = av (upd s.t d y) fo':=av_congr (s:=⟨upd s.t d y,s.H⟩) (u:=s) ht (hops fo' (by simp [Call.operands,g2]))
       have hca:cargs s fs c'.args.toList cs2 = cargs ⟨upd s.t d y,s.H.set id cs'⟩ fs c'.args.toList cs2:=by
         unfold cargs
         congr 2
         refine List.map_congr_left fun z hz=>?_
         rw [av_congr (s:=⟨upd s.t d y,s.H⟩) (u:=s) ht (hops z (by simp only [Call.operands,Array.mem_append]; exact .inr (by simpa using hz)))]
       have hput:∀ i,i ∉ wrOf tr q → (s.put q.dst x).t i = s.t i:=by
         intro i hi
         cases hqd:q.dst with
         | none=>rfl
         | some e =>
           show upd s.t e x i = s.t i
           simp only [upd]
           rw [if_neg]
           rintro rfl
           exact hi (by unfold wrOf; rw [hqd]; simp)
       have hpH:(s.put q.dst x).H = s.H:=by cases q.dst <;> rfl
       refine ⟨s.put q.dst x,?_,?_⟩
       · unfold AStep1
         rw [hgq]
         exact .inr (.inr (.inr (.inl ⟨g0,c',fo',f,fs,cs2,x,g1,g2,by rw [hfo']; exact g3,by rw [hca]; exact g4,by rw [hca]; exact g5,g6,rfl⟩)))
       · have:=hrun (s.put q.dst x) (fun i hi=>hput i (hop i hi)) (by rw [hpH]; exact hcs)
         have heq:(⟨upd (s.put q.dst x).t d y,(s.put q.dst x).H.set id cs'⟩:ASt) = s2:=by
           rw [g7,hpH]
           cases hqd:q.dst with
           | none=>rfl
           | some e =>
             show (⟨upd (upd s.t e x) d y,_⟩:ASt) = ⟨upd (upd s.t d y) e x,_⟩
             congr 1
             refine upd_comm ?_
             rintro rfl
             exact hdq.2 (by unfold wrOf; rw [hqd]; simp)
         rw [← heq]
         exact this
     · exfalso
       have e:floF tr all = true:=hfc
       rw [hvg'.2] at e
       cases e
   · have hv':vcall q = false:=by simpa using hv
     obtain ⟨q0,q1,q2,q3⟩:=step1_frame mq h2
     have hvs:vis (vw tr all h0) s.H = vis (vw tr all h0) (s.H.set id cs'):=(vis_set _ _ _ _ hidv).symm
     obtain ⟨s1',a1,_,a2',a3,a4⟩:=q3 s hvs (fun e=>by rw [hv'] at e; cases e) (fun i hi=>by
       show s.t i = upd s.t d y i
       simp only [upd]
       rw [if_neg]
       rintro rfl
       exact hdq.1 hi)
     have hH:s1'.H = s.H:=a2' hv'
     refine ⟨s1',a1,?_⟩
     have:=hrun s1' (fun i hi=>a4 i (hop i hi)) (by rw [hH]; exact hcs)
     have heq:(⟨upd s1'.t d y,s1'.H.set id cs'⟩:ASt) = s2:=by
       have hs2:s2.H = s.H.set id cs':=q1 hv'
       have:upd s1'.t d y = s2.t:=by
         funext i
         simp only [upd]
         by_cases e:i = d
         · subst e
           rw [if_pos rfl,q2 i hdq.2]
           simp [upd]
         · rw [if_neg e]
           by_cases hw:i ∈ wrOf tr q
           · exact a3 i hw
           · rw [a4 i hw,q2 i hw]
             simp [upd,e]
       rw [this,hH,← hs2]
     rw [← heq]
     exact this
 · have d1':=disj_spec d1
   have d2':=disj_spec d2
   have hv':vcall p = false:=by simpa using hvp
   obtain ⟨p0,p1,p2,p3⟩:=step1_frame mp h1
   have hH1:s1.H = s.H:=p1 hv'
   obtain ⟨d,id,cs,cs',y,hd,hid,hcs,e2,hrun⟩:=oload_frame oq h2
   have hwq:=oload_wr oq hd
   have hdp:d ∉ rdOf all p ∧ d ∉ wrOf tr p:=by
     have:=d2' d (by rw [hwq]; simp)
     exact ⟨fun h=>this (List.mem_append.2 (.inl h)),fun h=>this (List.mem_append.2 (.inr h))⟩
   have hidv:id ∈ (vw tr all h0).2.1 ++ (vw tr all h0).2.2:=List.mem_append.2 (.inr hid)
   rw [hH1] at hcs
   have hq:=hrun s (fun i hi=>(p2 i (fun hp=>d1' i hp (List.mem_append.2 (.inl (List.mem_append.2 (.inl hi)))))).symm) hcs
   refine ⟨_,hq,?_⟩
   obtain ⟨s2',b1,_,b2',b3,b4⟩:=p3 ⟨upd s.t d y,s.H.set id cs'⟩ (vis_set _ _ _ _ hidv) (fun e=>by rw [hv'] at e; cases e) (fun i hi=>by
     show upd s.t d y i = s.t i
     simp only [upd]
     rw [if_neg]
     rintro rfl
     exact hdp.1 hi)
   have heq:s2' = s2:=by
     have e1:s2'.H = s.H.set id cs':=b2' hv'
     have e3:s2'.t = upd s1.t d y:=by
       funext i
       simp only [upd]
       by_cases e:i = d
       · subst e
         rw [if_pos rfl,b4 i hdp.2]
         simp [upd]
       · rw [if_neg e]
         by_cases hw:i ∈ wrOf tr p
         · exact b3 i hw
         · rw [b4 i hw,p2 i hw]
           simp [upd,e]
     rw [e2,hH1,← e3,← e1]
   rw [← heq]
   exact b1
end
end Go.Am
