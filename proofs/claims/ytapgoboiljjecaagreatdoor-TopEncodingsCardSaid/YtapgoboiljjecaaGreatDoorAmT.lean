/- The abstract machine, part twenty: what is read off the arguments of a claim. -/
import Derived.Test.YtapgoboiljjecaaGreatDoorAmS
import Derived.OpenShut
import Derived.ChangeShapes
import Derived.SizedLaws
namespace Go.Am
open Go
set_option linter.unusedSectionVars false
variable [Globs]
inductive CTy where
  | bool
  | int (k:IntKind)
  | sl (ag:Bool) (by_:Nat) (e:List CTy)
mutual
def Rd:CTy → AVal → Prop
 | .bool,x=>∃ b,x = .bool b
 | .int k,x=>∃ n,x = .int k n ∧ (Lit.int k n).wf = true
 | .sl ag by_ e,x=>∃ xs,x = .sl e.length xs .sh ∧ xs.length * by_ ≤ reachBytes ∧ ∀ y ∈ xs,∃ cs,(if ag = true then y = .agg cs else cs = [y]) ∧ Rds e cs
def Rds:List CTy → List AVal → Prop
 | [],xs=>xs = []
 | t :: ts,xs=>∃ x r,xs = x :: r ∧ Rd t x ∧ Rds ts r
end
def rdFs (P:Program) (f:TypeId → Option (Bool × List CTy)):List (Nat × TypeId) → Nat → Option (List CTy)
 | [],_=>some []
 | (o,t) :: fs,off=>if o = off then match f t with
   | some (_,ts)=>if ts.length = P.cellsOf t then (rdFs P f fs (off + ts.length)).map (ts ++ ·) else none
   | none=>none else none
def rdT (P:Program):Nat → TypeId → Option (Bool × List CTy)
 | 0,_=>none
 | n + 1,t=>match P.underlying t with
   | some .bool=>some (false,[.bool])
   | some (.int k)=>some (false,[.int k])
   | some (.slice e)=>match rdT P n e with
     | some (ag,ts)=>if ts.length = P.cellsOf e ∧ 0 < ts.length then some (false,[.sl ag (P.bytesOf e) ts]) else none
     | none=>none
   | some (.struct fs)=>match rdFs P (rdT P n) (fs.toList.map fun f=>(f.offset,f.type)) 0 with
     | some ts=>if ts.length = P.cellsOf t then some (true,ts) else none
     | none=>none
   | some (.array k e)=>match rdFs P (rdT P n) ((List.range k).map fun i=>(i * P.cellsOf e,e)) 0 with
     | some ts=>if ts.length = P.cellsOf t then some (true,ts) else none
     | none=>none
   | _=>none
theorem Rds_append:∀ {ts:List CTy} {xs:List AVal} {ts':List CTy} {xs':List AVal},Rds ts xs → Rds ts' xs' → Rds (ts ++ ts') (xs ++ xs'):=by
 intro ts
 induction ts with
 | nil=>intro xs ts' xs' h h'; simp only [Rds] at h; subst h; exact h'
 | cons t ts ih =>
   intro xs ts' xs' h h'
   simp only [Rds] at h
   obtain ⟨x,r,rfl,h1,h2⟩:=h
   simp only [List.cons_append,Rds]
   exact ⟨x,r ++ xs',rfl,h1,ih h2 h'⟩
theorem Rd_scalar {t:CTy} {x:AVal} (h:Rd t x):x.scalar = true:=by
 cases t with
 | bool=>simp only [Rd] at h; obtain ⟨b,rfl⟩:=h; rfl
 | int k=>simp only [Rd] at h; obtain ⟨b,rfl,_⟩:=h; rfl
 | sl ag b e=>simp only [Rd] at h; obtain ⟨xs,rfl,_⟩:=h; rfl
theorem Rds_len:∀ {ts:List CTy} {xs:List AVal},Rds ts xs → xs.length = ts.length ∧ ∀ x ∈ xs,x.scalar = true:=by
 intro ts
 induction ts with
 | nil=>intro xs h; simp only [Rds] at h; subst h; simp
 | cons t ts ih =>
   intro xs h
   simp only [Rds] at h
   obtain ⟨x,r,rfl,h1,h2⟩:=h
   obtain ⟨g1,g2⟩:=ih h2
   refine ⟨by simp [g1],fun y hy=>?_⟩
   rcases List.mem_cons.1 hy with rfl | hy
   · exact Rd_scalar h1
   · exact g2 y hy
theorem listOf {α:Type} {Q:Nat → α → Prop}:∀ (n:Nat),(∀ i,i < n → ∃ y,Q i y) → ∃ ys:List α,ys.length = n ∧ ∀ i y,ys[i]? = some y → Q i y:=by
 intro n
 induction n with
 | zero=>intro _; exact ⟨[],rfl,by simp⟩
 | succ n ih =>
   intro h
   obtain ⟨ys,h1,h2⟩:=ih (fun i hi=>h i (by omega))
   obtain ⟨y,hy⟩:=h n (by omega)
   refine ⟨ys ++ [y],by simp [h1],fun i z hz=>?_⟩
   by_cases hi:i < n
   · rw [List.getElem?_append_left (by omega)] at hz; exact h2 i z hz
   · rw [List.getElem?_append_right (by omega)] at hz
     have:i = n:=by
       have:=(List.getElem?_eq_some_iff.1 hz).1
       simp at this; omega
     subst this
     simp [h1] at hz
     subst hz
     exact hy
theorem rdT_one {P:Program} {n:Nat} {t:TypeId} {ts:List CTy} (h:rdT P n t = some (false,ts)):∃ c,ts = [c]:=by
 cases n with
 | zero=>simp [rdT] at h
 | succ n =>
   simp only [rdT] at h
   split at h
   · simp at h; exact ⟨_,h.symm⟩
   · simp at h; exact ⟨_,h.symm⟩
   · split at h
     · split at h
       · simp at h; exact ⟨_,h.symm⟩
       · cases h
     · cases h
   · split at h
     · split at h
       · simp at h
       · cases h
     · cases h
   · split at h
     · split at h
       · simp at h
       · cases h
     · cases h
   · cases h
section
variable {H:Type} {enc:TypeId × Value → H} {P:Program} {w:World} {spare:Nat → Bool} {held:Bool}
class GlobOk (w:World):Prop where
  ok:∀ b o v,Globs.at_ b o = some v → w.cell? ⟨b,o,none⟩ = some v
def W0 (w:World) [g:GlobOk w]:Frz:=⟨fun b o=>w.cell? ⟨b,o,none⟩,g.ok⟩
variable [GlobOk w]
theorem weights_each:∀ {ts:List TypeId} {ds:List (DataW H)} {i:Nat} {t:TypeId} {d:DataW H},ts[i]? = some t → ds[i]? = some d → ∀ m ∈ d.weights P t,m ∈ DataW.weightsEach P ts ds:=by
 intro ts
 induction ts with
 | nil=>intro ds i t d h; simp at h
 | cons t0 ts ih =>
   intro ds i t d h h' m hm
   cases ds with
   | nil=>simp at h'
   | cons d0 ds =>
     simp only [DataW.weightsEach,List.mem_append]
     cases i with
     | zero=>simp at h h'; subst h h'; exact .inl hm
     | succ i=>exact .inr (ih (by simpa using h) (by simpa using h') m hm)
theorem weights_all {e:TypeId}:∀ {ds:List (DataW H)} {i:Nat} {d:DataW H},ds[i]? = some d → ∀ m ∈ d.weights P e,m ∈ DataW.weightsAll P e ds:=by
 intro ds
 induction ds with
 | nil=>intro i d h; simp at h
 | cons d0 ds ih =>
   intro i d h m hm
   simp only [DataW.weightsAll,List.mem_append]
   cases i with
   | zero=>simp at h; subst h; exact .inl hm
   | succ i=>exact .inr (ih (by simpa using h) m hm)
theorem cell_add {ad:Addr} {i:Nat} {v:Value} (h:w.cell? (ad.add i) = some v):w.cell? ⟨ad.block,ad.off + i,none⟩ = some v:=by
 unfold Addr.add at h
 split at h
 · rename_i e
   have:=World.cell?_spot h
   subst e
   obtain ⟨b,o,s⟩:=ad
   simp at this
   subst this
   exact h
 · exact h
theorem add_off (a:Addr) (m:Nat):(a.add m).off = a.off + m:=by
 unfold Addr.add; split
 · rename_i e; subst e; rfl
 · rfl
theorem add_block (a:Addr) (m:Nat):(a.add m).block = a.block:=by
 unfold Addr.add; split <;> rfl
theorem cell_add2 {ad:Addr} {m i:Nat} {v:Value} (h:w.cell? ((ad.add m).add i) = some v):w.cell? ⟨ad.block,ad.off + (m + i),none⟩ = some v:=by
 have:=cell_add h
 rwa [add_off,add_block,Nat.add_assoc] at this
theorem cell_spot0 {ad:Addr} {v:Value} (h:w.cell? (ad.add 0) = some v):ad.spot = none:=by
 rw [show ad.add 0 = ad by unfold Addr.add; simp] at h
 exact World.cell?_spot h
def GoodAt (w:World) [GlobOk w] (ts:List CTy) (cs:List Value):Prop :=
 ∃ xs,Rds ts xs ∧ cs.length = ts.length ∧ ∀ (i:Nat) (c:AVal) (v:Value),xs[i]? = some c → cs[i]? = some v → RepT (W0 w) c v
theorem rdFs_good {f:TypeId → Option (Bool × List CTy)}:∀ (fs:List (Nat × TypeId)) (off:Nat) (ts:List CTy) (cs:List Value),rdFs P f fs off = some ts → cs.length = off + ts.length →
   (∀ (i:Nat) (o:Nat) (t:TypeId) (ag:Bool) (us:List CTy),fs[i]? = some (o,t) → f t = some (ag,us) → GoodAt w us ((cs.drop o).take (P.cellsOf t))) → GoodAt w ts (cs.drop off):=by
 intro fs
 induction fs with
 | nil =>
   intro off ts cs h hl _
   simp only [rdFs,Option.some.injEq] at h
   subst h
   exact ⟨[],by simp [Rds],by simp at hl ⊢; omega,by simp⟩
 | cons p fs ih =>
   intro off ts cs h hl hg
   obtain ⟨o,t⟩:=p
   simp only [rdFs] at h
   split at h
   · rename_i ho
     subst ho
     split at h
     · rename_i ag us hft
       split at h
       · rename_i hlen
         simp only [Option.map_eq_some_iff] at h
         obtain ⟨ts',h1,rfl⟩:=h
         obtain ⟨xs,x1,x2,x3⟩:=hg 0 o t ag us rfl hft
         obtain ⟨ys,y1,y2,y3⟩:=ih (o + us.length) ts' cs h1 (by simp at hl; omega) (fun i o' t' ag' us' h'=>hg (i + 1) o' t' ag' us' (by simpa using h'))
         refine ⟨xs ++ ys,Rds_append x1 y1,by simp at hl ⊢; omega,fun i c v hc hv=>?_⟩
         have hxl:=(Rds_len x1).1
         rw [← hlen] at x3
         by_cases hi:i < us.length
         · rw [List.getElem?_append_left (by omega)] at hc
           exact x3 i c v hc (by rw [List.getElem?_take,if_pos hi]; exact hv)
         · rw [List.getElem?_append_right (by omega)] at hc
           refine y3 _ c v hc ?_
           rw [List.getElem?_drop] at hv ⊢
           rw [← hv]; congr 1; omega
       · cases h
     · cases h
   · cases h
theorem trod_rd:∀ (n:Nat) (t:TypeId) (ag:Bool) (ts:List CTy),rdT P n t = some (ag,ts) → ∀ (fuel:Nat) (cs:List Value) (x:DataW H × List MemPlace),DataW.trod enc P w 0 spare held fuel t cs = some x →
   (∀ m ∈ x.1.weights P t,m ≤ reachBytes) → GoodAt w ts cs:=by
 intro n
 induction n with
 | zero=>intro t ag ts h; simp [rdT] at h
 | succ n ih =>
   intro t ag ts h fuel cs x hx hw
   simp only [rdT] at h
   split at h
   · rename_i hu
     simp only [Option.some.injEq,Prod.mk.injEq] at h
     obtain ⟨_,rfl⟩:=h
     obtain ⟨b,rfl,_⟩:=DataW.trod_bool hu hx
     refine ⟨[.bool b],by simp [Rds,Rd],rfl,fun i c v hc hv=>?_⟩
     cases i <;> simp at hc hv
     subst hc hv; exact .bool b
   · rename_i k hu
     simp only [Option.some.injEq,Prod.mk.injEq] at h
     obtain ⟨_,rfl⟩:=h
     obtain ⟨b,rfl,_,hwf⟩:=DataW.trod_int hu hx
     refine ⟨[.int k b],by simp [Rds,Rd,hwf],rfl,fun i c v hc hv=>?_⟩
     cases i <;> simp at hc hv
     subst hc hv; exact .int k b
   · rename_i e hu
     split at h
     · rename_i ag' us hr
       split at h
       · rename_i hlen
         obtain ⟨hlen,hpos⟩:=hlen
         simp only [Option.some.injEq,Prod.mk.injEq] at h
         obtain ⟨_,rfl⟩:=h
         rcases DataW.trod_slice hu hx with ⟨rfl,rfl⟩ | ⟨a,len,cap,elems,rest,m,rfl,rfl,rfl,hb,hl,hc,hel,hel',_,_⟩
         · refine ⟨[.sl us.length [] .sh],by simp [Rds,Rd],rfl,fun i c v hc hv=>?_⟩
           cases i <;> simp at hc hv
           subst hc hv; exact .slnil _ _
         · have hw':∀ m ∈ (elems.length + rest.length) * P.bytesOf e :: DataW.weightsAll P e (elems.map (·.1)),m ≤ reachBytes:=by
             intro m hm
             refine hw m ?_
             simp only [DataW.weights,hu,List.length_map]
             rcases List.mem_cons.1 hm with h | h
             · subst h; simp
             · simp [h]
           have each:∀ i,i < len → ∃ y:AVal,(∃ xs,(if ag' = true then y = .agg xs else xs = [y]) ∧ Rds us xs ∧ ∀ (j:Nat) (c:AVal),xs[j]? = some c → ∃ v,w.cell? ⟨a.block,a.off + (i * us.length + j),none⟩ = some v ∧ RepT (W0 w) c v):=by
             intro i hi
             have h1:=hel' i hi
             have h2:elems[i]? = some (elems[i]'(by omega)):=List.getElem?_eq_getElem _
             rw [h2] at h1
             simp only [Option.bind_eq_some_iff] at h1
             obtain ⟨ecs,hcells,htrod⟩:=h1
             obtain ⟨xs,x1,x2,x3⟩:=ih e ag' us hr _ ecs _ htrod (fun m hm=>hw' m (List.mem_cons_of_mem _ (weights_all (i:=i) (by rw [List.getElem?_map,h2]; rfl) m hm)))
             obtain ⟨_,c2,c3⟩:=World.cells?_some hcells
             have fin:∀ (j:Nat) (c:AVal),xs[j]? = some c → ∃ v,w.cell? ⟨a.block,a.off + (i * us.length + j),none⟩ = some v ∧ RepT (W0 w) c v:=by
               intro j c hc
               have hj:j < us.length:=by rw [← (Rds_len x1).1]; exact (List.getElem?_eq_some_iff.1 hc).1
               have hv:ecs[j]? = some (ecs[j]'(by omega)):=List.getElem?_eq_getElem _
               have h3:=c3 j (by omega)
               rw [hv] at h3
               have h4:=cell_add2 h3
               rw [hlen]
               exact ⟨_,h4,x3 j c _ hc hv⟩
             cases ag' with
             | true=>exact ⟨.agg xs,xs,by simp,x1,fin⟩
             | false =>
               obtain ⟨c,rfl⟩:=rdT_one hr
               have hl1:=(Rds_len x1).1
               obtain ⟨y,rfl⟩:=List.length_eq_one_iff.1 hl1
               exact ⟨y,[y],by simp,x1,fin⟩
           obtain ⟨ys,y1,y2⟩:=listOf len each
           have hk:∀ y ∈ ys,y.cells.length = us.length ∧ (∀ c ∈ y.cells,c.scalar = true) ∧ ∃ cs,(if ag' = true then y = .agg cs else cs = [y]) ∧ Rds us cs:=by
             intro y hy
             obtain ⟨i,hi⟩:=List.getElem?_of_mem hy
             obtain ⟨xs,q1,q2,_⟩:=y2 i y hi
             obtain ⟨l1,l2⟩:=Rds_len q2
             cases ag' with
             | true =>
               simp only [if_true] at q1; subst q1
               exact ⟨l1,l2,xs,by simp,q2⟩
             | false =>
               simp at q1; subst q1
               have hs:=l2 y (by simp)
               rw [show y.cells = [y] by cases y <;> first | rfl | simp [AVal.scalar] at hs]
               exact ⟨l1,by simpa using hs,[y],by simp,q2⟩
           have cellsOf:∀ (i j:Nat) (y c:AVal),ys[i]? = some y → y.cells[j]? = some c → ∃ v,w.cell? ⟨a.block,a.off + (i * us.length + j),none⟩ = some v ∧ RepT (W0 w) c v:=by
             intro i j y c hy hc
             obtain ⟨xs,q1,q2,q3⟩:=y2 i y hy
             refine q3 j c ?_
             cases ag' with
             | true=>simp only [if_true] at q1; subst q1; exact hc
             | false =>
               simp at q1; subst q1
               have hs:=(Rds_len q2).2 y (by simp)
               rw [show y.cells = [y] by cases y <;> first | rfl | simp [AVal.scalar] at hs] at hc
               exact hc
           have total:∀ j,j < len * us.length → ∃ v,w.cell? ⟨a.block,a.off + j,none⟩ = some v:=by
             intro j hj
             have hq:j / us.length < len:=(Nat.div_lt_iff_lt_mul hpos).2 hj
             have hm:j % us.length < us.length:=Nat.mod_lt _ hpos
             have hy:ys[j / us.length]? = some (ys[j / us.length]'(by omega)):=List.getElem?_eq_getElem _
             have hl1:=(hk _ (List.getElem_mem (by omega:j / us.length < ys.length))).1
             have hc:(ys[j / us.length]'(by omega)).cells[j % us.length]? = some ((ys[j / us.length]'(by omega)).cells[j % us.length]'(by omega)):=List.getElem?_eq_getElem _
             obtain ⟨v,hv,_⟩:=cellsOf _ _ _ _ hy hc
             rw [show j / us.length * us.length + j % us.length = j by rw [Nat.mul_comm]; exact Nat.div_add_mod _ _] at hv
             exact ⟨v,hv⟩
           refine ⟨[.sl us.length ys .sh],?_,rfl,fun i c v hc hv=>?_⟩
           · simp only [Rds,Rd]
             refine ⟨_,[],rfl,⟨ys,rfl,?_,fun y hy=>(hk y hy).2.2⟩,rfl⟩
             have:=hw' _ (List.mem_cons_self ..)
             rw [y1]
             refine Nat.le_trans (Nat.mul_le_mul_right _ ?_) this
             omega
           · cases i <;> simp at hc hv
             subst hc hv
             refine .sl _ ys .sh a len cap (fun j=>(w.cell? ⟨a.block,a.off + j,none⟩).getD undef) y1.symm hl (fun hne=>?_) (fun _=>hpos) (by simp) (fun y hy=>(hk y hy).1) (fun y hy=>(hk y hy).2.1) (fun j hj=>?_) (fun i j y c hy hc=>?_)
             · have h0:0 < len:=by rw [← y1]; exact List.length_pos_iff.2 hne
               have h1:=hel' 0 h0
               rw [show elems[0]? = some (elems[0]'(by omega)) from List.getElem?_eq_getElem _] at h1
               simp only [Option.bind_eq_some_iff] at h1
               obtain ⟨ecs,hcells,_⟩:=h1
               obtain ⟨_,c2,c3⟩:=World.cells?_some hcells
               have h3:=c3 0 (by omega)
               rw [Nat.zero_mul,show ecs[0]? = some (ecs[0]'(by omega)) from List.getElem?_eq_getElem _] at h3
               rw [show a.add 0 = a by unfold Addr.add; simp] at h3
               exact cell_spot0 h3
             · obtain ⟨v,hv⟩:=total j hj
               show w.cell? _ = _
               rw [hv]; rfl
             · obtain ⟨v,hv,hr'⟩:=cellsOf i j y c hy hc
               simp only [hv,Option.getD_some]
               exact hr'
       · cases h
     · cases h
   · rename_i fs hu
     split at h
     · rename_i us hr
       split at h
       · rename_i hlen
         simp only [Option.some.injEq,Prod.mk.injEq] at h
         obtain ⟨_,rfl⟩:=h
         obtain ⟨xs,m,rfl,rfl,hcl,hxl,hel⟩:=DataW.trod_struct hu hx
         refine rdFs_good _ 0 us cs hr (by omega) ?_
         intro i o t' ag' us' hi hf
         simp only [List.getElem?_map,Option.map_eq_some_iff,Prod.mk.injEq] at hi
         obtain ⟨f,hfi,rfl,rfl⟩:=hi
         have hfi':fs[i]? = some f:=by simpa using hfi
         have hlt:i < xs.length:=by rw [hxl]; exact (Array.getElem?_eq_some_iff.1 hfi').1
         have h1:=hel i f hfi'
         rw [List.getElem?_eq_getElem hlt] at h1
         refine ih _ ag' us' hf _ _ _ h1 (fun m hm=>hw m ?_)
         simp only [DataW.weights,hu]
         exact weights_each (i:=i) (by simp [hfi']) (by simp [hlt]) m hm
       · cases h
     · cases h
   · rename_i k e hu
     split at h
     · rename_i us hr
       split at h
       · rename_i hlen
         simp only [Option.some.injEq,Prod.mk.injEq] at h
         obtain ⟨_,rfl⟩:=h
         obtain ⟨xs,m,rfl,rfl,hcl,hxl,hel⟩:=DataW.trod_array hu hx
         refine rdFs_good _ 0 us cs hr (by omega) ?_
         intro i o t' ag' us' hi hf
         simp only [List.getElem?_map,Option.map_eq_some_iff,Prod.mk.injEq] at hi
         obtain ⟨i',hi',rfl,rfl⟩:=hi
         obtain ⟨hlt',he⟩:=List.getElem?_eq_some_iff.1 hi'
         simp at he hlt'
         subst he
         have h1:=hel i hlt'
         rw [List.getElem?_eq_getElem (by omega)] at h1
         refine ih _ ag' us' hf _ _ _ h1 (fun m hm=>hw m ?_)
         simp only [DataW.weights,hu]
         exact weights_all (i:=i) (by simp; exact ⟨_,List.getElem?_eq_getElem (by omega)⟩) m hm
       · cases h
     · cases h
   · cases h
end
end Go.Am
