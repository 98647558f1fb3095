/- The abstract machine, part three: the operations that only compute and read. -/
import Derived.Test.YtapgoboiljjecaaGreatDoorAmB
namespace Go.Am
open Go
set_option linter.unusedSectionVars false
variable [Globs]
def ofS:Value → AVal
 | .bool b=>.bool b
 | .int k n=>.int k n
 | .pointer none=>.nilp
 | .nilFunc=>.nilf
 | .slice none 0 0=>.sl 0 [] .full
 | _=>.undef
def ofC:Value → AVal
 | .agg cs=>if (cs.toList.map ofS).all AVal.scalar = true then .agg (cs.toList.map ofS) else .undef
 | v=>ofS v
def av (t:Nat → AVal):Operand → AVal
 | .tmp i=>t i
 | .const v=>ofC v
 | .global g=>.iptr ((Globs.tab g).map fun x=>.int x.1 x.2) 0
 | .func f=>.fn f [] []
theorem RepT_ofS (F:Frz) (v:Value) (h:(ofS v).scalar = true):RepT F (ofS v) v:=by
 unfold ofS at h ⊢
 split <;> first | exact .bool _ | exact .int _ _ | exact .nilp | exact .nilf | exact .slnil _ _ | (simp [AVal.scalar] at h)
theorem Rep_ofS (n:Nat) (r:Nat → Nat × Nat) (F:Frz) (v:Value):Rep n r F (ofS v) v:=by
 by_cases h:(ofS v).scalar = true
 · exact .tree _ _ (RepT_ofS F v h)
 · have:ofS v = .undef:=by
     unfold ofS at h ⊢
     split <;> first | rfl | (simp [AVal.scalar] at h)
   rw [this]; exact .undef v
theorem Rep_ofC (n:Nat) (r:Nat → Nat × Nat) (F:Frz) (v:Value):Rep n r F (ofC v) v:=by
 unfold ofC
 split
 · rename_i cs
   split
   · rename_i hs
     refine .tree _ _ (.agg _ _ (by simp) (fun c hc=>List.all_eq_true.1 hs c hc) (fun i c u hc hu=>?_))
     simp only [List.getElem?_map,Option.map_eq_some_iff,Array.getElem?_toList] at hc
     obtain ⟨u',hu',rfl⟩:=hc
     rw [hu] at hu'
     injection hu' with hu'
     subst hu'
     exact RepT_ofS F u (List.all_eq_true.1 hs _ (List.mem_map.2 ⟨u,by simpa using Array.mem_of_getElem? hu,rfl⟩))
   · exact .undef _
 · exact Rep_ofS n r F v
theorem ofC_isOwn (v:Value):(ofC v).isOwn = false:=by
 unfold ofC
 split
 · split <;> rfl
 · unfold ofS
   split <;> rfl
section
theorem Rep_glob (n:Nat) (r:Nat → Nat × Nat) (F:Frz) (g:Nat):Rep n r F (.iptr ((Globs.tab g).map fun x=>.int x.1 x.2) 0) (.pointer (some ⟨g,0,none⟩)):=by
 have key:∀ j (hj:j < (Globs.tab g).length),Globs.at_ g j = some (.int (Globs.tab g)[j].1 (Globs.tab g)[j].2):=fun j hj=>by
   unfold Globs.at_
   rw [List.getElem?_eq_getElem hj]
   rfl
 refine Rep.iptr _ 0 g 0 (fun j=>(Globs.at_ g j).getD (.bool false)) ?_ ?_ ?_
 · intro c hc
   obtain ⟨x,_,rfl⟩:=List.mem_map.1 hc
   rfl
 · intro j hj
   have hj':j < (Globs.tab g).length:=by simpa using hj
   rw [Nat.zero_add,key j hj']
   exact F.gl g j _ (key j hj')
 · intro j c hc
   have hj:j < (Globs.tab g).length:=by have:=(List.getElem?_eq_some_iff.1 hc).1; simpa using this
   rw [key j hj]
   rw [List.getElem?_map,List.getElem?_eq_getElem hj] at hc
   simp only [Option.map_some,Option.some.injEq] at hc
   subst hc
   exact .int _ _
variable {n m:Nat} {G0:Gh} {w0:World} {s:ASt} {G:Gh} {a:Act} {w:World}
theorem R.get (h:R n m G0 w0 s G a w) (o:Operand):Rep s.H.length G.r G.F (av s.t o) (a.eval o):=by
 cases o with
 | tmp i =>
   by_cases hi:i < n
   · have:a.tmps[i]? = some (a.eval (.tmp i)):=by
       have:=h.sz
       simp [Act.eval,Array.getD,this,hi]
     exact (h.tmp i _ this).1
   · have:s.t i = .undef:=h.out i (Nat.le_of_not_lt hi)
     simp only [av,this]
     exact .undef _
 | const v=>exact Rep_ofC _ _ _ v
 | global g=>exact Rep_glob _ _ _ g
 | func f=>exact .fn f [] [] #[] #[] rfl rfl (by simp) (by simp)
end
def tk (P:Program) (t:TypeId):Option (Bool × Nat) :=
 match P.underlying t,P.info? t with
 | some (.struct _),some i=>some (true,i.size)
 | some (.array _ _),some i=>some (true,i.size)
 | some _,some i=>some (false,i.size)
 | _,_=>none
def tf (P:Program) (t:TypeId) (i:Nat):Option (Nat × Nat × Bool) :=
 match P.underlying t with
 | some (.struct fs) =>
   match fs[i]? with
   | some f=>match tk P f.type with
     | some (g,sz)=>some (f.offset,sz,g)
     | none=>none
   | none=>none
 | _=>none
def te (P:Program) (t:TypeId):Option (Nat × Option Nat) :=
 match P.underlying t with
 | some (.slice e)=>(P.info? e).map fun i=>(i.size,none)
 | some (.array n e)=>(P.info? e).map fun i=>(i.size,some n)
 | _=>none
def AVal.tree:AVal → Bool
 | .bool _ | .ubool | .int _ _ | .nilp | .nilf | .str _ | .sl _ _ _=>true
 | _=>false
theorem Rep.toTree {n:Nat} {r:Nat → Nat × Nat} {F:Frz} {x:AVal} {v:Value} (h:Rep n r F x v) (hx:x.tree = true):RepT F x v:=by
 cases h with
 | tree x v h=>exact h
 | _=>simp [AVal.tree] at hx
theorem tree_scalar {x:AVal} (h:x.tree = true):x.scalar = true:=by
 cases x <;> first | rfl | simp [AVal.tree] at h
theorem dis_scalar {x:AVal} (h:x.scalar = true):x.dis.scalar = true:=by
 cases x with
 | sl k xs m=>cases m <;> rfl
 | _=>exact h
def aload (q:Option (Bool × Nat)) (cs:List AVal) (off:Nat):Option AVal :=
 match q with
 | some (true,k)=>if 0 < k ∧ off + k ≤ cs.length ∧ ((cs.drop off).take k).all AVal.tree = true then some (.agg (((cs.drop off).take k).map AVal.dis))
   else if 0 < k ∧ off + k ≤ cs.length ∧ ((cs.drop off).take k).all AVal.scalar = true then some (.mix (((cs.drop off).take k).map AVal.dis)) else none
 | some (false,_)=>(cs[off]?).map AVal.dis
 | none=>none
def aloadp (q:Option (Bool × Nat)) (H:List (List AVal)):AVal → Option AVal
 | .ptr id off=>(H[id]?).bind fun cs=>aload q cs off
 | .iptr cs off=>aload q cs off
 | _=>none
theorem run_sizeOf' {P:Program} {t:TypeId} {i:TypeInfo} (h:P.info? t = some i) (w:World):(sizeOf t).run P w = .ok i.size w:=by
 simp [sizeOf,typeInfo,h]
theorem run_load_row {P:Program} {t:TypeId} {q:Bool × Nat} (hq:tk P t = some q) (w:World) (ad:Addr) (ha:ad.spot = none) (val:Nat → Value) (len:Nat)
   (hlen:if q.1 = true then q.2 ≤ len else 0 < len) (h:∀ j,j < len → w.cell? ⟨ad.block,ad.off + j,none⟩ = some (val j)) :
   (loadVar t ad).run P w = .ok (if q.1 = true then .agg ((List.range q.2).map val).toArray else val 0) w:=by
 have hadd:∀ j,ad.add j = ⟨ad.block,ad.off + j,none⟩:=by
   intro j
   unfold Addr.add
   split
   · rename_i e; subst e; cases ad; simp at ha; simp [ha]
   · rfl
 unfold tk at hq
 split at hq
 · rename_i fs i hu hi
   injection hq with hq; subst hq
   simp only [if_true] at hlen ⊢
   simp [loadVar,isAgg,run_underlying hu,sizeOf,typeInfo,hi,run_loadCells w ad i.size val (fun j hj=>by rw [hadd]; exact h j (by omega))]
 · rename_i n e i hu hi
   injection hq with hq; subst hq
   simp only [if_true] at hlen ⊢
   simp [loadVar,isAgg,run_underlying hu,sizeOf,typeInfo,hi,run_loadCells w ad i.size val (fun j hj=>by rw [hadd]; exact h j (by omega))]
 · rename_i d i hn1 hn2 hu hi
   injection hq with hq; subst hq
   simp only [Bool.false_eq_true,if_false] at hlen ⊢
   have h0:=h 0 hlen
   have hc:w.cell? ad = some (val 0):=by
     have:=hadd 0
     simp [Addr.add] at this
     rw [this]
     simpa using h0
   have:(isAgg t).run P w = .ok false w:=by
     unfold isAgg
     simp only [Sem.run_bind,run_underlying hu,Result.andThen_ok]
     rfl
   simp [loadVar,this,hc]
 · simp at hq
section
variable {P:Program} {n m:Nat} {G0:Gh} {w0:World} {s:ASt} {G:Gh} {a:Act} {w:World}
theorem R.boxCells (h:R n m G0 w0 s G a w) {id:Nat} {cs:List AVal} (hid:s.H[id]? = some cs) (hne:cs ≠ []) :
   ∃ c T,w.heap[(G.r id).1]? = some (.cells c T (0,0)) ∧ cs.length ≤ c.size ∧ ∀ (j:Nat) (x:AVal),cs[j]? = some x → ∃ v,c[j]? = some v ∧ w.cell? ⟨(G.r id).1,j,none⟩ = some v ∧ Rep s.H.length G.r G.F x v:=by
 obtain ⟨c,T,h1,⟨h2,_⟩,_,_,h5⟩:=h.sr.box id cs hid hne
 refine ⟨c,T,h1,h2,fun j x hx=>?_⟩
 have hj:j < c.size:=Nat.lt_of_lt_of_le (List.getElem?_eq_some_iff.1 hx).1 h2
 have hc:c[j]? = some c[j]:=Array.getElem?_eq_getElem hj
 exact ⟨c[j],hc,by rw [cell_of_row w (G.r id).1 j c T (0,0) h1]; exact hc,(h5 j x _ hx hc).1⟩
theorem aload_rep {q:Bool × Nat} {cs:List AVal} {off:Nat} {x:AVal} (hx:aload (some q) cs off = some x) {k:Nat} {r:Nat → Nat × Nat} {F:Frz} (val:Nat → Value)
   (hv:∀ j y,cs[off + j]? = some y → Rep k r F y (val j)) :
   (if q.1 = true then off + q.2 ≤ cs.length else off < cs.length) ∧ Rep k r F x (if q.1 = true then .agg ((List.range q.2).map val).toArray else val 0) ∧ x.isOwn = false:=by
 obtain ⟨g,sz⟩:=q
 cases g with
 | true =>
   simp only [aload] at hx
   split at hx
   · rename_i hc
     obtain ⟨_,h1,h2⟩:=hc
     injection hx with hx
     subst hx
     simp only [if_true]
     refine ⟨h1,.tree _ _ (.agg _ _ ?_ ?_ ?_),rfl⟩
     · simp only [List.size_toArray,List.length_map,List.length_range,List.length_take,List.length_drop]
       omega
     · intro c hc
       obtain ⟨y,hy,rfl⟩:=List.mem_map.1 hc
       exact dis_scalar (tree_scalar (List.all_eq_true.1 h2 y hy))
     · intro i c v hc hvv
       simp only [List.getElem?_map,Option.map_eq_some_iff] at hc
       obtain ⟨y,hy,rfl⟩:=hc
       simp only [List.getElem?_toArray,List.getElem?_map,Option.map_eq_some_iff] at hvv
       obtain ⟨i',hi',rfl⟩:=hvv
       have hi'':=List.getElem?_eq_some_iff.1 hi'
       obtain ⟨hlt',he⟩:=hi''
       simp only [List.getElem_range] at he
       subst he
       have ht:=List.all_eq_true.1 h2 y (List.mem_of_getElem? hy)
       simp only [List.getElem?_take,List.getElem?_drop] at hy
       split at hy
       · exact ((hv _ _ hy).toTree ht).dis
       · cases hy
   · split at hx
     case isFalse=>cases hx
     rename_i hc
     obtain ⟨_,h1,h2⟩:=hc
     injection hx with hx
     subst hx
     simp only [if_true]
     refine ⟨h1,.mix _ _ ?_ ?_ ?_,rfl⟩
     · simp only [List.size_toArray,List.length_map,List.length_range,List.length_take,List.length_drop]
       omega
     · intro c hc
       obtain ⟨y,hy,rfl⟩:=List.mem_map.1 hc
       exact dis_scalar (List.all_eq_true.1 h2 y hy)
     · intro i c v hc hvv
       simp only [List.getElem?_map,Option.map_eq_some_iff] at hc
       obtain ⟨y,hy,rfl⟩:=hc
       simp only [List.getElem?_toArray,List.getElem?_map,Option.map_eq_some_iff] at hvv
       obtain ⟨i',hi',rfl⟩:=hvv
       have hi'':=List.getElem?_eq_some_iff.1 hi'
       obtain ⟨hlt',he⟩:=hi''
       simp only [List.getElem_range] at he
       subst he
       simp only [List.getElem?_take,List.getElem?_drop] at hy
       split at hy
       · exact (hv _ _ hy).dis
       · cases hy
 | false =>
   simp only [aload,Option.map_eq_some_iff] at hx
   obtain ⟨y,hy,rfl⟩:=hx
   simp only [Bool.false_eq_true,if_false]
   exact ⟨(List.getElem?_eq_some_iff.1 hy).1,(hv 0 y (by simpa using hy)).dis,isOwn_dis y⟩
theorem load_sound (h:R n m G0 w0 s G a w) {t:TypeId} {ad:AVal} {va:Value} (hr:Rep s.H.length G.r G.F ad va) {x:AVal} (hx:aloadp (tk P t) s.H ad = some x) :
   ∃ v,(Instr.loadAt t va).run P w = .ok v w ∧ Rep s.H.length G.r G.F x v ∧ x.isOwn = false:=by
 unfold aloadp at hx
 cases hr with
 | ptr id off hid =>
   simp only [Option.bind_eq_some_iff] at hx
   obtain ⟨cs,hcs,hx⟩:=hx
   cases hq:tk P t with
   | none=>rw [hq] at hx; simp [aload] at hx
   | some q =>
     rw [hq] at hx
     have hne:cs ≠ []:=by
       rintro rfl
       obtain ⟨g,sz⟩:=q
       cases g with
       | true=>simp only [aload,List.length_nil] at hx; split at hx <;> first | omega | (split at hx <;> first | omega | (cases hx; done))
       | false=>simp [aload] at hx
     obtain ⟨c,T,h1,h2,h3⟩:=h.boxCells hcs hne
     obtain ⟨l1,l2,l3⟩:=aload_rep hx (k:=s.H.length) (r:=G.r) (F:=G.F) (fun j=>c.getD (off + j) undef) (fun j y hy=>by
       obtain ⟨v,e1,_,e3⟩:=h3 _ _ hy
       simp only [Array.getD_eq_getD_getElem?,e1]
       exact e3)
     refine ⟨_,?_,l2,l3⟩
     unfold Instr.loadAt
     simp only [Instr.sureAddr,Sem.run_bind,Sem.run_pure,Result.andThen_ok]
     have:=run_load_row (P:=P) hq w ⟨(G.r id).1,off,none⟩ rfl (fun j=>c.getD (off + j) undef) (c.size - off) (by split <;> rename_i hg <;> simp only [hg] at l1 <;> simp at l1 ⊢ <;> omega) (fun j hj=>by
       show w.cell? ⟨(G.r id).1,off + j,none⟩ = _
       rw [cell_of_row w (G.r id).1 (off + j) c T (0,0) h1]
       simp only [Array.getD_eq_getD_getElem?,Array.getElem?_eq_getElem (show off + j < c.size by omega),Option.getD_some])
     exact this
 | iptr cs off b o val hs hF hrep =>
   cases hq:tk P t with
   | none=>simp only [hq] at hx; simp [aload] at hx
   | some q =>
     simp only [hq] at hx
     obtain ⟨l1,l2,l3⟩:=aload_rep hx (k:=s.H.length) (r:=G.r) (F:=G.F) (fun j=>val (off + j)) (fun j y hy=>.tree _ _ (hrep _ _ hy))
     refine ⟨_,?_,l2,l3⟩
     unfold Instr.loadAt
     simp only [Instr.sureAddr,Sem.run_bind,Sem.run_pure,Result.andThen_ok]
     exact run_load_row (P:=P) hq w ⟨b,o + off,none⟩ rfl (fun j=>val (off + j)) (cs.length - off) (by split <;> rename_i hg <;> simp only [hg] at l1 <;> simp at l1 ⊢ <;> omega) (fun j hj=>by
       show w.cell? ⟨b,o + off + j,none⟩ = _
       rw [Nat.add_assoc]
       exact h.sr.frz _ _ _ (hF _ (by omega)))
 | tree x v ht=>cases ht <;> simp at hx
 | undef=>simp at hx
 | osl=>simp at hx
 | osl0=>simp at hx
 | fn=>simp at hx
 | tup=>simp at hx
 | mix=>simp at hx
end
end Go.Am
