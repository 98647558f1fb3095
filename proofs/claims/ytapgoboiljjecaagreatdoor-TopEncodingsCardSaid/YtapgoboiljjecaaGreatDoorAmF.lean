/- The abstract machine, part six: values that are put together. -/
import Derived.Test.YtapgoboiljjecaaGreatDoorAmE
import Derived.Laws.Tables
namespace Go.Am
open Go
set_option linter.unusedSectionVars false
variable [Globs]
def setR:List AVal → Nat → List AVal → List AVal
 | cs,_,[]=>cs
 | cs,off,y :: ys=>setR (cs.set off y) (off + 1) ys
theorem setR_length:∀ (ys cs:List AVal) (off:Nat),(setR cs off ys).length = cs.length:=by
 intro ys
 induction ys with
 | nil=>intro cs off; rfl
 | cons y ys ih=>intro cs off; simp [setR,ih]
def AVal.part:AVal → Bool
 | .agg _=>true
 | x=>x.tree
structure CellsRep (F:Frz) (cs:List AVal) (cells:Array Value):Prop where
  size:cells.size = cs.length
  h1:∀ c ∈ cs,c.scalar = true
  h:∀ (i:Nat) (c:AVal) (v:Value),cs[i]? = some c → cells[i]? = some v → RepT F c v
theorem CellsRep.set {F:Frz} {cs:List AVal} {cells:Array Value} (hr:CellsRep F cs cells) (i:Nat) {y:AVal} {v:Value} (hs:y.scalar = true) (hy:RepT F y v):CellsRep F (cs.set i y) (cells.setIfInBounds i v):=by
 refine ⟨by simp [hr.size],fun c hc=>?_,fun j c u hc hu=>?_⟩
 · rcases List.mem_or_eq_of_mem_set hc with hc | hc
   · exact hr.h1 c hc
   · rw [hc]; exact hs
 · rw [List.getElem?_set] at hc
   rw [Array.getElem?_setIfInBounds] at hu
   by_cases hij:i = j
   · subst hij
     have:=hr.size
     by_cases hlt:i < cs.length
     · rw [if_pos rfl,if_pos hlt] at hc
       rw [if_pos rfl,if_pos (by omega)] at hu
       injection hc with hc; injection hu with hu
       subst hc hu
       exact hy
     · rw [if_pos rfl,if_neg hlt] at hc; cases hc
   · rw [if_neg hij] at hc hu
     exact hr.h j c u hc hu
theorem CellsRep.setR {F:Frz}:∀ (vs:List Value) (ys:List AVal) (cs:List AVal) (cells:Array Value) (off k:Nat),CellsRep F cs cells → vs.length = ys.length → (∀ y ∈ ys,y.scalar = true) →
   (∀ (i:Nat) (y:AVal) (v:Value),ys[i]? = some y → vs[i]? = some v → RepT F y v) →
   CellsRep F (setR cs (off + k) ys) ((vs.zipIdx k).foldl (fun cs p=>cs.setIfInBounds (off + p.2) p.1) cells):=by
 intro vs
 induction vs with
 | nil =>
   intro ys cs cells off k hr hl hs hy
   have:ys = []:=List.eq_nil_of_length_eq_zero (by simpa using hl.symm)
   subst this
   exact hr
 | cons v vs ih =>
   intro ys cs cells off k hr hl hs hy
   cases ys with
   | nil=>simp at hl
   | cons y ys =>
     simp only [List.zipIdx_cons,List.foldl_cons,Am.setR]
     have:=ih ys (cs.set (off + k) y) (cells.setIfInBounds (off + k) v) off (k + 1) (hr.set _ (hs y (by simp)) (hy 0 y v rfl rfl)) (by simpa using hl) (fun y h=>hs y (by simp [h])) (fun i y v a b=>hy (i + 1) y v a b)
     rwa [← Nat.add_assoc] at this
theorem part_cells {F:Frz} {x:AVal} {v:Value} (h:RepT F x v) (hp:x.part = true):v.cells.size = x.cells.length ∧ (∀ c ∈ x.cells,c.scalar = true) ∧ ∀ (i:Nat) (c:AVal) (u:Value),x.cells[i]? = some c → v.cells[i]? = some u → RepT F c u:=by
 refine h.cells ?_
 cases x <;> first | exact .inr ⟨_,rfl⟩ | (left; rfl) | (simp [AVal.part,AVal.tree] at hp)
theorem part_toTree {n:Nat} {r:Nat → Nat × Nat} {F:Frz} {x:AVal} {v:Value} (h:Rep n r F x v) (hp:x.part = true):RepT F x v:=by
 cases h with
 | tree x v h=>exact h
 | _=>simp [AVal.part,AVal.tree] at hp
def bplan (P:Program) (t:TypeId):Option (List (Nat × Nat) × List AVal) :=
 match P.info? t,P.underlying t with
 | some it,some (.struct fields) =>
   match it.zero,fields.toList.mapM (fun f=>(P.info? f.type).map fun i=>(f.offset,i.size)) with
   | some z,some pl=>some (pl,z.cells.toList.map ofS)
   | _,_=>none
 | some it,some (.array n e) =>
   match it.zero,P.info? e with
   | some z,some ie=>some ((List.range n).map fun i=>(i * ie.size,ie.size),z.cells.toList.map ofS)
   | _,_=>none
 | _,_=>none
def afill (pl:List (Nat × Nat)):List AVal → List (Nat × AVal) → Option (List AVal)
 | cs,[]=>some cs
 | cs,(i,x) :: ps =>
   match pl[i]? with
   | some (off,sz)=>if x.cells.length = sz ∧ off + sz ≤ cs.length ∧ x.part = true then afill pl (setR cs off (x.cells.map AVal.dis)) ps else none
   | none=>none
def AVal.stow (x:AVal):Bool:=x.scalar || (x.part || x.isMix)
def afillM (pl:List (Nat × Nat)):List AVal → List (Nat × AVal) → Option (List AVal)
 | cs,[]=>some cs
 | cs,(i,x) :: ps =>
   match pl[i]? with
   | some (off,sz)=>if x.cells.length = sz ∧ off + sz ≤ cs.length ∧ x.stow = true then afillM pl (setR cs off (x.cells.map AVal.dis)) ps else none
   | none=>none
def abuildK (zs:List AVal) (pl:List (Nat × Nat)) (ps:List (Nat × AVal)):Option (List AVal) → Option AVal
 | some cs=>some (.agg cs)
 | none=>(afillM pl zs ps).map .mix
def abuild (q:Option (List (Nat × Nat) × List AVal)) (ps:List (Nat × AVal)):Option AVal :=
 match q with
 | some (pl,zs)=>if zs.all AVal.scalar = true then abuildK zs pl ps (afill pl zs ps) else none
 | none=>none
theorem Rep.stowCells {n:Nat} {r:Nat → Nat × Nat} {F:Frz} {x:AVal} {v:Value} (h:Rep n r F x v) (hx:x.stow = true) :
   v.cells.size = x.cells.length ∧ (∀ c ∈ x.cells,c.scalar = true) ∧ ∀ (i:Nat) (c:AVal) (u:Value),x.cells[i]? = some c → v.cells[i]? = some u → Rep n r F c u:=by
 cases x with
 | mix cs=>exact h.mixCells
 | agg cs=>exact h.cells (.inr ⟨_,rfl⟩)
 | undef=>simp [AVal.stow,AVal.scalar,AVal.part,AVal.tree,AVal.isMix] at hx
 | tup=>simp [AVal.stow,AVal.scalar,AVal.part,AVal.tree,AVal.isMix] at hx
 | _=>exact h.cells (.inl rfl)
structure CellsRepM (n:Nat) (r:Nat → Nat × Nat) (F:Frz) (cs:List AVal) (cells:Array Value):Prop where
  size:cells.size = cs.length
  h1:∀ c ∈ cs,c.scalar = true
  h:∀ (i:Nat) (c:AVal) (v:Value),cs[i]? = some c → cells[i]? = some v → Rep n r F c v
theorem CellsRepM.set {n:Nat} {r:Nat → Nat × Nat} {F:Frz} {cs:List AVal} {cells:Array Value} (hr:CellsRepM n r F cs cells) (i:Nat) {y:AVal} {v:Value} (hs:y.scalar = true) (hy:Rep n r F y v):CellsRepM n r F (cs.set i y) (cells.setIfInBounds i v):=by
 refine ⟨by simp [hr.size],fun c hc=>?_,fun j c u hc hu=>?_⟩
 · rcases List.mem_or_eq_of_mem_set hc with hc | hc
   · exact hr.h1 c hc
   · rw [hc]; exact hs
 · rw [List.getElem?_set] at hc
   rw [Array.getElem?_setIfInBounds] at hu
   by_cases hij:i = j
   · subst hij
     have:=hr.size
     by_cases hlt:i < cs.length
     · rw [if_pos rfl,if_pos hlt] at hc
       rw [if_pos rfl,if_pos (by omega)] at hu
       injection hc with hc; injection hu with hu
       subst hc hu
       exact hy
     · rw [if_pos rfl,if_neg hlt] at hc; cases hc
   · rw [if_neg hij] at hc hu
     exact hr.h j c u hc hu
theorem CellsRepM.setR {n:Nat} {r:Nat → Nat × Nat} {F:Frz}:∀ (vs:List Value) (ys:List AVal) (cs:List AVal) (cells:Array Value) (off k:Nat),CellsRepM n r F cs cells → vs.length = ys.length → (∀ y ∈ ys,y.scalar = true) →
   (∀ (i:Nat) (y:AVal) (v:Value),ys[i]? = some y → vs[i]? = some v → Rep n r F y v) →
   CellsRepM n r F (setR cs (off + k) ys) ((vs.zipIdx k).foldl (fun cs p=>cs.setIfInBounds (off + p.2) p.1) cells):=by
 intro vs
 induction vs with
 | nil =>
   intro ys cs cells off k hr hl hs hy
   have:ys = []:=List.eq_nil_of_length_eq_zero (by simpa using hl.symm)
   subst this
   exact hr
 | cons v vs ih =>
   intro ys cs cells off k hr hl hs hy
   cases ys with
   | nil=>simp at hl
   | cons y ys =>
     simp only [List.zipIdx_cons,List.foldl_cons,Am.setR]
     have:=ih ys (cs.set (off + k) y) (cells.setIfInBounds (off + k) v) off (k + 1) (hr.set _ (hs y (by simp)) (hy 0 y v rfl rfl)) (by simpa using hl) (fun y h=>hs y (by simp [h])) (fun i y v a b=>hy (i + 1) y v a b)
     rwa [← Nat.add_assoc] at this
theorem fillM_sound {n:Nat} {r:Nat → Nat × Nat} {F:Frz} (place:Nat → Option (Nat × Nat)) (pl:List (Nat × Nat)) (hpl:∀ i q,pl[i]? = some q → place i = some q):∀ (ps:List (Nat × AVal)) (vs:List (Nat × Value)) (cs cs':List AVal) (cells:Array Value),
   CellsRepM n r F cs cells → vs.length = ps.length → (∀ (i:Nat) (p:Nat × AVal) (q:Nat × Value),ps[i]? = some p → vs[i]? = some q → q.1 = p.1 ∧ Rep n r F p.2 q.2) → afillM pl cs ps = some cs' →
   ∃ cells',Instr.fill place cells vs = some cells' ∧ CellsRepM n r F cs' cells':=by
 intro ps
 induction ps with
 | nil =>
   intro vs cs cs' cells hr hl _ h
   have:vs = []:=List.eq_nil_of_length_eq_zero (by simpa using hl)
   subst this
   injection h with h
   subst h
   exact ⟨cells,rfl,hr⟩
 | cons p ps ih =>
   intro vs cs cs' cells hr hl hp h
   cases vs with
   | nil=>simp at hl
   | cons q vs =>
     obtain ⟨i,x⟩:=p
     obtain ⟨i',v⟩:=q
     obtain ⟨e1,e2⟩:=hp 0 _ _ rfl rfl
     simp only at e1 e2
     subst e1
     unfold afillM at h
     split at h
     case h_2=>cases h
     rename_i off sz hq
     split at h
     case isFalse=>cases h
     rename_i hc
     obtain ⟨c1,c2,c3⟩:=hc
     obtain ⟨p1,p2,p3⟩:=e2.stowCells c3
     have hs:v.cells.size = sz:=by rw [p1,c1]
     have hfold:=CellsRepM.setR v.cells.toList (x.cells.map AVal.dis) cs cells off 0 hr (by simp [p1]) (fun y hy=>by
         obtain ⟨y',hy',rfl⟩:=List.mem_map.1 hy
         exact dis_scalar (p2 y' hy')) (fun i y u hy hu=>by
         simp only [List.getElem?_map,Option.map_eq_some_iff] at hy
         obtain ⟨y',hy',rfl⟩:=hy
         exact (p3 i y' u hy' (by simpa using hu)).dis)
     obtain ⟨cells',f1,f2⟩:=ih vs _ cs' _ hfold (by simpa using hl) (fun i p q a b=>hp (i + 1) p q a b) h
     refine ⟨cells',?_,f2⟩
     have hpl':=hpl i' _ hq
     have hcond:(decide (v.cells.size ≠ sz) || decide (off + v.cells.size > cells.size)) = false:=by
       have:=hr.size
       simp [hs]; omega
     unfold Instr.fill
     rw [hpl']
     simp only [hcond,Bool.false_eq_true,if_false]
     rw [← f1]
     congr 1
     rw [← Array.foldl_toList,Array.toList_zipIdx]
theorem fill_sound {F:Frz} (place:Nat → Option (Nat × Nat)) (pl:List (Nat × Nat)) (hpl:∀ i q,pl[i]? = some q → place i = some q):∀ (ps:List (Nat × AVal)) (vs:List (Nat × Value)) (cs cs':List AVal) (cells:Array Value),
   CellsRep F cs cells → vs.length = ps.length → (∀ (i:Nat) (p:Nat × AVal) (q:Nat × Value),ps[i]? = some p → vs[i]? = some q → q.1 = p.1 ∧ (p.2.part = true → RepT F p.2 q.2)) → afill pl cs ps = some cs' →
   ∃ cells',Instr.fill place cells vs = some cells' ∧ CellsRep F cs' cells':=by
 intro ps
 induction ps with
 | nil =>
   intro vs cs cs' cells hr hl _ h
   have:vs = []:=List.eq_nil_of_length_eq_zero (by simpa using hl)
   subst this
   injection h with h
   subst h
   exact ⟨cells,rfl,hr⟩
 | cons p ps ih =>
   intro vs cs cs' cells hr hl hp h
   cases vs with
   | nil=>simp at hl
   | cons q vs =>
     obtain ⟨i,x⟩:=p
     obtain ⟨i',v⟩:=q
     obtain ⟨e1,e2⟩:=hp 0 _ _ rfl rfl
     simp only at e1 e2
     subst e1
     unfold afill at h
     split at h
     case h_2=>cases h
     rename_i off sz hq
     split at h
     case isFalse=>cases h
     rename_i hc
     obtain ⟨c1,c2,c3⟩:=hc
     have hx:=e2 c3
     obtain ⟨p1,p2,p3⟩:=part_cells hx c3
     have hs:v.cells.size = sz:=by rw [p1,c1]
     have hb:¬ (off + v.cells.size > cells.size):=by rw [hr.size]; omega
     have hfold:=CellsRep.setR v.cells.toList (x.cells.map AVal.dis) cs cells off 0 hr (by simp [p1]) (fun y hy=>by
         obtain ⟨y',hy',rfl⟩:=List.mem_map.1 hy
         exact dis_scalar (p2 y' hy')) (fun i y u hy hu=>by
         simp only [List.getElem?_map,Option.map_eq_some_iff] at hy
         obtain ⟨y',hy',rfl⟩:=hy
         exact (p3 i y' u hy' (by simpa using hu)).dis)
     obtain ⟨cells',f1,f2⟩:=ih vs _ cs' _ hfold (by simpa using hl) (fun i p q a b=>hp (i + 1) p q a b) h
     refine ⟨cells',?_,f2⟩
     have hpl':=hpl i' _ hq
     have hcond:(decide (v.cells.size ≠ sz) || decide (off + v.cells.size > cells.size)) = false:=by simp [hs]; omega
     unfold Instr.fill
     rw [hpl']
     simp only [hcond,Bool.false_eq_true,if_false]
     rw [← f1]
     congr 1
     rw [← Array.foldl_toList,Array.toList_zipIdx]
theorem build_sound {P:Program} {n:Nat} {r:Nat → Nat × Nat} {F:Frz} {w:World} {t:TypeId} {ps:List (Nat × AVal)} {vs:Array (Nat × Value)} {x:AVal} (hl:vs.size = ps.length)
   (hp:∀ (i:Nat) (p:Nat × AVal) (q:Nat × Value),ps[i]? = some p → vs[i]? = some q → q.1 = p.1 ∧ Rep n r F p.2 q.2) (h:abuild (bplan P t) ps = some x) :
   ∃ v,(Instr.build t vs).run P w = .ok v w ∧ Rep n r F x v ∧ x.isOwn = false:=by
 unfold abuild at h
 split at h
 case h_2=>cases h
 rename_i pl zs hb
 split at h
 case isFalse=>cases h
 rename_i hz
 have zrep:∀ z:Value,zs = z.cells.toList.map ofS → CellsRep F zs z.cells:=by
   intro z e
   refine ⟨by simp [e],fun c hc=>List.all_eq_true.1 hz c hc,fun i c v hc hv=>?_⟩
   rw [e] at hc
   simp only [List.getElem?_map,Option.map_eq_some_iff,Array.getElem?_toList] at hc
   obtain ⟨u,hu,rfl⟩:=hc
   rw [hv] at hu
   injection hu with hu
   subst hu
   exact RepT_ofS F v (List.all_eq_true.1 hz _ (by rw [e]; exact List.mem_map.2 ⟨v,by simpa using Array.mem_of_getElem? hv,rfl⟩))
 have key:∀ (place:Nat → Option (Nat × Nat)) (z:Value),(∀ i q,pl[i]? = some q → place i = some q) → zs = z.cells.toList.map ofS →
     ∃ cells',Instr.fill place z.cells vs.toList = some cells' ∧ Rep n r F x (.agg cells') ∧ x.isOwn = false:=by
   intro place z hpl e
   cases hf:afill pl zs ps with
   | some cs' =>
     rw [hf] at h
     injection h with h
     subst h
     obtain ⟨cells',f1,f2⟩:=fill_sound (F:=F) place pl hpl ps vs.toList zs cs' z.cells (zrep z e) (by simpa using hl) (fun i p q a b=>by
       obtain ⟨e1,e2⟩:=hp i p q a (by simpa using b)
       exact ⟨e1,fun hh=>part_toTree e2 hh⟩) hf
     exact ⟨cells',f1,.tree _ _ (.agg cs' cells' f2.size f2.h1 f2.h),rfl⟩
   | none =>
     rw [hf] at h
     simp only [abuildK,Option.map_eq_some_iff] at h
     obtain ⟨cs',hf',rfl⟩:=h
     have hz0:=zrep z e
     obtain ⟨cells',f1,f2⟩:=fillM_sound (n:=n) (r:=r) (F:=F) place pl hpl ps vs.toList zs cs' z.cells ⟨hz0.size,hz0.h1,fun i c v a b=>.tree _ _ (hz0.h i c v a b)⟩ (by simpa using hl) (fun i p q a b=>hp i p q a (by simpa using b)) hf'
     exact ⟨cells',f1,.mix cs' cells' f2.size f2.h1 f2.h,rfl⟩
 unfold bplan at hb
 split at hb
 · rename_i it fields hi hu
   split at hb
   case h_2=>cases hb
   rename_i z pl' hz' hpl
   injection hb with hb
   injection hb with hb1 hb2
   subst hb1
   obtain ⟨cells',f1,f2,f3⟩:=key (pl'.toArray[·]?) z (fun i q hq=>by simpa using hq) hb2.symm
   refine ⟨.agg cells',run_build w t vs cells' ?_,f2,f3⟩
   simp only [Program.built,hi,hu,hz',hpl]
   exact f1
 · rename_i it len e hi hu
   split at hb
   case h_2=>cases hb
   rename_i z ie hz' hie
   injection hb with hb
   injection hb with hb1 hb2
   subst hb1
   obtain ⟨cells',f1,f2,f3⟩:=key (fun i=>some (i * ie.size,ie.size)) z (fun i q hq=>by
     simp only [List.getElem?_map,Option.map_eq_some_iff] at hq
     obtain ⟨j,hj,hq⟩:=hq
     have:=(List.getElem?_eq_some_iff.1 hj).2
     simp at this
     subst this
     rw [← hq]) hb2.symm
   refine ⟨.agg cells',run_build w t vs cells' ?_,f2,f3⟩
   simp only [Program.built,hi,hu,hz',hie]
   exact f1
 · cases hb
end Go.Am
