/- The abstract machine, part nine: the operations that make or write memory. -/
import Derived.Test.YtapgoboiljjecaaGreatDoorAmH
namespace Go.Am
open Go
set_option linter.unusedSectionVars false
variable [Globs]
def tz (P:Program) (t:TypeId):Option (List AVal) :=
 match P.info? t with
 | some i=>match i.zero with
   | some z=>some (z.cells.toList.map ofS)
   | none=>none
 | none=>none
def tap (P:Program) (t:TypeId):Option (Nat × Nat) :=
 match P.underlying t with
 | some (.slice e)=>match P.info? e with
   | some i=>match i.zero with
     | some z=>if z.cells.size = i.size ∧ 0 < i.size then some (i.size,i.bytes) else none
     | none=>none
   | none=>none
 | _=>none
theorem setR_get:∀ (ys cs:List AVal) (off i:Nat),off + ys.length ≤ cs.length → (setR cs off ys)[i]? = if off ≤ i ∧ i < off + ys.length then ys[i - off]? else cs[i]?:=by
 intro ys
 induction ys with
 | nil=>intro cs off i h; simp only [setR,List.length_nil,Nat.add_zero]; rw [if_neg (by omega)]
 | cons y ys ih =>
   intro cs off i h
   simp only [setR,List.length_cons] at h ⊢
   rw [ih _ _ _ (by simp; omega)]
   by_cases h1:i = off
   · subst h1
     rw [if_neg (by omega),if_pos (by omega),List.getElem?_set,if_pos rfl,if_pos (by omega),Nat.sub_self]
     rfl
   · by_cases h2:off + 1 ≤ i ∧ i < off + 1 + ys.length
     · rw [if_pos h2,if_pos (by omega),show i - off = (i - (off + 1)) + 1 by omega]
       rfl
     · rw [if_neg h2,if_neg (by omega),List.getElem?_set,if_neg (fun e=>h1 e.symm)]
theorem setRow_get (cur:Array Value) (off:Nat) (vs:List Value) (i:Nat) (h:off + vs.length ≤ cur.size) :
   (cur.toList.take off ++ vs ++ cur.toList.drop (off + vs.length)).toArray[i]? = if off ≤ i ∧ i < off + vs.length then vs[i - off]? else cur[i]?:=by
 have l1:(List.take off cur.toList).length = off:=by simp; omega
 simp only [List.getElem?_toArray]
 by_cases h1:i < off
 · rw [if_neg (by omega),List.append_assoc,List.getElem?_append_left (by omega),List.getElem?_take,if_pos h1]
   simp
 · by_cases h2:i < off + vs.length
   · rw [if_pos ⟨by omega,h2⟩,List.append_assoc,List.getElem?_append_right (by omega),l1,List.getElem?_append_left (by omega)]
   · rw [if_neg (by omega),List.getElem?_append_right (by simp; omega)]
     simp only [List.length_append,l1,List.getElem?_drop]
     rw [show off + vs.length + (i - (off + vs.length)) = i by omega]
     simp
def aeff (P:Program) (tr:List Nat) (s:ASt) (o:Oper):Option ASt :=
 match o.op with
 | .alloc t=>match tz P t with
   | some zs=>some ⟨(s.put o.dst (.ptr s.H.length 0)).t,s.H ++ [zs]⟩
   | none=>none
 | .box _ x=>if (av s.t x).scalar = true ∨ (av s.t x).part = true ∨ (av s.t x).isMix = true then some ⟨(s.put o.dst (.ptr s.H.length 0)).t,s.H ++ [(av s.t x).cells.map AVal.dis]⟩ else none
 | .store t x y=>match av s.t x,tk P t with
   | .ptr id off,some (_,k)=>match s.H[id]? with
     | some cs=>if ((av s.t y).scalar = true ∨ (av s.t y).part = true ∨ (av s.t y).isMix = true) ∧ (av s.t y).cells.length = k ∧ off + k ≤ cs.length ∧ 0 < k then
         match (av s.t y).isOwn,y with
         | true,.tmp src=>some (ASt.put ⟨upd s.t src (s.t src).dis,s.H.set id (cs.set off (s.t src))⟩ o.dst .undef)
         | _,_=>some (ASt.put ⟨s.t,s.H.set id (setR cs off ((av s.t y).cells.map AVal.dis))⟩ o.dst .undef)
       else none
     | none=>none
   | _,_=>none
 | .assign x=>match o.dst,x with
   | some d,.tmp src=>if d = src then none else match (s.t src).isOwn with
     | true=>some ⟨upd (upd s.t src (s.t src).dis) d (s.t src),s.H⟩
     | false=>some ⟨upd s.t d (s.t src),s.H⟩
   | some d,x=>some ⟨upd s.t d (av s.t x),s.H⟩
   | none,_=>none
 | .move x=>match o.dst,x with
   | some d,.tmp src=>if tr.contains d = true ∧ d ≠ src ∧ (s.t src).isOwn = true then some ⟨upd (upd s.t src (s.t src).dis) d (s.t src),s.H⟩ else none
   | _,_=>none
 | .load t x=>match o.dst,av s.t x with
   | some d,.ptr id off=>if tr.contains d = true then match s.H[id]?,tk P t with
       | some cs,some (false,1)=>match cs[off]? with
         | some y=>if y.isOwn = true then some ⟨upd s.t d y,s.H.set id (cs.set off y.dis)⟩ else none
         | none=>none
       | _,_=>none
     else none
   | _,_=>none
 | _=>none
section
variable {P:Program} {n m:Nat} {G0:Gh} {w0:World} {s:ASt} {G:Gh} {a:Act} {w:World}
theorem Rep_nopart {k:Nat} {r:Nat → Nat × Nat} {F:Frz} {x:AVal} {v:Value} (h:Rep k r F x v) (hx:x.scalar = true ∨ x.part = true ∨ x.isMix = true) :
   v.cells.size = x.cells.length ∧ (∀ c ∈ x.cells,c.scalar = true) ∧ ∀ (i:Nat) (c:AVal) (u:Value),x.cells[i]? = some c → v.cells[i]? = some u → Rep k r F c u:=by
 refine h.stowCells ?_
 rcases hx with hx | hx | hx <;> simp [AVal.stow,hx]
theorem cells_oneCell {k:Nat} {r:Nat → Nat × Nat} {F:Frz} {x:AVal} {v:Value} (h:Rep k r F x v) (hx:x.scalar = true ∨ x.part = true ∨ x.isMix = true):∀ u ∈ v.cells.toList,u.oneCell' = true:=by
 obtain ⟨h1,h2,h3⟩:=Rep_nopart h hx
 intro u hu
 obtain ⟨i,hi⟩:=List.getElem?_of_mem hu
 have hlt:i < x.cells.length:=by rw [← h1]; simpa using (List.getElem?_eq_some_iff.1 hi).1
 exact (h3 i x.cells[i] u (List.getElem?_eq_getElem hlt) (by simpa using hi)).scalar (h2 _ (List.getElem_mem hlt))
theorem _root_.Go.Am.Rep.ptr_inv {k:Nat} {r:Nat → Nat × Nat} {F:Frz} {id off:Nat} {v:Value} (h:Rep k r F (.ptr id off) v):v = .pointer (some ⟨(r id).1,off,none⟩):=by
 cases h with
 | ptr _ _ _=>rfl
 | tree _ _ ht=>cases ht
theorem scalar_cells {x:AVal} (h:x.scalar = true):x.cells = [x]:=by
 cases x <;> first | rfl | simp [AVal.scalar] at h
theorem own_scalar {x:AVal} (h:x.isOwn = true):x.scalar = true:=by
 cases x <;> first | rfl | simp [AVal.isOwn] at h
theorem run_storeVar' {t:TypeId} {q:Bool × Nat} (hk:tk P t = some q) (g off:Nat) {c:Array Value} {T:TypeId} (hc:w.heap[g]? = some (.cells c T (0,0))) (v:Value) (hs:v.cells.size = q.2)
   (hfit:off + q.2 ≤ c.size) (h1:∀ u ∈ v.cells.toList,u.oneCell' = true) :
   (storeVar t ⟨g,off,none⟩ v).run P w = .ok () (w.setRow g (c.toList.take off ++ v.cells.toList ++ c.toList.drop (off + v.cells.toList.length)).toArray):=by
 obtain ⟨i,hi,hsz⟩:=tk_size hk
 have:=run_storeCells_at P g off T v.cells.toList 0 c w hc (by simpa [hs] using hfit) h1
 simp only [Nat.add_zero] at this
 simp [storeVar,run_sizeOf' hi,hsz,hs,this]
theorem R.takeCell (h:R n m G0 w0 s G a w) (d:Nat) (hd:d < n) {id off:Nat} {cs:List AVal} (hcs:s.H[id]? = some cs) {y:AVal} (hy:cs[off]? = some y) :
   ∃ v G',w.cell? ⟨(G.r id).1,off,none⟩ = some v ∧ R n m G0 w0 ⟨upd s.t d y,s.H.set id (cs.set off y.dis)⟩ G' (a.put (some d) v) w:=by
 have hne:cs ≠ []:=by rintro rfl; simp at hy
 obtain ⟨c,T,b1,b2,b3,b4,b5⟩:=h.sr.box id cs hcs hne
 have hlt:id < s.H.length:=(List.getElem?_eq_some_iff.1 hcs).1
 have hoff':off < cs.length:=(List.getElem?_eq_some_iff.1 hy).1
 have hoff:off < c.size:=Nat.lt_of_lt_of_le hoff' b2.1
 have hcv:c[off]? = some c[off]:=Array.getElem?_eq_getElem hoff
 obtain ⟨hrep,howa⟩:=b5 off y _ hy hcv
 refine ⟨c[off],?_⟩
 have hcell:w.cell? ⟨(G.r id).1,off,none⟩ = some c[off]:=by rw [cell_of_row w (G.r id).1 off c T (0,0) b1]; exact hcv
 generalize c[off] = v at hcv hrep howa hcell
 have main:∀ G':Gh,G'.F = G.F → G'.r = G.r → (∀ b,G'.K b = G.K b ∨ (G.K b = some (.cell id off) ∧ G'.K b = some (.tmp d))) →
     (∀ (p:Pos) (x:AVal) (u:Value),p ≠ .cell id off → OwnAt G w p x u → OwnAt G' w p x u) → OwnAt G' w (.tmp d) y v →
     R n m G0 w0 ⟨upd s.t d y,s.H.set id (cs.set off y.dis)⟩ G' (a.put (some d) v) w:=by
   intro G' hF hr hK keep hnew
   have hlen:(s.H.set id (cs.set off y.dis)).length = s.H.length:=by simp
   have boxK:∀ b i,G.K b = some (.box i) → G'.K b = some (.box i):=by
     intro b i hb
     rcases hK b with e | ⟨e,_⟩
     · rw [e,hb]
     · rw [hb] at e; cases e
   refine h.build (s':=⟨_,_⟩) ?_ ?_ (by simp) (by rw [put_tmps]; exact h.sz) h.dfr (fun i hi=>?_) (fun i u hu=>?_)
   · refine ⟨rfl,rfl,rfl,Nat.le_refl _,fun _ _=>by rw [hr],by rw [hF]; exact Frz.le.refl _,fun b _ ht=>⟨rfl,?_,fun _=>by rw [hF]⟩⟩
     rcases hK b with e | ⟨e,_⟩
     · exact e
     · exact (ht (.inl (.inr ⟨id,off,e⟩))).elim
   · refine ⟨fun b o u hf=>h.sr.frz b o u (by rw [← hF]; exact hf),fun id' cs' hid' hne'=>?_,fun b hb=>?_⟩
     · rw [hlen,hr,hF]
       rw [List.getElem?_set] at hid'
       by_cases hii:id = id'
       · subst hii
         rw [if_pos rfl,if_pos hlt] at hid'
         injection hid' with hid'
         subst hid'
         refine ⟨c,T,b1,by simpa using b2,boxK _ _ b3,b4,fun j x u hx hu=>?_⟩
         rw [List.getElem?_set] at hx
         by_cases hj:off = j
         · subst hj
           rw [if_pos rfl,if_pos (by omega)] at hx
           injection hx with hx
           subst hx
           rw [hcv] at hu
           injection hu with hu
           subst hu
           exact ⟨hrep.dis,OwnAt.of_not (isOwn_dis _)⟩
         · rw [if_neg hj] at hx
           exact ⟨(b5 j x u hx hu).1,keep _ _ _ (by simp; intro e; exact hj e.symm) (b5 j x u hx hu).2⟩
       · rw [if_neg hii] at hid'
         obtain ⟨c2,T2,d1,d2,d3,d4,d5⟩:=h.sr.box id' cs' hid' hne'
         exact ⟨c2,T2,d1,d2,boxK _ _ d3,d4,fun j x u hx hu=>⟨(d5 j x u hx hu).1,keep _ _ _ (by simp; intro e; exact (hii e.symm).elim) (d5 j x u hx hu).2⟩⟩
     · rcases hK b with e | ⟨e,_⟩
       · rw [e]; exact h.sr.new b hb
       · rw [h.sr.new b hb] at e; cases e
   · simp only [upd]
     rw [if_neg (by omega)]
     exact h.out i hi
   · simp only [hlen,hr,hF]
     simp only [Act.put,Array.getElem?_setIfInBounds] at hu
     by_cases hi:d = i
     · subst hi
       have hlt':d < a.tmps.size:=by rw [h.sz]; exact hd
       simp only [if_true,hlt',Option.some.injEq] at hu
       subst hu
       simp only [upd,if_true]
       exact ⟨hrep,hnew⟩
     · rw [if_neg hi] at hu
       simp only [upd]
       rw [if_neg (fun e=>hi e.symm)]
       exact ⟨(h.tmp i u hu).1,keep _ _ _ (by simp) (h.tmp i u hu).2⟩
 by_cases hb:∃ k xs ad len cap,y = .sl k xs .own ∧ v = .slice (some ad) len cap ∧ len < cap
 · obtain ⟨k,xs,ad,len,cap,e1,e2,e3⟩:=hb
   obtain ⟨o1,o2,o3,o4,c',T',o5,o6⟩:=howa k xs ad len cap e1 e2 e3
   let G':Gh:={ G with K:=fun b=>if b = ad.block then some (.tmp d) else G.K b }
   refine ⟨G',hcell,main G' rfl rfl (fun b=>?_) (fun p x u hp ho=>?_) ?_⟩
   · by_cases e:b = ad.block
     · exact .inr ⟨by rw [e,o1],if_pos e⟩
     · exact .inl (if_neg e)
   · intro k' xs' a' l' c'' f1 f2 f3
     obtain ⟨g1,g2,g3,g4,g5⟩:=ho k' xs' a' l' c'' f1 f2 f3
     refine ⟨?_,g2,g3,g4,g5⟩
     show (if a'.block = ad.block then some (Pos.tmp d) else G.K a'.block) = some p
     rw [if_neg]
     · exact g1
     · intro e
       rw [e,o1] at g1
       injection g1 with g1
       exact hp g1.symm
   · intro k' xs' a' l' c'' f1 f2 f3
     rw [e1] at f1
     injection f1 with f1 f1'
     subst f1 f1'
     rw [e2] at f2
     injection f2 with f2 f2' f2''
     injection f2 with f2
     subst f2 f2' f2''
     refine ⟨?_,o2,o3,o4,c',T',o5,o6⟩
     show (if ad.block = ad.block then some (Pos.tmp d) else _) = _
     rw [if_pos rfl]
 · exact ⟨G,hcell,main G rfl rfl (fun b=>.inl rfl) (fun p x u _ ho=>ho) (fun k xs ad len cap e1 e2 e3=>(hb ⟨k,xs,ad,len,cap,e1,e2,e3⟩).elim)⟩
theorem aeff_sound (h:R n m G0 w0 s G a w) {tr:List Nat} {o:Oper} (hd:∀ i:Nat,o.dst = some i → i < n) {s':ASt} (hx:aeff P tr s o = some s') :
   ∃ nx w' G',(execOp a.eval o).run P w = .ok nx w' ∧ ((∃ v,nx = .value v ∧ R n m G0 w0 s' G' (a.put o.dst v) w') ∨ (nx = .skip ∧ R n m G0 w0 s' G' (a.put o.dst undef) w')):=by
 unfold aeff at hx
 cases hop:o.op with
 | alloc t =>
   simp only [hop] at hx
   split at hx
   case h_2=>cases hx
   rename_i zs hz
   injection hx with hx
   subst hx
   unfold tz at hz
   split at hz
   case h_2=>cases hz
   rename_i i hi
   split at hz
   case h_2=>cases hz
   rename_i z hzz
   injection hz with hz
   subst hz
   obtain ⟨G',r1,r2,r3⟩:=h.newBox (z.cells.toList.map ofS) z.cells t (by simp) (fun j x v hx hv=>by
     simp only [List.getElem?_map,Option.map_eq_some_iff,Array.getElem?_toList] at hx
     obtain ⟨u,hu,rfl⟩:=hx
     rw [hv] at hu
     injection hu with hu
     subst hu
     exact ⟨Rep_ofS _ _ _ v,by unfold ofS; split <;> rfl⟩)
   have r4:=r1.put o.dst hd (x:=.ptr s.H.length 0) (v:=.pointer (some ⟨w.heap.size,0,none⟩)) (by rw [show w.heap.size = (G'.r s.H.length).1 by rw [r2]]; exact .ptr _ _ (by simp)) rfl
   refine ⟨_,w.alloc (.cells z.cells t),G',?_,.inl ⟨.pointer (some ⟨w.heap.size,0,none⟩),rfl,?_⟩⟩
   · simp [execOp,hop,Instr.alloc,zeroValue,typeInfo,hi,hzz,newVar,newRow]
   · cases hdd:o.dst with
     | none=>rw [hdd] at r4; simpa [ASt.put] using r4
     | some d=>rw [hdd] at r4; exact r4
 | box t x =>
   simp only [hop] at hx
   split at hx
   case isFalse=>cases hx
   rename_i hsc
   injection hx with hx
   subst hx
   have hg:=h.get x
   obtain ⟨p1,p2,p3⟩:=Rep_nopart hg hsc
   obtain ⟨G',r1,r2,r3⟩:=h.newBox ((av s.t x).cells.map AVal.dis) (a.eval x).cells t (by simp [p1]) (fun j y v hy hv=>by
     simp only [List.getElem?_map,Option.map_eq_some_iff] at hy
     obtain ⟨y',hy',rfl⟩:=hy
     exact ⟨(p3 j y' v hy' hv).dis,isOwn_dis _⟩)
   have r4:=r1.put o.dst hd (x:=.ptr s.H.length 0) (v:=.pointer (some ⟨w.heap.size,0,none⟩)) (by rw [show w.heap.size = (G'.r s.H.length).1 by rw [r2]]; exact .ptr _ _ (by simp)) rfl
   refine ⟨_,w.alloc (.cells (a.eval x).cells t),G',?_,.inl ⟨.pointer (some ⟨w.heap.size,0,none⟩),rfl,?_⟩⟩
   · simp [execOp,hop,Instr.box,newVar,newRow]
   · cases hdd:o.dst with
     | none=>rw [hdd] at r4; simpa [ASt.put] using r4
     | some d=>rw [hdd] at r4; exact r4
 | store t x y =>
   simp only [hop] at hx
   split at hx
   case h_2=>cases hx
   rename_i id off g k hptr hk
   split at hx
   case h_2=>cases hx
   rename_i cs hcs
   split at hx
   case isFalse=>cases hx
   rename_i hc
   obtain ⟨hc1,hc2,hc3,hc4⟩:=hc
   have hne:cs ≠ []:=by rintro rfl; simp at hc3; omega
   have hgx:=h.get x
   rw [hptr] at hgx
   have hpx:a.eval x = .pointer (some ⟨(G.r id).1,off,none⟩):=by
     generalize a.eval x = v at hgx
     cases hgx with
     | ptr _ _ hid=>rfl
     | tree _ _ ht=>cases ht
   have hgy:=h.get y
   obtain ⟨p1,p2,p3⟩:=Rep_nopart hgy hc1
   have hrun:∀ (G':Gh) (s'':ASt),R n m G0 w0 s'' G' a w → (hH:s''.H[id]? = some cs) → (G'.r id).1 = (G.r id).1 → ∃ c T,w.heap[(G'.r id).1]? = some (.cells c T (0,0)) ∧ (cs.length ≤ c.size ∧ (G'.r id).2 ≤ c.size) ∧
       (execOp a.eval o).run P w = .ok .skip (w.setRow (G'.r id).1 (c.toList.take off ++ (a.eval y).cells.toList ++ c.toList.drop (off + (a.eval y).cells.toList.length)).toArray):=by
     intro G' s'' hR hH hr
     obtain ⟨c,T,b1,b2,_⟩:=hR.sr.box _ _ hH hne
     refine ⟨c,T,b1,b2,?_⟩
     have:=run_storeVar' (P:=P) (w:=w) hk (G'.r id).1 off b1 (a.eval y) (by rw [p1]; exact hc2) (by omega) (cells_oneCell hgy hc1)
     rw [hr] at this ⊢
     simp [execOp,hop,hpx,Instr.storeAt,Instr.sureAddr,this]
   have plain:∀ s',s' = ASt.put ⟨s.t,s.H.set id (setR cs off ((av s.t y).cells.map AVal.dis))⟩ o.dst .undef → ∃ nx w' G',(execOp a.eval o).run P w = .ok nx w' ∧ ((∃ v,nx = .value v ∧ R n m G0 w0 s' G' (a.put o.dst v) w') ∨ (nx = .skip ∧ R n m G0 w0 s' G' (a.put o.dst undef) w')):=by
     intro s' e
     subst e
     obtain ⟨c,T,b1,b2,b3⟩:=hrun G s h hcs rfl
     refine ⟨.skip,_,G,b3,.inr ⟨rfl,R.put ?_ o.dst hd (.undef _) rfl⟩⟩
     have l1:(a.eval y).cells.toList.length = k:=by simp [p1,hc2]
     have l2:((av s.t y).cells.map AVal.dis).length = k:=by simp [hc2]
     refine h.setBox hcs hne b1 ?_ (fun j z v hz hv=>?_)
     · rw [setR_length]
       simp only [List.size_toArray,List.length_append,List.length_take,List.length_drop,Array.length_toList]
       omega
     · rw [setR_get _ _ _ _ (by omega)] at hz
       rw [setRow_get _ _ _ _ (by omega)] at hv
       rw [l1] at hv
       rw [l2] at hz
       split at hz
       · rename_i hj
         rw [if_pos hj] at hv
         simp only [List.getElem?_map,Option.map_eq_some_iff] at hz
         obtain ⟨z',hz',rfl⟩:=hz
         exact ⟨(p3 _ z' v hz' (by simpa using hv)).dis,OwnAt.of_not (isOwn_dis _)⟩
       · rename_i hj
         rw [if_neg hj] at hv
         obtain ⟨c0,T0,d1,d2,d3,d4,d5⟩:=h.sr.box id cs hcs hne
         rw [b1] at d1
         injection d1 with d1
         injection d1 with d1 d1'
         subst d1
         exact d5 j z v hz hv
   split at hx
   · rename_i src howns
     injection hx with hx
     subst hx
     have howns':(s.t src).isOwn = true:=howns
     obtain ⟨G',r1,r2,r3⟩:=h.limbo src (.cell id off)
     obtain ⟨c,T,b1,b2,b3⟩:=hrun G' _ r1 hcs (by
       have hid:id < s.H.length:=(List.getElem?_eq_some_iff.1 hcs).1
       have e1:=(r1.get x)
       have:av (upd s.t src (s.t src).dis) x = .ptr id off:=by
         cases x with
         | tmp i =>
           simp only [av,upd] at hptr ⊢
           split
           · rename_i e
             subst e
             rw [hptr] at howns'
             simp [AVal.isOwn] at howns'
           · exact hptr
         | const v=>exact hptr
         | global=>exact hptr
         | func=>exact hptr
       simp only [this,hpx] at e1
       have e2:=e1.ptr_inv
       injection e2 with e2
       injection e2 with e2
       injection e2 with e2
       exact e2.symm)
     have hsc:=own_scalar howns'
     have hcell:(s.t src).cells = [s.t src]:=scalar_cells hsc
     have hk1:k = 1:=by rw [← hc2]; simp only [av,hcell]; rfl
     have hv1:(a.eval (.tmp src)).cells.toList = [a.eval (.tmp src)]:=by
       have hh:=h.get (.tmp src)
       simp only [av] at hh
       generalize a.eval (.tmp src) = v at hh
       cases hst:s.t src <;> rw [hst] at howns' hh <;> first | (simp [AVal.isOwn] at howns'; done) | skip
       cases hh with
       | tree _ _ ht=>cases ht <;> rfl
     refine ⟨.skip,_,G',b3,.inr ⟨rfl,R.put ?_ o.dst hd (.undef _) rfl⟩⟩
     refine R.setBox (s:=⟨upd s.t src (s.t src).dis,s.H⟩) r1 (cs:=cs) hcs hne b1 ?_ (fun j z v hz hv=>?_)
     · rw [hv1]
       simp only [List.size_toArray,List.length_append,List.length_take,List.length_drop,Array.length_toList,List.length_set,List.length_cons,List.length_nil]
       omega
     · rw [hv1] at hv
       rw [setRow_get _ _ _ _ (by simp; omega)] at hv
       rw [List.getElem?_set] at hz
       by_cases hj:off = j
       · subst hj
         rw [if_pos rfl,if_pos (by omega)] at hz
         rw [if_pos (by simp),Nat.sub_self] at hv
         injection hz with hz
         injection hv with hv
         subst hz hv
         exact ⟨r3,r2⟩
       · rw [if_neg hj] at hz
         rw [if_neg (by simp; omega)] at hv
         obtain ⟨c0,T0,d1,d2,d3,d4,d5⟩:=r1.sr.box id cs hcs hne
         rw [b1] at d1
         injection d1 with d1
         injection d1 with d1 d1'
         subst d1
         exact d5 j z v hz hv
   · injection hx with hx
     exact plain s' hx.symm
 | assign x =>
   simp only [hop] at hx
   cases hdd:o.dst with
   | none=>simp only [hdd] at hx; cases hx
   | some d =>
     simp only [hdd] at hx
     have hdn:d < n:=hd d hdd
     have hrun:(execOp a.eval o).run P w = .ok (.value (a.eval x)) w:=by simp [execOp,hop]
     cases x with
     | tmp src =>
       simp only at hx
       split at hx
       · cases hx
       rename_i hne
       split at hx
       · injection hx with hx
         subst hx
         obtain ⟨G',hR⟩:=h.xfer d src hdn hne
         exact ⟨_,w,G',hrun,.inl ⟨_,rfl,hR⟩⟩
       · rename_i ho
         injection hx with hx
         subst hx
         exact ⟨_,w,G,hrun,.inl ⟨_,rfl,h.put (some d) (fun i e=>by injection e with e; subst e; exact hdn) (h.get (.tmp src)) ho⟩⟩
     | const v =>
       injection hx with hx
       subst hx
       exact ⟨_,w,G,hrun,.inl ⟨_,rfl,h.put (some d) (fun i e=>by injection e with e; subst e; exact hdn) (h.get (.const v)) (ofC_isOwn v)⟩⟩
     | global g =>
       injection hx with hx
       subst hx
       exact ⟨_,w,G,hrun,.inl ⟨_,rfl,h.put (some d) (fun i e=>by injection e with e; subst e; exact hdn) (h.get (.global g)) rfl⟩⟩
     | func f =>
       injection hx with hx
       subst hx
       exact ⟨_,w,G,hrun,.inl ⟨_,rfl,h.put (some d) (fun i e=>by injection e with e; subst e; exact hdn) (h.get (.func f)) rfl⟩⟩
 | move x =>
   simp only [hop] at hx
   cases hdd:o.dst with
   | none=>simp only [hdd] at hx; cases hx
   | some d =>
     simp only [hdd] at hx
     have hdn:d < n:=hd d hdd
     cases x with
     | tmp src =>
       simp only at hx
       split at hx
       case isFalse=>cases hx
       rename_i hc
       injection hx with hx
       subst hx
       obtain ⟨G',hR⟩:=h.xfer d src hdn hc.2.1
       exact ⟨_,w,G',by simp only [execOp,hop]; rfl,.inl ⟨_,rfl,hR⟩⟩
     | _=>cases hx
 | load t x =>
   simp only [hop] at hx
   split at hx
   case h_2=>cases hx
   rename_i d id off hdd hptr
   split at hx
   case isFalse=>cases hx
   split at hx
   case h_2=>cases hx
   rename_i cs hcs hk
   split at hx
   case h_2=>cases hx
   rename_i y hy
   split at hx
   case isFalse=>cases hx
   injection hx with hx
   subst hx
   have hgx:=h.get x
   rw [hptr] at hgx
   have hpx:a.eval x = .pointer (some ⟨(G.r id).1,off,none⟩):=by
     generalize a.eval x = v at hgx
     cases hgx with
     | ptr _ _ hid=>rfl
     | tree _ _ ht=>cases ht
   obtain ⟨v,G',h1,h2⟩:=h.takeCell d (hd d hdd) hcs hy
   have hl:(loadVar t ⟨(G.r id).1,off,none⟩).run P w = .ok v w:=by
     have:=run_load_row (P:=P) hk w ⟨(G.r id).1,off,none⟩ rfl (fun _=>v) 1 (by simp) (fun j hj=>by
       have:j = 0:=by omega
       subst this
       exact h1)
     simpa using this
   refine ⟨.value v,w,G',by simp [execOp,hop,hpx,Instr.loadAt,Instr.sureAddr,hl],.inl ⟨v,rfl,?_⟩⟩
   rw [hdd]
   exact h2
 | _=>simp only [hop] at hx; cases hx
end
end Go.Am
