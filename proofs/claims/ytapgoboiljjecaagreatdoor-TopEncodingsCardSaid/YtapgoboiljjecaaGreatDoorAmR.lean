/- The abstract machine, part seventeen: a variable that nothing writes any more is data. -/
import Derived.Test.YtapgoboiljjecaaGreatDoorAmO
namespace Go.Am
open Go
set_option linter.unusedSectionVars false
variable [Globs]
def chunk (ag:Bool) (cs:List AVal) (off k len:Nat):List AVal :=
 (List.range len).map fun q=>if ag = true then .agg (((cs.drop (off + q * k)).take k).map AVal.dis) else (cs.getD (off + q * k) .undef).dis
def fmode (fu:Bool) (cap:Option Nat) (len:Nat):Mode :=
 match fu,cap with
 | true,some c=>if c = len then .full else .sh
 | _,_=>.sh
theorem fmode_own {fu:Bool} {cap:Option Nat} {len:Nat}:fmode fu cap len ≠ .own:=by
 unfold fmode
 split
 · split <;> simp
 · simp
theorem fmode_full {fu:Bool} {cap:Option Nat} {len:Nat} (h:fmode fu cap len = .full):cap = some len:=by
 unfold fmode at h
 split at h
 · split at h
   · rename_i e; rw [e]
   · simp at h
 · simp at h
def frz0 (id:Nat) (cs:List AVal) (ag fu:Bool) (x:AVal):AVal :=
 match x with
 | .ptr id' off=>if id' = id then .iptr (cs.map AVal.dis) off else .ptr id' off
 | .osl id' off len cap k=>if id' = id ∧ off + len * k ≤ cs.length ∧ 0 < k ∧ (ag = true ∨ k = 1) then .sl k (chunk ag cs off k len) (fmode fu cap len) else .osl id' off len cap k
 | x=>x
def mixN (cs:List AVal):AVal:=if cs.all AVal.tree = true then .agg cs else .mix cs
def frz1 (id:Nat) (cs:List AVal) (ag fu:Bool) (x:AVal):AVal :=
 match x with
 | .ptr id' off=>if id' = id then .iptr (cs.map AVal.dis) off else .ptr id' off
 | .osl id' off len cap k=>if id' = id ∧ off + len * k ≤ cs.length ∧ 0 < k ∧ (ag = true ∨ k = 1) then .sl k (chunk ag cs off k len) (fmode fu cap len) else .osl id' off len cap k
 | .mix ds=>mixN (ds.map (frz0 id cs ag fu))
 | x=>x
def frzV (id:Nat) (cs:List AVal) (ag fu:Bool) (x:AVal):AVal :=
 match x with
 | .fn f fs ds=>.fn f (fs.map (frz1 id cs ag fu)) (ds.map (frz1 id cs ag fu))
 | .tup vs=>.tup (vs.map (frz1 id cs ag fu))
 | x=>frz1 id cs ag fu x
section
variable {n:Nat} {r:Nat → Nat × Nat} {F:Frz} {id:Nat} {cs:List AVal} {ag fu:Bool}
theorem frz0_rep (c:Nat → Value) (hF:∀ j,j < cs.length → F (r id).1 j = some (c j)) (ht:cs.all AVal.tree = true) (hc:∀ (j:Nat) (x:AVal),cs[j]? = some x → RepT F x (c j)) {x:AVal} {v:Value} (h:Rep n r F x v) :
   Rep n r F (frz0 id cs ag fu x) v:=by
 have ht':∀ x ∈ cs,x.tree = true:=fun x hx=>List.all_eq_true.1 ht x hx
 have hd:∀ x ∈ cs,x.dis.scalar = true:=fun x hx=>dis_scalar (tree_scalar (ht' x hx))
 cases h with
 | ptr id' off h =>
   simp only [frz0]
   split
   · rename_i e
     subst e
     have:=Rep.iptr (n:=n) (r:=r) (F:=F) (cs.map AVal.dis) off (r id').1 0 c (by simpa using hd) (fun j hj=>by rw [Nat.zero_add]; exact hF j (by simpa using hj)) (fun j y hy=>by
       simp only [List.getElem?_map,Option.map_eq_some_iff] at hy
       obtain ⟨z,hz,rfl⟩:=hy
       exact (hc j z hz).dis)
     simpa using this
   · exact .ptr id' off h
 | osl0 id' off cap k a h hc' =>
   simp only [frz0]
   split
   · have he:chunk ag cs off k 0 = []:=rfl
     rw [he]
     cases a with
     | none=>exact .tree _ _ (.slnil k _)
     | some a=>exact .tree _ _ (.sl k [] _ a 0 0 (fun _=>undef) rfl (Nat.le_refl _) (fun e=>(e rfl).elim) (fun e=>(e rfl).elim) (fun _=>rfl) (by simp) (by simp) (by simp) (by simp))
   · exact .osl0 id' off cap k a h hc'
 | osl id' off len cap k c' h hlc hcap hroom =>
   simp only [frz0]
   split
   · rename_i hcond
     obtain ⟨rfl,hfit,hk,hag⟩:=hcond
     have hq:∀ q,q < len → off + q * k + k ≤ off + len * k:=by
       intro q hq
       have:(q + 1) * k ≤ len * k:=Nat.mul_le_mul_right k hq
       rw [Nat.succ_mul] at this
       omega
     have hget:∀ (q:Nat) (x:AVal),(chunk ag cs off k len)[q]? = some x → q < len ∧ x.cells.length = k ∧ (∀ y ∈ x.cells,y.scalar = true) ∧ ∀ (j:Nat) (y:AVal),x.cells[j]? = some y → RepT F y (c (off + (q * k + j))):=by
       intro q x hx
       simp only [chunk,List.getElem?_map,Option.map_eq_some_iff] at hx
       obtain ⟨q',hq',rfl⟩:=hx
       obtain ⟨hlt,he⟩:=List.getElem?_eq_some_iff.1 hq'
       simp at he hlt
       subst he
       refine ⟨hlt,?_⟩
       by_cases e:ag = true
       · simp only [e,if_true,AVal.cells]
         have hb:=hq q hlt
         refine ⟨by simp; omega,fun y hy=>?_,fun j y hy=>?_⟩
         · obtain ⟨z,hz,rfl⟩:=List.mem_map.1 hy
           exact hd z (List.mem_of_mem_drop (List.mem_of_mem_take hz))
         · simp only [List.getElem?_map,Option.map_eq_some_iff,List.getElem?_take,List.getElem?_drop] at hy
           obtain ⟨z,hz,rfl⟩:=hy
           split at hz
           · have:=(hc _ z hz).dis
             rwa [Nat.add_assoc] at this
           · cases hz
       · have hk1:k = 1:=hag.resolve_left e
         subst hk1
         simp only [e,Bool.false_eq_true,if_false]
         have hb:=hq q hlt
         have hz:cs[off + q * 1]? = some (cs[off + q * 1]'(by omega)):=List.getElem?_eq_getElem _
         have hgd:cs.getD (off + q * 1) .undef = cs[off + q * 1]'(by omega):=by rw [List.getD_eq_getElem?_getD,hz]; rfl
         rw [hgd]
         have hm:=List.getElem_mem (l:=cs) (n:=off + q * 1) (by omega)
         have hs:=hd _ hm
         have hcell:∀ {x:AVal},x.scalar = true → x.cells = [x]:=by intro x h; cases x <;> first | rfl | simp [AVal.scalar] at h
         rw [hcell hs]
         refine ⟨rfl,by simpa using hs,fun j y hy=>?_⟩
         cases j with
         | zero =>
           simp at hy; subst hy
           have:=(hc _ _ hz).dis
           simpa using this
         | succ j=>simp at hy
     have hlen:(chunk ag cs off k len).length = len:=by simp [chunk]
     refine .tree _ _ (.sl k _ _ _ len c' (fun j=>c (off + j)) hlen.symm hlc (fun _=>rfl) (fun _=>hk) (fun e=>hcap _ (fmode_full e)) (fun x hx=>?_) (fun x hx=>?_) (fun j hj=>hF _ (by show off + j < cs.length; omega)) (fun i j x y hx hy=>(hget i x hx).2.2.2 j y hy))
     · obtain ⟨i,hi⟩:=List.getElem?_of_mem hx; exact (hget i x hi).2.1
     · obtain ⟨i,hi⟩:=List.getElem?_of_mem hx; exact (hget i x hi).2.2.1
   · exact .osl id' off len cap k c' h hlc hcap hroom
 | undef v=>exact .undef v
 | tree x v h=>cases h <;> exact .tree _ _ (by first | exact .bool _ | exact .ubool _ | exact .int _ _ | exact .nilp | exact .nilf | exact .str _ | exact .slnil _ _ | (constructor <;> assumption))
 | iptr cs off b o val h1 hF h=>exact .iptr cs off b o val h1 hF h
 | fn f fs cs fs' cs' hf hc h h'=>exact .fn f fs cs fs' cs' hf hc h h'
 | tup vs arr hs h=>exact .tup vs arr hs h
 | mix ds arr hs h1 h=>exact .mix ds arr hs h1 h
theorem frz0_scalar {x:AVal} (h:x.scalar = true):(frz0 id cs ag fu x).scalar = true:=by
 cases x with
 | ptr id' off=>simp only [frz0]; split <;> rfl
 | osl id' off len cap k=>simp only [frz0]; split <;> rfl
 | _=>exact h
theorem mixN_rep {ds:List AVal} {arr:Array Value} (hs:arr.size = ds.length) (h1:∀ c ∈ ds,c.scalar = true) (h:∀ (i:Nat) (x:AVal) (v:Value),ds[i]? = some x → arr[i]? = some v → Rep n r F x v):Rep n r F (mixN ds) (.agg arr):=by
 unfold mixN
 split
 · rename_i ht
   exact .tree _ _ (.agg _ _ hs h1 (fun i c v hc hv=>(h i c v hc hv).toTree (List.all_eq_true.1 ht c (List.mem_of_getElem? hc))))
 · exact .mix _ _ hs h1 h
theorem frz1_rep (c:Nat → Value) (hF:∀ j,j < cs.length → F (r id).1 j = some (c j)) (ht:cs.all AVal.tree = true) (hc:∀ (j:Nat) (x:AVal),cs[j]? = some x → RepT F x (c j)) {x:AVal} {v:Value} (h:Rep n r F x v) :
   Rep n r F (frz1 id cs ag fu x) v:=by
 cases x with
 | mix ds =>
   cases h with
   | tree _ _ ht=>cases ht
   | mix _ arr hs h1 h =>
     refine mixN_rep (by simpa using hs) (fun y hy=>?_) (fun i y v hy hv=>?_)
     · obtain ⟨z,hz,rfl⟩:=List.mem_map.1 hy
       exact frz0_scalar (h1 z hz)
     · simp only [List.getElem?_map,Option.map_eq_some_iff] at hy
       obtain ⟨z,hz,rfl⟩:=hy
       exact frz0_rep c hF ht hc (h i z v hz hv)
 | _=>exact frz0_rep (ag:=ag) (fu:=fu) c hF ht hc h
theorem frzV_rep (c:Nat → Value) (hF:∀ j,j < cs.length → F (r id).1 j = some (c j)) (ht:cs.all AVal.tree = true) (hc:∀ (j:Nat) (x:AVal),cs[j]? = some x → RepT F x (c j)) {x:AVal} {v:Value} (h:Rep n r F x v) :
   Rep n r F (frzV id cs ag fu x) v:=by
 cases h with
 | fn f fs cs0 fs' cs' hf hc' h h' =>
   refine .fn f _ _ fs' cs' (by simpa using hf) (by simpa using hc') (fun i x v hx hv=>?_) (fun i x v hx hv=>?_)
   · simp only [List.getElem?_map,Option.map_eq_some_iff] at hx
     obtain ⟨y,hy,rfl⟩:=hx
     exact frz1_rep c hF ht hc (h i y v hy hv)
   · simp only [List.getElem?_map,Option.map_eq_some_iff] at hx
     obtain ⟨y,hy,rfl⟩:=hx
     exact frz1_rep c hF ht hc (h' i y v hy hv)
 | tup vs arr hs h =>
   refine .tup _ arr (by simpa using hs) (fun i x v hx hv=>?_)
   simp only [List.getElem?_map,Option.map_eq_some_iff] at hx
   obtain ⟨y,hy,rfl⟩:=hx
   exact frz1_rep c hF ht hc (h i y v hy hv)
 | undef v=>exact .undef v
 | tree x v h =>
   have:=frz1_rep (n:=n) (ag:=ag) (fu:=fu) c hF ht hc (.tree x v h)
   cases h <;> exact this
 | ptr id' off h=>exact frz1_rep (ag:=ag) (fu:=fu) c hF ht hc (.ptr id' off h)
 | osl id' off len cap k c' h h1 h2 h3=>exact frz1_rep (ag:=ag) (fu:=fu) c hF ht hc (.osl id' off len cap k c' h h1 h2 h3)
 | osl0 id' off cap k a h h1=>exact frz1_rep (ag:=ag) (fu:=fu) c hF ht hc (.osl0 id' off cap k a h h1)
 | iptr cs off b o val h1 hF h=>exact .iptr cs off b o val h1 hF h
 | mix ds arr hs h1 h=>exact frz1_rep (ag:=ag) (fu:=fu) c hF ht hc (.mix ds arr hs h1 h)
end
theorem frz1_own {id:Nat} {cs:List AVal} {ag fu:Bool} {x:AVal} (h:(frz1 id cs ag fu x).isOwn = true):frz1 id cs ag fu x = x:=by
 cases x with
 | ptr id' off=>simp only [frz1] at h ⊢; split at h <;> simp [AVal.isOwn] at h
 | osl id' off len cap k =>
   simp only [frz1] at h ⊢
   split at h
   · exfalso
     have hm:=fmode_own (fu:=fu) (cap:=cap) (len:=len)
     generalize fmode fu cap len = md at h hm
     cases md <;> simp [AVal.isOwn] at h hm
   · simp [AVal.isOwn] at h
 | mix ds=>simp only [frz1,mixN] at h; split at h <;> simp [AVal.isOwn] at h
 | _=>rfl
theorem frzV_own {id:Nat} {cs:List AVal} {ag fu:Bool} {x:AVal} (h:(frzV id cs ag fu x).isOwn = true):frzV id cs ag fu x = x:=by
 cases x with
 | fn=>simp [frzV,AVal.isOwn] at h
 | tup=>simp [frzV,AVal.isOwn] at h
 | _=>(simp only [frzV] at h ⊢; exact frz1_own h)
section
variable {n m:Nat} {G0:Gh} {w0:World} {s:ASt} {G:Gh} {a:Act} {w:World}
theorem R.freeze (h:R n m G0 w0 s G a w) (id i:Nat) (ag fu:Bool) {cs0 cs:List AVal} (hid:s.H[id]? = some cs0) (hne:cs0 ≠ [])
   (hpre:∀ (j:Nat) (x:AVal),cs[j]? = some x → cs0[j]? = some x) (hpl:cs.length ≤ cs0.length) (ht:cs.all AVal.tree = true) :
   ∃ G',R n m G0 w0 ⟨upd s.t i (frzV id cs ag fu (s.t i)),s.H.set id []⟩ G' a w:=by
 obtain ⟨c,T,b1,b2,b3,b4,b5⟩:=h.sr.box id cs0 hid hne
 have hlt:id < s.H.length:=(List.getElem?_eq_some_iff.1 hid).1
 have hblk:=(Array.getElem?_eq_some_iff.1 b1).1
 have hle0:∀ b o v,G.F b o = some v → (if b = (G.r id).1 then (if o < cs.length then c[o]? else none) else G.F b o) = some v:=by
   intro b o v hf
   rw [if_neg]
   · exact hf
   · intro e; rw [e,b4 o] at hf; cases hf
 let G':Gh:=⟨⟨fun b o=>if b = (G.r id).1 then (if o < cs.length then c[o]? else none) else G.F b o,fun b o v e=>hle0 b o v (G.F.gl b o v e)⟩,G.r,fun b=>if b = (G.r id).1 then some .far else G.K b⟩
 have hmono:G.F.le G'.F:=by
   intro b o v hf
   show (if b = (G.r id).1 then _ else _) = _
   rw [if_neg]
   · exact hf
   · intro e; rw [e,b4 o] at hf; cases hf
 have hlen:(s.H.set id ([]:List AVal)).length = s.H.length:=by simp
 have mono:∀ {x v},Rep s.H.length G.r G.F x v → Rep s.H.length G'.r G'.F x v:=fun hx=>hx.mono (Nat.le_refl _) (fun _ _=>rfl) hmono
 have keep:∀ (p:Pos) (x:AVal) (u:Value),(∀ i,p ≠ .box i) → OwnAt G w p x u → OwnAt G' w p x u:=by
   intro p x u hp ho k xs ad len cap f1 f2 f3
   obtain ⟨g1,g2,g3,g4,g5⟩:=ho k xs ad len cap f1 f2 f3
   have hn:ad.block ≠ (G.r id).1:=by
     intro e
     rw [e,b3] at g1
     injection g1 with g1
     exact hp id g1.symm
   refine ⟨?_,g2,g3,fun o ho=>?_,g5⟩
   · show (if ad.block = (G.r id).1 then some Pos.far else G.K ad.block) = _
     rw [if_neg hn]; exact g1
   · show (if ad.block = (G.r id).1 then _ else G.F ad.block o) = _
     rw [if_neg hn]; exact g4 o ho
 refine ⟨G',h.build (s':=⟨_,s.H.set id []⟩) ?_ ?_ (by simp) h.sz h.dfr (fun j hj=>?_) (fun j u hu=>?_)⟩
 · refine ⟨rfl,rfl,rfl,Nat.le_refl _,fun _ _=>rfl,hmono,fun b _ htc=>?_⟩
   have hn:b ≠ (G.r id).1:=by
     intro e
     exact htc (.inl (.inl ⟨id,by rw [e]; exact b3⟩))
   exact ⟨rfl,if_neg hn,fun o=>if_neg hn⟩
 · refine ⟨fun b o v hf=>?_,fun id' cs' hid' hne'=>?_,fun b hb=>?_⟩
   · have hf':(if b = (G.r id).1 then (if o < cs.length then c[o]? else none) else G.F b o) = some v:=hf
     split at hf'
     · rename_i e
       subst e
       split at hf'
       · rw [cell_of_row w (G.r id).1 o c T (0,0) b1]; exact hf'
       · cases hf'
     · exact h.sr.frz b o v hf'
   · rw [List.getElem?_set] at hid'
     split at hid'
     · rename_i e
       subst e
       injection hid' with hid'
       exact (hne' hid'.symm).elim
     · rename_i hii
       obtain ⟨c2,T2,d1,d2,d3,d4,d5⟩:=h.sr.box id' cs' hid' hne'
       have hn:(G.r id').1 ≠ (G.r id).1:=by
         intro e
         rw [e,b3] at d3
         injection d3 with d3
         injection d3 with d3
         exact hii d3
       refine ⟨c2,T2,d1,d2,?_,fun o=>?_,fun j x v hx hv=>?_⟩
       · show (if (G.r id').1 = (G.r id).1 then some Pos.far else G.K (G.r id').1) = _
         rw [if_neg hn]; exact d3
       · show (if (G.r id').1 = (G.r id).1 then _ else G.F (G.r id').1 o) = _
         rw [if_neg hn]; exact d4 o
       · obtain ⟨e1,e2⟩:=d5 j x v hx hv
         rw [hlen]
         exact ⟨mono e1,keep _ _ _ (by simp) e2⟩
   · show (if b = (G.r id).1 then some Pos.far else G.K b) = none
     rw [if_neg (by omega)]
     exact h.sr.new b hb
 · simp only [upd]
   split
   · rename_i e
     subst e
     rw [h.out j hj]
     rfl
   · exact h.out j hj
 · rw [hlen]
   obtain ⟨t1,t2⟩:=h.tmp j u hu
   simp only [upd]
   split
   · rename_i e
     subst e
     have hr:Rep s.H.length G'.r G'.F (frzV id cs ag fu (s.t j)) u:=by
       refine frzV_rep (fun j=>c.getD j undef) (fun j hj=>?_) ht (fun j x hx=>?_) (mono t1)
       · show (if (G.r id).1 = (G.r id).1 then (if j < cs.length then c[j]? else none) else _) = _
         rw [if_pos rfl,if_pos hj,Array.getElem?_eq_getElem (by omega)]
         simp [Array.getD,show j < c.size by omega]
       · have hj:j < cs.length:=(List.getElem?_eq_some_iff.1 hx).1
         have hcv:c[j]? = some (c[j]'(by omega)):=Array.getElem?_eq_getElem _
         have:=(b5 j x _ (hpre j x hx) hcv).1.toTree (List.all_eq_true.1 ht x (List.mem_of_getElem? hx))
         have e:c.getD j undef = c[j]'(by omega):=by simp [Array.getD,show j < c.size by omega]
         rw [e]
         exact this.mono hmono
     refine ⟨hr,?_⟩
     by_cases ho:(frzV id cs ag fu (s.t j)).isOwn = true
     · rw [frzV_own ho]; exact keep _ _ _ (by simp) t2
     · exact OwnAt.of_not (by simpa using ho)
   · exact ⟨mono t1,keep _ _ _ (by simp) t2⟩
theorem R.freezeC (h:R n m G0 w0 s G a w) (id bid j0:Nat) (ag fu:Bool) {cs0 cs cb:List AVal} {y0:AVal} (hid:s.H[id]? = some cs0) (hne:cs0 ≠ []) (hbid:s.H[bid]? = some cb) (hy0:cb[j0]? = some y0) (hbi:bid ≠ id)
   (hpre:∀ (j:Nat) (x:AVal),cs[j]? = some x → cs0[j]? = some x) (hpl:cs.length ≤ cs0.length) (ht:cs.all AVal.tree = true) :
   ∃ G',R n m G0 w0 ⟨s.t,(s.H.set id []).set bid (cb.set j0 (frzV id cs ag fu y0))⟩ G' a w:=by
 obtain ⟨c,T,b1,b2,b3,b4,b5⟩:=h.sr.box id cs0 hid hne
 have hlt:id < s.H.length:=(List.getElem?_eq_some_iff.1 hid).1
 have hblk:=(Array.getElem?_eq_some_iff.1 b1).1
 have hle0:∀ b o v,G.F b o = some v → (if b = (G.r id).1 then (if o < cs.length then c[o]? else none) else G.F b o) = some v:=by
   intro b o v hf
   rw [if_neg]
   · exact hf
   · intro e; rw [e,b4 o] at hf; cases hf
 let G':Gh:=⟨⟨fun b o=>if b = (G.r id).1 then (if o < cs.length then c[o]? else none) else G.F b o,fun b o v e=>hle0 b o v (G.F.gl b o v e)⟩,G.r,fun b=>if b = (G.r id).1 then some .far else G.K b⟩
 have hmono:G.F.le G'.F:=by
   intro b o v hf
   show (if b = (G.r id).1 then _ else _) = _
   rw [if_neg]
   · exact hf
   · intro e; rw [e,b4 o] at hf; cases hf
 have hlen:((s.H.set id ([]:List AVal)).set bid (cb.set j0 (frzV id cs ag fu y0))).length = s.H.length:=by simp
 have mono:∀ {x v},Rep s.H.length G.r G.F x v → Rep s.H.length G'.r G'.F x v:=fun hx=>hx.mono (Nat.le_refl _) (fun _ _=>rfl) hmono
 have keep:∀ (p:Pos) (x:AVal) (u:Value),(∀ i,p ≠ .box i) → OwnAt G w p x u → OwnAt G' w p x u:=by
   intro p x u hp ho k xs ad len cap f1 f2 f3
   obtain ⟨g1,g2,g3,g4,g5⟩:=ho k xs ad len cap f1 f2 f3
   have hn:ad.block ≠ (G.r id).1:=by
     intro e
     rw [e,b3] at g1
     injection g1 with g1
     exact hp id g1.symm
   refine ⟨?_,g2,g3,fun o ho=>?_,g5⟩
   · show (if ad.block = (G.r id).1 then some Pos.far else G.K ad.block) = _
     rw [if_neg hn]; exact g1
   · show (if ad.block = (G.r id).1 then _ else G.F ad.block o) = _
     rw [if_neg hn]; exact g4 o ho
 have hrep:∀ {u:Value},Rep s.H.length G.r G.F y0 u → Rep s.H.length G'.r G'.F (frzV id cs ag fu y0) u:=by
   intro u t1
   refine frzV_rep (fun j=>c.getD j undef) (fun j hj=>?_) ht (fun j x hx=>?_) (mono t1)
   · show (if (G.r id).1 = (G.r id).1 then (if j < cs.length then c[j]? else none) else _) = _
     rw [if_pos rfl,if_pos hj,Array.getElem?_eq_getElem (by omega)]
     simp [Array.getD,show j < c.size by omega]
   · have hj:j < cs.length:=(List.getElem?_eq_some_iff.1 hx).1
     have hcv:c[j]? = some (c[j]'(by omega)):=Array.getElem?_eq_getElem _
     have:=(b5 j x _ (hpre j x hx) hcv).1.toTree (List.all_eq_true.1 ht x (List.mem_of_getElem? hx))
     have e:c.getD j undef = c[j]'(by omega):=by simp [Array.getD,show j < c.size by omega]
     rw [e]
     exact this.mono hmono
 refine ⟨G',h.build (s':=⟨_,(s.H.set id []).set bid (cb.set j0 (frzV id cs ag fu y0))⟩) ?_ ?_ (by simp) h.sz h.dfr h.out (fun j u hu=>?_)⟩
 · refine ⟨rfl,rfl,rfl,Nat.le_refl _,fun _ _=>rfl,hmono,fun b _ htc=>?_⟩
   have hn:b ≠ (G.r id).1:=by
     intro e
     exact htc (.inl (.inl ⟨id,by rw [e]; exact b3⟩))
   exact ⟨rfl,if_neg hn,fun o=>if_neg hn⟩
 · refine ⟨fun b o v hf=>?_,fun id' cs' hid' hne'=>?_,fun b hb=>?_⟩
   · have hf':(if b = (G.r id).1 then (if o < cs.length then c[o]? else none) else G.F b o) = some v:=hf
     split at hf'
     · rename_i e
       subst e
       split at hf'
       · rw [cell_of_row w (G.r id).1 o c T (0,0) b1]; exact hf'
       · cases hf'
     · exact h.sr.frz b o v hf'
   · -- the cells that were there
     have hold:∃ ds,s.H[id']? = some ds ∧ ds ≠ [] ∧ id' ≠ id ∧ cs'.length = ds.length ∧ ∀ (j:Nat) (x:AVal),cs'[j]? = some x → ∃ y,ds[j]? = some y ∧ (x = y ∨ (id' = bid ∧ y = y0 ∧ x = frzV id cs ag fu y0)):=by
       rw [List.getElem?_set] at hid'
       by_cases e:bid = id'
       · subst e
         rw [if_pos rfl] at hid'
         split at hid'
         · injection hid' with hid'
           subst hid'
           refine ⟨cb,hbid,?_,hbi,by simp,fun j x hx=>?_⟩
           · rintro rfl; simp at hy0
           · rw [List.getElem?_set] at hx
             by_cases ej:j0 = j
             · subst ej
               rw [if_pos rfl] at hx
               split at hx
               · injection hx with hx; exact ⟨y0,hy0,.inr ⟨rfl,rfl,hx.symm⟩⟩
               · cases hx
             · rw [if_neg ej] at hx; exact ⟨x,hx,.inl rfl⟩
         · cases hid'
       · rw [if_neg e,List.getElem?_set] at hid'
         by_cases e2:id = id'
         · subst e2
           rw [if_pos rfl,if_pos hlt] at hid'
           injection hid' with hid'
           exact (hne' hid'.symm).elim
         · rw [if_neg e2] at hid'
           exact ⟨cs',hid',hne',fun e3=>e2 e3.symm,rfl,fun j x hx=>⟨x,hx,.inl rfl⟩⟩
     obtain ⟨ds,hds,hdne,hdi,hdl,hdc⟩:=hold
     obtain ⟨c2,T2,d1,d2,d3,d4,d5⟩:=h.sr.box id' ds hds hdne
     have hn:(G.r id').1 ≠ (G.r id).1:=by
       intro e
       rw [e,b3] at d3
       injection d3 with d3
       injection d3 with d3
       exact hdi d3.symm
     refine ⟨c2,T2,d1,by rw [hdl]; exact d2,?_,fun o=>?_,fun j x v hx hv=>?_⟩
     · show (if (G.r id').1 = (G.r id).1 then some Pos.far else G.K (G.r id').1) = _
       rw [if_neg hn]; exact d3
     · show (if (G.r id').1 = (G.r id).1 then _ else G.F (G.r id').1 o) = _
       rw [if_neg hn]; exact d4 o
     · obtain ⟨y,hy,hxy⟩:=hdc j x hx
       obtain ⟨e1,e2⟩:=d5 j y v hy hv
       rw [hlen]
       rcases hxy with rfl | ⟨_,rfl,rfl⟩
       · exact ⟨mono e1,keep _ _ _ (by simp) e2⟩
       · refine ⟨hrep e1,?_⟩
         by_cases ho:(frzV id cs ag fu y).isOwn = true
         · rw [frzV_own ho]; exact keep _ _ _ (by simp) e2
         · exact OwnAt.of_not (by simpa using ho)
   · show (if b = (G.r id).1 then some Pos.far else G.K b) = none
     rw [if_neg (by omega)]
     exact h.sr.new b hb
 · rw [hlen]
   obtain ⟨t1,t2⟩:=h.tmp j u hu
   exact ⟨mono t1,keep _ _ _ (by simp) t2⟩
def frzN (id:Nat) (x:AVal):Option (Option Nat) :=
 match x with
 | .osl id' off len _ k=>if id' = id then some (some (off + len * k)) else none
 | .ptr id' _=>if id' = id then some none else none
 | .fn _ _ _=>some none
 | .tup _=>some none
 | .mix ds=>(ds.findSome? fun y=>match y with
   | .osl id' off len _ k=>if id' = id then some (off + len * k) else none
   | _=>none).map some
 | _=>none
def fzI (id:Nat):Nat:=if id < 100000 then id else id - 100000
def fzF (id:Nat):Bool:=!decide (id < 100000)
def frzS:List (Nat × Nat × Bool) → ASt → ASt
 | [],s=>s
 | (i,id,ag) :: l,s=>if i < 500000 then (match frzN (fzI id) (s.t i),s.H[fzI id]? with
     | some m,some cs=>if 0 < cs.length ∧ (cs.take (m.getD cs.length)).all AVal.tree = true then frzS l ⟨upd s.t i (frzV (fzI id) (cs.take (m.getD cs.length)) ag (fzF id) (s.t i)),s.H.set (fzI id) []⟩ else frzS l s
     | _,_=>frzS l s)
   else (match s.H[(i - 500000) / 1000]? with
     | some cb=>(match cb[(i - 500000) % 1000]? with
       | some y=>(match frzN (fzI id) y,s.H[fzI id]? with
         | some m,some cs=>if (i - 500000) / 1000 ≠ fzI id ∧ 0 < cs.length ∧ (cs.take (m.getD cs.length)).all AVal.tree = true then frzS l ⟨s.t,(s.H.set (fzI id) []).set ((i - 500000) / 1000) (cb.set ((i - 500000) % 1000) (frzV (fzI id) (cs.take (m.getD cs.length)) ag (fzF id) y))⟩ else frzS l s
         | _,_=>frzS l s)
       | none=>frzS l s)
     | none=>frzS l s)
theorem R.frzS:∀ (l:List (Nat × Nat × Bool)) (s:ASt) (G:Gh),R n m G0 w0 s G a w → ∃ G',R n m G0 w0 (frzS l s) G' a w:=by
 intro l
 induction l with
 | nil=>intro s G h; exact ⟨G,h⟩
 | cons p l ih =>
   intro s G h
   obtain ⟨i,id,ag⟩:=p
   simp only [Go.Am.frzS]
   split
   · split
     · rename_i m' cs _ hid
       split
       · rename_i ht
         obtain ⟨G',h'⟩:=h.freeze (fzI id) i ag (fzF id) (cs:=cs.take (m'.getD cs.length)) hid (by intro e; rw [e] at ht; simp at ht) (fun j x hx=>by
           rw [List.getElem?_take] at hx
           split at hx
           · exact hx
           · cases hx) (by rw [List.length_take]; omega) ht.2
         exact ih _ _ h'
       · exact ih _ _ h
     · exact ih _ _ h
   · split
     · rename_i cb hcb
       split
       · rename_i y hy
         split
         · rename_i m' cs _ hid
           split
           · rename_i ht
             obtain ⟨G',h'⟩:=h.freezeC (fzI id) ((i - 500000) / 1000) ((i - 500000) % 1000) ag (fzF id) (cs:=cs.take (m'.getD cs.length)) hid (by intro e; rw [e] at ht; simp at ht) hcb hy ht.1 (fun j x hx=>by
               rw [List.getElem?_take] at hx
               split at hx
               · exact hx
               · cases hx) (by rw [List.length_take]; omega) ht.2.2
             exact ih _ _ h'
           · exact ih _ _ h
         · exact ih _ _ h
       · exact ih _ _ h
     · exact ih _ _ h
def frzC:List Nat → Nat → List (Nat × Nat × Bool)
 | [],_=>[]
 | c :: l,id=>if c / 1000000000000 = id + 1 then (c % 1000000000000 / 1000000,c % 1000000 / 2,c % 2 == 1) :: frzC l id else frzC l id
end
end Go.Am
