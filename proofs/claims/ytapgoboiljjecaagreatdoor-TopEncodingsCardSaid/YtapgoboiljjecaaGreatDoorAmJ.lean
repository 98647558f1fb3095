/- The abstract machine, part ten: composite literals of slices, append, make. -/
import Derived.Test.YtapgoboiljjecaaGreatDoorAmI
namespace Go.Am
open Go
set_option linter.unusedSectionVars false
variable [Globs]
section
variable {P:Program} {n m:Nat} {G0:Gh} {w0:World} {s:ASt} {G:Gh} {a:Act} {w:World}
theorem R.regrow (h:R n m G0 w0 s G a w) (d:Nat) (hd:d < n) (B:Nat) {G':Gh} {w':World} {x:AVal} {v:Value}
   (hos:w'.os = w.os) (htape:w'.tape = w.tape) (hout:w'.output = w.output) (hsz:w.heap.size ≤ w'.heap.size)
   (hheap:∀ b,b ≠ B → b < w.heap.size → w'.heap[b]? = w.heap[b]?) (hB:w.heap.size ≤ B ∨ G.K B = some (.tmp d))
   (hF:G.F.le G'.F) (hFo:∀ b,b ≠ B → ∀ o,G'.F b o = G.F b o) (hK:∀ b,b ≠ B → G'.K b = G.K b) (hr:G'.r = G.r)
   (hfrz:∀ o u,G'.F B o = some u → w'.cell? ⟨B,o,none⟩ = some u) (hnew:∀ b,w'.heap.size ≤ b → G'.K b = none)
   (hx:Rep s.H.length G'.r G'.F x v) (ho:OwnAt G' w' (.tmp d) x v):R n m G0 w0 ⟨upd s.t d x,s.H⟩ G' (a.put (some d) v) w':=by
 have notB:∀ b p,G.K b = some p → p ≠ .tmp d → b < w.heap.size → b ≠ B:=by
   intro b p hb hp hlt e
   subst e
   rcases hB with hB | hB
   · omega
   · rw [hb] at hB
     injection hB with hB
     exact hp hB
 have own:∀ (p:Pos) (x:AVal) (v:Value),p ≠ .tmp d → OwnAt G w p x v → OwnAt G' w' p x v:=by
   intro p x v hp ho k xs ad len cap f1 f2 f3
   obtain ⟨g1,g2,g3,g4,c,T,g5,g6⟩:=ho k xs ad len cap f1 f2 f3
   have hlt:=(Array.getElem?_eq_some_iff.1 g5).1
   have hne:=notB _ p g1 hp hlt
   exact ⟨by rw [hK _ hne]; exact g1,g2,g3,fun o ho=>by rw [hFo _ hne]; exact g4 o ho,c,T,by rw [hheap _ hne hlt]; exact g5,g6⟩
 have mono:∀ {x v},Rep s.H.length G.r G.F x v → Rep s.H.length G'.r G'.F x v:=fun hx=>hx.mono (Nat.le_refl _) (fun _ _=>by rw [hr]) hF
 refine h.build (s':=⟨_,_⟩) ?_ ?_ (Nat.le_refl _) (by rw [put_tmps]; exact h.sz) h.dfr (fun i hi=>?_) (fun i u hu=>?_)
 · refine ⟨hos,htape,hout,hsz,fun _ _=>by rw [hr],hF,fun b hb ht=>?_⟩
   have hne:b ≠ B:=by
     intro e
     subst e
     rcases hB with hB | hB
     · omega
     · exact ht (.inr ⟨d,hB⟩)
   exact ⟨hheap b hne hb,hK b hne,hFo b hne⟩
 · refine ⟨fun b o u hf=>?_,fun id cs hid hcs=>?_,hnew⟩
   · by_cases e:b = B
     · subst e; exact hfrz o u hf
     · rw [hFo b e] at hf
       have h1:=h.sr.frz b o u hf
       have hlt:=World.block_lt_of_cell? w _ h1
       rw [World.cell?_of_block (w:=w) (a:=⟨b,o,none⟩) (hheap b e hlt)]
       exact h1
   · obtain ⟨c,T,b1,b2,b3,b4,b5⟩:=h.sr.box id cs hid hcs
     have hlt:=(Array.getElem?_eq_some_iff.1 b1).1
     have hne:=notB _ _ b3 (by simp) hlt
     exact ⟨c,T,by rw [hr,hheap _ hne hlt]; exact b1,by rw [hr]; exact b2,by rw [hr,hK _ hne]; exact b3,fun o=>by rw [hr,hFo _ hne]; exact b4 o,
       fun j x v hx hv=>⟨mono (b5 j x v hx hv).1,own _ _ _ (by simp) (b5 j x v hx hv).2⟩⟩
 · simp only [upd]
   rw [if_neg (by omega)]
   exact h.out i hi
 · simp only [Act.put,Array.getElem?_setIfInBounds] at hu
   by_cases hi:d = i
   · subst hi
     have hlt:d < a.tmps.size:=by rw [h.sz]; exact hd
     simp only [if_true,hlt,Option.some.injEq] at hu
     subst hu
     simp only [upd,if_true]
     exact ⟨hx,ho⟩
   · rw [if_neg hi] at hu
     simp only [upd]
     rw [if_neg (fun e=>hi e.symm)]
     exact ⟨mono (h.tmp i u hu).1,own _ _ _ (by simp; exact fun e=>hi e.symm) (h.tmp i u hu).2⟩
theorem RepT.slcells {F:Frz} {k:Nat} {xs:List AVal} {mm:Mode} {v:Value} (h:RepT F (.sl k xs mm) v) :
   ∃ (base:Option Addr) (cap:Nat) (L:List Value),v = .slice base xs.length cap ∧ xs.length ≤ cap ∧ L.length = xs.length * k ∧ (base = none → xs = [] ∧ cap = 0) ∧ (mm = .full → cap = xs.length) ∧
     (∀ ad,base = some ad → (xs ≠ [] → ad.spot = none) ∧ ∀ j u,L[j]? = some u → F ad.block (ad.off + j) = some u) ∧ (∀ x ∈ xs,x.cells.length = k) ∧ (∀ x ∈ xs,∀ c ∈ x.cells,c.scalar = true) ∧
     (xs ≠ [] → 0 < k) ∧ ∀ (i j:Nat) (x c:AVal),xs[i]? = some x → x.cells[j]? = some c → ∃ u,L[i * k + j]? = some u ∧ RepT F c u:=by
 cases h with
 | slnil=>exact ⟨none,0,[],rfl,Nat.le_refl _,by simp,fun _=>⟨rfl,rfl⟩,fun _=>rfl,by simp,by simp,by simp,by simp,by simp⟩
 | sl _ _ _ ad len cap val hl hc ha hk hm hx h1 hF hrep =>
   subst hl
   refine ⟨some ad,cap,(List.range (xs.length * k)).map val,rfl,hc,by simp,by simp,hm,?_,hx,h1,hk,?_⟩
   · rintro ad' e
     injection e with e
     subst e
     refine ⟨ha,fun j u hu=>?_⟩
     simp only [List.getElem?_map,Option.map_eq_some_iff] at hu
     obtain ⟨j',hj',rfl⟩:=hu
     obtain ⟨hlt,he⟩:=List.getElem?_eq_some_iff.1 hj'
     simp at he hlt
     subst he
     exact hF _ hlt
   · intro i j x c hi hj
     have hi':i < xs.length:=(List.getElem?_eq_some_iff.1 hi).1
     have hj':j < k:=by rw [← hx x (List.mem_of_getElem? hi)]; exact (List.getElem?_eq_some_iff.1 hj).1
     have hlt:i * k + j < xs.length * k:=by
       have:(i + 1) * k ≤ xs.length * k:=Nat.mul_le_mul_right k hi'
       rw [Nat.succ_mul] at this
       omega
     exact ⟨val (i * k + j),by simp [hlt],hrep i j x c hi hj⟩
theorem RepT.ofCells {F:Frz} {k:Nat} {xs:List AVal} {mm:Mode} (ad:Addr) (cap:Nat) (L:List Value) (hc:xs.length ≤ cap) (hL:L.length = xs.length * k) (hm:mm = .full → cap = xs.length) (ha:xs ≠ [] → ad.spot = none)
   (hF:∀ j u,L[j]? = some u → F ad.block (ad.off + j) = some u) (hx:∀ x ∈ xs,x.cells.length = k) (h1:∀ x ∈ xs,∀ c ∈ x.cells,c.scalar = true) (hk:xs ≠ [] → 0 < k)
   (hrep:∀ (i j:Nat) (x c:AVal),xs[i]? = some x → x.cells[j]? = some c → ∃ u,L[i * k + j]? = some u ∧ RepT F c u):RepT F (.sl k xs mm) (.slice (some ad) xs.length cap):=by
 refine .sl k xs mm ad _ cap (fun j=>L.getD j undef) rfl hc ha hk hm hx h1 (fun j hj=>?_) (fun i j x c hi hj=>?_)
 · have:L[j]? = some L[j]:=List.getElem?_eq_getElem (by omega)
   rw [hF j _ this]
   simp only [List.getD_eq_getElem?_getD,this,Option.getD_some]
 · obtain ⟨u,hu,hr⟩:=hrep i j x c hi hj
   simp only [List.getD_eq_getElem?_getD,hu,Option.getD_some]
   exact hr
theorem joinCells {F F':Frz} (hF:F.le F') {k:Nat} {xs ys:List AVal} {L L':List Value} (hL:L.length = xs.length * k)
   (h1:∀ (i j:Nat) (x c:AVal),xs[i]? = some x → x.cells[j]? = some c → ∃ u,L[i * k + j]? = some u ∧ RepT F c u)
   (h2:∀ (i j:Nat) (x c:AVal),ys[i]? = some x → x.cells[j]? = some c → ∃ u,L'[i * k + j]? = some u ∧ RepT F c u) :
   ∀ (i j:Nat) (x c:AVal),(xs ++ ys)[i]? = some x → x.cells[j]? = some c → ∃ u,(L ++ L')[i * k + j]? = some u ∧ RepT F' c u:=by
 intro i j x c hi hj
 by_cases hlt:i < xs.length
 · rw [List.getElem?_append_left hlt] at hi
   obtain ⟨u,hu,hr⟩:=h1 i j x c hi hj
   refine ⟨u,?_,hr.mono hF⟩
   rw [List.getElem?_append_left (List.getElem?_eq_some_iff.1 hu).1]
   exact hu
 · rw [List.getElem?_append_right (by omega)] at hi
   obtain ⟨u,hu,hr⟩:=h2 _ j x c hi hj
   refine ⟨u,?_,hr.mono hF⟩
   have e:i * k = L.length + (i - xs.length) * k:=by rw [hL,← Nat.add_mul]; congr 1; omega
   rw [List.getElem?_append_right (by omega),show i * k + j - L.length = (i - xs.length) * k + j by omega]
   exact hu
theorem tap_spec {t:TypeId} {k by_:Nat} (h:tap P t = some (k,by_)):∃ e i z,P.underlying t = some (.slice e) ∧ P.info? e = some i ∧ i.zero = some z ∧ i.size = k ∧ i.bytes = by_ ∧ z.cells.size = k ∧ 0 < k:=by
 unfold tap at h
 split at h
 case h_2=>cases h
 rename_i e hu
 split at h
 case h_2=>cases h
 rename_i i hi
 split at h
 case h_2=>cases h
 rename_i z hz
 split at h
 case isFalse=>cases h
 rename_i hc
 injection h with h
 injection h with h1 h2
 subst h1 h2
 exact ⟨e,i,z,hu,hi,hz,rfl,rfl,hc.1,hc.2⟩
def isTmp:Operand → Option Nat
 | .tmp i=>some i
 | _=>none
def aapp (P:Program) (s:ASt) (o:Oper):Option ASt :=
 match o.op,o.dst with
 | .call c,some d =>
   match c.callee,c.args.toList,c.argTypes.toList with
   | .builtin .append,[x,y],[t,u] =>
     if t ≠ u then none else
     match tap P t,av s.t x,av s.t y with
     | some (k,by_),.sl k1 xs mm,.sl k2 ys _ =>
       if (mm = .own ∧ k1 = k ∨ mm = .full ∧ (k1 = k ∨ xs.isEmpty = true)) ∧ (k2 = k ∨ ys.isEmpty = true) ∧ (xs.length + ys.length) * by_ ≤ 140737488355328 ∧ xs.length + ys.length ≤ 140737488355328 then
         match isTmp x with
         | some src=>if src = d then none else
           some ⟨upd (if mm = .own then upd s.t src (.sl k1 xs .sh) else s.t) d (.sl k (xs ++ ys) .own),s.H⟩
         | none=>some ⟨upd s.t d (.sl k (xs ++ ys) .own),s.H⟩
       else none
     | _,_,_=>none
   | _,_,_=>none
 | _,_=>none
theorem run_append_none {t ty e:TypeId} {i:TypeInfo} (ht:P.underlying t = some (.slice e)) (hi:P.info? e = some i) (base b:Option Addr) (sLen sCap c:Nat) (hc:sLen ≤ sCap) :
   (Builtin.append_ #[t,t] ty #[.slice base sLen sCap,.slice b 0 c]).run P w = .ok (.slice base sLen sCap) w:=by
 have h0:(Builtin.firstCells i.size 0 (.slice b 0 c)).run P w = .ok #[] w:=by
   cases b <;> simp [Builtin.firstCells,loadCells,loadCellsFrom]
 cases base <;> simp [Builtin.append_,run_underlying ht,sizeOf,typeInfo,hi,Builtin.lenOf,hc,h0,storeCells]
theorem R.newOwn (h:R n m G0 w0 s G a w) (d:Nat) (hd:d < n) (wd:World) (hwd:wd = w ∨ wd = w.drew) {k:Nat} {zs:List AVal} (L:List Value) (C:Array Value) (T:TypeId) (cap:Nat) (hk:0 < k) (hL:L.length = zs.length * k) (hcap:zs.length ≤ cap)
   (hC:cap * k ≤ C.size) (hCL:∀ (j:Nat) (u:Value),L[j]? = some u → C[j]? = some u) (hx:∀ x ∈ zs,x.cells.length = k) (h1:∀ x ∈ zs,∀ c ∈ x.cells,c.scalar = true) (md:Mode) (hmd:md = .full → cap = zs.length)
   (hrep:∀ (i j:Nat) (x c:AVal),zs[i]? = some x → x.cells[j]? = some c → ∃ u,L[i * k + j]? = some u ∧ RepT G.F c u) :
   ∃ G',R n m G0 w0 ⟨upd s.t d (.sl k zs md),s.H⟩ G' (a.put (some d) (.slice (some ⟨w.heap.size,0,none⟩) zs.length cap)) (wd.alloc (.cells C T)):=by
 have hF0:∀ o,G.F w.heap.size o = none:=by
   intro o
   cases hf:G.F w.heap.size o with
   | none=>rfl
   | some v =>
     have:=h.sr.frz _ _ _ hf
     have:=World.block_lt_of_cell? w _ this
     simp at this
 have hh:wd.heap = w.heap:=by rcases hwd with e | e <;> subst e <;> rfl
 have hsz:wd.heap.size = w.heap.size:=by rw [hh]
 have hle0:∀ b o v,G.F b o = some v → (if b = w.heap.size then L[o]? else G.F b o) = some v:=by
   intro b o v hv
   rw [if_neg]
   · exact hv
   · intro e; subst e; rw [hF0] at hv; cases hv
 let F':Frz:=⟨fun b o=>if b = w.heap.size then L[o]? else G.F b o,fun b o v e=>hle0 b o v (G.F.gl b o v e)⟩
 let G':Gh:=⟨F',G.r,fun b=>if b = w.heap.size then some (.tmp d) else G.K b⟩
 have hle:G.F.le F':=by
   intro b o v hv
   show (if b = w.heap.size then L[o]? else G.F b o) = some v
   rw [if_neg]
   · exact hv
   · intro e; subst e; rw [hF0] at hv; cases hv
 have hnew:(wd.alloc (.cells C T)).heap[w.heap.size]? = some (.cells C T (0,0)):=by rw [← hsz]; exact heap_alloc_new wd _
 refine ⟨G',h.regrow d hd w.heap.size ?_ ?_ ?_ ?_ (fun b _ hb=>?_) (.inl (Nat.le_refl _)) hle (fun b hb o=>if_neg hb) (fun b hb=>if_neg hb) rfl (fun o u hu=>?_) (fun b hb=>?_) ?_ ?_⟩
 · rcases hwd with e | e <;> subst e <;> rfl
 · rcases hwd with e | e <;> subst e <;> rfl
 · rcases hwd with e | e <;> subst e <;> rfl
 · simp [hsz]
 · rw [heap_alloc_old wd _ b (by omega),hh]
 · have hu':L[o]? = some u:=by
     have:(if w.heap.size = w.heap.size then L[o]? else G.F w.heap.size o) = some u:=hu
     rwa [if_pos rfl] at this
   rw [cell_of_row _ w.heap.size o C T (0,0) hnew]
   exact hCL o u hu'
 · show (if b = w.heap.size then some (Pos.tmp d) else G.K b) = none
   simp [hsz] at hb
   rw [if_neg (by omega)]
   exact h.sr.new b (by omega)
 · refine .tree _ _ (RepT.ofCells ⟨w.heap.size,0,none⟩ cap L hcap hL hmd (fun _=>rfl) (fun j u hu=>?_) hx h1 (fun _=>hk) (fun i j x c hi hj=>?_))
   · show (if w.heap.size = w.heap.size then L[0 + j]? else _) = some u
     rw [if_pos rfl,Nat.zero_add]
     exact hu
   · obtain ⟨u,hu,hr⟩:=hrep i j x c hi hj
     exact ⟨u,hu,hr.mono hle⟩
 · intro k' xs' ad len cap' f1 f2 f3
   injection f1 with f1 f1' f1''
   injection f2 with f2 f2' f2''
   injection f2 with f2
   subst f1 f1' f2 f2' f2''
   refine ⟨if_pos rfl,rfl,hk,fun o ho=>?_,C,T,hnew,by simpa using hC⟩
   show (if w.heap.size = w.heap.size then L[o]? else _) = none
   rw [if_pos rfl]
   simp only [Nat.zero_add] at ho
   exact List.getElem?_eq_none (by omega)
theorem RepT.remode {F:Frz} {k:Nat} {xs:List AVal} {mm:Mode} {v:Value} (h:RepT F (.sl k xs mm) v) {m':Mode} (hm:m' ≠ .full) {k':Nat} (hk:k = k' ∨ xs = []):RepT F (.sl k' xs m') v:=by
 obtain ⟨base,cap,L,e1,e2,e3,e4,e5,e6,e7,e8,e9,e10⟩:=h.slcells
 subst e1
 cases base with
 | none =>
   obtain ⟨f1,f2⟩:=e4 rfl
   subst f1 f2
   exact .slnil k' m'
 | some ad =>
   obtain ⟨g1,g2⟩:=e6 ad rfl
   rcases hk with hk | hk
   · subst hk
     exact RepT.ofCells ad cap L e2 e3 (fun e=>(hm e).elim) g1 g2 e7 e8 e9 e10
   · subst hk
     exact RepT.ofCells (xs:=[]) ad cap [] e2 (by simp) (fun e=>(hm e).elim) g1 (by simp) (by simp) (by simp) (by simp) (by simp)
theorem slcells_one {F:Frz} {k:Nat} {xs:List AVal} {L:List Value} (hL:L.length = xs.length * k) (hx:∀ x ∈ xs,x.cells.length = k) (h1:∀ x ∈ xs,∀ c ∈ x.cells,c.scalar = true)
   (hrep:∀ (i j:Nat) (x c:AVal),xs[i]? = some x → x.cells[j]? = some c → ∃ u,L[i * k + j]? = some u ∧ RepT F c u):∀ u ∈ L,u.oneCell' = true:=by
 intro u hu
 obtain ⟨j,hj⟩:=List.getElem?_of_mem hu
 have hlt:j < xs.length * k:=by rw [← hL]; exact (List.getElem?_eq_some_iff.1 hj).1
 have hk:0 < k:=by
   rcases Nat.eq_zero_or_pos k with e | e
   · subst e; simp at hlt
   · exact e
 have hi:j / k < xs.length:=by rw [Nat.div_lt_iff_lt_mul hk]; exact hlt
 have hm:j % k < k:=Nat.mod_lt _ hk
 have hxi:xs[j / k]? = some xs[j / k]:=List.getElem?_eq_getElem hi
 have hlen:=hx _ (List.getElem_mem hi)
 have hci:xs[j / k].cells[j % k]? = some (xs[j / k].cells[j % k]'(by omega)):=List.getElem?_eq_getElem (by omega)
 obtain ⟨u',hu',hr⟩:=hrep _ _ _ _ hxi hci
 rw [show j / k * k + j % k = j from by rw [Nat.mul_comm]; exact Nat.div_add_mod j k,hj] at hu'
 injection hu' with hu'
 subst hu'
 exact hr.scalar (h1 _ (List.getElem_mem hi) _ (List.getElem_mem _))
theorem aapp_core (h:R n m G0 w0 s G a w) {t ty:TypeId} {k by_:Nat} (ht:tap P t = some (k,by_)) (d:Nat) (hd:d < n) {k1 k2:Nat} {xs ys:List AVal} {mm m2:Mode} {vx vy:Value}
   (hx:RepT G.F (.sl k1 xs mm) vx) (hy:RepT G.F (.sl k2 ys m2) vy) (hmm:mm = .own ∧ k1 = k ∨ mm = .full ∧ (k1 = k ∨ xs = [])) (hk2:k2 = k ∨ ys = [])
   (hb:(xs.length + ys.length) * by_ ≤ 140737488355328) (hb':xs.length + ys.length ≤ 140737488355328) (ho:OwnAt G w (.tmp d) (.sl k1 xs mm) vx) :
   ∃ v w' G',(Builtin.append_ #[t,t] ty #[vx,vy]).run P w = .ok v w' ∧ R n m G0 w0 ⟨upd s.t d (.sl k (xs ++ ys) .own),s.H⟩ G' (a.put (some d) v) w':=by
 obtain ⟨e,i,z,t1,t2,t3,t4,t5,t6,t7⟩:=tap_spec ht
 have hk1:k1 = k ∨ xs = []:=by
   rcases hmm with ⟨_,e⟩ | ⟨_,e⟩
   · exact .inl e
   · exact e
 obtain ⟨base1,cap1,L1,a1,a2,a3,a4,a5,a6,a7,a8,a9,a10⟩:=hx.slcells
 obtain ⟨base2,cap2,L2,c1,c2,c3,c4,c5,c6,c7,c8,c9,c10⟩:=hy.slcells
 subst a1 c1
 by_cases hys:ys = []
 · subst hys
   refine ⟨_,w,G,run_append_none t1 t2 base1 base2 xs.length cap1 cap2 a2,?_⟩
   rw [List.append_nil]
   refine h.putOwn d hd (.tree _ _ (hx.remode (by simp) hk1)) ?_
   intro k' xs' ad len cap f1 f2 f3
   rcases hmm with ⟨e1,e2⟩ | ⟨e1,e2⟩
   · subst e1 e2
     exact ho k' xs' ad len cap f1 f2 f3
   · have:=a5 e1
     injection f2 with f2 f2' f2''
     omega
 have hk2':k2 = k:=by
   rcases hk2 with e | e
   · exact e
   · exact (hys e).elim
 subst hk2'
 have hn:0 < ys.length:=List.length_pos_iff.2 hys
 cases hb2:base2 with
 | none=>exact (hys (c4 hb2).1).elim
 | some b =>
   subst hb2
   obtain ⟨b1,b2⟩:=c6 b rfl
   replace b1:=b1 hys
   have hnews:∀ j v,L2[j]? = some v → w.cell? (b.add j) = some v:=fun j v hv=>by rw [add_spot' b1]; exact h.sr.frz _ _ _ (b2 j v hv)
   have hone:=slcells_one c3 c7 c8 c10
   have h63:((xs.length + ys.length:Nat):Int) ≤ 9223372036854775807:=by omega
   have all7:∀ x ∈ xs ++ ys,x.cells.length = k2:=by
     intro x hx'
     rcases List.mem_append.1 hx' with h' | h'
     · rcases hk1 with e | e
       · rw [← e]; exact a7 x h'
       · rw [e] at h'; cases h'
     · exact c7 x h'
   have all8:∀ x ∈ xs ++ ys,∀ c ∈ x.cells,c.scalar = true:=by
     intro x hx'
     rcases List.mem_append.1 hx' with h' | h'
     · exact a8 x h'
     · exact c8 x h'
   have hL1:L1.length = xs.length * k2:=by
     rcases hk1 with e | e
     · rw [← e]; exact a3
     · subst e; simpa using a3
   have hr1:∀ (i j:Nat) (x c:AVal),xs[i]? = some x → x.cells[j]? = some c → ∃ u,L1[i * k2 + j]? = some u ∧ RepT G.F c u:=by
     rcases hk1 with e | e
     · rw [← e]; exact a10
     · subst e; simp
   have hjoin:=joinCells (Frz.le.refl G.F) hL1 hr1 c10
   have hLL:(L1 ++ L2).length = (xs ++ ys).length * k2:=by simp [hL1,c3,Nat.add_mul]
   have hzero:∀ q,(Builtin.zeroCells z.cells q).size = q * k2:=by intro q; rw [size_zeroCells,t6]
   have grow:∀ (cap:Nat),xs.length + ys.length ≤ cap → ∃ G',R n m G0 w0 ⟨upd s.t d (.sl k2 (xs ++ ys) .own),s.H⟩ G' (a.put (some d) (.slice (some ⟨w.heap.size,0,none⟩) (xs ++ ys).length cap))
       (w.drew.alloc (.cells (L1.toArray ++ L2.toArray ++ Builtin.zeroCells z.cells (cap - (xs.length + ys.length))) e)):=by
     intro cap hcap
     refine h.newOwn d hd w.drew (.inr rfl) (L1 ++ L2) _ e cap t7 hLL (by simpa using hcap) ?_ (fun j u hu=>?_) all7 all8 .own (by simp) hjoin
     · simp only [Array.size_append,List.size_toArray,hzero,hL1,c3,← Nat.add_mul]
       exact Nat.mul_le_mul_right _ (by omega)
     · have hj:j < (L1 ++ L2).length:=(List.getElem?_eq_some_iff.1 hu).1
       rw [Array.getElem?_append_left (by simpa using hj)]
       simpa using hu
   cases hb1:base1 with
   | none =>
     obtain ⟨f1,f2⟩:=a4 hb1
     subst f1 f2 hb1
     have hL1':L1 = []:=List.eq_nil_of_length_eq_zero (by simpa using hL1)
     subst hL1'
     obtain ⟨G',hR⟩:=grow (grownCap w ys.length 0 e) (by simpa using grownCap_ge w ys.length 0 e)
     refine ⟨_,_,G',?_,hR⟩
     have:=run_append_nil (P:=P) w t ty e i z t1 t2 t3 b ys.length cap2 L2 (by rw [t4]; exact c3) hnews hn (by simpa using h63) (by rw [t5]; simp at hb; omega)
     simpa using this
   | some ad =>
     subst hb1
     obtain ⟨d1,d2⟩:=a6 ad rfl
     have hkk:k1 = k2 ∨ xs = []:=hk1
     by_cases hroom:xs.length + ys.length ≤ cap1
     · -- in place
       have hown:mm = .own ∧ k1 = k2:=by
         rcases hmm with e | ⟨e1,e2⟩
         · exact e
         · have:=a5 e1; omega
       obtain ⟨hm1,hm2⟩:=hown
       subst hm1 hm2
       obtain ⟨o1,o2,o3,o4,cur,T,o5,o6⟩:=ho k1 xs ad xs.length cap1 rfl rfl (by omega)
       have hoff:ad.off = 0:=by rw [o2]
       have hspot:ad = ⟨ad.block,0,none⟩:=o2
       rw [hoff,Nat.zero_add] at o6
       rw [hoff,Nat.zero_add] at o4
       have hfit:xs.length * i.size + L2.length ≤ cur.size:=by
         rw [t4,c3,← Nat.add_mul]
         exact Nat.le_trans (Nat.mul_le_mul_right _ hroom) o6
       have hTe:∃ cur' ,cur' = cur.toList.take (xs.length * k1) ++ L2 ++ cur.toList.drop (xs.length * k1 + L2.length):=⟨_,rfl⟩
       obtain ⟨cur',hcur'⟩:=hTe
       have hrun:(Builtin.append_ #[t,t] ty #[.slice (some ad) xs.length cap1,.slice (some b) ys.length cap2]).run P w = .ok (.slice (some ad) (xs.length + ys.length) cap1) (w.setRow ad.block cur'.toArray):=by
         have hf:=run_firstCells_some (P:=P) w i.size ys.length b ys.length cap2 L2 (by rw [t4]; exact c3) hnews
         have hst:=run_storeCells_at P ad.block (xs.length * i.size) T L2 0 cur w o5 (by simpa using hfit) hone
         simp only [Nat.add_zero] at hst
         rw [hcur',← t4]
         rw [hspot]
         simp [Builtin.append_,run_underlying t1,sizeOf,typeInfo,t2,Builtin.lenOf,hroom,hf,add_spot,hst]
       have hget:∀ j,cur'.toArray[j]? = if xs.length * k1 ≤ j ∧ j < xs.length * k1 + L2.length then L2[j - xs.length * k1]? else cur[j]?:=by
         intro j
         rw [hcur']
         exact setRow_get cur _ L2 j (by rw [← t4]; exact hfit)
       have hcursz:cur'.toArray.size = cur.size:=by
         rw [hcur']
         simp only [List.size_toArray,List.length_append,List.length_take,List.length_drop,Array.length_toList]
         rw [t4] at hfit
         omega
       have hle0:∀ q o v,G.F q o = some v → (if q = ad.block then (if xs.length * k1 ≤ o ∧ o < xs.length * k1 + L2.length then L2[o - xs.length * k1]? else G.F q o) else G.F q o) = some v:=by
         intro q o v hv
         split
         · rename_i e1
           subst e1
           rw [if_neg]
           · exact hv
           · rintro ⟨e2,_⟩
             rw [o4 o e2] at hv
             cases hv
         · exact hv
       let F':Frz:=⟨fun q o=>if q = ad.block then (if xs.length * k1 ≤ o ∧ o < xs.length * k1 + L2.length then L2[o - xs.length * k1]? else G.F q o) else G.F q o,fun b o v e=>hle0 b o v (G.F.gl b o v e)⟩
       have hle:G.F.le F':=by
         intro q o v hv
         show (if q = ad.block then (if xs.length * k1 ≤ o ∧ o < xs.length * k1 + L2.length then L2[o - xs.length * k1]? else G.F q o) else G.F q o) = some v
         split
         · rename_i e1
           subst e1
           rw [if_neg]
           · exact hv
           · rintro ⟨e2,_⟩
             rw [o4 o e2] at hv
             cases hv
         · exact hv
       refine ⟨_,_,{ G with F:=F' },hrun,?_⟩
       refine h.regrow d hd ad.block rfl rfl rfl (by simp) (fun q hq _=>setRow_other w ad.block q _ hq) (.inr o1) hle (fun q hq o=>if_neg hq) (fun _ _=>rfl) rfl (fun o u hu=>?_) (fun q hq=>h.sr.new q (by simpa using hq)) ?_ ?_
       · have hu':(if xs.length * k1 ≤ o ∧ o < xs.length * k1 + L2.length then L2[o - xs.length * k1]? else G.F ad.block o) = some u:=by
           have:(if ad.block = ad.block then (if xs.length * k1 ≤ o ∧ o < xs.length * k1 + L2.length then L2[o - xs.length * k1]? else G.F ad.block o) else G.F ad.block o) = some u:=hu
           rwa [if_pos rfl] at this
         rw [cell_of_row _ ad.block o cur'.toArray T (0,0) (setRow_heap w ad.block cur _ T (0,0) o5),hget]
         split at hu'
         · rename_i e1
           rw [if_pos e1]
           exact hu'
         · rename_i e1
           rw [if_neg e1]
           have:=h.sr.frz _ _ _ hu'
           rw [cell_of_row w ad.block o cur T (0,0) o5] at this
           exact this
       · have hlen:(xs ++ ys).length = xs.length + ys.length:=by simp
         rw [← hlen]
         refine .tree _ _ (RepT.ofCells ad cap1 (L1 ++ L2) (by rw [hlen]; exact hroom) hLL (by simp) (fun _=>by rw [hspot]) (fun j u hu=>?_) all7 all8 (fun _=>t7) (fun i' j x c hi hj=>?_))
         · show (if ad.block = ad.block then (if xs.length * k1 ≤ ad.off + j ∧ ad.off + j < xs.length * k1 + L2.length then L2[ad.off + j - xs.length * k1]? else G.F ad.block (ad.off + j)) else _) = some u
           rw [if_pos rfl,hoff,Nat.zero_add]
           by_cases hj:j < L1.length
           · rw [List.getElem?_append_left hj] at hu
             rw [if_neg (by omega)]
             have:=d2 j u hu
             rwa [hoff,Nat.zero_add] at this
           · rw [List.getElem?_append_right (by omega)] at hu
             have:=(List.getElem?_eq_some_iff.1 hu).1
             rw [if_pos (by omega),← hL1]
             exact hu
         · obtain ⟨u,hu,hr⟩:=hjoin i' j x c hi hj
           exact ⟨u,hu,hr.mono hle⟩
       · intro k' xs' ad' len cap f1 f2 f3
         injection f1 with f1 f1' f1''
         injection f2 with f2 f2' f2''
         injection f2 with f2
         subst f1 f1' f2 f2' f2''
         refine ⟨o1,o2,o3,fun o ho'=>?_,cur'.toArray,T,setRow_heap w ad.block cur _ T (0,0) o5,by rw [hcursz,hoff,Nat.zero_add]; exact o6⟩
         rw [hoff,Nat.zero_add] at ho'
         show (if ad.block = ad.block then (if xs.length * k1 ≤ o ∧ o < xs.length * k1 + L2.length then L2[o - xs.length * k1]? else G.F ad.block o) else _) = none
         have hadd:(xs.length + ys.length) * k1 = xs.length * k1 + ys.length * k1:=Nat.add_mul _ _ _
         rw [if_pos rfl,if_neg (by rw [c3]; omega)]
         exact o4 o (by omega)
     · obtain ⟨G',hR⟩:=grow (grownCap w (xs.length + ys.length) cap1 e) (grownCap_ge w _ cap1 e)
       refine ⟨_,_,G',?_,hR⟩
       have:=run_append_grow (P:=P) w t ty e i z t1 t2 t3 ad xs.length cap1 L1 (by rw [t4]; exact hL1) (fun j v hv=>by rw [add_spot' (d1 (by intro e; rw [e] at hL1; simp at hL1; subst hL1; simp at hv))]; exact h.sr.frz _ _ _ (d2 j v hv)) b ys.length cap2 L2 (by rw [t4]; exact c3) hnews (by omega) h63 (growslice_fits (by omega) (by rw [t5]; exact hb))
       simpa using this
end
end Go.Am
