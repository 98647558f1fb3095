/- The abstract machine, part eight: new variables, stores, and rights that move. -/
import Derived.Test.YtapgoboiljjecaaGreatDoorAmG
import Derived.Laws.MakeOwn
import Derived.Laws.CopyRow
namespace Go.Am
open Go
set_option linter.unusedSectionVars false
variable [Globs]
section
variable {P:Program} {n m:Nat} {G0:Gh} {w0:World} {s:ASt} {G:Gh} {a:Act} {w:World}
theorem R.putOwn (h:R n m G0 w0 s G a w) (d:Nat) (hd:d < n) {x:AVal} {v:Value}
   (hx:Rep s.H.length G.r G.F x v) (ho:OwnAt G w (.tmp d) x v):R n m G0 w0 (s.put (some d) x) G (a.put (some d) v) w:=by
 refine h.build (s':=s.put (some d) x) (Ext.refl _ _ _ _) h.sr (Nat.le_refl _) (by rw [put_tmps]; exact h.sz) h.dfr (fun i hi=>?_) (fun i u hu=>?_)
 · simp only [ASt.put,upd]
   rw [if_neg (by omega)]
   exact h.out i hi
 · simp only [Act.put,Array.getElem?_setIfInBounds] at hu
   by_cases hi:d = i
   · subst hi
     have hlt:d < a.tmps.size:=by rw [h.sz]; exact hd
     simp only [if_true,hlt,Option.some.injEq] at hu
     subst hu
     simp only [ASt.put,upd,if_true]
     exact ⟨hx,ho⟩
   · rw [if_neg hi] at hu
     simp only [ASt.put,upd]
     rw [if_neg (fun e=>hi e.symm)]
     exact h.tmp i u hu
theorem upd_self (t:Nat → AVal) (i:Nat) (x:AVal) (h:t i = x):upd t i x = t:=by
 funext j
 simp only [upd]
 split
 · rename_i e; rw [e,h]
 · rfl
theorem R.limbo (h:R n m G0 w0 s G a w) (src:Nat) (p:Pos) :
   ∃ G',R n m G0 w0 ⟨upd s.t src (s.t src).dis,s.H⟩ G' a w ∧ OwnAt G' w p (s.t src) (a.eval (.tmp src)) ∧ Rep s.H.length G'.r G'.F (s.t src) (a.eval (.tmp src)):=by
 have hsz:=h.sz
 have hget:=h.get (.tmp src)
 by_cases hb:∃ k xs ad len cap,s.t src = .sl k xs .own ∧ a.eval (.tmp src) = .slice (some ad) len cap ∧ len < cap
 case neg =>
   refine ⟨G,?_,fun k xs ad len cap e1 e2 e3=>(hb ⟨k,xs,ad,len,cap,e1,e2,e3⟩).elim,hget⟩
   refine h.build (s':=⟨_,s.H⟩) (Ext.refl _ _ _ _) h.sr (Nat.le_refl _) h.sz h.dfr (fun i hi=>?_) (fun i u hu=>?_)
   · simp only [upd]
     split
     · rename_i e
       subst e
       rw [h.out i hi]
       rfl
     · exact h.out i hi
   · simp only [upd]
     split
     · rename_i e
       subst e
       exact ⟨(h.tmp i u hu).1.dis,OwnAt.of_not (isOwn_dis _)⟩
     · exact h.tmp i u hu
 case pos =>
   obtain ⟨k,xs,ad,len,cap,e1,e2,e3⟩:=hb
   have hsrc:src < n:=by
     by_cases hsrc:src < n
     · exact hsrc
     · rw [h.out src (by omega)] at e1; cases e1
   have hv:a.tmps[src]? = some (a.eval (.tmp src)):=by simp [Act.eval,Array.getD,hsz,hsrc]
   obtain ⟨hrep,hown⟩:=h.tmp src _ hv
   obtain ⟨o1,o2,o3,o4,c,T,o5,o6⟩:=hown k xs ad len cap e1 e2 e3
   have hblt:=(Array.getElem?_eq_some_iff.1 o5).1
   let G':Gh:={ G with K:=fun b=>if b = ad.block then some p else G.K b }
   have keep:∀ (q:Pos) (x:AVal) (u:Value),q ≠ .tmp src → OwnAt G w q x u → OwnAt G' w q x u:=by
     intro q x u hq ho k' xs' a' l' c' f1 f2 f3
     obtain ⟨g1,g2,g3,g4,g5⟩:=ho k' xs' a' l' c' f1 f2 f3
     refine ⟨?_,g2,g3,g4,g5⟩
     show (if a'.block = ad.block then some p else G.K a'.block) = some q
     rw [if_neg]
     · exact g1
     · intro e
       rw [e,o1] at g1
       injection g1 with g1
       exact hq g1.symm
   refine ⟨G',h.build (s':=⟨_,s.H⟩) ?_ ?_ (Nat.le_refl _) h.sz h.dfr (fun i hi=>?_) (fun i u hu=>?_),?_,hget⟩
   · refine ⟨rfl,rfl,rfl,Nat.le_refl _,fun _ _=>rfl,Frz.le.refl _,fun b _ ht=>⟨rfl,?_,fun _=>rfl⟩⟩
     show (if b = ad.block then some p else G.K b) = G.K b
     rw [if_neg]
     intro e
     exact ht (.inr ⟨src,by rw [e,o1]⟩)
   · refine ⟨h.sr.frz,fun id cs hid hne=>?_,fun b hb=>?_⟩
     · obtain ⟨c',T',h1,h2,h3,h4,h5⟩:=h.sr.box id cs hid hne
       refine ⟨c',T',h1,h2,?_,h4,fun j x u hx hu=>⟨(h5 j x u hx hu).1,keep _ x u (by simp) (h5 j x u hx hu).2⟩⟩
       show (if (G.r id).1 = ad.block then some p else G.K (G.r id).1) = _
       rw [if_neg]
       · exact h3
       · intro e
         rw [e,o1] at h3
         simp at h3
     · show (if b = ad.block then some p else G.K b) = none
       rw [if_neg (by omega)]
       exact h.sr.new b hb
   · simp only [upd]
     rw [if_neg (by omega)]
     exact h.out i hi
   · simp only [upd]
     split
     · rename_i e
       subst e
       exact ⟨(h.tmp i u hu).1.dis,OwnAt.of_not (isOwn_dis _)⟩
     · rename_i e
       exact ⟨(h.tmp i u hu).1,keep _ _ _ (by simp [e]) (h.tmp i u hu).2⟩
   · intro k' xs' a' l' c' f1 f2 f3
     rw [e1] at f1
     injection f1 with f1 f1'
     subst f1 f1'
     rw [e2] at f2
     injection f2 with f2 f2' f2''
     injection f2 with f2
     subst f2 f2' f2''
     refine ⟨?_,o2,o3,o4,c,T,o5,o6⟩
     show (if ad.block = ad.block then some p else _) = _
     rw [if_pos rfl]
theorem R.newBox (h:R n m G0 w0 s G a w) (cs:List AVal) (c:Array Value) (T:TypeId) (hs:cs.length ≤ c.size)
   (hc:∀ (j:Nat) (x:AVal) (v:Value),cs[j]? = some x → c[j]? = some v → Rep s.H.length G.r G.F x v ∧ x.isOwn = false) :
   ∃ G',R n m G0 w0 ⟨s.t,s.H ++ [cs]⟩ G' a (w.alloc (.cells c T)) ∧ G'.r s.H.length = (w.heap.size,c.size) ∧ G'.F = G.F:=by
 let G':Gh:=⟨G.F,fun i=>if i = s.H.length then (w.heap.size,c.size) else G.r i,fun b=>if b = w.heap.size then some (.box s.H.length) else G.K b⟩
 have hr:∀ i,i < s.H.length → G'.r i = G.r i:=fun i hi=>if_neg (by omega)
 have hlen:s.H.length ≤ (s.H ++ [cs]).length:=by simp
 have mono:∀ {x v},Rep s.H.length G.r G.F x v → Rep (s.H ++ [cs]).length G'.r G'.F x v:=fun hx=>hx.mono hlen hr (Frz.le.refl _)
 have blk:∀ b,b < w.heap.size → (w.alloc (.cells c T)).heap[b]? = w.heap[b]?:=fun b hb=>heap_alloc_old w _ b hb
 have own:∀ (p:Pos) (x:AVal) (v:Value),OwnAt G w p x v → OwnAt G' (w.alloc (.cells c T)) p x v:=by
   intro p x v ho k xs ad len cap f1 f2 f3
   obtain ⟨g1,g2,g3,g4,c',T',g5,g6⟩:=ho k xs ad len cap f1 f2 f3
   have hlt:=(Array.getElem?_eq_some_iff.1 g5).1
   refine ⟨?_,g2,g3,g4,c',T',by rw [blk _ hlt]; exact g5,g6⟩
   show (if ad.block = w.heap.size then some (Pos.box s.H.length) else G.K ad.block) = some p
   rw [if_neg (by omega)]
   exact g1
 have hF:∀ o,G.F w.heap.size o = none:=by
   intro o
   cases hf:G.F w.heap.size o with
   | none=>rfl
   | some v =>
     have:=h.sr.frz _ _ _ hf
     have:=World.block_lt_of_cell? w _ this
     simp at this
 refine ⟨G',h.build (s':=⟨s.t,s.H ++ [cs]⟩) ?_ ?_ hlen h.sz h.dfr h.out (fun i v hv=>⟨mono (h.tmp i v hv).1,own _ _ _ (h.tmp i v hv).2⟩),if_pos rfl,rfl⟩
 · refine ⟨rfl,rfl,rfl,by simp,hr,Frz.le.refl _,fun b hb _=>⟨blk b hb,if_neg (by omega),fun _=>rfl⟩⟩
 · refine ⟨fun b o v hf=>?_,fun id cs' hid hne=>?_,fun b hb=>?_⟩
   · have:=h.sr.frz b o v hf
     have hlt:=World.block_lt_of_cell? w _ this
     rw [World.cell?_of_block (w:=w) (blk b hlt)]
     exact this
   · by_cases hid':id < s.H.length
     · rw [List.getElem?_append_left hid'] at hid
       obtain ⟨c',T',h1,h2,h3,h4,h5⟩:=h.sr.box id cs' hid hne
       have hlt:=(Array.getElem?_eq_some_iff.1 h1).1
       refine ⟨c',T',by rw [hr id hid',blk _ hlt]; exact h1,by rw [hr id hid']; exact h2,?_,by rw [hr id hid']; exact h4,fun j x v hx hv=>⟨mono (h5 j x v hx hv).1,own _ _ _ (h5 j x v hx hv).2⟩⟩
       rw [hr id hid']
       show (if (G.r id).1 = w.heap.size then some (Pos.box s.H.length) else G.K (G.r id).1) = _
       rw [if_neg (by omega)]
       exact h3
     · have he:id = s.H.length:=by
         have:=(List.getElem?_eq_some_iff.1 hid).1
         simp at this
         omega
       subst he
       simp only [List.getElem?_append_right (Nat.le_refl _),Nat.sub_self,List.getElem?_cons_zero,Option.some.injEq] at hid
       subst hid
       have hrr:G'.r s.H.length = (w.heap.size,c.size):=if_pos rfl
       refine ⟨c,T,by rw [hrr]; exact heap_alloc_new w _,by rw [hrr]; exact ⟨hs,Nat.le_refl _⟩,?_,by rw [hrr]; exact hF,fun j x v hx hv=>⟨mono (hc j x v hx hv).1,OwnAt.of_not (hc j x v hx hv).2⟩⟩
       rw [hrr]
       exact if_pos rfl
   · have:w.heap.size < b:=by simp at hb; omega
     show (if b = w.heap.size then some (Pos.box s.H.length) else G.K b) = none
     rw [if_neg (by omega)]
     exact h.sr.new b (by omega)
theorem R.setBox (h:R n m G0 w0 s G a w) {id:Nat} {cs cs':List AVal} (hid:s.H[id]? = some cs) (hne:cs ≠ []) {c c':Array Value} {T:TypeId} (hc:w.heap[(G.r id).1]? = some (.cells c T (0,0)))
   (hs:cs'.length ≤ c'.size ∧ (G.r id).2 ≤ c'.size) (hrep:∀ (j:Nat) (x:AVal) (v:Value),cs'[j]? = some x → c'[j]? = some v → Rep s.H.length G.r G.F x v ∧ OwnAt G w (.cell id j) x v) :
   R n m G0 w0 ⟨s.t,s.H.set id cs'⟩ G a (w.setRow (G.r id).1 c'):=by
 obtain ⟨c0,T0,b1,b2,b3,b4,b5⟩:=h.sr.box id cs hid hne
 have hlt:id < s.H.length:=(List.getElem?_eq_some_iff.1 hid).1
 have hother:∀ b,b ≠ (G.r id).1 → (w.setRow (G.r id).1 c').heap[b]? = w.heap[b]?:=fun b hb=>setRow_other w (G.r id).1 b c' hb
 have own:∀ (p:Pos) (x:AVal) (v:Value),(∀ i,p ≠ .box i) → OwnAt G w p x v → OwnAt G (w.setRow (G.r id).1 c') p x v:=by
   intro p x v hp ho k xs ad len cap f1 f2 f3
   obtain ⟨g1,g2,g3,g4,c'',T'',g5,g6⟩:=ho k xs ad len cap f1 f2 f3
   refine ⟨g1,g2,g3,g4,c'',T'',?_,g6⟩
   rw [hother]
   · exact g5
   · intro e
     rw [e,b3] at g1
     injection g1 with g1
     exact hp id g1.symm
 refine h.build (s':=⟨s.t,s.H.set id cs'⟩) ?_ ?_ (by simp) h.sz h.dfr h.out (fun i v hv=>?_)
 · refine ⟨rfl,rfl,rfl,by simp,fun _ _=>rfl,Frz.le.refl _,fun b hb ht=>⟨hother b ?_,rfl,fun _=>rfl⟩⟩
   intro e
   exact ht (.inl (.inl ⟨id,by rw [e,b3]⟩))
 · refine ⟨fun b o v hf=>?_,fun id' cs'' hid' hne'=>?_,fun b hb=>h.sr.new b (by simpa using hb)⟩
   · have hne:b ≠ (G.r id).1:=by
       intro e
       subst e
       rw [b4 o] at hf
       cases hf
     rw [World.cell?_of_block (w:=w) (a:=⟨b,o,none⟩) (hother b hne)]
     exact h.sr.frz b o v hf
   · rw [List.getElem?_set] at hid'
     have e:((s.H.set id cs').length) = s.H.length:=by simp
     simp only [e]
     by_cases hii:id = id'
     · subst hii
       rw [if_pos rfl,if_pos hlt] at hid'
       injection hid' with hid'
       subst hid'
       exact ⟨c',T,setRow_heap w (G.r id).1 c c' T (0,0) hc,hs,b3,b4,fun j x v hx hv=>⟨(hrep j x v hx hv).1,own _ _ _ (by simp) (hrep j x v hx hv).2⟩⟩
     · rw [if_neg hii] at hid'
       obtain ⟨c2,T2,d1,d2,d3,d4,d5⟩:=h.sr.box id' cs'' hid' hne'
       refine ⟨c2,T2,?_,d2,d3,d4,fun j x v hx hv=>⟨(d5 j x v hx hv).1,own _ _ _ (by simp) (d5 j x v hx hv).2⟩⟩
       rw [hother]
       · exact d1
       · intro e
         rw [e,b3] at d3
         injection d3 with d3
         injection d3 with d3
         exact hii d3
 · have e:((s.H.set id cs').length) = s.H.length:=by simp
   simp only [e]
   exact ⟨(h.tmp i v hv).1,own _ _ _ (by simp) (h.tmp i v hv).2⟩
end
end Go.Am
