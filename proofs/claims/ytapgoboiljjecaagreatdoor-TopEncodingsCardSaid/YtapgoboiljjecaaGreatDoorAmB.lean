/- The abstract machine, part two: how an abstract state describes a world, and what keeps it so. -/
import Derived.Test.YtapgoboiljjecaaGreatDoorAmA
namespace Go.Am
open Go
set_option linter.unusedSectionVars false
variable [Globs]
def noid0:AVal → Bool
 | .ptr .. | .osl .. | .fn .. | .tup _ | .mix _=>false
 | _=>true
def noid:AVal → Bool
 | .tup vs=>vs.all noid0
 | .fn _ fs cs=>fs.all noid0 && cs.all noid0
 | x=>noid0 x
theorem noid0_rep {n n':Nat} {r r':Nat → Nat × Nat} {F:Frz} {x:AVal} {v:Value} (h:Rep n r F x v) (hx:noid0 x = true):Rep n' r' F x v:=by
 cases h with
 | undef v=>exact .undef v
 | tree x v h=>exact .tree x v h
 | iptr cs off b o val h1 hF h=>exact .iptr cs off b o val h1 hF h
 | _=>simp [noid0] at hx
theorem noid_rep {n n':Nat} {r r':Nat → Nat × Nat} {F:Frz} {x:AVal} {v:Value} (h:Rep n r F x v) (hx:noid x = true):Rep n' r' F x v:=by
 cases h with
 | fn f fs cs fs' cs' hf hc h h' =>
   simp only [noid,Bool.and_eq_true,List.all_eq_true] at hx
   exact .fn f fs cs fs' cs' hf hc (fun i x v a b=>noid0_rep (h i x v a b) (hx.1 x (List.mem_of_getElem? a))) (fun i x v a b=>noid0_rep (h' i x v a b) (hx.2 x (List.mem_of_getElem? a)))
 | tup vs arr hs h =>
   simp only [noid,List.all_eq_true] at hx
   exact .tup vs arr hs (fun i x v a b=>noid0_rep (h i x v a b) (hx x (List.mem_of_getElem? a)))
 | undef v=>exact .undef v
 | tree x v h=>exact .tree x v h
 | iptr cs off b o val h1 hF h=>exact .iptr cs off b o val h1 hF h
 | ptr=>simp [noid,noid0] at hx
 | osl=>simp [noid,noid0] at hx
 | osl0=>simp [noid,noid0] at hx
 | mix=>simp [noid,noid0] at hx
inductive Pos where
  | tmp (i:Nat) | cell (id j:Nat) | box (id:Nat) | ret | far
  deriving DecidableEq
structure Gh where
  F:Frz
  r:Nat → Nat × Nat
  K:Nat → Option Pos
def OwnAt (G:Gh) (w:World) (p:Pos) (x:AVal) (v:Value):Prop :=
 ∀ k xs a len cap,x = .sl k xs .own → v = .slice (some a) len cap → len < cap →
   G.K a.block = some p ∧ a = ⟨a.block,0,none⟩ ∧ 0 < k ∧ (∀ o,a.off + len * k ≤ o → G.F a.block o = none) ∧
     ∃ c T,w.heap[a.block]? = some (.cells c T (0,0)) ∧ a.off + cap * k ≤ c.size
def AVal.isOwn:AVal → Bool
 | .sl _ _ .own=>true
 | _=>false
theorem OwnAt.of_not {G:Gh} {w:World} {p:Pos} {x:AVal} {v:Value} (h:x.isOwn = false):OwnAt G w p x v:=by
 intro k xs a len cap hx
 subst hx
 simp [AVal.isOwn] at h
theorem isOwn_dis (x:AVal):x.dis.isOwn = false:=by
 cases x with
 | sl k xs m=>cases m <;> rfl
 | _=>rfl
structure SR (G:Gh) (H:List (List AVal)) (w:World):Prop where
  frz:∀ b o v,G.F b o = some v → w.cell? ⟨b,o,none⟩ = some v
  box:∀ id cs,H[id]? = some cs → cs ≠ [] → ∃ c T,w.heap[(G.r id).1]? = some (.cells c T (0,0)) ∧ (cs.length ≤ c.size ∧ (G.r id).2 ≤ c.size) ∧ G.K (G.r id).1 = some (.box id) ∧ (∀ o,G.F (G.r id).1 o = none) ∧
    ∀ j x v,cs[j]? = some x → c[j]? = some v → Rep H.length G.r G.F x v ∧ OwnAt G w (.cell id j) x v
  new:∀ b,w.heap.size ≤ b → G.K b = none
structure Ext (m:Nat) (T:Nat → Prop) (G:Gh) (w:World) (G':Gh) (w':World):Prop where
  os:w'.os = w.os
  tape:w'.tape = w.tape
  output:w'.output = w.output
  size:w.heap.size ≤ w'.heap.size
  rho:∀ i,i < m → G'.r i = G.r i
  mono:G.F.le G'.F
  old:∀ b,b < w.heap.size → ¬ T b → w'.heap[b]? = w.heap[b]? ∧ G'.K b = G.K b ∧ ∀ o,G'.F b o = G.F b o
def Gh.Tch (G:Gh) (b:Nat):Prop:=(∃ id,G.K b = some (.box id)) ∨ ∃ id j,G.K b = some (.cell id j)
def Gh.Tch2 (G:Gh) (b:Nat):Prop:=G.Tch b ∨ ∃ i,G.K b = some (.tmp i)
theorem Ext.refl (m:Nat) (T:Nat → Prop) (G:Gh) (w:World):Ext m T G w G w :=
 ⟨rfl,rfl,rfl,Nat.le_refl _,fun _ _=>rfl,Frz.le.refl _,fun _ _ _=>⟨rfl,rfl,fun _=>rfl⟩⟩
theorem Ext.weaken {m m':Nat} {T T':Nat → Prop} {G G':Gh} {w w':World} (h:Ext m T G w G' w') (hm:m' ≤ m) (hT:∀ b,T b → T' b):Ext m' T' G w G' w' :=
 ⟨h.os,h.tape,h.output,h.size,fun i hi=>h.rho i (Nat.lt_of_lt_of_le hi hm),h.mono,fun b hb ht=>h.old b hb (fun t=>ht (hT b t))⟩
theorem Ext.trans {m:Nat} {T:Nat → Prop} {A B C:Gh} {wa wb wc:World} (h:Ext m T A wa B wb) (k:Ext m T B wb C wc):Ext m T A wa C wc :=
 ⟨k.os.trans h.os,k.tape.trans h.tape,k.output.trans h.output,Nat.le_trans h.size k.size,fun i hi=>(k.rho i hi).trans (h.rho i hi),h.mono.trans k.mono,fun b hb ht=>by
   obtain ⟨h1,h2,h3⟩:=h.old b hb ht
   obtain ⟨k1,k2,k3⟩:=k.old b (Nat.lt_of_lt_of_le hb h.size) ht
   exact ⟨k1.trans h1,k2.trans h2,fun o=>(k3 o).trans (h3 o)⟩⟩
structure ASt where
  t:Nat → AVal
  H:List (List AVal)
structure R (n m:Nat) (G0:Gh) (w0:World) (s:ASt) (G:Gh) (a:Act) (w:World):Prop where
  sz:a.tmps.size = n
  out:∀ i,n ≤ i → s.t i = .undef
  dfr:a.defers = []
  clean:∀ b i,G0.K b ≠ some (.tmp i)
  ext:Ext m G0.Tch G0 w0 G w
  hm:m ≤ s.H.length
  sr:SR G s.H w
  tmp:∀ i v,a.tmps[i]? = some v → Rep s.H.length G.r G.F (s.t i) v ∧ OwnAt G w (.tmp i) (s.t i) v
theorem Ext.comp {m m':Nat} {G0 G G':Gh} {w0 w w':World} (hc:∀ b i,G0.K b ≠ some (.tmp i)) (h:Ext m G0.Tch G0 w0 G w) (hm:m ≤ m') (k:Ext m' G.Tch2 G w G' w'):Ext m G0.Tch G0 w0 G' w' :=
 ⟨k.os.trans h.os,k.tape.trans h.tape,k.output.trans h.output,Nat.le_trans h.size k.size,fun i hi=>(k.rho i (Nat.lt_of_lt_of_le hi hm)).trans (h.rho i hi),h.mono.trans k.mono,fun b hb ht=>by
   obtain ⟨h1,h2,h3⟩:=h.old b hb ht
   have hn:¬ G.Tch2 b:=by
     rintro ((⟨id,e⟩ | ⟨id,j,e⟩) | ⟨i,e⟩)
     · exact ht (.inl ⟨id,h2 ▸ e⟩)
     · exact ht (.inr ⟨id,j,h2 ▸ e⟩)
     · exact hc b i (h2 ▸ e)
   obtain ⟨k1,k2,k3⟩:=k.old b (Nat.lt_of_lt_of_le hb h.size) hn
   exact ⟨k1.trans h1,k2.trans h2,fun o=>(k3 o).trans (h3 o)⟩⟩
theorem R.build {n m:Nat} {G0:Gh} {w0:World} {s:ASt} {G:Gh} {a:Act} {w:World} (h:R n m G0 w0 s G a w) {G':Gh} {w':World} {s':ASt} {a':Act}
   (he:Ext s.H.length G.Tch2 G w G' w') (hs:SR G' s'.H w') (hH:s.H.length ≤ s'.H.length) (hz:a'.tmps.size = n) (hd:a'.defers = []) (ho:∀ i,n ≤ i → s'.t i = .undef)
   (ht:∀ i v,a'.tmps[i]? = some v → Rep s'.H.length G'.r G'.F (s'.t i) v ∧ OwnAt G' w' (.tmp i) (s'.t i) v):R n m G0 w0 s' G' a' w' :=
 ⟨hz,ho,hd,h.clean,Ext.comp h.clean h.ext h.hm he,Nat.le_trans h.hm hH,hs,ht⟩
abbrev ExtP (m:Nat):=Ext m (fun _=>False)
theorem OwnAt.pure {m:Nat} {G G':Gh} {w w':World} (he:ExtP m G w G' w') {p:Pos} {x:AVal} {v:Value} (h:OwnAt G w p x v):OwnAt G' w' p x v:=by
 intro k xs a len cap hx hv hl
 obtain ⟨h1,h2,h3,h4,c,T,h5,h6⟩:=h k xs a len cap hx hv hl
 obtain ⟨o1,o2,o3⟩:=he.old a.block (Array.getElem?_eq_some_iff.1 h5).1 (fun f=>f)
 exact ⟨o2.trans h1,h2,h3,fun o ho=>(o3 o).trans (h4 o ho),c,T,o1.trans h5,h6⟩
theorem SR.pure {G G':Gh} {H:List (List AVal)} {w w':World} (h:SR G H w) (he:ExtP H.length G w G' w') (hf:∀ b o v,G'.F b o = some v → w'.cell? ⟨b,o,none⟩ = some v)
   (hn:∀ b,w'.heap.size ≤ b → G'.K b = none):SR G' H w':=by
 refine ⟨hf,fun id cs hid hne=>?_,hn⟩
 obtain ⟨c,T,h1,h2,h3,h4,h5⟩:=h.box id cs hid hne
 have hlt:id < H.length:=(List.getElem?_eq_some_iff.1 hid).1
 have hr:=he.rho id hlt
 obtain ⟨o1,o2,o3⟩:=he.old (G.r id).1 (Array.getElem?_eq_some_iff.1 h1).1 (fun f=>f)
 refine ⟨c,T,by rw [hr,o1,h1],by rw [hr]; exact h2,by rw [hr,o2,h3],fun o=>by rw [hr,o3,h4],fun j x v hx hv=>?_⟩
 obtain ⟨k1,k2⟩:=h5 j x v hx hv
 exact ⟨k1.mono (Nat.le_refl _) he.rho he.mono,k2.pure he⟩
theorem R.pure {n m:Nat} {G0:Gh} {w0:World} {s:ASt} {G:Gh} {a:Act} {w:World} (h:R n m G0 w0 s G a w) {G':Gh} {w':World} (he:ExtP s.H.length G w G' w')
   (hf:∀ b o v,G'.F b o = some v → w'.cell? ⟨b,o,none⟩ = some v) (hn:∀ b,w'.heap.size ≤ b → G'.K b = none):R n m G0 w0 s G' a w' :=
 h.build (s':=s) (he.weaken (Nat.le_refl _) (fun _ f=>f.elim)) (h.sr.pure he hf hn) (Nat.le_refl _) h.sz h.dfr h.out
   (fun i v hv=>⟨(h.tmp i v hv).1.mono (Nat.le_refl _) he.rho he.mono,(h.tmp i v hv).2.pure he⟩)
def upd (t:Nat → AVal) (d:Nat) (x:AVal):Nat → AVal:=fun i=>if i = d then x else t i
def ASt.put (s:ASt) (d:Option Nat) (x:AVal):ASt :=
 match d with
 | some d=>⟨upd s.t d x,s.H⟩
 | none=>s
theorem put_tmps (a:Act) (d:Option Tmp) (v:Value):(a.put d v).tmps.size = a.tmps.size:=by
 cases d <;> simp [Act.put]
theorem put_defers (a:Act) (d:Option Tmp) (v:Value):(a.put d v).defers = a.defers:=by
 cases d <;> rfl
theorem R.put {n m:Nat} {G0:Gh} {w0:World} {s:ASt} {G:Gh} {a:Act} {w:World} (h:R n m G0 w0 s G a w) (d:Option Nat) (hd:∀ i:Nat,d = some i → i < n) {x:AVal} {v:Value}
   (hx:Rep s.H.length G.r G.F x v) (ho:x.isOwn = false):R n m G0 w0 (s.put d x) G (a.put d v) w:=by
 cases d with
 | none=>exact h
 | some d =>
   have hdn:=hd d rfl
   refine h.build (s':=s.put (some d) x) (Ext.refl _ _ _ _) h.sr (Nat.le_refl _) (by rw [put_tmps]; exact h.sz) h.dfr (fun i hi=>?_) (fun i u hu=>?_)
   · simp only [ASt.put,upd]
     rw [if_neg (by omega)]
     exact h.out i hi
   · simp only [Act.put,Array.getElem?_setIfInBounds] at hu
     by_cases hi:d = i
     · subst hi
       have hlt:d < a.tmps.size:=by rw [h.sz]; exact hdn
       simp only [if_true,hlt,Option.some.injEq] at hu
       subst hu
       simp only [ASt.put,upd,if_true]
       exact ⟨hx,OwnAt.of_not ho⟩
     · rw [if_neg hi] at hu
       simp only [ASt.put,upd]
       rw [if_neg (fun e=>hi e.symm)]
       exact h.tmp i u hu
theorem R.xfer {n m:Nat} {G0:Gh} {w0:World} {s:ASt} {G:Gh} {a:Act} {w:World} (h:R n m G0 w0 s G a w) (d src:Nat) (hd:d < n) (hne:d ≠ src) :
   ∃ G',R n m G0 w0 ⟨upd (upd s.t src (s.t src).dis) d (s.t src),s.H⟩ G' (a.put (some d) (a.eval (.tmp src))) w:=by
 have hsz:=h.sz
 by_cases hsrc:src < n
 case neg =>
   have hu:s.t src = .undef:=h.out src (by omega)
   refine ⟨G,?_⟩
   have h1:=h.put (some d) (fun i e=>by injection e with e; subst e; exact hd) (x:=.undef) (v:=a.eval (.tmp src)) (.undef _) rfl
   have:(⟨upd (upd s.t src (s.t src).dis) d (s.t src),s.H⟩:ASt) = s.put (some d) .undef:=by
     simp only [ASt.put,hu,AVal.dis]
     congr 1
     funext i
     simp only [upd]
     split
     · rfl
     · split
       · rename_i e; rw [e,hu]
       · rfl
   rw [this]
   exact h1
 have hv:a.tmps[src]? = some (a.eval (.tmp src)):=by
   simp [Act.eval,Array.getD,hsz,hsrc]
 obtain ⟨hrep,hown⟩:=h.tmp src _ hv
 generalize hvv:a.eval (.tmp src) = v at *
 by_cases hb:∃ k xs ad len cap,s.t src = .sl k xs .own ∧ v = .slice (some ad) len cap ∧ len < cap
 case neg =>
   refine ⟨G,h.build (s':=⟨_,s.H⟩) (Ext.refl _ _ _ _) h.sr (Nat.le_refl _) (by rw [put_tmps]; exact h.sz) h.dfr (fun i hi=>?_) (fun i u hu=>?_)⟩
   · simp only [upd]
     rw [if_neg (by omega),if_neg (by omega)]
     exact h.out i hi
   · simp only [Act.put,Array.getElem?_setIfInBounds] at hu
     by_cases hi:d = i
     · subst hi
       simp only [if_true,hsz,hd,Option.some.injEq] at hu
       subst hu
       simp only [upd,if_true]
       exact ⟨hrep,fun k xs ad len cap e1 e2 e3=>(hb ⟨k,xs,ad,len,cap,e1,e2,e3⟩).elim⟩
     · rw [if_neg hi] at hu
       simp only [upd]
       rw [if_neg (fun e=>hi e.symm)]
       by_cases his:i = src
       · subst his
         simp only [if_true]
         rw [hv] at hu
         injection hu with hu
         subst hu
         exact ⟨hrep.dis,OwnAt.of_not (isOwn_dis _)⟩
       · rw [if_neg his]
         exact h.tmp i u hu
 case pos =>
   obtain ⟨k,xs,ad,len,cap,e1,e2,e3⟩:=hb
   obtain ⟨o1,o2,o3,o4,c,T,o5,o6⟩:=hown k xs ad len cap e1 e2 e3
   have hblt:=(Array.getElem?_eq_some_iff.1 o5).1
   let G':Gh:={ G with K:=fun b=>if b = ad.block then some (.tmp d) else G.K b }
   have keep:∀ (p:Pos) (x:AVal) (u:Value),p ≠ .tmp src → OwnAt G w p x u → OwnAt G' w p x u:=by
     intro p x u hp ho k' xs' a' l' c' f1 f2 f3
     obtain ⟨g1,g2,g3,g4,g5⟩:=ho k' xs' a' l' c' f1 f2 f3
     refine ⟨?_,g2,g3,g4,g5⟩
     show (if a'.block = ad.block then some (Pos.tmp d) else G.K a'.block) = some p
     rw [if_neg]
     · exact g1
     · intro e
       rw [e,o1] at g1
       injection g1 with g1
       exact hp g1.symm
   refine ⟨G',h.build (s':=⟨_,s.H⟩) ?_ ?_ (Nat.le_refl _) (by rw [put_tmps]; exact h.sz) h.dfr (fun i hi=>?_) (fun i u hu=>?_)⟩
   · refine ⟨rfl,rfl,rfl,Nat.le_refl _,fun _ _=>rfl,Frz.le.refl _,fun b _ ht=>⟨rfl,?_,fun _=>rfl⟩⟩
     show (if b = ad.block then some (Pos.tmp d) else G.K b) = G.K b
     rw [if_neg]
     intro e
     exact ht (.inr ⟨src,by rw [e,o1]⟩)
   · refine ⟨h.sr.frz,fun id cs hid hne=>?_,fun b hb=>?_⟩
     · obtain ⟨c',T',h1,h2,h3,h4,h5⟩:=h.sr.box id cs hid hne
       refine ⟨c',T',h1,h2,?_,h4,fun j x u hx hu=>⟨(h5 j x u hx hu).1,keep _ x u (by simp) (h5 j x u hx hu).2⟩⟩
       show (if (G.r id).1 = ad.block then some (Pos.tmp d) else G.K (G.r id).1) = _
       rw [if_neg]
       · exact h3
       · intro e
         rw [e,o1] at h3
         simp at h3
     · show (if b = ad.block then some (Pos.tmp d) else G.K b) = none
       rw [if_neg (by omega)]
       exact h.sr.new b hb
   · simp only [upd]
     rw [if_neg (by omega),if_neg (by omega)]
     exact h.out i hi
   · simp only [Act.put,Array.getElem?_setIfInBounds] at hu
     by_cases hi:d = i
     · subst hi
       simp only [if_true,hsz,hd,Option.some.injEq] at hu
       subst hu
       simp only [upd,if_true]
       refine ⟨hrep,fun k' xs' a' l' c' f1 f2 f3=>?_⟩
       rw [e1] at f1
       injection f1 with f1 f1'
       subst f1 f1'
       rw [e2] at f2
       injection f2 with f2 f2' f2''
       injection f2 with f2
       subst f2 f2' f2''
       refine ⟨?_,o2,o3,o4,c,T,o5,o6⟩
       show (if ad.block = ad.block then some (Pos.tmp d) else _) = _
       rw [if_pos rfl]
     · rw [if_neg hi] at hu
       simp only [upd]
       rw [if_neg (fun e=>hi e.symm)]
       by_cases his:i = src
       · subst his
         simp only [if_true]
         rw [hv] at hu
         injection hu with hu
         subst hu
         exact ⟨hrep.dis,OwnAt.of_not (isOwn_dis _)⟩
       · rw [if_neg his]
         exact ⟨(h.tmp i u hu).1,keep _ _ _ (by simp [his]) (h.tmp i u hu).2⟩
end Go.Am
