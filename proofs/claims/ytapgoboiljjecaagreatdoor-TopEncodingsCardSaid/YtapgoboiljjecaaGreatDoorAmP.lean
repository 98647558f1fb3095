/- The abstract machine, part sixteen: code, loops, and the contract of a function. -/
import Derived.Test.YtapgoboiljjecaaGreatDoorAmR
namespace Go.Am
open Go
set_option linter.unusedSectionVars false
variable [Globs]
inductive AEx where
  | normal | exit (id:Nat) | ret
abbrev APost:=AEx → ASt → Prop
def conc (n m:Nat) (G0:Gh) (w0:World) (Q:APost):Exit → Act → World → Prop
 | .normal,a,w=>∃ s G,R n m G0 w0 s G a w ∧ Q .normal s
 | .exit id,a,w=>∃ s G,R n m G0 w0 s G a w ∧ Q (.exit id) s
 | .ret,a,w=>∃ s G,R n m G0 w0 s G a w ∧ Q .ret s
 | _,_,_=>False
def SWp (P:Program) (n m:Nat) (c:Code) (Q:APost) (s:ASt):Prop :=
 ∀ (G0:Gh) (w0:World) (G:Gh) (a:Act) (w:World),R n m G0 w0 s G a w → c.wp P (conc n m G0 w0 Q) a w
def thenK (k:ASt → Prop) (Q:APost):APost
 | .normal,s=>k s
 | e,s=>Q e s
def blkK (id:Nat) (Q:APost):APost
 | .exit i,s=>if i = id then Q .normal s else Q (.exit i) s
 | e,s=>Q e s
def cboolK (q:Nat) (Ka Kb:ASt → Prop) (s:ASt):AVal → Prop
 | .ubool=>Ka ⟨upd s.t q (.bool true),s.H⟩ ∧ Kb ⟨upd s.t q (.bool false),s.H⟩
 | x=>boolK q true Ka Kb s x
def condK (c:Operand) (Ka Kb:ASt → Prop) (s:ASt):Prop :=
 match c with
 | .tmp q=>cboolK q Ka Kb s (s.t q)
 | .const (.bool b)=>if b = true then Ka s else Kb s
 | _=>False
def LoopK (P:Program) (n m:Nat) (body:Code) (Q:APost) (s:ASt):Prop:=SWp P n m (.loop body) Q s
def awp (P:Program) (tr:List Nat) (n m:Nat):Code → APost → ASt → Prop
 | .skip,Q,s=>Q .normal s
 | .region id ops d,Q,s=>if (d && tr.contains (600000 + id)) = true then AnyK P tr ops (Q .normal) (frzS (frzC tr id) s) else awpOps P tr (if d = true then some (vw tr ops (frzS (frzC tr id) s).H.length) else none) ops ops.toList (Q .normal) (frzS (frzC tr id) s)
 | .seq a b,Q,s=>awp P tr n m a (thenK (awp P tr n m b Q) Q) s
 | .cond c a b,Q,s=>condK c (awp P tr n m a Q) (awp P tr n m b Q) s
 | .block id c,Q,s=>awp P tr n m c (blkK id Q) s
 | .loop body,Q,s=>LoopK P n m body Q s
 | .exit id,Q,s=>Q (.exit id) s
 | .scope c,Q,s=>awp P tr n m c Q s
 | .label _,Q,s=>Q .normal s
 | .ret,Q,s=>Q .ret s
 | .rangeFunc ..,_,_=>False
 | .goto _,_,_=>False
 | .refuse _,_,_=>False
def good (tr:List Nat) (n:Nat):Code → Bool
 | .region id ops d=>dstsOk n ops.toList && (!d || tr.contains (600000 + id) || drawSafe tr ops)
 | .seq a b=>good tr n a && good tr n b
 | .cond _ a b=>good tr n a && good tr n b
 | .block _ c=>good tr n c
 | .loop c=>good tr n c
 | .scope c=>good tr n c
 | .rangeFunc ..=>false
 | _=>true
theorem R.retype {n m:Nat} {G0:Gh} {w0:World} {s:ASt} {G:Gh} {a:Act} {w:World} (h:R n m G0 w0 s G a w) (q:Nat) (hq:q < n) (x:AVal) (hx:Rep s.H.length G.r G.F x (a.eval (.tmp q))) (ho:x.isOwn = false) :
   R n m G0 w0 ⟨upd s.t q x,s.H⟩ G a w:=by
 refine h.build (s':=⟨upd s.t q x,s.H⟩) (Ext.refl _ _ _ _) h.sr (Nat.le_refl _) h.sz h.dfr (fun i hi=>?_) (fun i u hu=>?_)
 · simp only [upd]; rw [if_neg (by omega)]; exact h.out i hi
 · simp only [upd]
   split
   · rename_i e
     subst e
     have:a.eval (.tmp i) = u:=by
       have hlt:=(Array.getElem?_eq_some_iff.1 hu)
       obtain ⟨h1,h2⟩:=hlt
       simp [Act.eval,Array.getD,h1,h2]
     rw [← this]
     exact ⟨hx,OwnAt.of_not ho⟩
   · exact h.tmp i u hu
theorem awp_sound {P:Program} {tr:List Nat} {n m:Nat} (hmx:P.follows .mixedOrders = true):∀ (c:Code) (Q:APost) (s:ASt),good tr n c = true → awp P tr n m c Q s → SWp P n m c Q s:=by
 intro c
 induction c with
 | skip=>intro Q s _ h G0 w0 G a w hR; exact wp_skip ⟨s,G,hR,h⟩
 | region id ops d =>
   intro Q s0 hg h G0 w0 G a w hR0
   obtain ⟨G1,hR⟩:=hR0.frzS (frzC tr id) s0 G
   simp only [awp] at h
   generalize frzS (frzC tr id) s0 = s at h hR
   simp only [good,Bool.and_eq_true,Bool.or_eq_true,Bool.not_eq_true'] at hg
   cases d with
   | false=>exact region_sound hg.1 hR (by simpa using h) (fun s' G' a' w' hk hR'=>⟨s',G',hR',hk⟩)
   | true =>
     cases hc:tr.contains (600000 + id) with
     | true =>
       rw [hc] at h
       exact anyK_sound hmx hg.1 hR h (fun s' G' a' w' hk hR'=>⟨s',G',hR',hk⟩)
     | false =>
       rw [hc] at h hg
       exact draw_sound hmx (by simpa using hg.2) hg.1 hR h (fun s' G' a' w' hk hR'=>⟨s',G',hR',hk⟩)
 | seq x y ihx ihy =>
   intro Q s hg h G0 w0 G a w hR
   simp only [good,Bool.and_eq_true] at hg
   refine wp_seq (wp_mono (ihx _ s hg.1 h G0 w0 G a w hR) ?_)
   intro e a' w' he
   cases e with
   | normal=>obtain ⟨s',G',hR',hk⟩:=he; exact ihy _ s' hg.2 hk G0 w0 G' a' w' hR'
   | exit id=>exact he
   | ret=>exact he
   | goto l=>exact he
   | panic c=>exact he
   | outgrown=>exact he
 | cond c x y ihx ihy =>
   intro Q s hg h G0 w0 G a w hR
   simp only [good,Bool.and_eq_true] at hg
   simp only [awp,condK] at h
   cases c with
   | tmp q =>
     simp only at h
     cases hb:s.t q with
     | ubool =>
       rw [hb] at h
       simp only [cboolK] at h
       obtain ⟨b,hv⟩:∃ b,a.eval (.tmp q) = .bool b:=by
         have:=hR.get (.tmp q)
         simp only [av,hb] at this
         generalize a.eval (.tmp q) = v at this
         cases this with
         | tree _ _ ht=>cases ht with | ubool b=>exact ⟨b,rfl⟩
       have hqn:q < n:=by
         by_cases e:q < n
         · exact e
         · rw [hR.out q (Nat.le_of_not_lt e)] at hb; cases hb
       have hR':=hR.retype q hqn (.bool b) (by rw [hv]; exact .tree _ _ (.bool b)) rfl
       cases b with
       | true=>exact wp_cond_true hv (ihx _ _ hg.1 h.1 G0 w0 G a w hR')
       | false=>exact wp_cond_false hv (ihy _ _ hg.2 h.2 G0 w0 G a w hR')
     | bool b =>
       rw [hb] at h
       simp only [cboolK] at h
       have hv:a.eval (.tmp q) = .bool b:=by
         have:=hR.get (.tmp q)
         simp only [av,hb] at this
         exact this.bool_inv
       have hs:∀ b',b = b' → (⟨upd s.t q (.bool b'),s.H⟩:ASt) = s:=fun b' e=>upd_same s q _ (by rw [hb,e])
       cases b with
       | true =>
         simp only [boolK,if_true] at h
         rw [hs true rfl] at h
         exact wp_cond_true hv (ihx _ s hg.1 h G0 w0 G a w hR)
       | false =>
         simp only [boolK,Bool.false_eq_true,if_false,if_true] at h
         rw [hs false rfl] at h
         exact wp_cond_false hv (ihy _ s hg.2 h G0 w0 G a w hR)
     | _=>rw [hb] at h; exact h.elim
   | const v =>
     cases v with
     | bool b =>
       simp only at h
       cases b with
       | true=>exact wp_cond_true rfl (ihx _ s hg.1 (by simpa using h) G0 w0 G a w hR)
       | false=>exact wp_cond_false rfl (ihy _ s hg.2 (by simpa using h) G0 w0 G a w hR)
     | _=>exact h.elim
   | _=>exact h.elim
 | block id c ih =>
   intro Q s hg h G0 w0 G a w hR
   refine wp_block (wp_mono (ih _ s hg h G0 w0 G a w hR) ?_)
   intro e a' w' he
   cases e with
   | normal=>exact he
   | exit i =>
     obtain ⟨s',G',hR',hk⟩:=he
     simp only [blkK] at hk
     simp only [Exit.inBlock]
     split at hk
     · rename_i e; rw [if_pos e]; exact ⟨s',G',hR',hk⟩
     · rename_i e; rw [if_neg e]; exact ⟨s',G',hR',hk⟩
   | ret=>exact he
   | goto l=>exact he
   | panic c=>exact he
   | outgrown=>exact he
 | loop body ih=>intro Q s _ h; exact h
 | exit id=>intro Q s _ h G0 w0 G a w hR; exact wp_exit ⟨s,G,hR,h⟩
 | scope c ih =>
   intro Q s hg h G0 w0 G a w hR
   refine wp_scope_straight (wp_mono (ih _ s hg h G0 w0 G a w hR) ?_)
   intro e a' w' he
   cases e <;> exact he
 | label l=>intro Q s _ h G0 w0 G a w hR; exact wp_label ⟨s,G,hR,h⟩
 | goto l=>intro Q s _ h; exact h.elim
 | ret=>intro Q s _ h G0 w0 G a w hR; exact wp_ret ⟨s,G,hR,h⟩
 | rangeFunc f ps as b _ _=>intro Q s _ h; exact h.elim
 | refuse y=>intro Q s _ h; exact h.elim
def All2 {α:Type} (r:α → α → Prop):List α → List α → Prop
 | [],[]=>True
 | x :: xs,y :: ys=>r x y ∧ All2 r xs ys
 | _,_=>False
def LeC (y:AVal):AVal → Prop
 | .sl k' ys m'=>match y with
   | .sl k xs m=>xs = ys ∧ (k = k' ∧ m = m' ∨ (k = k' ∨ xs = []) ∧ (m' = .sh ∨ m = .full))
   | _=>False
 | x=>y = x
def LeS (y:AVal):AVal → Prop
 | .undef=>True
 | .agg cs'=>match y with
   | .agg cs=>All2 LeC cs cs'
   | _=>False
 | .sl k' ys m'=>match y with
   | .sl k xs m=>xs = ys ∧ (k = k' ∧ m = m' ∨ (k = k' ∨ xs = []) ∧ (m' = .sh ∨ m = .full))
   | _=>False
 | .mix cs'=>match y with
   | .mix cs=>All2 LeC cs cs'
   | _=>False
 | x=>y = x
def LeV (y:AVal):AVal → Prop
 | .tup ys=>match y with
   | .tup xs=>All2 LeS xs ys
   | _=>False
 | x=>LeS y x
def low00 (n:Nat):AVal → Bool
 | .ptr id _=>decide (id < n)
 | .osl id _ _ _ _=>decide (id < n)
 | .fn _ _ _=>false
 | .tup _=>false
 | .mix _=>false
 | _=>true
def low0 (n:Nat):AVal → Bool
 | .ptr id _=>decide (id < n)
 | .osl id _ _ _ _=>decide (id < n)
 | .fn _ _ _=>false
 | .tup _=>false
 | .mix cs=>cs.all (low00 n)
 | _=>true
def low (n:Nat):AVal → Bool
 | .fn _ fs cs=>fs.all (low0 n) && cs.all (low0 n)
 | .tup vs=>vs.all (low0 n)
 | x=>low0 n x
theorem All2_get {α:Type} {r:α → α → Prop}:∀ {xs ys:List α},All2 r xs ys → xs.length = ys.length ∧ ∀ (i:Nat) (x y:α),xs[i]? = some x → ys[i]? = some y → r x y:=by
 intro xs
 induction xs with
 | nil=>intro ys h; cases ys with | nil=>exact ⟨rfl,by simp⟩ | cons=>exact h.elim
 | cons x xs ih =>
   intro ys h
   cases ys with
   | nil=>exact h.elim
   | cons y ys =>
     obtain ⟨h1,h2⟩:=ih h.2
     refine ⟨by simp [h1],fun i a b ha hb=>?_⟩
     cases i with
     | zero=>simp at ha hb; subst ha hb; exact h.1
     | succ i=>exact h2 i a b (by simpa using ha) (by simpa using hb)
theorem low00_rep {n n':Nat} {r:Nat → Nat × Nat} {F:Frz} {x:AVal} {v:Value} (h:Rep n r F x v) (hl:low00 n' x = true):Rep n' r F x v:=by
 cases h with
 | undef v=>exact .undef v
 | tree x v h=>exact .tree x v h
 | ptr id off h=>exact .ptr id off (by simpa [low00] using hl)
 | osl id off len cap k c h hc h1 h2=>exact .osl id off len cap k c (by simpa [low00] using hl) hc h1 h2
 | osl0 id off cap k a h hc=>exact .osl0 id off cap k a (by simpa [low00] using hl) hc
 | iptr cs off b o val h1 hF h=>exact .iptr cs off b o val h1 hF h
 | fn=>simp [low00] at hl
 | tup=>simp [low00] at hl
 | mix=>simp [low00] at hl
theorem low0_rep {n n':Nat} {r:Nat → Nat × Nat} {F:Frz} {x:AVal} {v:Value} (h:Rep n r F x v) (hl:low0 n' x = true):Rep n' r F x v:=by
 cases h with
 | undef v=>exact .undef v
 | tree x v h=>exact .tree x v h
 | ptr id off h=>exact .ptr id off (by simpa [low0] using hl)
 | osl id off len cap k c h hc h1 h2=>exact .osl id off len cap k c (by simpa [low0] using hl) hc h1 h2
 | osl0 id off cap k a h hc=>exact .osl0 id off cap k a (by simpa [low0] using hl) hc
 | iptr cs off b o val h1 hF h=>exact .iptr cs off b o val h1 hF h
 | fn=>simp [low0] at hl
 | tup=>simp [low0] at hl
 | mix cs arr hs h1 h =>
   simp only [low0,List.all_eq_true] at hl
   exact .mix cs arr hs h1 (fun i x v hx hv=>low00_rep (h i x v hx hv) (hl x (List.mem_of_getElem? hx)))
theorem low_rep {n n':Nat} {r:Nat → Nat × Nat} {F:Frz} {x:AVal} {v:Value} (h:Rep n r F x v) (hl:low n' x = true):Rep n' r F x v:=by
 cases h with
 | fn f fs cs fs' cs' hf hc h h' =>
   simp only [low,Bool.and_eq_true,List.all_eq_true] at hl
   exact .fn f fs cs fs' cs' hf hc (fun i x v hx hv=>low0_rep (h i x v hx hv) (hl.1 x (List.mem_of_getElem? hx))) (fun i x v hx hv=>low0_rep (h' i x v hx hv) (hl.2 x (List.mem_of_getElem? hx)))
 | tup vs arr hs h =>
   simp only [low,List.all_eq_true] at hl
   exact .tup vs arr hs (fun i x v hx hv=>low0_rep (h i x v hx hv) (hl x (List.mem_of_getElem? hx)))
 | undef v=>exact .undef v
 | tree x v h=>exact .tree x v h
 | ptr id off h=>exact .ptr id off (by simpa [low,low0] using hl)
 | osl id off len cap k c h hc h1 h2=>exact .osl id off len cap k c (by simpa [low,low0] using hl) hc h1 h2
 | osl0 id off cap k a h hc=>exact .osl0 id off cap k a (by simpa [low,low0] using hl) hc
 | iptr cs off b o val h1 hF h=>exact .iptr cs off b o val h1 hF h
 | mix cs arr hs h1 h=>exact low0_rep (.mix cs arr hs h1 h) hl
theorem LeC_rep {F:Frz} {y x:AVal} {v:Value} (hl:LeC y x) (ht:RepT F y v):RepT F x v:=by
 unfold LeC at hl
 split at hl
 · split at hl
   case h_2=>exact hl.elim
   rename_i k' ys m' y' k xs m
   obtain ⟨rfl,h⟩:=hl
   rcases h with ⟨rfl,rfl⟩ | ⟨hk,hm⟩
   · exact ht
   · obtain ⟨base,cap,L,e1,e2,e3,e4,e5,e6,e7,e8,e9,e10⟩:=ht.slcells
     subst e1
     have hfull:m' ≠ .sh → cap = xs.length:=fun hn=>by
       rcases hm with hm | hm
       · exact (hn hm).elim
       · exact e5 hm
     cases base with
     | none =>
       obtain ⟨f1,f2⟩:=e4 rfl
       subst f1 f2
       exact .slnil k' m'
     | some ad =>
       obtain ⟨g1,g2⟩:=e6 ad rfl
       have hmf:m' = .full → cap = xs.length:=fun e=>hfull (by rw [e]; simp)
       rcases hk with rfl | rfl
       · exact RepT.ofCells ad cap L e2 e3 hmf g1 g2 e7 e8 e9 e10
       · exact RepT.ofCells (xs:=[]) ad cap [] e2 (by simp) hmf g1 (by simp) (by simp) (by simp) (by simp) (by simp)
 · subst hl
   exact ht
theorem LeC_scalar {y x:AVal} (hl:LeC y x) (h:y.scalar = true):x.scalar = true:=by
 unfold LeC at hl
 split at hl
 · rfl
 · subst hl; exact h
theorem LeC_repR {n:Nat} {r:Nat → Nat × Nat} {F:Frz} {y x:AVal} {v:Value} (hl:LeC y x) (ht:Rep n r F y v):Rep n r F x v:=by
 have hl0:=hl
 unfold LeC at hl
 split at hl
 · split at hl
   case h_2=>exact hl.elim
   exact .tree _ _ (LeC_rep hl0 (ht.toTree rfl))
 · subst hl
   exact ht
theorem LeS_sound {n:Nat} {G:Gh} {w:World} {p:Pos} {y x:AVal} {v:Value} (hl:LeS y x) (hr:Rep n G.r G.F y v) (ho:OwnAt G w p y v):Rep n G.r G.F x v ∧ OwnAt G w p x v:=by
 unfold LeS at hl
 split at hl
 · exact ⟨.undef v,OwnAt.of_not rfl⟩
 · split at hl
   case h_2=>exact hl.elim
   rename_i cs' y' cs
   obtain ⟨g1,g2⟩:=All2_get hl
   have ht:RepT G.F (.agg cs) v:=by
     cases hr with
     | tree _ _ h=>exact h
   cases ht with
   | agg _ arr hs h1 h =>
     have hget:∀ (i:Nat) (x:AVal),cs'[i]? = some x → ∃ y,cs[i]? = some y ∧ LeC y x:=by
       intro i x hx
       have hi:i < cs.length:=by rw [g1]; exact (List.getElem?_eq_some_iff.1 hx).1
       exact ⟨cs[i],List.getElem?_eq_getElem hi,g2 i _ _ (List.getElem?_eq_getElem hi) hx⟩
     refine ⟨.tree _ _ (.agg cs' arr (by rw [hs,g1]) (fun c hc=>?_) (fun i c u hc hu=>?_)),OwnAt.of_not rfl⟩
     · obtain ⟨i,hi⟩:=List.getElem?_of_mem hc
       obtain ⟨y,hy,hle⟩:=hget i c hi
       exact LeC_scalar hle (h1 y (List.mem_of_getElem? hy))
     · obtain ⟨y,hy,hle⟩:=hget i c hc
       exact LeC_rep hle (h i y u hy hu)
 · split at hl
   case h_2=>exact hl.elim
   rename_i k' ys m' y' k xs m
   obtain ⟨rfl,h⟩:=hl
   have ht:RepT G.F (.sl k xs m) v:=hr.toTree rfl
   rcases h with ⟨rfl,rfl⟩ | ⟨hk,hm⟩
   · exact ⟨hr,ho⟩
   · obtain ⟨base,cap,L,e1,e2,e3,e4,e5,e6,e7,e8,e9,e10⟩:=ht.slcells
     subst e1
     have hfull:m' ≠ .sh → cap = xs.length:=fun hn=>by
       rcases hm with hm | hm
       · exact (hn hm).elim
       · exact e5 hm
     refine ⟨.tree _ _ ?_,fun k2 xs2 ad len cap2 f1 f2 f3=>?_⟩
     · cases base with
       | none =>
         obtain ⟨f1,f2⟩:=e4 rfl
         subst f1 f2
         exact .slnil k' m'
       | some ad =>
         obtain ⟨g1,g2⟩:=e6 ad rfl
         have hmf:m' = .full → cap = xs.length:=fun e=>hfull (by rw [e]; simp)
         rcases hk with rfl | rfl
         · exact RepT.ofCells ad cap L e2 e3 hmf g1 g2 e7 e8 e9 e10
         · exact RepT.ofCells (xs:=[]) ad cap [] e2 (by simp) hmf g1 (by simp) (by simp) (by simp) (by simp) (by simp)
     · injection f1 with f1 f1' f1''
       injection f2 with f2 f2' f2''
       have:=hfull (by rw [f1'']; simp)
       omega
 · split at hl
   case h_2=>exact hl.elim
   rename_i cs' y' cs
   obtain ⟨g1,g2⟩:=All2_get hl
   cases hr with
   | tree _ _ ht=>cases ht
   | mix _ arr hs h1 h =>
     have hget:∀ (i:Nat) (x:AVal),cs'[i]? = some x → ∃ y,cs[i]? = some y ∧ LeC y x:=by
       intro i x hx
       have hi:i < cs.length:=by rw [g1]; exact (List.getElem?_eq_some_iff.1 hx).1
       exact ⟨cs[i],List.getElem?_eq_getElem hi,g2 i _ _ (List.getElem?_eq_getElem hi) hx⟩
     refine ⟨.mix cs' arr (by rw [hs,g1]) (fun c hc=>?_) (fun i c u hc hu=>?_),OwnAt.of_not rfl⟩
     · obtain ⟨i,hi⟩:=List.getElem?_of_mem hc
       obtain ⟨y,hy,hle⟩:=hget i c hi
       exact LeC_scalar hle (h1 y (List.mem_of_getElem? hy))
     · obtain ⟨y,hy,hle⟩:=hget i c hc
       exact LeC_repR hle (h i y u hy hu)
 · subst hl
   exact ⟨hr,ho⟩
theorem LeV_sound {n:Nat} {G:Gh} {w:World} {p:Pos} {y x:AVal} {v:Value} (hl:LeV y x) (hr:Rep n G.r G.F y v) (ho:OwnAt G w p y v):Rep n G.r G.F x v ∧ OwnAt G w p x v:=by
 unfold LeV at hl
 split at hl
 · split at hl
   case h_2=>exact hl.elim
   rename_i ys y' xs
   obtain ⟨h1,h2⟩:=All2_get hl
   have ht:∃ arr,v = .tuple arr ∧ arr.size = xs.length ∧ ∀ (i:Nat) (x:AVal) (u:Value),xs[i]? = some x → arr[i]? = some u → Rep n G.r G.F x u:=by
     cases hr with
     | tup _ arr hs hh=>exact ⟨arr,rfl,hs,hh⟩
     | tree _ _ ht=>cases ht
   obtain ⟨arr,rfl,f1,f2⟩:=ht
   refine ⟨.tup ys arr (by rw [f1,h1]) (fun i x u hx hu=>?_),OwnAt.of_not rfl⟩
   have hi:i < xs.length:=by rw [h1]; exact (List.getElem?_eq_some_iff.1 hx).1
   have hy:xs[i]? = some xs[i]:=List.getElem?_eq_getElem hi
   have hle:=h2 i _ x hy hx
   have hrep:=f2 i _ u hy hu
   have hle':LeS (xs[i]).dis x ∨ x.isOwn = true:=by
     by_cases e:x.isOwn = true
     · exact .inr e
     · left
       cases hx':xs[i] with
       | sl k zs md =>
         cases md with
         | own =>
           rw [hx'] at hle
           unfold LeS at hle ⊢
           split at hle
           · trivial
           · exact hle.elim
           · obtain ⟨rfl,h⟩:=hle
             rename_i k' m'
             refine ⟨rfl,?_⟩
             rcases h with ⟨rfl,rfl⟩ | ⟨h1,h2⟩
             · simp [AVal.isOwn] at e
             · rcases h2 with h2 | h2
               · exact .inr ⟨h1,.inl h2⟩
               · cases h2
           · exact hle.elim
           · rename_i hne _
             subst hle
             simp [AVal.isOwn] at e
         | sh=>rw [hx'] at hle; exact hle
         | full=>rw [hx'] at hle; exact hle
       | _=>rw [hx'] at hle; exact hle
   rcases hle' with hle' | hown
   · exact (LeS_sound (w:=w) (p:=p) hle' hrep.dis (OwnAt.of_not (isOwn_dis _))).1
   · -- the data alone
     cases x with
     | sl k' zs md =>
       have h3:LeS (xs[i]).dis (.sl k' zs .sh):=by
         unfold LeS at hle ⊢
         split at hle
         · rename_i e; cases e
         · rename_i e; cases e
         · rename_i e
           injection e with e1 e2 e3
           subst e1 e2 e3
           split at hle
           case h_2=>exact hle.elim
           rename_i k xs' m'' hxx
           obtain ⟨rfl,h⟩:=hle
           rw [hxx]
           have hkk:k = k' ∨ xs' = []:=by
             rcases h with ⟨h,_⟩ | ⟨h,_⟩
             · exact .inl h
             · exact h
           cases m'' <;> exact ⟨rfl,.inr ⟨hkk,.inl rfl⟩⟩
         · rename_i e; cases e
         · rename_i e2 _; exact (e2 _ _ _ rfl).elim
       have h4:=(LeS_sound (w:=w) (p:=p) h3 hrep.dis (OwnAt.of_not (isOwn_dis _))).1
       have h5:=h4.toTree (x:=.sl k' zs .sh) rfl
       have hmd:md = .own:=by
         cases md <;> first | rfl | simp [AVal.isOwn] at hown
       subst hmd
       exact .tree _ _ (h5.remode (by simp) (.inl rfl))
     | _=>simp [AVal.isOwn] at hown
 · exact LeS_sound hl hr ho
end Go.Am
