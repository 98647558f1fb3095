/- The abstract machine, part twenty-four: a variable lent to a call that only reads; loops in which variables change their places. -/
import Derived.Test.YtapgoboiljjecaaGreatDoorAmV
namespace Go.Am
open Go
set_option linter.unusedSectionVars false
variable [Globs]
def flat0:AVal → Bool
 | .bool _ | .ubool | .int _ _ | .nilp | .nilf | .str _=>true
 | _=>false
def flat1:AVal → Bool
 | .agg cs=>cs.all flat0
 | x=>flat0 x
def flatV:AVal → Bool
 | .tup vs=>vs.all flat1
 | x=>flat1 x
theorem flat0_repT {F F':Frz} {x:AVal} {v:Value} (h:RepT F x v) (hx:flat0 x = true):RepT F' x v:=by
 cases h with
 | bool b=>exact .bool b
 | ubool b=>exact .ubool b
 | int k n=>exact .int k n
 | nilp=>exact .nilp
 | nilf=>exact .nilf
 | str bs=>exact .str bs
 | agg=>simp [flat0] at hx
 | slnil=>simp [flat0] at hx
 | sl=>simp [flat0] at hx
theorem flat1_rep {n n':Nat} {r r':Nat → Nat × Nat} {F F':Frz} {x:AVal} {v:Value} (h:Rep n r F x v) (hx:flat1 x = true):Rep n' r' F' x v:=by
 cases h with
 | tree x v h =>
   cases h with
   | agg cs arr hs h1 h =>
     simp only [flat1,List.all_eq_true] at hx
     exact .tree _ _ (.agg cs arr hs h1 (fun i c v hc hv=>flat0_repT (h i c v hc hv) (hx c (List.mem_of_getElem? hc))))
   | bool b=>exact .tree _ _ (.bool b)
   | ubool b=>exact .tree _ _ (.ubool b)
   | int k n=>exact .tree _ _ (.int k n)
   | nilp=>exact .tree _ _ .nilp
   | nilf=>exact .tree _ _ .nilf
   | str bs=>exact .tree _ _ (.str bs)
   | slnil=>simp [flat1,flat0] at hx
   | sl=>simp [flat1,flat0] at hx
 | _=>simp [flat1,flat0] at hx
theorem flatV_rep {n n':Nat} {r r':Nat → Nat × Nat} {F F':Frz} {x:AVal} {v:Value} (h:Rep n r F x v) (hx:flatV x = true):Rep n' r' F' x v:=by
 cases x with
 | tup vs =>
   simp only [flatV,List.all_eq_true] at hx
   cases h with
   | tree _ _ h=>cases h
   | tup _ arr hs h=>exact .tup vs arr hs (fun i x v hx' hv=>flat1_rep (h i x v hx' hv) (hx x (List.mem_of_getElem? hx')))
 | _=>exact flat1_rep h hx
theorem flatV_own {x:AVal} (hx:flatV x = true):x.isOwn = false:=by
 cases x <;> first | rfl | simp [flatV,flat1,flat0] at hx
theorem CFun.lend {P:Program} {f:FuncId} {args:List AVal} {H:List (List AVal)} {x:AVal} {id:Nat} {cs0 cs:List AVal} {ag:Bool} (h:CFun P f (args.map (frzV id cs ag false)) [] x []) (hid:H[id]? = some cs0) (hne:cs0 ≠ [])
   (hpre:∀ (j:Nat) (x:AVal),cs[j]? = some x → cs0[j]? = some x) (hpl:cs.length ≤ cs0.length) (ht:cs.all AVal.tree = true) (ha:(args.map (frzV id cs ag false)).all noid = true) (hx:flatV x = true):CFun P f args H x H:=by
 classical
 refine ⟨h.1,fun G w cargs hs hk1 hk2 hz hr=>?_⟩
 obtain ⟨c,T,b1,b2,b3,b4,b5⟩:=hs.box id cs0 hid hne
 have hB:=(Array.getElem?_eq_some_iff.1 b1).1
 have hle0:∀ b o v,G.F b o = some v → (if b = (G.r id).1 then (if o < cs.length then c[o]? else none) else G.F b o) = some v:=by
   intro b o v hf
   rw [if_neg]
   · exact hf
   · intro e; rw [e,b4 o] at hf; cases hf
 let F1:Frz:=⟨fun b o=>if b = (G.r id).1 then (if o < cs.length then c[o]? else none) else G.F b o,fun b o v e=>hle0 b o v (G.F.gl b o v e)⟩
 let G1:Gh:=⟨F1,G.r,fun b=>if G.K b = none then none else some .far⟩
 have F1B:∀ o,F1 (G.r id).1 o = if o < cs.length then c[o]? else none:=fun o=>if_pos rfl
 have F1N:∀ b o,b ≠ (G.r id).1 → F1 b o = G.F b o:=fun b o hb=>if_neg hb
 have hmono:G.F.le F1:=by
   intro b o v hf
   rw [F1N]
   · exact hf
   · intro e; rw [e,b4 o] at hf; cases hf
 have hK1:∀ b,G1.K b = none ∨ G1.K b = some .far:=fun b=>by
   show (if G.K b = none then none else some Pos.far) = none ∨ (if G.K b = none then none else some Pos.far) = some .far
   split
   · exact .inl rfl
   · exact .inr rfl
 have hs1:SR G1 [] w:=by
   refine ⟨fun b o v hf=>?_,fun i cs' hi _=>by simp at hi,fun b hb=>?_⟩
   · have hf':F1 b o = some v:=hf
     by_cases e:b = (G.r id).1
     · subst e
       rw [F1B] at hf'
       split at hf'
       · rw [cell_of_row w (G.r id).1 o c T (0,0) b1]; exact hf'
       · cases hf'
     · rw [F1N _ _ e] at hf'
       exact hs.frz b o v hf'
   · show (if G.K b = none then none else some Pos.far) = none
     rw [hs.new b hb]; rfl
 have hcall:=h.2 G1 w cargs hs1 (fun b i e=>by rcases hK1 b with h | h <;> rw [h] at e <;> cases e) (fun b e=>by rcases hK1 b with h | h <;> rw [h] at e <;> cases e) (by simpa using hz) (fun i y v hy hv=>by
   have hno:=noid_low (n:=0) (List.all_eq_true.1 ha y (List.mem_of_getElem? hy))
   simp only [List.getElem?_map,Option.map_eq_some_iff] at hy
   obtain ⟨y',hy',rfl⟩:=hy
   have h0:=(hr i y' v hy' hv).mono (Nat.le_refl _) (fun _ _=>rfl) hmono
   have h1:=frzV_rep (ag:=ag) (fu:=false) (fun j=>c.getD j undef) (fun j hj=>by
     rw [F1B,if_pos hj,Array.getElem?_eq_getElem (by omega)]
     simp [Array.getD,show j < c.size by omega]) ht (fun j x hx=>by
     have hj:j < cs.length:=(List.getElem?_eq_some_iff.1 hx).1
     have hcv:c[j]? = some (c[j]'(by omega)):=Array.getElem?_eq_getElem _
     have:=(b5 j x _ (hpre j x hx) hcv).1.toTree (List.all_eq_true.1 ht x (List.mem_of_getElem? hx))
     have e:c.getD j undef = c[j]'(by omega):=by simp [Array.getD,show j < c.size by omega]
     rw [e]
     exact this.mono hmono) h0
   exact low_rep h1 hno)
 refine hcall.mono ?_
 rintro e w' ⟨v,G',rfl,g1,g2,g3,g4,g5,g6⟩
 have hT:∀ b,¬ G1.Tch b:=by
   rintro b (⟨i,e⟩ | ⟨i,j,e⟩) <;> rcases hK1 b with h | h <;> rw [h] at e <;> cases e
 have old:∀ b,b < w.heap.size → w'.heap[b]? = w.heap[b]? ∧ G'.K b = G1.K b ∧ ∀ o,G'.F b o = F1 b o:=fun b hb=>g1.old b hb (hT b)
 let G2:Gh:=⟨⟨fun b o=>if b = (G.r id).1 then none else G'.F b o,fun b o v e=>by rw [if_neg (fun q=>by have h9:=G.F.gl b o v e; rw [q,b4 o] at h9; cases h9)]; exact G'.F.gl b o v e⟩,G.r,fun b=>if b < w.heap.size then G.K b else (if G'.K b = none then none else some .far)⟩
 have K2:∀ b,b < w.heap.size → G2.K b = G.K b:=fun b hb=>if_pos hb
 have F2:∀ b o,b < w.heap.size → G2.F b o = G.F b o:=fun b o hb=>by
   show (if b = (G.r id).1 then none else G'.F b o) = _
   by_cases e:b = (G.r id).1
   · rw [if_pos e,e,b4 o]
   · rw [if_neg e,(old b hb).2.2 o,F1N _ _ e]
 have hmono2:G.F.le G2.F:=by
   intro b o v hf
   have hb:b < w.heap.size:=by
     have hc:=hs.frz b o v hf
     apply Classical.byContradiction
     intro hb
     have hn:w.heap[b]? = none:=Array.getElem?_eq_none (by omega)
     unfold World.cell? at hc
     simp [hn] at hc
   rw [F2 b o hb]; exact hf
 refine ⟨v,G2,rfl,⟨g1.os,g1.tape,g1.output,g1.size,fun i _=>rfl,hmono2,fun b hb _=>⟨(old b hb).1,K2 b hb,fun o=>F2 b o hb⟩⟩,⟨fun b o u hf=>?_,fun i cs' hi hne'=>?_,fun b hb=>?_⟩,flatV_rep g3 hx,OwnAt.of_not (flatV_own hx),fun b i hb=>?_,Nat.le_refl _⟩
 · have hf':(if b = (G.r id).1 then none else G'.F b o) = some u:=hf
   split at hf'
   · cases hf'
   · exact g2.frz b o u hf'
 · obtain ⟨c',T',h1,h2,h3,h4,h5⟩:=hs.box i cs' hi hne'
   have hlt:=(Array.getElem?_eq_some_iff.1 h1).1
   refine ⟨c',T',by rw [show (G2.r i).1 = (G.r i).1 from rfl,(old _ hlt).1]; exact h1,h2,(K2 _ hlt).trans h3,fun o=>(F2 _ o hlt).trans (h4 o),fun j y u hy hu=>⟨(h5 j y u hy hu).1.mono (Nat.le_refl _) (fun _ _=>rfl) hmono2,fun k xs ad len cap f1 f2 f3=>?_⟩⟩
   obtain ⟨o1,o2,o3,o4,c'',T'',o5,o6⟩:=(h5 j y u hy hu).2 k xs ad len cap f1 f2 f3
   have hlt':=(Array.getElem?_eq_some_iff.1 o5).1
   exact ⟨(K2 _ hlt').trans o1,o2,o3,fun o ho=>(F2 _ o hlt').trans (o4 o ho),c'',T'',by rw [(old _ hlt').1]; exact o5,o6⟩
 · show (if b < w.heap.size then G.K b else (if G'.K b = none then none else some Pos.far)) = none
   have:=g1.size
   rw [if_neg (by omega),g2.new b hb]; rfl
 · have hb':(if b < w.heap.size then G.K b else (if G'.K b = none then none else some Pos.far)) = some (.tmp i):=hb
   split at hb'
   · exact hk1 b i hb'
   · split at hb' <;> cases hb'
def swp (p q i:Nat):Nat:=if i = p then q else if i = q then p else i
theorem swp_swp (p q i:Nat):swp p q (swp p q i) = i:=by
 unfold swp
 repeat' split
 all_goals omega
theorem swp_lt {p q i N:Nat} (hp:p < N) (hq:q < N) (hi:i < N):swp p q i < N:=by
 unfold swp
 repeat' split
 all_goals omega
theorem swp_low {p q i m:Nat} (hp:m ≤ p) (hq:m ≤ q) (hi:i < m):swp p q i = i:=by
 unfold swp
 repeat' split
 all_goals omega
def swpH (p q:Nat) (H:List (List AVal)):List (List AVal):=(H.set p (H.getD q [])).set q (H.getD p [])
theorem swpH_get {p q:Nat} {H:List (List AVal)} (hp:p < H.length) (hq:q < H.length) (i:Nat):(swpH p q H)[i]? = H[swp p q i]?:=by
 unfold swpH swp
 rw [List.getElem?_set]
 by_cases e1:q = i
 · subst e1
   rw [if_pos rfl,if_pos (by simpa using hq)]
   by_cases e2:q = p
   · subst e2; rw [if_pos rfl]; simp [List.getD_eq_getElem?_getD,hp]
   · rw [if_neg e2,if_pos rfl]; simp [List.getD_eq_getElem?_getD,hp]
 · rw [if_neg e1,List.getElem?_set]
   by_cases e2:p = i
   · subst e2
     rw [if_pos rfl,if_pos hp,if_pos rfl]; simp [List.getD_eq_getElem?_getD,hq]
   · rw [if_neg e2,if_neg (fun e=>e2 e.symm),if_neg (fun e=>e1 e.symm)]
def LeLookS (σ:Nat → Nat) (N n:Nat) (t:Nat → AVal):List (Nat × AVal) → Prop
 | []=>True
 | (d,x) :: l=>LeV (ren σ (t d)) x ∧ low N (t d) = true ∧ low n x = true ∧ LeLookS σ N n t l
def LeCellsS (σ:Nat → Nat) (N n:Nat):List AVal → List AVal → Prop
 | _,[]=>True
 | y :: ys,x :: xs=>LeV (ren σ y) x ∧ low N y = true ∧ low n x = true ∧ LeCellsS σ N n ys xs
 | [],_ :: _=>False
def LeBoxesS (σ:Nat → Nat) (N n:Nat):List (List AVal) → List (List AVal) → Prop
 | _,[]=>True
 | c :: cs,d :: ds=>LeCellsS σ N n c d ∧ LeBoxesS σ N n cs ds
 | [],d :: ds=>d = [] ∧ LeBoxesS σ N n [] ds
theorem LeLookS_get {σ:Nat → Nat} {N n:Nat} {t:Nat → AVal}:∀ {l:List (Nat × AVal)},LeLookS σ N n t l → ∀ i,look l i = .undef ∨ (LeV (ren σ (t i)) (look l i) ∧ low N (t i) = true ∧ low n (look l i) = true):=by
 intro l
 induction l with
 | nil=>intro _ i; exact .inl rfl
 | cons p l ih =>
   intro h i
   obtain ⟨d,x⟩:=p
   obtain ⟨h1,h2,h3,h4⟩:=h
   simp only [look]
   split
   · rename_i e; subst e; exact .inr ⟨h1,h2,h3⟩
   · exact ih h4 i
theorem LeCellsS_get {σ:Nat → Nat} {N n:Nat}:∀ {ys xs:List AVal},LeCellsS σ N n ys xs → xs.length ≤ ys.length ∧ ∀ (j:Nat) (y x:AVal),ys[j]? = some y → xs[j]? = some x → LeV (ren σ y) x ∧ low N y = true ∧ low n x = true:=by
 intro ys
 induction ys with
 | nil=>intro xs h; cases xs with | nil=>exact ⟨Nat.le_refl _,by simp⟩ | cons=>exact h.elim
 | cons y ys ih =>
   intro xs h
   cases xs with
   | nil=>exact ⟨by simp,by simp⟩
   | cons x xs =>
     obtain ⟨h1,h2,h3,h4⟩:=h
     obtain ⟨g1,g2⟩:=ih h4
     refine ⟨by simpa using g1,fun j a b ha hb=>?_⟩
     cases j with
     | zero=>simp at ha hb; subst ha hb; exact ⟨h1,h2,h3⟩
     | succ j=>exact g2 j a b (by simpa using ha) (by simpa using hb)
theorem LeBoxesS_nil {σ:Nat → Nat} {N n:Nat}:∀ {ds:List (List AVal)},LeBoxesS σ N n [] ds → ∀ d ∈ ds,d = []:=by
 intro ds
 induction ds with
 | nil=>simp
 | cons d ds ih =>
   intro h x hx
   rcases List.mem_cons.1 hx with rfl | hx
   · exact h.1
   · exact ih h.2 x hx
theorem LeBoxesS_get {σ:Nat → Nat} {N n:Nat}:∀ {cs ds:List (List AVal)},LeBoxesS σ N n cs ds → ∀ (id:Nat) (d:List AVal),ds[id]? = some d → d ≠ [] → ∃ c,cs[id]? = some c ∧ LeCellsS σ N n c d:=by
 intro cs
 induction cs with
 | nil=>intro ds h id d hd hne; exact (hne (LeBoxesS_nil h d (List.mem_of_getElem? hd))).elim
 | cons c cs ih =>
   intro ds h id b hb hne
   cases ds with
   | nil=>simp at hb
   | cons d ds =>
     cases id with
     | zero=>simp at hb; subst hb; exact ⟨c,rfl,h.1⟩
     | succ id =>
       obtain ⟨c',h1,h2⟩:=ih h.2 id b (by simpa using hb) hne
       exact ⟨c',by simpa using h1,h2⟩
section
variable {P:Program} {n m:Nat} {G0:Gh} {w0:World} {s:ASt} {G:Gh} {a:Act} {w:World}
theorem R.swapLe (h:R n m G0 w0 s G a w) {p q:Nat} (hp:m ≤ p) (hq:m ≤ q) (hpl:p < s.H.length) (hql:q < s.H.length) {l:List (Nat × AVal)} {H':List (List AVal)} (hm:m ≤ H'.length)
   (hl:LeLookS (swp p q) s.H.length H'.length s.t l) (hb:LeBoxesS (swp p q) s.H.length H'.length (swpH p q s.H) H'):∃ G',R n m G0 w0 ⟨look l,H'⟩ G' a w:=by
 let G':Gh:=⟨G.F,fun i=>G.r (swp p q i),fun b=>match G.K b with
   | some (.box i)=>some (.box (swp p q i))
   | some (.cell i j)=>some (.cell (swp p q i) j)
   | x=>x⟩
 have kbox:∀ b i,G.K b = some (.box i) → G'.K b = some (.box (swp p q i)):=fun b i e=>by
   show (match G.K b with | some (.box i)=>some (Pos.box (swp p q i)) | some (.cell i j)=>some (.cell (swp p q i) j) | x=>x) = _
   rw [e]
 have kcell:∀ b i j,G.K b = some (.cell i j) → G'.K b = some (.cell (swp p q i) j):=fun b i j e=>by
   show (match G.K b with | some (.box i)=>some (Pos.box (swp p q i)) | some (.cell i j)=>some (.cell (swp p q i) j) | x=>x) = _
   rw [e]
 have koth:∀ b,(∀ i,G.K b ≠ some (.box i)) → (∀ i j,G.K b ≠ some (.cell i j)) → G'.K b = G.K b:=fun b e1 e2=>by
   show (match G.K b with | some (.box i)=>some (Pos.box (swp p q i)) | some (.cell i j)=>some (.cell (swp p q i) j) | x=>x) = _
   split
   · rename_i i e; exact (e1 i e).elim
   · rename_i i j e; exact (e2 i j e).elim
   · rfl
 have hrep:∀ {y:AVal} {v:Value},Rep s.H.length G.r G.F y v → low s.H.length y = true → Rep s.H.length G'.r G'.F (ren (swp p q) y) v:=fun hy hlo =>
   ren_rep (fun i hi=>swp_lt hpl hql hi) (fun i _=>by show G.r (swp p q (swp p q i)) = G.r i; rw [swp_swp]) hy hlo
 have hown:∀ (P1 P2:Pos) (y:AVal) (v:Value),(∀ b,G.K b = some P1 → G'.K b = some P2) → OwnAt G w P1 y v → OwnAt G' w P2 (ren (swp p q) y) v:=by
   intro P1 P2 y v hk ho
   by_cases e:(ren (swp p q) y).isOwn = true
   · rw [ren_own e]
     intro k xs ad len cap f1 f2 f3
     obtain ⟨g1,g2⟩:=ho k xs ad len cap f1 f2 f3
     exact ⟨hk _ g1,g2⟩
   · exact OwnAt.of_not (by simpa using e)
 refine ⟨G',h.sz,fun i hi=>?_,h.dfr,h.clean,⟨h.ext.os,h.ext.tape,h.ext.output,h.ext.size,fun i hi=>?_,h.ext.mono,fun b hbs ht=>?_⟩,hm,⟨h.sr.frz,fun id cs' hid hne=>?_,fun b hbs=>?_⟩,fun i v hv=>?_⟩
 · rcases LeLookS_get hl i with e | ⟨e1,e2,e3⟩
   · exact e
   · rw [h.out i hi] at e1
     have e1':LeV .undef (look l i):=e1
     unfold LeV at e1'
     split at e1'
     · exact e1'.elim
     · unfold LeS at e1'
       split at e1'
       · assumption
       · exact e1'.elim
       · exact e1'.elim
       · exact e1'.elim
       · exact e1'.symm
 · show G.r (swp p q i) = G0.r i
   rw [swp_low hp hq hi]
   exact h.ext.rho i hi
 · obtain ⟨e1,e2,e3⟩:=h.ext.old b hbs ht
   refine ⟨e1,?_,e3⟩
   rw [koth b (fun i e=>ht (.inl ⟨i,by rw [← e2]; exact e⟩)) (fun i j e=>ht (.inr ⟨i,j,by rw [← e2]; exact e⟩))]
   exact e2
 · obtain ⟨c,hc,hle⟩:=LeBoxesS_get hb id cs' hid hne
   rw [swpH_get hpl hql] at hc
   obtain ⟨l1,l2⟩:=LeCellsS_get hle
   have hcne:c ≠ []:=by
     rintro rfl
     exact hne (List.eq_nil_of_length_eq_zero (by simpa using l1))
   obtain ⟨cc,T,h1,h2,h3,h4,h5⟩:=h.sr.box _ c hc hcne
   refine ⟨cc,T,h1,⟨by omega,h2.2⟩,?_,h4,fun j x v hx hv=>?_⟩
   · have:=kbox _ _ h3
     rw [swp_swp] at this
     exact this
   · have hj:j < c.length:=Nat.lt_of_lt_of_le (List.getElem?_eq_some_iff.1 hx).1 l1
     have hy:c[j]? = some c[j]:=List.getElem?_eq_getElem hj
     obtain ⟨q1,q2,q3⟩:=l2 j _ x hy hx
     obtain ⟨r1,r2⟩:=h5 j _ v hy hv
     obtain ⟨z1,z2⟩:=LeV_sound (p:=.cell id j) (w:=w) q1 (hrep r1 q2) (hown _ _ _ _ (fun b e=>by have:=kcell b _ _ e; rwa [swp_swp] at this) r2)
     exact ⟨low_rep z1 q3,z2⟩
 · rw [koth b (fun i e=>by rw [h.sr.new b hbs] at e; cases e) (fun i j e=>by rw [h.sr.new b hbs] at e; cases e)]
   exact h.sr.new b hbs
 · rcases LeLookS_get hl i with e | ⟨e1,e2,e3⟩
   · show Rep H'.length G'.r G'.F (look l i) v ∧ OwnAt G' w (.tmp i) (look l i) v
     rw [e]; exact ⟨.undef v,OwnAt.of_not rfl⟩
   · obtain ⟨r1,r2⟩:=h.tmp i v hv
     obtain ⟨z1,z2⟩:=LeV_sound (p:=.tmp i) (w:=w) e1 (hrep r1 e2) (hown _ _ _ _ (fun b e=>by rw [koth b (fun i e'=>by rw [e] at e'; cases e') (fun i j e'=>by rw [e] at e'; cases e')]; exact e) r2)
     exact ⟨low_rep z1 e3,z2⟩
def LoopPostS {ι:Type} (m:Nat) (T:ι → List (Nat × AVal)) (H:ι → List (List AVal)) (Inv:ι → Prop) (f:ι → Nat) (μ:Nat) (Q:APost):APost
 | .normal,s=>∃ j,Inv j ∧ f j < μ ∧ (Le m s (T j) (H j) ∨ ∃ p q,m ≤ p ∧ m ≤ q ∧ p < s.H.length ∧ q < s.H.length ∧ m ≤ (H j).length ∧ LeLookS (swp p q) s.H.length (H j).length s.t (T j) ∧ LeBoxesS (swp p q) s.H.length (H j).length (swpH p q s.H) (H j))
 | e,s=>Q e s
theorem LoopK.introS {P:Program} {tr:List Nat} {n m:Nat} {body:Code} {Q:APost} {s:ASt} (hmx:P.follows .mixedOrders = true) (hg:good tr n body = true) {ι:Type} (T:ι → List (Nat × AVal)) (H:ι → List (List AVal)) (Inv:ι → Prop) (f:ι → Nat) (i0:ι)
   (h0:Inv i0) (hle:Le m s (T i0) (H i0)) (hround:∀ i,Inv i → awp P tr n m body (LoopPostS m T H Inv f (f i) Q) ⟨look (T i),H i⟩):LoopK P n m body Q s:=by
 intro G0 w0 G a w hR
 refine wp_loop_ix (fun k a w=>∃ i G,f i = k ∧ Inv i ∧ R n m G0 w0 ⟨look (T i),H i⟩ G a w) (f i0) ⟨i0,G,rfl,h0,hR.weaken hle.st⟩ ?_
 rintro k a w ⟨i,G,rfl,hi,hR⟩
 refine wp_mono (awp_sound hmx body _ _ hg (hround i hi) G0 w0 G a w hR) ?_
 intro e a' w' he
 cases e with
 | normal =>
   obtain ⟨s',G',hR',j,hj,hlt,hle'⟩:=he
   rcases hle' with hle' | ⟨p,q,q1,q2,q3,q4,q5,q6,q7⟩
   · exact ⟨f j,hlt,j,G',rfl,hj,hR'.weaken hle'.st⟩
   · obtain ⟨G2,hR2⟩:=hR'.swapLe q1 q2 q3 q4 q5 q6 q7
     exact ⟨f j,hlt,j,G2,rfl,hj,hR2⟩
 | exit id=>exact he
 | ret=>exact he
 | goto l=>exact he
 | panic c=>exact he
 | outgrown=>exact he
end
end Go.Am
