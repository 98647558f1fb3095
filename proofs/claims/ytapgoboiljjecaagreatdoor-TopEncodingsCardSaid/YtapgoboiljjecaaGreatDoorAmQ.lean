/- The abstract machine, part eighteen: less said of a state; loops; the contract of a function; contracts among more variables. -/
import Derived.Test.YtapgoboiljjecaaGreatDoorAmP
namespace Go.Am
open Go
set_option linter.unusedSectionVars false
variable [Globs]
structure LeSt (m:Nat) (s s':ASt):Prop where
  hm:m ≤ s'.H.length
  t:∀ i,LeV (s.t i) (s'.t i) ∧ low s'.H.length (s'.t i) = true
  H:∀ (id:Nat) (cs':List AVal),s'.H[id]? = some cs' → cs' ≠ [] → ∃ cs,s.H[id]? = some cs ∧ cs'.length ≤ cs.length ∧ ∀ (j:Nat) (y x:AVal),cs[j]? = some y → cs'[j]? = some x → LeV y x ∧ low s'.H.length x = true
section
variable {P:Program} {n m:Nat} {G0:Gh} {w0:World} {s s':ASt} {G:Gh} {a:Act} {w:World}
theorem SR.weaken (h:SR G s.H w) (hH:∀ (id:Nat) (cs':List AVal),s'.H[id]? = some cs' → cs' ≠ [] → ∃ cs,s.H[id]? = some cs ∧ cs'.length ≤ cs.length ∧ ∀ (j:Nat) (y x:AVal),cs[j]? = some y → cs'[j]? = some x → LeV y x ∧ low s'.H.length x = true):SR G s'.H w:=by
 refine ⟨h.frz,fun id cs' hid hne=>?_,h.new⟩
 obtain ⟨cs,hcs,e1,e2⟩:=hH id cs' hid hne
 have hcne:cs ≠ []:=by
   rintro rfl
   exact hne (List.eq_nil_of_length_eq_zero (by simpa using e1))
 obtain ⟨c,T,h1,h2,h3,h4,h5⟩:=h.box id cs hcs hcne
 refine ⟨c,T,h1,⟨by omega,h2.2⟩,h3,h4,fun j x v hx hv=>?_⟩
 have hj:j < cs.length:=Nat.lt_of_lt_of_le (List.getElem?_eq_some_iff.1 hx).1 e1
 have hy:cs[j]? = some cs[j]:=List.getElem?_eq_getElem hj
 obtain ⟨g1,g2⟩:=e2 j _ x hy hx
 obtain ⟨r1,r2⟩:=h5 j _ v hy hv
 obtain ⟨q1,q2⟩:=LeV_sound g1 r1 r2
 exact ⟨low_rep q1 g2,q2⟩
theorem R.weaken (h:R n m G0 w0 s G a w) (hle:LeSt m s s'):R n m G0 w0 s' G a w:=by
 refine ⟨h.sz,fun i hi=>?_,h.dfr,h.clean,h.ext,hle.hm,h.sr.weaken hle.H,fun i v hv=>?_⟩
 · have:=(hle.t i).1
   rw [h.out i hi] at this
   unfold LeV at this
   split at this
   · exact this.elim
   · unfold LeS at this
     split at this
     · assumption
     · exact this.elim
     · exact this.elim
     · exact this.elim
     · exact this.symm
 · obtain ⟨r1,r2⟩:=h.tmp i v hv
   obtain ⟨q1,q2⟩:=LeV_sound (hle.t i).1 r1 r2
   exact ⟨low_rep q1 (hle.t i).2,q2⟩
end
def look:List (Nat × AVal) → Nat → AVal
 | [],_=>.undef
 | (d,x) :: l,i=>if i = d then x else look l i
def LeLook (n:Nat) (t:Nat → AVal):List (Nat × AVal) → Prop
 | []=>True
 | (d,x) :: l=>LeV (t d) x ∧ low n x = true ∧ LeLook n t l
def LeCells (n:Nat):List AVal → List AVal → Prop
 | _,[]=>True
 | y :: ys,x :: xs=>LeV y x ∧ low n x = true ∧ LeCells n ys xs
 | [],_ :: _=>False
def LeBoxes (n:Nat):List (List AVal) → List (List AVal) → Prop
 | _,[]=>True
 | c :: cs,d :: ds=>LeCells n c d ∧ LeBoxes n cs ds
 | [],d :: ds=>d = [] ∧ LeBoxes n [] ds
theorem LeV_undef (y:AVal):LeV y .undef:=by
 unfold LeV LeS; trivial
theorem LeLook_get {n:Nat} {t:Nat → AVal}:∀ {l:List (Nat × AVal)},LeLook n t l → ∀ i,LeV (t i) (look l i) ∧ low n (look l i) = true:=by
 intro l
 induction l with
 | nil=>intro _ i; exact ⟨LeV_undef _,rfl⟩
 | cons p l ih =>
   intro h i
   obtain ⟨d,x⟩:=p
   obtain ⟨h1,h2,h3⟩:=h
   simp only [look]
   split
   · rename_i e; subst e; exact ⟨h1,h2⟩
   · exact ih h3 i
theorem LeCells_get {n:Nat}:∀ {ys xs:List AVal},LeCells n ys xs → xs.length ≤ ys.length ∧ ∀ (j:Nat) (y x:AVal),ys[j]? = some y → xs[j]? = some x → LeV y x ∧ low n x = true:=by
 intro ys
 induction ys with
 | nil=>intro xs h; cases xs with | nil=>exact ⟨Nat.le_refl _,by simp⟩ | cons=>exact h.elim
 | cons y ys ih =>
   intro xs h
   cases xs with
   | nil=>exact ⟨by simp,by simp⟩
   | cons x xs =>
     obtain ⟨h1,h2,h3⟩:=h
     obtain ⟨g1,g2⟩:=ih h3
     refine ⟨by simpa using g1,fun j a b ha hb=>?_⟩
     cases j with
     | zero=>simp at ha hb; subst ha hb; exact ⟨h1,h2⟩
     | succ j=>exact g2 j a b (by simpa using ha) (by simpa using hb)
theorem LeBoxes_nil {n:Nat}:∀ {ds:List (List AVal)},LeBoxes n [] ds → ∀ d ∈ ds,d = []:=by
 intro ds
 induction ds with
 | nil=>simp
 | cons d ds ih =>
   intro h x hx
   rcases List.mem_cons.1 hx with rfl | hx
   · exact h.1
   · exact ih h.2 x hx
theorem LeBoxes_get {n:Nat}:∀ {cs ds:List (List AVal)},LeBoxes n cs ds → ∀ (id:Nat) (d:List AVal),ds[id]? = some d → d ≠ [] → ∃ c,cs[id]? = some c ∧ LeCells n c d:=by
 intro cs
 induction cs with
 | nil=>intro ds h id d hd hne; exact (hne (LeBoxes_nil h d (List.mem_of_getElem? hd))).elim
 | cons c cs ih =>
   intro ds h id b hb hne
   cases ds with
   | nil=>simp at hb
   | cons d ds =>
     cases id with
     | zero=>simp at hb; subst hb; exact ⟨c,rfl,h.1⟩
     | succ id =>
       obtain ⟨c',h1,h2⟩:=ih h.2 id b (by simpa using hb) hne
       exact ⟨c',by simpa using h1,h2⟩
theorem LeBoxes_st {n:Nat} {cs ds:List (List AVal)} (h:LeBoxes n cs ds):∀ (id:Nat) (cs':List AVal),ds[id]? = some cs' → cs' ≠ [] → ∃ c,cs[id]? = some c ∧ cs'.length ≤ c.length ∧ ∀ (j:Nat) (y x:AVal),c[j]? = some y → cs'[j]? = some x → LeV y x ∧ low n x = true:=by
 intro id cs' h1 h2
 obtain ⟨c,h3,h4⟩:=LeBoxes_get h id cs' h1 h2
 exact ⟨c,h3,LeCells_get h4⟩
def Le (m:Nat) (s:ASt) (l:List (Nat × AVal)) (H:List (List AVal)):Prop:=m ≤ H.length ∧ LeLook H.length s.t l ∧ LeBoxes H.length s.H H
theorem Le.st {m:Nat} {s:ASt} {l:List (Nat × AVal)} {H:List (List AVal)} (h:Le m s l H):LeSt m s ⟨look l,H⟩:=by
 obtain ⟨h1,h2,h3⟩:=h
 exact ⟨h1,fun i=>LeLook_get h2 i,LeBoxes_st h3⟩
def LoopPost {ι:Type} (m:Nat) (T:ι → List (Nat × AVal)) (H:ι → List (List AVal)) (Inv:ι → Prop) (f:ι → Nat) (μ:Nat) (Q:APost):APost
 | .normal,s=>∃ j,Inv j ∧ f j < μ ∧ Le m s (T j) (H j)
 | e,s=>Q e s
theorem wp_loop_ix {P:Program} {Q:Exit → Act → World → Prop} {a:Act} {w:World} {c:Code} (I:Nat → Act → World → Prop) (k0:Nat) (h₀:I k0 a w)
   (round:∀ k a w,I k a w → c.wp P (Exit.then (fun a' w'=>∃ j,j < k ∧ I j a' w') Q) a w):(Code.loop c).wp P Q a w:=by
 intro b k cs
 have key:∀ n a w,I n a w → ∃ e a' w',Q e a' w' ∧ Arrives P (lone (b.at a (.code c :: .inLoop c :: k)) cs w) b k cs e a' w':=by
   intro n
   induction n using Nat.strongRecOn with
   | _ n ih =>
     intro a w hI
     obtain ⟨e,a₁,w₁,hq,harr⟩:=round n a w hI b (.inLoop c :: k) cs
     cases e with
     | normal =>
       obtain ⟨j,hlt,hI₁⟩:=hq
       obtain ⟨e₂,a₂,w₂,hq₂,harr₂⟩:=ih j hlt a₁ w₁ hI₁
       exact ⟨e₂,a₂,w₂,hq₂,.of_steps (Steps.trans harr (.one step_inLoop)) harr₂⟩
     | exit id=>exact ⟨_,a₁,w₁,hq,.pass (x:=.inLoop c) rfl (fun _ _=>.inl (by simp)) harr⟩
     | goto l=>exact ⟨_,a₁,w₁,hq,.pass (x:=.inLoop c) rfl (fun _ _=>.inl (by simp)) harr⟩
     | ret=>exact ⟨_,a₁,w₁,hq,.pass (x:=.inLoop c) rfl (fun _ _=>.inl (by simp)) harr⟩
     | panic ch=>exact ⟨_,a₁,w₁,hq,.pass (x:=.inLoop c) rfl (fun _ _=>.inl (by simp)) harr⟩
     | outgrown=>exact ⟨_,a₁,w₁,hq,.pass (x:=.inLoop c) rfl (fun _ _=>.inl (by simp)) harr⟩
 obtain ⟨e,a',w',hq,harr⟩:=key k0 a w h₀
 exact ⟨e,a',w',hq,.of_steps (.one step_loop) harr⟩
theorem LoopK.intro {P:Program} {tr:List Nat} {n m:Nat} {body:Code} {Q:APost} {s:ASt} (hmx:P.follows .mixedOrders = true) (hg:good tr n body = true) {ι:Type} (T:ι → List (Nat × AVal)) (H:ι → List (List AVal)) (Inv:ι → Prop) (f:ι → Nat) (i0:ι)
   (h0:Inv i0) (hle:Le m s (T i0) (H i0)) (hround:∀ i,Inv i → awp P tr n m body (LoopPost m T H Inv f (f i) Q) ⟨look (T i),H i⟩):LoopK P n m body Q s:=by
 intro G0 w0 G a w hR
 refine wp_loop_ix (fun k a w=>∃ i G,f i = k ∧ Inv i ∧ R n m G0 w0 ⟨look (T i),H i⟩ G a w) (f i0) ⟨i0,G,rfl,h0,hR.weaken hle.st⟩ ?_
 rintro k a w ⟨i,G,rfl,hi,hR⟩
 refine wp_mono (awp_sound hmx body _ _ hg (hround i hi) G0 w0 G a w hR) ?_
 intro e a' w' he
 cases e with
 | normal =>
   obtain ⟨s',G',hR',j,hj,hlt,hle'⟩:=he
   exact ⟨f j,hlt,j,G',rfl,hj,hR'.weaken hle'.st⟩
 | exit id=>exact he
 | ret=>exact he
 | goto l=>exact he
 | panic c=>exact he
 | outgrown=>exact he
def ares1 (P:Program) (s:ASt):ResultVar → Option AVal
 | .tmp r=>some (s.t r).dis
 | .cell r ty=>aloadp (tk P ty) s.H (s.t r)
def ares (P:Program) (rs:List ResultVar) (s:ASt):Option AVal :=
 match rs with
 | [.tmp r]=>some (s.t r)
 | [.cell r ty]=>aloadp (tk P ty) s.H (s.t r)
 | [p,q]=>(ares1 P s p).bind fun x=>(ares1 P s q).map fun y=>.tup [x,y]
 | [p,q,o]=>(ares1 P s p).bind fun x=>(ares1 P s q).bind fun y=>(ares1 P s o).map fun z=>.tup [x,y,z]
 | [p,q,o,u]=>(ares1 P s p).bind fun x=>(ares1 P s q).bind fun y=>(ares1 P s o).bind fun z=>(ares1 P s u).map fun t=>.tup [x,y,z,t]
 | []=>some (.tup [])
 | _=>none
def retOk (m:Nat) (x:AVal) (H':List (List AVal)) (s:ASt):Option AVal → Prop
 | some y=>LeV y x ∧ low H'.length x = true ∧ m ≤ H'.length ∧ LeBoxes H'.length s.H H'
 | none=>False
def retK (P:Program) (m:Nat) (rs:List ResultVar) (fz:List (Nat × Nat × Bool)) (x:AVal) (H':List (List AVal)):APost
 | .normal,s=>retOk m x H' (frzS fz s) (ares P rs (frzS fz s))
 | .ret,s=>retOk m x H' (frzS fz s) (ares P rs (frzS fz s))
 | .exit _,_=>False
def argT (args:List AVal) (i:Nat):AVal:=args.getD i .undef
section
variable {P:Program} {n m:Nat} {G0:Gh} {w0:World} {s:ASt} {G:Gh} {a:Act} {w:World}
theorem R.start {args:List AVal} {cargs:Array Value} {H:List (List AVal)} (hs:SR G H w) (hc:∀ b i,G.K b ≠ some (.tmp i)) (hz:cargs.size = args.length) (hn:args.length ≤ n) (ho:args.all (fun x=>!x.isOwn) = true)
   (hr:∀ (i:Nat) (y:AVal) (v:Value),args[i]? = some y → cargs[i]? = some v → Rep H.length G.r G.F y v) :
   R n H.length G w ⟨argT args,H⟩ G { tmps:=cargs ++ Array.replicate (n - cargs.size) undef,defers:=[] } w:=by
 refine ⟨by simp; omega,fun i hi=>?_,rfl,hc,Ext.refl _ _ _ _,Nat.le_refl _,hs,fun i v hv=>?_⟩
 · simp only [argT,List.getD_eq_getElem?_getD]
   rw [List.getElem?_eq_none (by omega)]
   rfl
 · by_cases hi:i < args.length
   · have hx:args[i]? = some args[i]:=List.getElem?_eq_getElem hi
     rw [Array.getElem?_append_left (by omega)] at hv
     have e:argT args i = args[i]:=by simp only [argT,List.getD_eq_getElem?_getD,hx,Option.getD_some]
     simp only [e]
     refine ⟨hr i _ v hx hv,OwnAt.of_not ?_⟩
     have:=List.all_eq_true.1 ho _ (List.getElem_mem hi)
     simpa using this
   · have e:argT args i = .undef:=by
       simp only [argT,List.getD_eq_getElem?_getD]
       rw [List.getElem?_eq_none (by omega)]
       rfl
     simp only [e]
     exact ⟨.undef v,OwnAt.of_not rfl⟩
theorem R.startO {args:List AVal} {cargs:Array Value} {H:List (List AVal)} (hs:SR G H w) (hc:∀ b i,G.K b ≠ some (.tmp i)) (hz:cargs.size = args.length) (hn:args.length ≤ n)
   (hr:∀ (i:Nat) (y:AVal) (v:Value),args[i]? = some y → cargs[i]? = some v → Rep H.length G.r G.F y v ∧ OwnAt G w (.cell H.length i) y v) :
   ∃ G2,R n H.length G w ⟨argT args,H⟩ G2 { tmps:=cargs ++ Array.replicate (n - cargs.size) undef,defers:=[] } w:=by
 let G2:Gh:={ G with K:=fun b=>match G.K b with
   | some (.cell id j)=>if id = H.length then some (.tmp j) else some (.cell id j)
   | x=>x }
 have hbox:∀ b id,G.K b = some (.box id) → G2.K b = some (.box id):=fun b id e=>by
   show (match G.K b with | some (.cell id j)=>if id = H.length then some (Pos.tmp j) else some (.cell id j) | x=>x) = _
   rw [e]
 have hcell:∀ b id j,G.K b = some (.cell id j) → G2.K b = if id = H.length then some (.tmp j) else some (.cell id j):=fun b id j e=>by
   show (match G.K b with | some (.cell id j)=>if id = H.length then some (Pos.tmp j) else some (.cell id j) | x=>x) = _
   rw [e]
 have hoth:∀ b,(∀ id j,G.K b ≠ some (.cell id j)) → G2.K b = G.K b:=fun b hb=>by
   show (match G.K b with | some (.cell id j)=>if id = H.length then some (Pos.tmp j) else some (.cell id j) | x=>x) = _
   split
   · rename_i id j e; exact (hb id j e).elim
   · rfl
 refine ⟨G2,by simp; omega,fun i hi=>?_,rfl,hc,⟨rfl,rfl,rfl,Nat.le_refl _,fun _ _=>rfl,Frz.le.refl _,fun b _ hb=>⟨rfl,hoth b (fun id j e=>hb (.inr ⟨id,j,e⟩)),fun _=>rfl⟩⟩,Nat.le_refl _,⟨hs.frz,fun id cs hid hne=>?_,fun b hb=>?_⟩,fun i v hv=>?_⟩
 · simp only [argT,List.getD_eq_getElem?_getD]
   rw [List.getElem?_eq_none (by omega)]
   rfl
 · obtain ⟨c,T,h1,h2,h3,h4,h5⟩:=hs.box id cs hid hne
   have hlt:id < H.length:=(List.getElem?_eq_some_iff.1 hid).1
   refine ⟨c,T,h1,h2,hbox _ _ h3,h4,fun j x v hx hv=>⟨(h5 j x v hx hv).1,fun k xs ad len cap f1 f2 f3=>?_⟩⟩
   obtain ⟨g1,g2⟩:=(h5 j x v hx hv).2 k xs ad len cap f1 f2 f3
   exact ⟨by rw [hcell _ _ _ g1,if_neg (by omega)],g2⟩
 · rw [hoth b (fun id j e=>by rw [hs.new b hb] at e; cases e)]
   exact hs.new b hb
 · by_cases hi:i < args.length
   · have hx:args[i]? = some args[i]:=List.getElem?_eq_getElem hi
     rw [Array.getElem?_append_left (by omega)] at hv
     have e:argT args i = args[i]:=by simp only [argT,List.getD_eq_getElem?_getD,hx,Option.getD_some]
     simp only [e]
     obtain ⟨q1,q2⟩:=hr i _ v hx hv
     refine ⟨q1,fun k xs ad len cap f1 f2 f3=>?_⟩
     obtain ⟨g1,g2⟩:=q2 k xs ad len cap f1 f2 f3
     exact ⟨by rw [hcell _ _ _ g1,if_pos rfl],g2⟩
   · have e:argT args i = .undef:=by
       simp only [argT,List.getD_eq_getElem?_getD]
       rw [List.getElem?_eq_none (by omega)]
       rfl
     simp only [e]
     exact ⟨.undef v,OwnAt.of_not rfl⟩
def Gh.ret (G:Gh) (r:Option Nat):Gh:={ G with K:=fun b=>match G.K b with
 | some (.tmp i)=>if some i = r then some .ret else some .far
 | x=>x }
theorem R.leave (h:R n m G0 w0 s G a w) {r:Option Nat} {x:AVal} {v:Value} {H0 H':List (List AVal)} (hm:m = H0.length) (hx:Rep H'.length G.r G.F x v)
   (ho:OwnAt (G.ret r) w .ret x v) (hle:m ≤ H'.length) (hb:LeBoxes H'.length s.H H'):CPost G0 w0 H0 x H' (.returned v) w:=by
 subst hm
 have notmp:∀ b,(∀ i,G.K b ≠ some (.tmp i)) → (G.ret r).K b = G.K b:=by
   intro b hb
   unfold Gh.ret
   simp only
 refine ⟨v,G.ret r,rfl,⟨h.ext.os,h.ext.tape,h.ext.output,h.ext.size,h.ext.rho,h.ext.mono,fun b hb ht=>?_⟩,?_,hx,ho,fun b i e=>?_,hle⟩
 · obtain ⟨e1,e2,e3⟩:=h.ext.old b hb ht
   exact ⟨e1,by rw [notmp b (fun i=>by rw [e2]; exact h.clean b i)]; exact e2,e3⟩
 · have h0:=h.sr.weaken (s':=⟨s.t,H'⟩) (LeBoxes_st hb)
   refine ⟨h0.frz,fun id cs hid hne=>?_,fun b hb=>?_⟩
   · obtain ⟨c,T,h1,h2,h3,h4,h5⟩:=h0.box id cs hid hne
     refine ⟨c,T,h1,h2,?_,h4,fun j x v hx hv=>⟨(h5 j x v hx hv).1,fun k xs ad len cap f1 f2 f3=>?_⟩⟩
     · show (G.ret r).K (G.r id).1 = _
       rw [notmp _ (fun i e=>by rw [h3] at e; cases e)]
       exact h3
     · obtain ⟨q1,q2⟩:=(h5 j x v hx hv).2 k xs ad len cap f1 f2 f3
       exact ⟨by rw [notmp _ (fun i e=>by rw [q1] at e; cases e)]; exact q1,q2⟩
   · rw [notmp b (fun i e=>by rw [h.sr.new b hb] at e; cases e)]
     exact h.sr.new b hb
 · have:(match G.K b with | some (.tmp i)=>if some i = r then some Pos.ret else some .far | x=>x) = some (.tmp i):=e
   split at this
   · split at this <;> cases this
   · rename_i e1; exact e1 _ this
def rget (tmps:Array Value):ResultVar → Sem Value
 | .tmp t=>pure (tmps.getD t undef)
 | .cell a t=>do loadVar t (← asAddr (tmps.getD a undef))
theorem rget_run (h:R n m G0 w0 s G a w) {p:ResultVar} {x:AVal} (hx:ares1 P s p = some x):∃ v,(rget a.tmps p).run P w = .ok v w ∧ Rep s.H.length G.r G.F x v ∧ x.isOwn = false:=by
 cases p with
 | tmp r =>
   simp only [ares1,Option.some.injEq] at hx
   subst hx
   exact ⟨_,rfl,(h.get (.tmp r)).dis,isOwn_dis _⟩
 | cell r ty =>
   simp only [ares1] at hx
   have hg:Rep s.H.length G.r G.F (s.t r) (a.tmps.getD r undef):=h.get (.tmp r)
   obtain ⟨v,h1,h2,h3⟩:=load_sound h hg hx
   refine ⟨v,?_,h2,h3⟩
   have:∃ ad,a.tmps.getD r undef = .pointer (some ad):=by
     generalize s.t r = y at hg hx
     generalize a.tmps.getD r undef = u at hg
     cases hg with
     | ptr id off hid=>exact ⟨_,rfl⟩
     | iptr=>exact ⟨_,rfl⟩
     | tree x v ht=>cases ht <;> simp [aloadp] at hx
     | undef=>simp [aloadp] at hx
     | osl=>simp [aloadp] at hx
     | osl0=>simp [aloadp] at hx
     | fn=>simp [aloadp] at hx
     | tup=>simp [aloadp] at hx
     | mix=>simp [aloadp] at hx
   obtain ⟨ad,e⟩:=this
   rw [e] at h1
   simp only [rget,e]
   exact h1
theorem results_run (fn:Func) (rs:List ResultVar) (hrs:fn.results = rs.toArray) (h:R n m G0 w0 s G a w) {y:AVal} (hy:ares P rs s = some y) :
   ∃ v r,(results fn a.tmps).run P w = .ok v w ∧ Rep s.H.length G.r G.F y v ∧ OwnAt (G.ret r) w .ret y v:=by
 have g:∀ i,Rep s.H.length G.r G.F (s.t i) (a.tmps.getD i undef):=fun i=>h.get (.tmp i)
 have tup:∀ (xs:List AVal) (vs:List Value),xs.length = vs.length → (∀ (i:Nat) (x:AVal) (v:Value),xs[i]? = some x → vs[i]? = some v → Rep s.H.length G.r G.F x v) → OwnAt (G.ret none) w .ret (.tup xs) (.tuple vs.toArray) ∧
     Rep s.H.length G.r G.F (.tup xs) (.tuple vs.toArray):=by
   intro xs vs hl hr
   exact ⟨OwnAt.of_not rfl,.tup _ _ (by simpa using hl.symm) (fun i x v hx hv=>hr i x v hx (by simpa using hv))⟩
 have hres:results fn a.tmps = (do
     let vs ← rs.toArray.mapM (rget a.tmps)
     pure (if h:vs.size = 1 then vs[0] else .tuple vs)):=by rw [← hrs]; rfl
 unfold ares at hy
 split at hy
 · rename_i r
   injection hy with hy
   subst hy
   refine ⟨a.tmps.getD r undef,some r,by rw [hres]; simp [rget],g r,?_⟩
   intro k xs ad len cap f1 f2 f3
   have hrn:r < n:=by
     by_cases e:r < n
     · exact e
     · rw [h.out r (Nat.le_of_not_lt e)] at f1; cases f1
   have hv:a.tmps[r]? = some (a.tmps.getD r undef):=by
     have:=h.sz
     simp [Array.getD,this,hrn]
   obtain ⟨q1,q2⟩:=(h.tmp r _ hv).2 k xs ad len cap f1 f2 f3
   refine ⟨?_,q2⟩
   show (match G.K ad.block with | some (.tmp i)=>if some i = some r then some Pos.ret else some .far | x=>x) = _
   rw [q1]
   simp
 · rename_i r ty
   obtain ⟨v,h1,h2,h3⟩:=rget_run (p:=.cell r ty) h hy
   exact ⟨v,none,by rw [hres]; simp [h1],h2,OwnAt.of_not h3⟩
 · rename_i p q
   simp only [Option.bind_eq_some_iff,Option.map_eq_some_iff] at hy
   obtain ⟨x1,e1,x2,e2,rfl⟩:=hy
   obtain ⟨v1,p1,p2,_⟩:=rget_run h e1
   obtain ⟨v2,q1,q2,_⟩:=rget_run h e2
   have:=tup [x1,x2] [v1,v2] rfl (fun i x v hx hv=>by
     match i with
     | 0=>simp at hx hv; subst hx hv; exact p2
     | 1=>simp at hx hv; subst hx hv; exact q2
     | i + 2=>simp at hx)
   exact ⟨_,none,by rw [hres]; simp [p1,q1],this.2,this.1⟩
 · rename_i p q o
   simp only [Option.bind_eq_some_iff,Option.map_eq_some_iff] at hy
   obtain ⟨x1,e1,x2,e2,x3,e3,rfl⟩:=hy
   obtain ⟨v1,p1,p2,_⟩:=rget_run h e1
   obtain ⟨v2,q1,q2,_⟩:=rget_run h e2
   obtain ⟨v3,r1,r2,_⟩:=rget_run h e3
   have:=tup [x1,x2,x3] [v1,v2,v3] rfl (fun i x v hx hv=>by
     match i with
     | 0=>simp at hx hv; subst hx hv; exact p2
     | 1=>simp at hx hv; subst hx hv; exact q2
     | 2=>simp at hx hv; subst hx hv; exact r2
     | i + 3=>simp at hx)
   exact ⟨_,none,by rw [hres]; simp [p1,q1,r1],this.2,this.1⟩
 · rename_i p q o u
   simp only [Option.bind_eq_some_iff,Option.map_eq_some_iff] at hy
   obtain ⟨x1,e1,x2,e2,x3,e3,x4,e4,rfl⟩:=hy
   obtain ⟨v1,p1,p2,_⟩:=rget_run h e1
   obtain ⟨v2,q1,q2,_⟩:=rget_run h e2
   obtain ⟨v3,r1,r2,_⟩:=rget_run h e3
   obtain ⟨v4,s1,s2,_⟩:=rget_run h e4
   have:=tup [x1,x2,x3,x4] [v1,v2,v3,v4] rfl (fun i x v hx hv=>by
     match i with
     | 0=>simp at hx hv; subst hx hv; exact p2
     | 1=>simp at hx hv; subst hx hv; exact q2
     | 2=>simp at hx hv; subst hx hv; exact r2
     | 3=>simp at hx hv; subst hx hv; exact s2
     | i + 4=>simp at hx)
   exact ⟨_,none,by rw [hres]; simp [p1,q1,r1,s1],this.2,this.1⟩
 · injection hy with hy
   subst hy
   have:=tup [] [] rfl (fun i x v hx hv=>by simp at hx)
   exact ⟨_,none,by rw [hres]; simp,this.2,this.1⟩
 · cases hy
end
theorem CFun.intro {P:Program} {f:FuncId} {fn:Func} {c:Code} {rs:List ResultVar} {tr:List Nat} {fz:List (Nat × Nat × Bool)} {n:Nat} {args:List AVal} {H:List (List AVal)} {x:AVal} {H':List (List AVal)} (hf:P.funcs[f]? = some fn) (hb:fn.body = some c)
   (hname:(fn.name == "runtime.NumGoroutine") = false) (hrs:fn.results = rs.toArray) (hnt:fn.ntmps = n) (hmx:P.follows .mixedOrders = true) (hg:good tr n c = true) (hn:args.length ≤ n) (ho:args.all (fun x=>!x.isOwn) = true)
   (h:awp P tr n H.length c (retK P H.length rs fz x H') ⟨argT args,H⟩):CFun P f args H x H':=by
 refine ⟨⟨fn,hf,hname,by rw [hb]; rfl⟩,fun G w cargs hs hc _ hz hr=>?_⟩
 refine calls_of_wp hf hb ?_
 subst hnt
 have hR:=R.start (n:=fn.ntmps) hs hc hz hn ho hr
 refine wp_mono (awp_sound hmx c _ _ hg h G w G _ w hR) ?_
 have fin:∀ (a':Act) (w':World) (s:ASt) (G':Gh),R fn.ntmps H.length G w s G' a' w' → retOk H.length x H' s (ares P rs s) → a'.defers = [] ∧ ∃ v,(results fn a'.tmps).run P w' = .ok v w' ∧ CPost G w H x H' (.returned v) w':=by
   intro a' w' s G' hR' hk
   cases hy:ares P rs s with
   | none=>rw [hy] at hk; exact hk.elim
   | some y =>
     rw [hy] at hk
     obtain ⟨k1,k2,k3,k4⟩:=hk
     obtain ⟨v,r,q1,q2,q3⟩:=results_run (P:=P) fn rs hrs hR' hy
     obtain ⟨q4,q5⟩:=LeV_sound (G:=G'.ret r) k1 q2 q3
     exact ⟨hR'.dfr,v,q1,hR'.leave rfl (low_rep q4 k2) q5 k3 k4⟩
 intro e a' w' he
 cases e with
 | normal=>obtain ⟨s,G',hR',hk⟩:=he; obtain ⟨G2,hR2⟩:=R.frzS fz s G' hR'; exact fin a' w' _ G2 hR2 hk
 | ret=>obtain ⟨s,G',hR',hk⟩:=he; obtain ⟨G2,hR2⟩:=R.frzS fz s G' hR'; exact fin a' w' _ G2 hR2 hk
 | exit id=>obtain ⟨s,G',hR',hk⟩:=he; exact hk.elim
 | goto l=>exact he
 | panic ch=>exact he.elim
 | outgrown=>exact he.elim
theorem CFun.introS {P:Program} {f:FuncId} {fn:Func} {c:Code} {rs:List ResultVar} {fz:List (Nat × Nat × Bool)} {n:Nat} {args:List AVal} {H:List (List AVal)} {x:AVal} {H':List (List AVal)} (hf:P.funcs[f]? = some fn) (hb:fn.body = some c)
   (hname:(fn.name == "runtime.NumGoroutine") = false) (hrs:fn.results = rs.toArray) (hnt:fn.ntmps = n) (hn:args.length ≤ n) (ho:args.all (fun x=>!x.isOwn) = true)
   (h:SWp P n H.length c (retK P H.length rs fz x H') ⟨argT args,H⟩):CFun P f args H x H':=by
 refine ⟨⟨fn,hf,hname,by rw [hb]; rfl⟩,fun G w cargs hs hc _ hz hr=>?_⟩
 refine calls_of_wp hf hb ?_
 subst hnt
 have hR:=R.start (n:=fn.ntmps) hs hc hz hn ho hr
 refine wp_mono (h G w G _ w hR) ?_
 have fin:∀ (a':Act) (w':World) (s:ASt) (G':Gh),R fn.ntmps H.length G w s G' a' w' → retOk H.length x H' s (ares P rs s) → a'.defers = [] ∧ ∃ v,(results fn a'.tmps).run P w' = .ok v w' ∧ CPost G w H x H' (.returned v) w':=by
   intro a' w' s G' hR' hk
   cases hy:ares P rs s with
   | none=>rw [hy] at hk; exact hk.elim
   | some y =>
     rw [hy] at hk
     obtain ⟨k1,k2,k3,k4⟩:=hk
     obtain ⟨v,r,q1,q2,q3⟩:=results_run (P:=P) fn rs hrs hR' hy
     obtain ⟨q4,q5⟩:=LeV_sound (G:=G'.ret r) k1 q2 q3
     exact ⟨hR'.dfr,v,q1,hR'.leave rfl (low_rep q4 k2) q5 k3 k4⟩
 intro e a' w' he
 cases e with
 | normal=>obtain ⟨s,G',hR',hk⟩:=he; obtain ⟨G2,hR2⟩:=R.frzS fz s G' hR'; exact fin a' w' _ G2 hR2 hk
 | ret=>obtain ⟨s,G',hR',hk⟩:=he; obtain ⟨G2,hR2⟩:=R.frzS fz s G' hR'; exact fin a' w' _ G2 hR2 hk
 | exit id=>obtain ⟨s,G',hR',hk⟩:=he; exact hk.elim
 | goto l=>exact he
 | panic ch=>exact he.elim
 | outgrown=>exact he.elim
theorem CFunO.intro {P:Program} {f:FuncId} {fn:Func} {c:Code} {rs:List ResultVar} {tr:List Nat} {fz:List (Nat × Nat × Bool)} {n:Nat} {args:List AVal} {H:List (List AVal)} {x:AVal} {H':List (List AVal)} (hf:P.funcs[f]? = some fn) (hb:fn.body = some c)
   (hname:(fn.name == "runtime.NumGoroutine") = false) (hrs:fn.results = rs.toArray) (hnt:fn.ntmps = n) (hmx:P.follows .mixedOrders = true) (hg:good tr n c = true) (hn:args.length ≤ n)
   (h:awp P tr n H.length c (retK P H.length rs fz x H') ⟨argT args,H⟩):CFunO P f args H x H':=by
 refine ⟨⟨fn,hf,hname,by rw [hb]; rfl⟩,fun G w cargs hs hc _ hz hr=>?_⟩
 refine calls_of_wp hf hb ?_
 subst hnt
 obtain ⟨G2,hR⟩:=R.startO (n:=fn.ntmps) hs hc hz hn hr
 refine wp_mono (awp_sound hmx c _ _ hg h G w G2 _ w hR) ?_
 have fin:∀ (a':Act) (w':World) (s:ASt) (G':Gh),R fn.ntmps H.length G w s G' a' w' → retOk H.length x H' s (ares P rs s) → a'.defers = [] ∧ ∃ v,(results fn a'.tmps).run P w' = .ok v w' ∧ CPost G w H x H' (.returned v) w':=by
   intro a' w' s G' hR' hk
   cases hy:ares P rs s with
   | none=>rw [hy] at hk; exact hk.elim
   | some y =>
     rw [hy] at hk
     obtain ⟨k1,k2,k3,k4⟩:=hk
     obtain ⟨v,r,q1,q2,q3⟩:=results_run (P:=P) fn rs hrs hR' hy
     obtain ⟨q4,q5⟩:=LeV_sound (G:=G'.ret r) k1 q2 q3
     exact ⟨hR'.dfr,v,q1,hR'.leave rfl (low_rep q4 k2) q5 k3 k4⟩
 intro e a' w' he
 cases e with
 | normal=>obtain ⟨s,G',hR',hk⟩:=he; obtain ⟨G2,hR2⟩:=R.frzS fz s G' hR'; exact fin a' w' _ G2 hR2 hk
 | ret=>obtain ⟨s,G',hR',hk⟩:=he; obtain ⟨G2,hR2⟩:=R.frzS fz s G' hR'; exact fin a' w' _ G2 hR2 hk
 | exit id=>obtain ⟨s,G',hR',hk⟩:=he; exact hk.elim
 | goto l=>exact he
 | panic ch=>exact he.elim
 | outgrown=>exact he.elim
end Go.Am
