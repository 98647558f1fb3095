/- The abstract machine, part fifteen: regions in any order; code. -/
import Derived.Test.YtapgoboiljjecaaGreatDoorAmN
namespace Go.Am
open Go
set_option linter.unusedSectionVars false
variable [Globs]
def mask (acc:List Nat) (o:Oper):Nat:=o.after.toList.foldl (fun m e=>if Region.binds .any e = true then m ||| 2 ^ e.on ||| acc.getD e.on 0 else m) 0
def masks:List Oper → List Nat → List Nat
 | [],acc=>acc
 | o :: os,acc=>masks os (acc ++ [mask acc o])
def drawSafe (tr:List Nat) (all:Array Oper):Bool :=
 let ms:=masks all.toList []
 (all.toList.zipIdx.all fun p=>p.1.after.toList.all fun e=>!(Region.binds .any e) || decide (e.on < p.2)) &&
 (all.toList.zipIdx.all fun p=>all.toList.zipIdx.all fun q=>decide (p.2 ≤ q.2) || (ms.getD p.2 0).testBit q.2 || indep tr all q.1 p.1)
section
variable {P:Program} {tr:List Nat} {all:Array Oper}
def DirectIn (S:Nat → Prop) (o:Oper):Prop:=∀ e ∈ o.after.toList,Region.binds .any e = true → S e.on
def Closed (all:Array Oper) (S:Nat → Prop):Prop:=∀ j o,S j → all[j]? = some o → DirectIn S o
theorem mask_bit (acc:List Nat) (l:List Edge):∀ (m0 i:Nat),(l.foldl (fun m e=>if Region.binds .any e = true then m ||| 2 ^ e.on ||| acc.getD e.on 0 else m) m0).testBit i = true →
   m0.testBit i = true ∨ ∃ e ∈ l,Region.binds .any e = true ∧ (i = e.on ∨ (acc.getD e.on 0).testBit i = true):=by
 induction l with
 | nil=>intro m0 i h; exact .inl h
 | cons e l ih =>
   intro m0 i h
   simp only [List.foldl_cons] at h
   rcases ih _ i h with h | ⟨e',he',h⟩
   · split at h
     · rename_i hb
       simp only [Nat.testBit_or,Bool.or_eq_true] at h
       rcases h with (h | h) | h
       · exact .inl h
       · rw [Nat.testBit_two_pow] at h
         have h':e.on = i:=by simpa [Nat.testBit_two_pow] using h
         exact .inr ⟨e,by simp,hb,.inl h'.symm⟩
       · exact .inr ⟨e,by simp,hb,.inr h⟩
     · exact .inl h
   · exact .inr ⟨e',by simp [he'],h⟩
def MInv (all:Array Oper) (acc:List Nat):Prop:=∀ j o,all[j]? = some o → ∀ i,(acc.getD j 0).testBit i = true → ∀ S,Closed all S → DirectIn S o → S i
theorem masks_inv:∀ (os:List Oper) (acc:List Nat),all.toList.drop acc.length = os → MInv all acc → MInv all (masks os acc):=by
 intro os
 induction os with
 | nil=>intro acc _ h; exact h
 | cons o os ih =>
   intro acc he h
   have ho:all[acc.length]? = some o:=by
     have:(all.toList.drop acc.length)[0]? = some o:=by rw [he]; rfl
     simpa using this
   refine ih (acc ++ [mask acc o]) ?_ ?_
   · simp only [List.length_append,List.length_cons,List.length_nil,Nat.zero_add]
     rw [← List.drop_drop,he]; rfl
   · intro j o' hj i hi S hS hD
     by_cases hlt:j < acc.length
     · rw [List.getD_eq_getElem?_getD,List.getElem?_append_left hlt,← List.getD_eq_getElem?_getD] at hi
       exact h j o' hj i hi S hS hD
     · by_cases heq:j = acc.length
       · subst heq
         rw [ho] at hj
         injection hj with hj
         subst hj
         rw [List.getD_eq_getElem?_getD,List.getElem?_append_right (Nat.le_refl _),Nat.sub_self] at hi
         simp only [List.getElem?_cons_zero,Option.getD_some] at hi
         rcases mask_bit acc _ _ _ hi with h0 | ⟨e,he',hb,h0⟩
         · simp at h0
         · have hse:=hD e he' hb
           rcases h0 with h0 | h0
           · rw [h0]; exact hse
           · -- an edge to an operation that is there
             cases hoe:all[e.on]? with
             | none =>
               have hge:acc.length ≤ e.on:=by
                 have h1:all.size ≤ e.on:=by simpa using hoe
                 have h2:acc.length < all.size:=(Array.getElem?_eq_some_iff.1 ho).1
                 omega
               rw [List.getD_eq_getElem?_getD,List.getElem?_eq_none hge] at h0
               simp at h0
             | some oe=>exact h e.on oe hoe i h0 S hS (hS _ _ hse hoe)
       · rw [List.getD_eq_getElem?_getD,List.getElem?_eq_none (by simp; omega)] at hi
         simp at hi
theorem front {h0:Nat} {o:Oper}:∀ (l1 l2:List Oper) (s sn:ASt),(∀ p ∈ l1,indep tr all p o = true) → ARun P tr (some (vw tr all h0)) all (l1 ++ o :: l2) s sn → ∃ s1,AStep1 P tr (some (vw tr all h0)) all o s s1 ∧ ARun P tr (some (vw tr all h0)) all (l1 ++ l2) s1 sn:=by
 intro l1
 induction l1 with
 | nil=>intro l2 s sn _ h; obtain ⟨s1,h1,h2⟩:=h; exact ⟨s1,h1,h2⟩
 | cons p l1 ih =>
   intro l2 s sn hi h
   obtain ⟨s1,h1,h2⟩:=h
   obtain ⟨s2,h3,h4⟩:=ih l2 s1 sn (fun q hq=>hi q (by simp [hq])) h2
   obtain ⟨s1',h5,h6⟩:=swap (hi p (by simp)) h1 h3
   exact ⟨s1',h5,s2,h6,h4⟩
variable {n m:Nat} {G0:Gh} {w0:World} {s:ASt} {G:Gh} {a:Act} {w:World}
theorem R.drew (h:R n m G0 w0 s G a w):R n m G0 w0 s G a { w with drawn:=w.drawn + 1 } :=
 h.pure (w':={ w with drawn:=w.drawn + 1 }) ⟨rfl,rfl,rfl,Nat.le_refl _,fun _ _=>rfl,Frz.le.refl _,fun _ _ _=>⟨rfl,rfl,fun _=>rfl⟩⟩ h.sr.frz h.sr.new
abbrev unl (all:Array Oper) (listed:Array Bool):List Nat:=(List.range all.size).filter fun i=>!(listed.getD i true)
theorem getD_set (l:Array Bool) (i j:Nat) (hi:i < l.size):(l.setIfInBounds i true).getD j true = (if i = j then true else l.getD j true):=by
 simp only [Array.getD_eq_getD_getElem?,Array.getElem?_setIfInBounds]
 by_cases e:i = j
 · subst e; simp [hi]
 · simp [e]
theorem any_sound {h0:Nat} {Q:Exit → Act → World → Prop} {sn:ASt} (hsafe:drawSafe tr all = true) (hd:dstsOk n all.toList = true) (hQ:∀ a' w' G',R n m G0 w0 sn G' a' w' → Q .normal a' w') :
   ∀ (fuel:Nat) (listed:Array Bool) (s:ASt) (G:Gh) (a:Act) (w:World),listed.size = all.size → (unl all listed).length = fuel → Closed all (fun j=>j < all.size ∧ listed.getD j true = true) →
     ARun P tr (some (vw tr all h0)) all ((unl all listed).map fun i=>all.getD i default) s sn → R n m G0 w0 s G a w → wpAny P .any all Q fuel listed a w:=by
 have hs:=hsafe
 simp only [drawSafe,Bool.and_eq_true] at hs
 obtain ⟨hedge,hpair⟩:=hs
 have edge:∀ j o,all[j]? = some o → ∀ e ∈ o.after.toList,Region.binds .any e = true → e.on < j:=by
   intro j o ho e he hb
   have h1:=List.all_eq_true.1 hedge (o,j) (by rw [List.mem_zipIdx_iff_getElem?]; simpa using ho)
   have h2:=List.all_eq_true.1 h1 e he
   simpa [hb] using h2
 have pair:∀ i j p q,all[i]? = some p → all[j]? = some q → i < j → ((masks all.toList []).getD j 0).testBit i = true ∨ indep tr all p q = true:=by
   intro i j p q hp hq hij
   have h1:=List.all_eq_true.1 hpair (q,j) (by rw [List.mem_zipIdx_iff_getElem?]; simpa using hq)
   have h2:=List.all_eq_true.1 h1 (p,i) (by rw [List.mem_zipIdx_iff_getElem?]; simpa using hp)
   simp only [Bool.or_eq_true,decide_eq_true_eq] at h2
   rcases h2 with (h2 | h2) | h2
   · omega
   · exact .inl h2
   · exact .inr h2
 have minv:MInv all (masks all.toList []):=masks_inv all.toList [] (by simp) (by intro j o _ i hi; simp at hi)
 have readyiff:∀ (listed:Array Bool) i,i ∈ Region.ready .any all listed ↔ i < all.size ∧ listed.getD i true = false ∧ ∃ o,all[i]? = some o ∧ ∀ e ∈ o.after.toList,Region.binds .any e = true → listed.getD e.on false = true:=by
   intro listed i
   unfold Region.ready
   simp only [List.mem_filter,List.mem_range,Bool.and_eq_true,Bool.not_eq_true']
   constructor
   · rintro ⟨h1,h2,h3⟩
     refine ⟨h1,h2,all[i],Array.getElem?_eq_getElem h1,fun e he hb=>?_⟩
     rw [Array.getElem?_eq_getElem h1] at h3
     simp only [Option.map_some,Option.getD_some,Array.all_eq_true_iff_forall_mem] at h3
     have:=h3 e (by simpa using he)
     simpa [hb] using this
   · rintro ⟨h1,h2,o,h3,h4⟩
     refine ⟨h1,h2,?_⟩
     rw [h3]
     simp only [Option.map_some,Option.getD_some,Array.all_eq_true_iff_forall_mem]
     intro e he
     cases hb:Region.binds .any e with
     | false=>rfl
     | true=>simp [h4 e (by simpa using he) hb]
 intro fuel
 induction fuel with
 | zero =>
   intro listed s G a w hsz hl hc hr h
   have hnil:unl all listed = []:=List.eq_nil_of_length_eq_zero hl
   rw [hnil] at hr
   have:s = sn:=hr
   subst this
   refine ⟨?_,hQ _ _ _ h⟩
   cases hrd:Region.ready .any all listed with
   | nil=>rfl
   | cons i l =>
     exfalso
     have hi:=(readyiff listed i).1 (by rw [hrd]; simp)
     have:i ∈ unl all listed:=List.mem_filter.2 ⟨List.mem_range.2 hi.1,by simp [hi.2.1]⟩
     rw [hnil] at this
     cases this
 | succ fuel ih =>
   intro listed s G a w hsz hl hc hr h
   refine ⟨fun hnil=>?_,fun i hi=>?_⟩
   · exfalso
     cases hu:unl all listed with
     | nil=>rw [hu] at hl; simp at hl
     | cons j l =>
       have hj:j ∈ unl all listed:=by rw [hu]; simp
       obtain ⟨hj1,hj2⟩:=List.mem_filter.1 hj
       have hjn:=List.mem_range.1 hj1
       have hmin:∀ i,i < j → listed.getD i true = true:=by
         intro i hij
         cases hli:listed.getD i true with
         | true=>rfl
         | false =>
           exfalso
           have him:i ∈ unl all listed:=List.mem_filter.2 ⟨List.mem_range.2 (by omega),by simp [hli]⟩
           have hsorted:(unl all listed).Pairwise (· < ·):=List.Pairwise.filter _ (List.pairwise_lt_range)
           rw [hu] at him hsorted
           rcases List.mem_cons.1 him with e | e
           · omega
           · have:=(List.pairwise_cons.1 hsorted).1 i e
             omega
       have:j ∈ Region.ready .any all listed:=(readyiff listed j).2 ⟨hjn,by simpa using hj2,all[j],Array.getElem?_eq_getElem hjn,fun e he hb=>by
         have hlt:=edge j _ (Array.getElem?_eq_getElem hjn) e he hb
         have:=hmin e.on hlt
         have hes:e.on < listed.size:=by omega
         simpa [Array.getD,hes] using this⟩
       rw [hnil] at this
       cases this
   · obtain ⟨hin,hil,o,ho,hdir⟩:=(readyiff listed i).1 hi
     have hil':i ∈ unl all listed:=List.mem_filter.2 ⟨List.mem_range.2 hin,by simp [hil]⟩
     obtain ⟨l1,l2,hsplit⟩:=List.append_of_mem hil'
     have hsorted:(unl all listed).Pairwise (· < ·):=List.Pairwise.filter _ (List.pairwise_lt_range)
     have hnd:∀ x ∈ l1,x < i:=by
       intro x hx
       rw [hsplit] at hsorted
       exact (List.pairwise_append.1 hsorted).2.2 x hx i (by simp)
     have hnd2:∀ x ∈ l2,i < x:=by
       intro x hx
       rw [hsplit] at hsorted
       exact (List.pairwise_cons.1 (List.pairwise_append.1 hsorted).2.1).1 x hx
     have hoD:all.getD i default = o:=by simp [Array.getD_eq_getD_getElem?,ho]
     have hDI:DirectIn (fun j=>j < all.size ∧ listed.getD j true = true) o:=by
       intro e he hb
       have h1:=hdir e he hb
       have h2:=edge i o ho e he hb
       have hes:e.on < listed.size:=by omega
       exact ⟨by omega,by simpa [Array.getD,hes] using h1⟩
     have hindep:∀ p ∈ l1.map (fun i=>all.getD i default),indep tr all p o = true:=by
       intro p hp
       obtain ⟨x,hx,rfl⟩:=List.mem_map.1 hp
       have hxn:x < all.size:=by have:=hnd x hx; omega
       have hxo:all[x]? = some (all.getD x default):=by simp [Array.getD,hxn]
       rcases pair x i _ o hxo ho (hnd x hx) with hb | hb
       · exfalso
         have q1:=(minv i o ho x hb _ hc hDI).2
         have hxu:x ∈ unl all listed:=by rw [hsplit]; simp [hx]
         have q2:=(List.mem_filter.1 hxu).2
         rw [q1] at q2
         cases q2
       · exact hb
     rw [hsplit,List.map_append,List.map_cons,hoD] at hr
     obtain ⟨s1,h1,h2⟩:=front _ _ _ _ hindep hr
     have hom:o ∈ all.toList:=by simpa using Array.mem_of_getElem? ho
     refine step1_sound (fun s s' o h=>astepD_step s s' o h) h ho (dstsOk_get hd hom) h1 (fun a' w' G' hR=>?_)
     have hunl:unl all (listed.setIfInBounds i true) = l1 ++ l2:=by
       have e1:unl all (listed.setIfInBounds i true) = (unl all listed).filter fun x=>!(i == x):=by
         unfold unl
         rw [List.filter_filter]
         refine List.filter_congr fun x hx=>?_
         rw [getD_set _ _ _ (by omega)]
         by_cases e:i = x
         · simp [e]
         · simp [e]
       rw [e1,hsplit,List.filter_append,List.filter_cons]
       have f1:l1.filter (fun x=>!(i == x)) = l1:=List.filter_eq_self.2 fun x hx=>by have:=hnd x hx; simp; omega
       have f2:l2.filter (fun x=>!(i == x)) = l2:=List.filter_eq_self.2 fun x hx=>by have:=hnd2 x hx; simp; omega
       rw [f1,f2]
       simp
     refine ih (listed.setIfInBounds i true) s1 G' a' w' (by simpa using hsz) ?_ ?_ ?_ hR
     · rw [hunl]
       rw [hsplit] at hl
       simp at hl ⊢
       omega
     · intro j oj hj hoj
       have hmono:∀ x,x < all.size ∧ listed.getD x true = true → x < all.size ∧ (listed.setIfInBounds i true).getD x true = true:=by
         intro x hx
         refine ⟨hx.1,?_⟩
         rw [getD_set _ _ _ (by omega)]
         split
         · rfl
         · exact hx.2
       obtain ⟨hj1,hj2⟩:=hj
       rw [getD_set _ _ _ (by omega)] at hj2
       by_cases e:i = j
       · subst e
         rw [ho] at hoj
         injection hoj with hoj
         subst hoj
         exact fun e he hb=>hmono _ (hDI e he hb)
       · rw [if_neg e] at hj2
         exact fun e he hb=>hmono _ (hc j oj ⟨hj1,hj2⟩ hoj e he hb)
     · rw [hunl,List.map_append]
       exact h2
theorem draw_sound {h0:Nat} {id:Nat} {K:ASt → Prop} {Q:Exit → Act → World → Prop} (hmx:P.follows .mixedOrders = true) (hsafe:drawSafe tr all = true) (hd:dstsOk n all.toList = true) (h:R n m G0 w0 s G a w)
   (hw:awpOps P tr (some (vw tr all h0)) all all.toList K s) (hQ:∀ s' G' a' w',K s' → R n m G0 w0 s' G' a' w' → Q .normal a' w'):(Code.region id all true).wp P Q a w:=by
 obtain ⟨sn,hr,hk⟩:=awpOps_run _ _ _ hw
 refine wp_region_any hmx ?_
 have hunl:unl all (Array.replicate all.size false) = List.range all.size:=by
   unfold unl
   refine List.filter_eq_self.2 fun x hx=>?_
   have:=List.mem_range.1 hx
   simp [Array.getD,this]
 have hmap:(List.range all.size).map (fun i=>all.getD i default) = all.toList:=by
   apply List.ext_getElem?
   intro j
   by_cases hj:j < all.size
   · simp [hj,Array.getD]
   · simp [hj]
 refine any_sound (sn:=sn) hsafe hd (fun a' w' G' hR=>hQ _ _ _ _ hk hR) all.size (Array.replicate all.size false) s G a _ (by simp) (by rw [hunl]; simp) ?_ (by rw [hunl,hmap]; exact hr) h.drew
 intro j o hj
 obtain ⟨h1,h2⟩:=hj
 simp [Array.getD,h1] at h2
def awpAll (P:Program) (tr:List Nat) (all:Array Oper):Nat → Array Bool → (ASt → Prop) → ASt → Prop
 | 0,listed,K,s=>Region.ready .any all listed = [] ∧ K s
 | f + 1,listed,K,s=>(Region.ready .any all listed = [] → K s) ∧ ∀ i ∈ Region.ready .any all listed,awpOps P tr none all [all.getD i default] (awpAll P tr all f (listed.setIfInBounds i true) K) s
def AnyK (P:Program) (tr:List Nat) (all:Array Oper) (K:ASt → Prop) (s:ASt):Prop:=awpAll P tr all all.size (Array.replicate all.size false) K s
theorem all_sound {K:ASt → Prop} {Q:Exit → Act → World → Prop} (hd:dstsOk n all.toList = true) (hQ:∀ s' G' a' w',K s' → R n m G0 w0 s' G' a' w' → Q .normal a' w') :
   ∀ (fuel:Nat) (listed:Array Bool) (s:ASt) (G:Gh) (a:Act) (w:World),awpAll P tr all fuel listed K s → R n m G0 w0 s G a w → wpAny P .any all Q fuel listed a w:=by
 intro fuel
 induction fuel with
 | zero=>intro listed s G a w h hR; exact ⟨h.1,hQ _ _ _ _ h.2 hR⟩
 | succ f ih =>
   intro listed s G a w h hR
   refine ⟨fun e=>hQ _ _ _ _ (h.1 e) hR,fun i hi=>?_⟩
   obtain ⟨sn,hr,hk⟩:=awpOps_run _ _ _ (h.2 i hi)
   obtain ⟨s1,h1,h2⟩:=hr
   have h2:s1 = sn:=h2
   subst h2
   have hin:i < all.size:=by
     unfold Region.ready at hi
     exact List.mem_range.1 (List.mem_filter.1 hi).1
   have ho:all[i]? = some (all.getD i default):=by simp [Array.getD,hin]
   have hom:all.getD i default ∈ all.toList:=by simpa using Array.mem_of_getElem? ho
   exact step1_sound (d:=none) (fun _ _ _ h=>h) hR ho (dstsOk_get hd hom) h1 (fun a' w' G' hR'=>ih _ s1 G' a' w' hk hR')
theorem anyK_sound {id:Nat} {K:ASt → Prop} {Q:Exit → Act → World → Prop} (hmx:P.follows .mixedOrders = true) (hd:dstsOk n all.toList = true) (h:R n m G0 w0 s G a w)
   (hw:AnyK P tr all K s) (hQ:∀ s' G' a' w',K s' → R n m G0 w0 s' G' a' w' → Q .normal a' w'):(Code.region id all true).wp P Q a w :=
 wp_region_any hmx (all_sound hd hQ all.size (Array.replicate all.size false) s G a _ hw h.drew)
end
end Go.Am
