/- The abstract machine, part thirty-four: regions in any order by an invariant; variables that change places ahead of a loop. -/
import Derived.Test.YtapgoboiljjecaaGreatDoorAmAH
namespace Go.Am
open Go
set_option linter.unusedSectionVars false
variable [Globs]
section
variable {P:Program} {tr:List Nat} {d:Option Vw} {all:Array Oper}
theorem okK_mono {K K':ASt → Prop} (hk:∀ s,K s → K' s):∀ (o:Option ASt),okK o K → okK o K'
 | some s,h=>hk s h
 | none,h=>h
theorem execK_mono {K K':ASt → Prop} (hk:∀ s,K s → K' s) {o:Oper} {s:ASt}:execK P tr d o K s → execK P tr d o K' s:=by
 intro h
 unfold execK at h ⊢
 cases hop:o.op with
 | call c =>
   rw [hop] at h
   simp only at h ⊢
   cases hc:c.callee with
   | value fo =>
     rw [hc] at h
     simp only at h ⊢
     cases hf:av s.t fo with
     | fn f fs cs =>
       rw [hf] at h
       simp only at h ⊢
       split
       · rename_i g
         rw [if_pos g] at h
         unfold GiftK at h ⊢
         split at h
         · obtain ⟨x,H',h1,h2⟩:=h
           exact ⟨x,H',h1,hk _ h2⟩
         · exact h.elim
       · rename_i g
         rw [if_neg g] at h
         split
         · rename_i g2
           rw [if_pos g2] at h
           obtain ⟨x,h1,h2,h3⟩:=h
           exact ⟨x,h1,h2,hk _ h3⟩
         · rename_i g2
           rw [if_neg g2] at h
           split
           · rename_i g3
             rw [if_pos g3] at h
             obtain ⟨x,H',h1,h2,h3⟩:=h
             exact ⟨x,H',h1,h2,hk _ h3⟩
           · rename_i g3
             rw [if_neg g3] at h
             obtain ⟨x,H',h1,h2,h3⟩:=h
             exact ⟨x,H',h1,h2,hk _ h3⟩
     | _=>rw [hf] at h; exact h.elim
   | _=>rw [hc] at h; exact okK_mono hk _ h
 | _=>rw [hop] at h; exact okK_mono hk _ h
theorem gboolK_mono {q:Nat} {want:Bool} {K1 K0 K1' K0':ASt → Prop} (h1:∀ s,K1 s → K1' s) (h0:∀ s,K0 s → K0' s) {s:ASt}:∀ x,gboolK q want K1 K0 s x → gboolK q want K1' K0' s x:=by
 have hb:∀ x,boolK q want K1 K0 s x → boolK q want K1' K0' s x:=by
   intro x h
   cases x with
   | bool b =>
     cases b <;> cases want <;> simp only [boolK,if_true,Bool.false_eq_true,if_false] at h ⊢ <;> first | exact h1 _ h | exact h0 _ h
   | _=>exact h.elim
 intro x h
 unfold gboolK at h ⊢
 split at h
 · exact h0 _ h
 · exact hb _ h
theorem guardK_mono {o:Oper} {K1 K0 K1' K0':ASt → Prop} (h1:∀ s,K1 s → K1' s) (h0:∀ s,K0 s → K0' s) {s:ASt} (h:guardK all o K1 K0 s):guardK all o K1' K0' s:=by
 unfold guardK at h ⊢
 cases hg:o.guard with
 | none=>rw [hg] at h; exact h1 _ h
 | some g =>
   obtain ⟨j,want⟩:=g
   rw [hg] at h
   simp only at h ⊢
   cases hq:(all[j]?).bind (·.dst) with
   | none=>rw [hq] at h; exact h.elim
   | some q=>rw [hq] at h; exact gboolK_mono h1 h0 _ h
theorem awpOps_mono {K K':ASt → Prop} (hk:∀ s,K s → K' s):∀ (os:List Oper) {s:ASt},awpOps P tr d all os K s → awpOps P tr d all os K' s
 | [],_,h=>hk _ h
 | _ :: os,_,h=>guardK_mono (fun _ h=>execK_mono (fun _ h=>awpOps_mono hk os h) h) (fun _ h=>awpOps_mono hk os h) h
theorem AnyK_inv {K:ASt → Prop} (I:(Nat → Bool) → ASt → Prop) {s:ASt} (hs:I (fun _=>false) s)
   (hstep:∀ l s i o,I l s → all[i]? = some o → l i = false → (∀ e ∈ o.after.toList,Region.binds .any e = true → l e.on = true) → awpOps P tr none all [o] (I (fun j=>if j = i then true else l j)) s)
   (hend:∀ l s,I l s → (∀ i,i < all.size → l i = true) → K s) (hac:∀ (i:Nat) (o:Oper),all[i]? = some o → ∀ e ∈ o.after.toList,Region.binds .any e = true → e.on < i):AnyK P tr all K s:=by
 have key:∀ f (listed:Array Bool) (l:Nat → Bool) (s:ASt),listed.size = all.size → (∀ i,i < all.size → l i = listed.getD i true) → (∀ i,all.size ≤ i → l i = false) → (unl all listed).length ≤ f → I l s → awpAll P tr all f listed K s:=by
   have fin:∀ (listed:Array Bool) (l:Nat → Bool) (s:ASt),listed.size = all.size → (∀ i,i < all.size → l i = listed.getD i true) → Region.ready .any all listed = [] → I l s → K s:=by
     intro listed l s hsz hl hr hI
     refine hend l s hI ?_
     intro i
     induction i using Nat.strongRecOn with
     | _ i ih =>
       intro hi
       cases hli:l i with
       | true=>rfl
       | false =>
         exfalso
         have:i ∈ Region.ready .any all listed:=by
           unfold Region.ready
           rw [List.mem_filter]
           refine ⟨List.mem_range.2 hi,?_⟩
           have e1:listed.getD i true = false:=by rw [← hl i hi,hli]
           rw [e1]
           simp only [Bool.not_false,Bool.true_and,Array.getElem?_eq_getElem hi,Option.map_some,Option.getD_some,Array.all_eq_true_iff_forall_mem]
           intro e he
           cases hb:Region.binds .any e with
           | false=>rfl
           | true =>
             have hlt:=hac i all[i] (Array.getElem?_eq_getElem hi) e (by simpa using he) hb
             have h1:=ih e.on hlt (by omega)
             rw [hl e.on (by omega)] at h1
             have hes:e.on < listed.size:=by omega
             simpa [Array.getD,hes] using h1
         rw [hr] at this
         cases this
   intro f
   induction f with
   | zero =>
     intro listed l s hsz hl hg hu hI
     have hnil:unl all listed = []:=List.eq_nil_of_length_eq_zero (by omega)
     have hr:Region.ready .any all listed = []:=by
       cases hr:Region.ready .any all listed with
       | nil=>rfl
       | cons i q =>
         exfalso
         have hi:i ∈ Region.ready .any all listed:=by rw [hr]; simp
         unfold Region.ready at hi
         obtain ⟨h1,h2⟩:=List.mem_filter.1 hi
         have:i ∈ unl all listed:=List.mem_filter.2 ⟨h1,by
           rw [Bool.and_eq_true] at h2
           exact h2.1⟩
         rw [hnil] at this
         cases this
     exact ⟨hr,fin listed l s hsz hl hr hI⟩
   | succ f ih =>
     intro listed l s hsz hl hg hu hI
     refine ⟨fun hr=>fin listed l s hsz hl hr hI,fun i hi=>?_⟩
     unfold Region.ready at hi
     obtain ⟨h1,h2⟩:=List.mem_filter.1 hi
     have hin:=List.mem_range.1 h1
     rw [Bool.and_eq_true] at h2
     obtain ⟨h2,h3⟩:=h2
     have h2':listed.getD i true = false:=by simpa using h2
     have ho:all[i]? = some (all.getD i default):=by simp [Array.getD,hin]
     rw [ho] at h3
     simp only [Option.map_some,Option.getD_some,Array.all_eq_true_iff_forall_mem] at h3
     refine awpOps_mono (fun s' hs'=>?_) _ (hstep l s i _ hI ho (by rw [hl i hin,h2']) (fun e he hb=>?_))
     · refine ih (listed.setIfInBounds i true) _ s' (by simpa using hsz) (fun j hj=>?_) (fun j hj=>?_) ?_ hs'
       · show (if j = i then true else l j) = _
         rw [getD_set _ _ _ (by omega)]
         by_cases e:i = j
         · subst e; simp
         · rw [if_neg (fun q=>e q.symm),if_neg e]; exact hl j hj
       · show (if j = i then true else l j) = _
         rw [if_neg (by omega)]
         exact hg j hj
       · have e1:unl all (listed.setIfInBounds i true) = (unl all listed).filter fun x=>!(i == x):=by
           unfold unl
           rw [List.filter_filter]
           refine List.filter_congr fun x hx=>?_
           rw [getD_set _ _ _ (by omega)]
           by_cases e:i = x
           · simp [e]
           · simp [e]
         have hm:i ∈ unl all listed:=List.mem_filter.2 ⟨h1,h2⟩
         have:((unl all listed).filter fun x=>!(i == x)).length < (unl all listed).length:=by
           refine List.length_filter_lt_length_iff_exists.2 ⟨i,hm,by simp⟩
         rw [e1]
         omega
     · have h4:=h3 e (by simpa using he)
       have hlt:=hac i _ ho e he hb
       rw [hl e.on (by omega)]
       have hes:e.on < listed.size:=by omega
       simp only [hb,Bool.not_true,Bool.false_or] at h4
       simpa [Array.getD,hes] using h4
 refine key all.size (Array.replicate all.size false) (fun _=>false) s (by simp) (fun i hi=>by simp [Array.getD,hi]) (fun _ _=>rfl) ?_ hs
 unfold unl
 exact Nat.le_trans (List.length_filter_le _ _) (by simp)
end
end Go.Am
