/- The abstract machine, part four: addresses, slices, arithmetic. -/
import Derived.Test.YtapgoboiljjecaaGreatDoorAmC
namespace Go.Am
open Go
set_option linter.unusedSectionVars false
variable [Globs]
theorem tf_spec {P:Program} {t:TypeId} {i off sz:Nat} {g:Bool} (h:tf P t i = some (off,sz,g)) :
   ∃ fs f inf,P.underlying t = some (.struct fs) ∧ fs[i]? = some f ∧ P.info? f.type = some inf ∧ f.offset = off ∧ inf.size = sz ∧ tk P f.type = some (g,sz):=by
 unfold tf at h
 split at h
 · rename_i fs hu
   split at h
   · rename_i f hf
     split at h
     · rename_i g' sz' hk
       injection h with h
       injection h with h1 h
       injection h with h2 h3
       subst h1 h2 h3
       have hk':=hk
       unfold tk at hk'
       split at hk' <;> first | (cases hk'; done) | skip
       all_goals
         rename_i hi
         injection hk' with hk'
         injection hk' with _ hk'
         refine ⟨fs,f,_,hu,hf,?_,rfl,hk',hk⟩
         first | exact hi | assumption
     · cases h
   · cases h
 · cases h
theorem te_spec {P:Program} {t:TypeId} {k:Nat} {l:Option Nat} (h:te P t = some (k,l)) :
   ∃ e inf,P.info? e = some inf ∧ inf.size = k ∧ (match l with | none=>P.underlying t = some (.slice e) | some n=>P.underlying t = some (.array n e)):=by
 unfold te at h
 split at h
 · rename_i e hu
   rw [Option.map_eq_some_iff] at h
   obtain ⟨i,hi,h⟩:=h
   injection h with h1 h2
   subst h1 h2
   exact ⟨e,i,hi,rfl,hu⟩
 · rename_i n e hu
   rw [Option.map_eq_some_iff] at h
   obtain ⟨i,hi,h⟩:=h
   injection h with h1 h2
   subst h1 h2
   exact ⟨e,i,hi,rfl,hu⟩
 · cases h
def afieldAddr (q:Option (Nat × Nat × Bool)):AVal → Option AVal
 | .ptr id off=>match q with
   | some (o,sz,_)=>if sz = 0 then none else some (.ptr id (off + o))
   | none=>none
 | .iptr cs off=>match q with
   | some (o,sz,_)=>if sz = 0 then none else some (.iptr cs (off + o))
   | none=>none
 | _=>none
def aindexAddr (q:Option (Nat × Option Nat)) (x:AVal) (i:AVal):Option AVal :=
 match q,i with
 | some (sz,none),.int _ i =>
   match x with
   | .sl k xs _=>if 0 ≤ i ∧ k = sz then (xs[i.toNat]?).map fun e=>.iptr e.cells 0 else none
   | .osl id off len _ k=>if 0 ≤ i ∧ i < len ∧ k = sz then some (.ptr id (off + i.toNat * sz)) else none
   | _=>none
 | some (sz,some n),.int _ i =>
   match x with
   | .ptr id off=>if 0 ≤ i ∧ i < n then some (.ptr id (off + i.toNat * sz)) else none
   | .iptr cs off=>if 0 ≤ i ∧ i < n then some (.iptr cs (off + i.toNat * sz)) else none
   | _=>none
 | _,_=>none
theorem add_spot (b o j:Nat):Addr.add ⟨b,o,none⟩ j = ⟨b,o + j,none⟩:=by
 unfold Addr.add
 split
 · rename_i e; subst e; rfl
 · rfl
theorem add_spot' {a:Addr} (h:a.spot = none) (j:Nat):a.add j = ⟨a.block,a.off + j,none⟩:=by
 cases a
 simp at h
 subst h
 exact add_spot _ _ _
section
variable {P:Program} {n:Nat} {r:Nat → Nat × Nat} {F:Frz} {w:World}
theorem fieldAddr_sound {t:TypeId} {i:Nat} {x y:AVal} {v:Value} (hr:Rep n r F x v) (h:afieldAddr (tf P t i) x = some y) :
   ∃ u,(Instr.fieldAt t v i).run P w = .ok u w ∧ Rep n r F y u:=by
 cases hq:tf P t i with
 | none=>rw [hq] at h; unfold afieldAddr at h; split at h <;> simp_all
 | some q =>
   obtain ⟨o,sz,g⟩:=q
   rw [hq] at h
   obtain ⟨fs,f,inf,h1,h2,h3,h4,h5,_⟩:=tf_spec hq
   subst h4
   cases hr with
   | ptr id off hid =>
     simp only [afieldAddr] at h
     split at h
     · cases h
     · rename_i hz
       injection h with h
       subst h
       exact ⟨_,by simp [Instr.fieldAt,run_underlying h1,h2,Instr.sureAddr,fieldPlace,run_sizeOf' h3,h5,hz,add_spot],.ptr id _ hid⟩
   | iptr cs off b o val hs hF hrep =>
     simp only [afieldAddr] at h
     split at h
     · cases h
     · rename_i hz
       injection h with h
       subst h
       refine ⟨_,by simp [Instr.fieldAt,run_underlying h1,h2,Instr.sureAddr,fieldPlace,run_sizeOf' h3,h5,hz,add_spot]; rfl,?_⟩
       rw [Nat.add_assoc]
       exact .iptr cs _ b o val hs hF hrep
   | tree x v ht=>cases ht <;> simp [afieldAddr] at h
   | undef=>simp [afieldAddr] at h
   | osl=>simp [afieldAddr] at h
   | osl0=>simp [afieldAddr] at h
   | fn=>simp [afieldAddr] at h
   | tup=>simp [afieldAddr] at h
   | mix=>simp [afieldAddr] at h
theorem Rep.int_inv {k:IntKind} {i:Int} {v:Value} (h:Rep n r F (.int k i) v):v = .int k i:=by
 cases h with
 | tree x v h=>cases h; rfl
theorem Rep.bool_inv {b:Bool} {v:Value} (h:Rep n r F (.bool b) v):v = .bool b:=by
 cases h with
 | tree x v h=>cases h; rfl
theorem indexAddr_sound {t:TypeId} {x i y:AVal} {v vi:Value} (hr:Rep n r F x v) (hri:Rep n r F i vi) (h:aindexAddr (te P t) x i = some y) :
   ∃ u,(Instr.indexAt t v vi).run P w = .ok u w ∧ Rep n r F y u:=by
 unfold aindexAddr at h
 split at h
 · rename_i sz kd i' hq
   obtain ⟨e,inf,h1,h2,h3⟩:=te_spec hq
   simp only at h3
   have:=hri.int_inv
   subst this
   split at h
   · rename_i k xs m
     split at h
     · rename_i hc
       obtain ⟨hi,hk⟩:=hc
       rw [Option.map_eq_some_iff] at h
       obtain ⟨el,hel,h⟩:=h
       subst h
       cases hr with
       | tree _ _ ht =>
         cases ht with
         | slnil=>simp at hel
         | sl _ _ _ ad len cap val hl hcap hspot hkp hm hx hs hF hrep =>
           have hlt:i'.toNat < xs.length:=(List.getElem?_eq_some_iff.1 hel).1
           refine ⟨.pointer (some (ad.add (i'.toNat * sz))),?_,?_⟩
           · have hb:0 ≤ i' ∧ i' < len:=⟨hi,by omega⟩
             simp [Instr.indexAt,asIntOf,run_underlying h3,hb,run_sizeOf' h1,h2]
           · rw [add_spot' (hspot (by intro e; subst e; simp at hlt))]
             have hl':el.cells.length = k:=hx el (List.mem_of_getElem? hel)
             have key:i'.toNat * k + k ≤ len * k:=by
               have:(i'.toNat + 1) * k ≤ len * k:=Nat.mul_le_mul_right k (by omega)
               rwa [Nat.succ_mul] at this
             have:=Rep.iptr (n:=n) (r:=r) (F:=F) el.cells 0 ad.block (ad.off + i'.toNat * sz) (fun j=>val (i'.toNat * k + j)) (hs el (List.mem_of_getElem? hel))
               (fun j hj=>by rw [← hk,Nat.add_assoc]; exact hF _ (by omega)) (fun j c hc=>hrep _ _ _ _ hel hc)
             simpa using this
     · cases h
   · rename_i id off len cap k
     split at h
     · rename_i hc
       obtain ⟨hi,hlt,hk⟩:=hc
       injection h with h
       subst h
       cases hr with
       | osl0=>omega
       | osl _ _ _ _ _ _ hid hcap _ _ =>
         refine ⟨.pointer (some (Addr.add ⟨(r id).1,off,none⟩ (i'.toNat * sz))),?_,?_⟩
         · have hb:0 ≤ i' ∧ i' < len:=⟨hi,by omega⟩
           simp [Instr.indexAt,asIntOf,run_underlying h3,hb,run_sizeOf' h1,h2]
         · rw [add_spot]; exact .ptr id _ hid
       | tree _ _ ht=>cases ht
     · cases h
   · cases h
 · rename_i sz nn kd i' hq
   obtain ⟨e,inf,h1,h2,h3⟩:=te_spec hq
   simp only at h3
   have:=hri.int_inv
   subst this
   split at h
   · rename_i id off
     split at h
     · rename_i hc
       injection h with h
       subst h
       cases hr with
       | ptr _ _ hid =>
         refine ⟨.pointer (some (Addr.add ⟨(r id).1,off,none⟩ (i'.toNat * sz))),?_,?_⟩
         · simp [Instr.indexAt,asIntOf,run_underlying h3,hc,run_sizeOf' h1,h2,Instr.sureAddr]
         · rw [add_spot]; exact .ptr id _ hid
       | tree _ _ ht=>cases ht
     · cases h
   · rename_i cs off
     split at h
     · rename_i hc
       injection h with h
       subst h
       cases hr with
       | iptr _ _ b o val hs hF hrep =>
         refine ⟨.pointer (some (Addr.add ⟨b,o + off,none⟩ (i'.toNat * sz))),?_,?_⟩
         · simp [Instr.indexAt,asIntOf,run_underlying h3,hc,run_sizeOf' h1,h2,Instr.sureAddr]
         · rw [add_spot,Nat.add_assoc]; exact .iptr cs _ b o val hs hF hrep
       | tree _ _ ht=>cases ht
     · cases h
   · cases h
 · cases h
def abnd:Option AVal → Nat → Option Nat
 | none,d=>some d
 | some (.int _ i),d=>if 0 ≤ i ∧ i ≤ d then some i.toNat else none
 | _,_=>none
def albnd:Option AVal → Nat → Option Nat
 | none,_=>some 0
 | some y,d=>abnd (some y) d
def aslice (q:Option (Nat × Option Nat)) (x:AVal) (lo hi mx:Option AVal):Option AVal :=
 match q,x with
 | some (sz,none),.sl k xs m =>
   if k = sz ∨ xs = [] then
     match mx with
     | none=>(abnd hi xs.length).bind fun h=>(albnd lo h).bind fun l=>if l = 0 ∨ (lo.isSome = true) then
         some (.sl k ((xs.take h).drop l) (if m = .full ∧ h = xs.length then .full else .sh)) else none
     | some _=>(abnd mx xs.length).bind fun c=>if hi.isSome = true then (abnd hi c).bind fun h=>(albnd lo h).bind fun l=>if l = 0 ∨ (lo.isSome = true) then
         some (.sl k ((xs.take h).drop l) (if h = c then .full else .sh)) else none else none
   else none
 | some (sz,none),.osl id off len cap k =>
   if k = sz then
     match mx with
     | none=>(match hi with | none=>some len | some _=>abnd hi (cap.getD len)).bind fun h=>(albnd lo h).bind fun l=>if l = 0 ∨ (lo.isSome = true) then
         some (.osl id (off + l * k) (h - l) (cap.map (· - l)) k) else none
     | some _=>if hi.isSome = true then (abnd mx (cap.getD len)).bind fun c=>(abnd hi c).bind fun h=>(albnd lo h).bind fun l=>if l = 0 ∨ (lo.isSome = true) then
         some (.osl id (off + l * k) (h - l) (some (c - l)) k) else none else none
   else none
 | _,_=>none
theorem bound_sound {x:Option AVal} {vx:Option Value} {d l:Nat} (hx:x = none ↔ vx = none) (hr:∀ y v,x = some y → vx = some v → Rep n r F y v) (h:abnd x d = some l) :
   (x = none ∧ vx = none ∧ l = d) ∨ ∃ v,vx = some v ∧ x.isSome = true ∧ (∀ c D,d ≤ D → (Instr.sliceBound v D c).run P w = .ok l w) ∧ l ≤ d:=by
 cases x with
 | none=>unfold abnd at h; injection h with h; exact .inl ⟨rfl,hx.1 rfl,h.symm⟩
 | some y =>
   cases vx with
   | none=>exact absurd (hx.2 rfl) (by simp)
   | some v =>
     refine .inr ⟨v,rfl,rfl,?_⟩
     unfold abnd at h
     split at h
     · rename_i e; cases e
     · rename_i kd i e
       injection e with e
       subst e
       split at h
       · rename_i hc
         injection h with h
         have:=(hr _ v rfl rfl).int_inv
         subst this
         refine ⟨fun c D hD=>?_,by omega⟩
         have hc':0 ≤ i ∧ i ≤ D:=by omega
         simp [Instr.sliceBound,asIntOf,hc',h]
       · cases h
     · cases h
theorem lbound_sound {x:Option AVal} {vx:Option Value} {d l:Nat} (hx:x = none ↔ vx = none) (hr:∀ y v,x = some y → vx = some v → Rep n r F y v) (h:albnd x d = some l) :
   (x = none ∧ vx = none ∧ l = 0) ∨ ∃ v,vx = some v ∧ x.isSome = true ∧ (∀ c D,d ≤ D → (Instr.sliceBound v D c).run P w = .ok l w) ∧ l ≤ d:=by
 cases x with
 | none=>simp only [albnd] at h; injection h with h; exact .inl ⟨rfl,hx.1 rfl,h.symm⟩
 | some y =>
   rcases bound_sound (P:=P) (w:=w) hx hr h with ⟨e,_⟩ | e
   · cases e
   · exact .inr e
theorem RepT.sub {k:Nat} {xs:List AVal} {mm m':Mode} {v:Value} (hr:RepT F (.sl k xs mm) v) (l h mx sz:Nat) (hk:k = sz ∨ xs = []) (hl:l ≤ h) (hh:h ≤ xs.length)
   (hm:∀ a len cap,v = .slice (some a) len cap → h ≤ mx) (hmc:∀ a len cap,v = .slice (some a) len cap → m' = .full → mx = h) :
   ∀ a len cap,v = .slice (some a) len cap → RepT F (.sl k ((xs.take h).drop l) m') (.slice (some (if mx = l then a else a.add (l * sz))) (h - l) (mx - l)):=by
 intro a len cap hv
 cases hr with
 | slnil=>cases hv
 | sl _ _ _ ad len' cap' val hlen hcap hspot hkp hmm hx hs hF hrep =>
   injection hv with h1 h2 h3
   injection h1 with h1
   subst h1 h2 h3
   have hmx:=hm _ _ _ rfl
   have hlen2:((xs.take h).drop l).length = h - l:=by simp only [List.length_drop,List.length_take]; omega
   by_cases he:h - l = 0
   · clear hrep
     have hnil:(xs.take h).drop l = []:=List.eq_nil_of_length_eq_zero (by omega)
     rw [hnil,he]
     refine .sl k [] m' _ 0 _ (fun _=>undef) rfl (by omega) (fun e=>(e rfl).elim) (by simp) (fun e=>?_) (by simp) (by simp) (by simp) (by simp)
     have:=hmc ad len' cap' rfl e; omega
   · have hne:mx ≠ l:=by omega
     have hspot:=hspot (by intro e; subst e; simp at hh; omega)
     rw [if_neg hne,add_spot' hspot]
     have hk':k = sz:=by
       rcases hk with hk | hk
       · exact hk
       · subst hk; simp at hh; omega
     subst hk'
     have hsub:∀ (i:Nat) (x:AVal),((xs.take h).drop l)[i]? = some x → xs[l + i]? = some x:=by
       intro i x e
       simp only [List.getElem?_drop,List.getElem?_take] at e
       split at e
       · exact e
       · cases e
     refine .sl k _ m' _ _ _ (fun j=>val (l * k + j)) hlen2.symm (by omega) (fun _=>rfl) (fun _=>hkp (by intro e; subst e; simp at hh; omega)) (fun e=>?_) ?_ ?_ ?_ ?_
     · have:=hmc _ _ _ rfl e; omega
     · intro x hx'
       obtain ⟨i,hi⟩:=List.getElem?_of_mem hx'
       exact hx x (List.mem_of_getElem? (hsub i x hi))
     · intro x hx'
       obtain ⟨i,hi⟩:=List.getElem?_of_mem hx'
       exact hs x (List.mem_of_getElem? (hsub i x hi))
     · intro j hj
       show F ad.block (ad.off + l * k + j) = some (val (l * k + j))
       rw [Nat.add_assoc]
       refine hF _ ?_
       have:l * k + (h - l) * k = h * k:=by rw [← Nat.add_mul]; congr 1; omega
       have h2:h * k ≤ len' * k:=Nat.mul_le_mul_right k (by omega)
       omega
     · intro i j x c hi hj
       have:=hrep _ j x c (hsub i x hi) hj
       rwa [Nat.add_mul,Nat.add_assoc] at this
theorem run_slice {t e:TypeId} {inf:TypeInfo} {sz:Nat} (h3:P.underlying t = some (.slice e)) (h1:P.info? e = some inf) (h2:inf.size = sz) (a:Option Addr) (len cap:Nat) (vlo vhi:Option Value) (l hh:Nat)
   (Hhi:(vhi = none ∧ hh = len) ∨ ∃ v,vhi = some v ∧ ∀ c,(Instr.sliceBound v cap c).run P w = .ok hh w)
   (Hlo:(vlo = none ∧ l = 0) ∨ ∃ v,vlo = some v ∧ ∀ c,(Instr.sliceBound v hh c).run P w = .ok l w) :
   (Instr.sliceAt t (.slice a len cap) vlo vhi none).run P w = .ok (.slice (if cap = l then a else a.map (·.add (l * sz))) (hh - l) (cap - l)) w:=by
 have hund:(underlying t).run P w = .ok (.slice e) w:=run_underlying h3 w
 rcases Hhi with ⟨rfl,rfl⟩ | ⟨v,rfl,hv⟩ <;> rcases Hlo with ⟨rfl,rfl⟩ | ⟨u,rfl,hu⟩
 · simp [Instr.sliceAt,hund,Instr.slice,Instr.sliceBounds,run_sizeOf' h1,h2]
 · simp [Instr.sliceAt,hund,Instr.slice,Instr.sliceBounds,run_sizeOf' h1,h2,hu]
 · simp [Instr.sliceAt,hund,Instr.slice,Instr.sliceBounds,run_sizeOf' h1,h2,hv]
 · simp [Instr.sliceAt,hund,Instr.slice,Instr.sliceBounds,run_sizeOf' h1,h2,hv,hu]
theorem run_slice3 {t e:TypeId} {inf:TypeInfo} {sz:Nat} (h3:P.underlying t = some (.slice e)) (h1:P.info? e = some inf) (h2:inf.size = sz) (a:Option Addr) (len cap:Nat) (vlo:Option Value) (vh vm:Value) (l hh mm:Nat)
   (Hm:∀ c,(Instr.sliceBound vm cap c).run P w = .ok mm w) (Hhi:∀ c,(Instr.sliceBound vh mm c).run P w = .ok hh w)
   (Hlo:(vlo = none ∧ l = 0) ∨ ∃ v,vlo = some v ∧ ∀ c,(Instr.sliceBound v hh c).run P w = .ok l w) :
   (Instr.sliceAt t (.slice a len cap) vlo (some vh) (some vm)).run P w = .ok (.slice (if mm = l then a else a.map (·.add (l * sz))) (hh - l) (mm - l)) w:=by
 have hund:(underlying t).run P w = .ok (.slice e) w:=run_underlying h3 w
 rcases Hlo with ⟨rfl,rfl⟩ | ⟨u,rfl,hu⟩
 · simp [Instr.sliceAt,hund,Instr.slice,Instr.sliceBounds,run_sizeOf' h1,h2,Hm,Hhi]
 · simp [Instr.sliceAt,hund,Instr.slice,Instr.sliceBounds,run_sizeOf' h1,h2,Hm,Hhi,hu]
theorem slice_sound {t:TypeId} {x y:AVal} {v:Value} {lo hi mx:Option AVal} {vlo vhi vmx:Option Value} (hr:Rep n r F x v)
   (elo:lo = none ↔ vlo = none) (ehi:hi = none ↔ vhi = none) (emx:mx = none ↔ vmx = none)
   (hlo:∀ y v,lo = some y → vlo = some v → Rep n r F y v) (hhi:∀ y v,hi = some y → vhi = some v → Rep n r F y v) (hmx:∀ y v,mx = some y → vmx = some v → Rep n r F y v)
   (h:aslice (te P t) x lo hi mx = some y):∃ u,(Instr.sliceAt t v vlo vhi vmx).run P w = .ok u w ∧ Rep n r F y u ∧ y.isOwn = false:=by
 unfold aslice at h
 split at h
 case h_3=>cases h
 case h_2 =>
   rename_i sz id off len cap k hq
   obtain ⟨e,inf,h1,h2,h3⟩:=te_spec hq
   simp only at h3
   split at h
   case isFalse=>cases h
   rename_i hk
   subst hk
   split at h
   case h_2 =>
     rename_i my
     split at h
     case isFalse=>cases h
     rename_i his
     simp only [Option.bind_eq_some_iff] at h
     obtain ⟨cm,hb0,hh,hb1,l,hb2,h⟩:=h
     split at h
     case isFalse=>cases h
     rename_i hl0
     injection h with h
     subst h
     obtain ⟨ad,c,hv,hlc,hcapc,hroom,hfin⟩:∃ (ad:Option Addr) (c:Nat),v = .slice ad len c ∧ len ≤ c ∧ (∀ c',cap = some c' → c = c') ∧ (c = 0 ∨ ad = some ⟨(r id).1,off,none⟩ ∧ off + c * k ≤ (r id).2) ∧ id < n:=by
       cases hr with
       | tree _ _ ht=>cases ht
       | osl _ _ _ _ _ c hid hc hcap hroom=>exact ⟨_,c,rfl,hc,hcap,.inr ⟨rfl,hroom⟩,hid⟩
       | osl0 _ _ _ _ a hid hc=>exact ⟨a,0,rfl,Nat.le_refl _,fun c' e=>by rcases hc with hc | hc <;> rw [hc] at e <;> cases e; rfl,.inl rfl,hid⟩
     subst hv
     have hlo0:lo = none → l = 0:=fun e=>by
       rcases hl0 with hl0 | hl0
       · exact hl0
       · rw [e] at hl0; cases hl0
     have hcd:cap.getD len ≤ c:=by
       cases cap with
       | none=>exact hlc
       | some c'=>have:=hcapc c' rfl; simp; omega
     obtain ⟨vm,rfl,H0,h0⟩:∃ vm,vmx = some vm ∧ (∀ c',(Instr.sliceBound vm c c').run P w = .ok cm w) ∧ cm ≤ c:=by
       rcases bound_sound (P:=P) (w:=w) emx hmx hb0 with ⟨e1,e2,e3⟩ | ⟨vm,e1,e2,e3,e4⟩
       · cases e1
       · exact ⟨vm,e1,fun c'=>e3 c' c hcd,by omega⟩
     obtain ⟨vh,rfl,H1,H2⟩:∃ vh,vhi = some vh ∧ (∀ c',(Instr.sliceBound vh cm c').run P w = .ok hh w) ∧ hh ≤ cm:=by
       rcases bound_sound (P:=P) (w:=w) ehi hhi hb1 with ⟨e1,e2,e3⟩ | ⟨vh,e1,e2,e3,e4⟩
       · rw [e1] at his; cases his
       · exact ⟨vh,e1,fun c'=>e3 c' cm (Nat.le_refl _),e4⟩
     have H3:((vlo = none ∧ l = 0) ∨ ∃ v,vlo = some v ∧ ∀ c',(Instr.sliceBound v hh c').run P w = .ok l w) ∧ l ≤ hh:=by
       rcases lbound_sound (P:=P) (w:=w) elo hlo hb2 with ⟨f1,f2,f3⟩ | ⟨vl,f1,f2,f3,f4⟩
       · exact ⟨.inl ⟨f2,hlo0 f1⟩,by omega⟩
       · exact ⟨.inr ⟨vl,f1,fun c=>f3 c hh (Nat.le_refl _)⟩,f4⟩
     obtain ⟨H3,H4⟩:=H3
     refine ⟨_,run_slice3 h3 h1 h2 ad len c vlo vh vm l hh cm H0 H1 H3,?_,rfl⟩
     by_cases hcl:cm = l
     · have e1:hh - l = 0:=by omega
       have e2:cm - l = 0:=by omega
       rw [e1,e2]
       exact .osl0 _ _ _ _ _ hfin (.inr rfl)
     · rw [if_neg hcl]
       rcases hroom with hroom | ⟨ha,hroom⟩
       · omega
       · subst ha
         simp only [Option.map_some,add_spot]
         refine .osl _ _ _ _ _ _ hfin (by omega) (fun c' e=>by injection e) ?_
         have h1:l * k + (cm - l) * k = cm * k:=by rw [← Nat.add_mul]; congr 1; omega
         have h2:cm * k ≤ c * k:=Nat.mul_le_mul_right k h0
         omega
   have hvm:vmx = none:=emx.1 rfl
   subst hvm
   simp only [Option.bind_eq_some_iff] at h
   obtain ⟨hh,hb1,l,hb2,h⟩:=h
   split at h
   case isFalse=>cases h
   rename_i hl0
   injection h with h
   subst h
   obtain ⟨ad,c,hv,hlc,hcapc,hroom,hfin⟩:∃ (ad:Option Addr) (c:Nat),v = .slice ad len c ∧ len ≤ c ∧ (∀ c',cap = some c' → c = c') ∧ (c = 0 ∨ ad = some ⟨(r id).1,off,none⟩ ∧ off + c * k ≤ (r id).2) ∧ id < n:=by
     cases hr with
     | tree _ _ ht=>cases ht
     | osl _ _ _ _ _ c hid hc hcap hroom=>exact ⟨_,c,rfl,hc,hcap,.inr ⟨rfl,hroom⟩,hid⟩
     | osl0 _ _ _ _ a hid hc=>exact ⟨a,0,rfl,Nat.le_refl _,fun c' e=>by rcases hc with hc | hc <;> rw [hc] at e <;> cases e; rfl,.inl rfl,hid⟩
   subst hv
   have hlo0:lo = none → l = 0:=fun e=>by
     rcases hl0 with hl0 | hl0
     · exact hl0
     · rw [e] at hl0; cases hl0
   have hcd:cap.getD len ≤ c:=by
     cases cap with
     | none=>exact hlc
     | some c'=>have:=hcapc c' rfl; simp; omega
   have H1:((vhi = none ∧ hh = len) ∨ ∃ v,vhi = some v ∧ ∀ c',(Instr.sliceBound v c c').run P w = .ok hh w) ∧ hh ≤ c:=by
     cases hhe:hi with
     | none =>
       rw [hhe] at hb1
       simp only [Option.some.injEq] at hb1
       exact ⟨.inl ⟨ehi.1 hhe,hb1.symm⟩,by omega⟩
     | some y =>
       rw [hhe] at hb1 ehi hhi
       rcases bound_sound (P:=P) (w:=w) ehi hhi hb1 with ⟨e1,e2,e3⟩ | ⟨vh,e1,e2,e3,e4⟩
       · cases e1
       · exact ⟨.inr ⟨vh,e1,fun c'=>e3 c' c hcd⟩,by omega⟩
   obtain ⟨H1,H2⟩:=H1
   have H3:((vlo = none ∧ l = 0) ∨ ∃ v,vlo = some v ∧ ∀ c',(Instr.sliceBound v hh c').run P w = .ok l w) ∧ l ≤ hh:=by
     rcases lbound_sound (P:=P) (w:=w) elo hlo hb2 with ⟨f1,f2,f3⟩ | ⟨vl,f1,f2,f3,f4⟩
     · exact ⟨.inl ⟨f2,hlo0 f1⟩,by omega⟩
     · exact ⟨.inr ⟨vl,f1,fun c=>f3 c hh (Nat.le_refl _)⟩,f4⟩
   obtain ⟨H3,H4⟩:=H3
   refine ⟨_,run_slice h3 h1 h2 ad len c vlo vhi l hh H1 H3,?_,rfl⟩
   by_cases hcl:c = l
   · have e1:hh - l = 0:=by omega
     have e2:c - l = 0:=by omega
     rw [e1,e2]
     refine .osl0 _ _ _ _ _ hfin ?_
     cases cap with
     | none=>exact .inl rfl
     | some c'=>have:=hcapc c' rfl; right; simp; omega
   · rw [if_neg hcl]
     rcases hroom with hroom | ⟨ha,hroom⟩
     · omega
     · subst ha
       simp only [Option.map_some,add_spot]
       refine .osl _ _ _ _ _ _ hfin (by omega) (fun c' e=>?_) ?_
       · cases cap with
         | none=>cases e
         | some c''=>have:=hcapc c'' rfl; simp at e; omega
       · have:l * k + (c - l) * k = c * k:=by rw [← Nat.add_mul]; congr 1; omega
         omega
 rename_i sz k xs mm hq
 obtain ⟨e,inf,h1,h2,h3⟩:=te_spec hq
 simp only at h3
 split at h
 case isFalse=>cases h
 rename_i hk
 have ht:RepT F (.sl k xs mm) v:=hr.toTree rfl
 have hcapfull:∀ a len cap,v = .slice a len cap → len = xs.length ∧ len ≤ cap ∧ (mm = .full → cap = len) ∧ (a = none → len = 0 ∧ cap = 0):=by
   intro a len cap hv
   cases ht with
   | slnil=>injection hv with e1 e2 e3; subst e1 e2 e3; simp
   | sl _ _ _ ad len' cap' val hlen hcap hspot hkp hmm hx hs hF hrep=>injection hv with e1 e2 e3; subst e1 e2 e3; exact ⟨hlen,hcap,hmm,by simp⟩
 obtain ⟨a,len,cap,hv⟩:∃ a len cap,v = .slice a len cap:=by cases ht with | slnil=>exact ⟨_,_,_,rfl⟩ | sl=>exact ⟨_,_,_,rfl⟩
 obtain ⟨c1,c2,c3,c4⟩:=hcapfull _ _ _ hv
 have fin:∀ (l hh c:Nat) (m':Mode),l ≤ hh → hh ≤ xs.length → hh ≤ c → (a = none → c = 0) → (m' = .full → c = hh) →
     Rep n r F (.sl k ((xs.take hh).drop l) m') (.slice (if c = l then a else a.map (·.add (l * sz))) (hh - l) (c - l)):=by
   intro l hh c m' g1 g2 g3 g4 g5
   cases a with
   | none =>
     obtain ⟨c5,c6⟩:=c4 rfl
     have:c = 0:=g4 rfl
     have hx:xs = []:=List.eq_nil_of_length_eq_zero (by omega)
     subst hx
     have e1:hh - l = 0:=by simp at g2; omega
     have e2:c - l = 0:=by omega
     rw [e1,e2]
     have:(if c = l then (none:Option Addr) else none) = none:=by split <;> rfl
     simp only [Option.map_none,this,List.take_nil,List.drop_nil]
     exact .tree _ _ (.slnil k m')
   | some ad =>
     have:=ht.sub (m':=m') l hh c sz hk g1 g2 (fun _ _ _ _=>g3) (fun _ _ _ _ e=>g5 e) ad len cap hv
     have e:(if c = l then some ad else Option.map (fun x=>x.add (l * sz)) (some ad)) = some (if c = l then ad else ad.add (l * sz)):=by split <;> rfl
     rw [e]
     exact .tree _ _ this
 subst hv
 have hund:(underlying t).run P w = .ok (.slice e) w:=run_underlying h3 w
 have noown:∀ (c:Prop) [Decidable c],(AVal.sl k xs (if c then Mode.full else Mode.sh)).isOwn = false:=by
   intro c _; split <;> rfl
 have noown':∀ (ys:List AVal) (c:Prop) [Decidable c],(AVal.sl k ys (if c then Mode.full else Mode.sh)).isOwn = false:=by
   intro ys c _; split <;> rfl
 cases hmxe:mx with
 | none =>
   rw [hmxe] at h
   have hvm:vmx = none:=emx.1 hmxe
   simp only [Option.bind_eq_some_iff] at h
   obtain ⟨hh,hb1,l,hb2,h⟩:=h
   split at h
   case isFalse=>cases h
   rename_i hl0
   injection h with h
   subst h hvm
   have hlo0:lo = none → l = 0:=fun e=>by
     rcases hl0 with hl0 | hl0
     · exact hl0
     · rw [e] at hl0; cases hl0
   refine ⟨.slice (if cap = l then a else a.map (·.add (l * sz))) (hh - l) (cap - l),run_slice h3 h1 h2 a len cap vlo vhi l hh ?_ ?_,?_,noown' _ _⟩
   · rcases bound_sound (P:=P) (w:=w) ehi hhi hb1 with ⟨e1,e2,e3⟩ | ⟨vh,e1,e2,e3,e4⟩
     · exact .inl ⟨e2,by omega⟩
     · exact .inr ⟨vh,e1,fun c=>e3 c cap (by omega)⟩
   · rcases lbound_sound (P:=P) (w:=w) elo hlo hb2 with ⟨f1,f2,f3⟩ | ⟨vl,f1,f2,f3,f4⟩
     · exact .inl ⟨f2,hlo0 f1⟩
     · exact .inr ⟨vl,f1,fun c=>f3 c hh (Nat.le_refl _)⟩
   · have b1:hh ≤ xs.length:=by rcases bound_sound (P:=P) (w:=w) ehi hhi hb1 with ⟨e1,e2,e3⟩ | ⟨vh,e1,e2,e3,e4⟩ <;> omega
     have b2:l ≤ hh:=by
       rcases lbound_sound (P:=P) (w:=w) elo hlo hb2 with ⟨e1,e2,e3⟩ | ⟨vh,e1,e2,e3,e4⟩ <;> omega
     refine fin l hh cap _ b2 b1 (by omega) (fun e=>(c4 e).2) (fun e=>?_)
     split at e
     · rename_i hc; have:=c3 hc.1; omega
     · cases e
 | some ymx =>
   rw [hmxe] at h emx hmx
   simp only [Option.bind_eq_some_iff] at h
   obtain ⟨c,hb0,h⟩:=h
   split at h
   case isFalse=>cases h
   rename_i hhs
   simp only [Option.bind_eq_some_iff] at h
   obtain ⟨hh,hb1,l,hb2,h⟩:=h
   split at h
   case isFalse=>cases h
   rename_i hl0
   injection h with h
   subst h
   rcases bound_sound (P:=P) (w:=w) emx hmx hb0 with ⟨d1,d2,d3⟩ | ⟨vm,d1,d2,d3,d4⟩
   · cases d1
   rcases bound_sound (P:=P) (w:=w) ehi hhi hb1 with ⟨e1,e2,e3⟩ | ⟨vh,e1,e2,e3,e4⟩
   · rw [e1] at hhs; simp at hhs
   have hlo0:lo = none → l = 0:=fun e=>by
     rcases hl0 with hl0 | hl0
     · exact hl0
     · rw [e] at hl0; cases hl0
   subst d1 e1
   refine ⟨.slice (if c = l then a else a.map (·.add (l * sz))) (hh - l) (c - l),run_slice3 h3 h1 h2 a len cap vlo vh vm l hh c (fun cc=>d3 cc cap (by omega)) (fun cc=>e3 cc c (Nat.le_refl _)) ?_,?_,noown' _ _⟩
   · rcases lbound_sound (P:=P) (w:=w) elo hlo hb2 with ⟨f1,f2,f3⟩ | ⟨vl,f1,f2,f3,f4⟩
     · exact .inl ⟨f2,hlo0 f1⟩
     · exact .inr ⟨vl,f1,fun c=>f3 c hh (Nat.le_refl _)⟩
   · have b2:l ≤ hh:=by
       rcases lbound_sound (P:=P) (w:=w) elo hlo hb2 with ⟨e1,e2,e3⟩ | ⟨vh,e1,e2,e3,e4⟩ <;> omega
     refine fin l hh c _ b2 (by omega) (by omega) (fun e=>by have:=(c4 e).1; omega) (fun e=>?_)
     split at e
     · rename_i hc; exact hc.symm
     · cases e
end
end Go.Am
