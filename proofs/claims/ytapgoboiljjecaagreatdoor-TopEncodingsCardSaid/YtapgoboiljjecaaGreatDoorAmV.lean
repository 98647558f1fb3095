/- The abstract machine, part twenty-two: a contract among more variables. -/
import Derived.Test.YtapgoboiljjecaaGreatDoorAmS
import Derived.Laws.Externs
namespace Go.Am
open Go
set_option linter.unusedSectionVars false
variable [Globs]
def ren00 (ρ:Nat → Nat) (x:AVal):AVal :=
 match x with
 | .ptr id off=>.ptr (ρ id) off
 | .osl id off len cap k=>.osl (ρ id) off len cap k
 | x=>x
def ren0 (ρ:Nat → Nat) (x:AVal):AVal :=
 match x with
 | .ptr id off=>.ptr (ρ id) off
 | .osl id off len cap k=>.osl (ρ id) off len cap k
 | .mix cs=>.mix (cs.map (ren00 ρ))
 | x=>x
def ren (ρ:Nat → Nat) (x:AVal):AVal :=
 match x with
 | .fn f fs cs=>.fn f (fs.map (ren0 ρ)) (cs.map (ren0 ρ))
 | .tup vs=>.tup (vs.map (ren0 ρ))
 | x=>ren0 ρ x
section
variable {n n':Nat} {r r':Nat → Nat × Nat} {F:Frz} {ρ:Nat → Nat}
theorem ren00_rep (h1:∀ i,i < n → ρ i < n') (h2:∀ i,i < n → r' (ρ i) = r i) {x:AVal} {v:Value} (h:Rep n r F x v) (hl:low00 n x = true):Rep n' r' F (ren00 ρ x) v:=by
 cases h with
 | undef v=>exact .undef v
 | tree x v h=>cases h <;> exact .tree _ _ (by first | exact .bool _ | exact .ubool _ | exact .int _ _ | exact .nilp | exact .nilf | exact .str _ | exact .slnil _ _ | (constructor <;> assumption))
 | ptr id off h=>simp only [ren00]; rw [← h2 id h]; exact .ptr _ off (h1 id h)
 | osl id off len cap k c h hc hcap hroom=>simp only [ren00]; rw [← h2 id h] at hroom ⊢; exact .osl _ off len cap k c (h1 id h) hc hcap hroom
 | osl0 id off cap k a h hc=>exact .osl0 _ off cap k a (h1 id h) hc
 | iptr cs off b o val h1 hF h=>exact .iptr cs off b o val h1 hF h
 | fn=>simp [low00] at hl
 | tup=>simp [low00] at hl
 | mix=>simp [low00] at hl
theorem ren00_scalar {x:AVal} (h:x.scalar = true):(ren00 ρ x).scalar = true:=by
 cases x <;> first | exact h | rfl
theorem scalar_ren00 {x:AVal} (h:(ren00 ρ x).scalar = true):x.scalar = true:=by
 cases x <;> first | exact h | rfl
theorem ren0_rep (h1:∀ i,i < n → ρ i < n') (h2:∀ i,i < n → r' (ρ i) = r i) {x:AVal} {v:Value} (h:Rep n r F x v) (hl:low0 n x = true):Rep n' r' F (ren0 ρ x) v:=by
 cases h with
 | undef v=>exact .undef v
 | tree x v h=>cases h <;> exact .tree _ _ (by first | exact .bool _ | exact .ubool _ | exact .int _ _ | exact .nilp | exact .nilf | exact .str _ | exact .slnil _ _ | (constructor <;> assumption))
 | ptr id off h=>simp only [ren0]; rw [← h2 id h]; exact .ptr _ off (h1 id h)
 | osl id off len cap k c h hc hcap hroom=>simp only [ren0]; rw [← h2 id h] at hroom ⊢; exact .osl _ off len cap k c (h1 id h) hc hcap hroom
 | osl0 id off cap k a h hc=>exact .osl0 _ off cap k a (h1 id h) hc
 | iptr cs off b o val h1 hF h=>exact .iptr cs off b o val h1 hF h
 | fn=>simp [low0] at hl
 | tup=>simp [low0] at hl
 | mix cs arr hs hsc h =>
   simp only [low0,List.all_eq_true] at hl
   refine .mix _ arr (by simpa using hs) (fun y hy=>?_) (fun i x v hx hv=>?_)
   · obtain ⟨z,hz,rfl⟩:=List.mem_map.1 hy
     exact ren00_scalar (hsc z hz)
   · simp only [List.getElem?_map,Option.map_eq_some_iff] at hx
     obtain ⟨y,hy,rfl⟩:=hx
     exact ren00_rep h1 h2 (h i y v hy hv) (hl y (List.mem_of_getElem? hy))
theorem ren_rep (h1:∀ i,i < n → ρ i < n') (h2:∀ i,i < n → r' (ρ i) = r i) {x:AVal} {v:Value} (h:Rep n r F x v) (hl:low n x = true):Rep n' r' F (ren ρ x) v:=by
 cases h with
 | fn f fs cs fs' cs' hf hc h h' =>
   simp only [low,Bool.and_eq_true,List.all_eq_true] at hl
   refine .fn f _ _ fs' cs' (by simpa using hf) (by simpa using hc) (fun i x v hx hv=>?_) (fun i x v hx hv=>?_)
   · simp only [List.getElem?_map,Option.map_eq_some_iff] at hx
     obtain ⟨y,hy,rfl⟩:=hx
     exact ren0_rep h1 h2 (h i y v hy hv) (hl.1 y (List.mem_of_getElem? hy))
   · simp only [List.getElem?_map,Option.map_eq_some_iff] at hx
     obtain ⟨y,hy,rfl⟩:=hx
     exact ren0_rep h1 h2 (h' i y v hy hv) (hl.2 y (List.mem_of_getElem? hy))
 | tup vs arr hs h =>
   simp only [low,List.all_eq_true] at hl
   refine .tup _ arr (by simpa using hs) (fun i x v hx hv=>?_)
   simp only [List.getElem?_map,Option.map_eq_some_iff] at hx
   obtain ⟨y,hy,rfl⟩:=hx
   exact ren0_rep h1 h2 (h i y v hy hv) (hl y (List.mem_of_getElem? hy))
 | undef v=>exact .undef v
 | tree x v h =>
   have:=ren0_rep (n:=n) (r:=r) h1 h2 (.tree x v h) (by cases h <;> first | rfl | exact hl)
   cases h <;> exact this
 | ptr id off h=>exact ren0_rep h1 h2 (.ptr id off h) hl
 | osl id off len cap k c h hc hcap hroom=>exact ren0_rep h1 h2 (.osl id off len cap k c h hc hcap hroom) hl
 | osl0 id off cap k a h hc=>exact ren0_rep h1 h2 (.osl0 id off cap k a h hc) hl
 | iptr cs off b o val h1 hF h=>exact .iptr cs off b o val h1 hF h
 | mix cs arr hs hsc h=>exact ren0_rep h1 h2 (.mix cs arr hs hsc h) hl
theorem ren00_back (h2:∀ i,i < n → r' (ρ i) = r i) {x:AVal} {v:Value} (h:Rep n' r' F (ren00 ρ x) v) (hl:low00 n x = true):Rep n r F x v:=by
 cases x with
 | ptr id off =>
   have hid:id < n:=by simpa [low00] using hl
   simp only [ren00] at h
   cases h with
   | tree _ _ h=>cases h
   | ptr _ _ h=>rw [h2 id hid]; exact .ptr id off hid
 | osl id off len cap k =>
   have hid:id < n:=by simpa [low00] using hl
   simp only [ren00] at h
   cases h with
   | tree _ _ h=>cases h
   | osl _ _ _ _ _ c h hc hcap hroom=>rw [h2 id hid] at hroom ⊢; exact .osl id off len cap k c hid hc hcap hroom
   | osl0 _ _ _ _ a h hc=>exact .osl0 id off cap k a hid hc
 | fn=>simp [low00] at hl
 | tup=>simp [low00] at hl
 | mix=>simp [low00] at hl
 | _ =>
   simp only [ren00] at h
   cases h <;> first | exact .undef v | (exact .tree _ _ (by assumption)) | (exact .iptr _ _ _ _ _ (by assumption) (by assumption) (by assumption))
theorem ren0_back (h2:∀ i,i < n → r' (ρ i) = r i) {x:AVal} {v:Value} (h:Rep n' r' F (ren0 ρ x) v) (hl:low0 n x = true):Rep n r F x v:=by
 cases x with
 | ptr id off =>
   have hid:id < n:=by simpa [low0] using hl
   simp only [ren0] at h
   cases h with
   | tree _ _ h=>cases h
   | ptr _ _ h=>rw [h2 id hid]; exact .ptr id off hid
 | osl id off len cap k =>
   have hid:id < n:=by simpa [low0] using hl
   simp only [ren0] at h
   cases h with
   | tree _ _ h=>cases h
   | osl _ _ _ _ _ c h hc hcap hroom=>rw [h2 id hid] at hroom ⊢; exact .osl id off len cap k c hid hc hcap hroom
   | osl0 _ _ _ _ a h hc=>exact .osl0 id off cap k a hid hc
 | fn=>simp [low0] at hl
 | tup=>simp [low0] at hl
 | mix cs =>
   simp only [low0,List.all_eq_true] at hl
   simp only [ren0] at h
   cases h with
   | tree _ _ h=>cases h
   | mix _ arr hs hsc h =>
     exact .mix cs arr (by simpa using hs) (fun y hy=>scalar_ren00 (ρ:=ρ) (hsc _ (List.mem_map.2 ⟨y,hy,rfl⟩))) (fun i x v hx hv=>ren00_back h2 (h i (ren00 ρ x) v (by simp [hx]) hv) (hl x (List.mem_of_getElem? hx)))
 | _ =>
   simp only [ren0] at h
   cases h <;> first | exact .undef v | (exact .tree _ _ (by assumption)) | (exact .iptr _ _ _ _ _ (by assumption) (by assumption) (by assumption))
theorem ren_back (h2:∀ i,i < n → r' (ρ i) = r i) {x:AVal} {v:Value} (h:Rep n' r' F (ren ρ x) v) (hl:low n x = true):Rep n r F x v:=by
 cases x with
 | fn f fs cs =>
   simp only [low,Bool.and_eq_true,List.all_eq_true] at hl
   simp only [ren] at h
   cases h with
   | tree _ _ h=>cases h
   | fn _ _ _ fs' cs' hf hc h h' =>
     refine .fn f fs cs fs' cs' (by simpa using hf) (by simpa using hc) (fun i x v hx hv=>?_) (fun i x v hx hv=>?_)
     · exact ren0_back h2 (h i (ren0 ρ x) v (by simp [hx]) hv) (hl.1 x (List.mem_of_getElem? hx))
     · exact ren0_back h2 (h' i (ren0 ρ x) v (by simp [hx]) hv) (hl.2 x (List.mem_of_getElem? hx))
 | tup vs =>
   simp only [low,List.all_eq_true] at hl
   simp only [ren] at h
   cases h with
   | tree _ _ h=>cases h
   | tup _ arr hs h =>
     exact .tup vs arr (by simpa using hs) (fun i x v hx hv=>ren0_back h2 (h i (ren0 ρ x) v (by simp [hx]) hv) (hl x (List.mem_of_getElem? hx)))
 | _=>exact ren0_back h2 h hl
end
theorem ren_own {ρ:Nat → Nat} {x:AVal} (h:(ren ρ x).isOwn = true):ren ρ x = x:=by
 cases x <;> first | rfl | (simp [ren,ren0,AVal.isOwn] at h)
theorem own_ren0 {ρ:Nat → Nat} {x:AVal} (h:x.isOwn = true):ren0 ρ x = x:=by
 cases x <;> first | rfl | (simp [AVal.isOwn] at h)
noncomputable def inv (ρ:Nat → Nat) (n:Nat) (id:Nat):Option Nat:=@dite _ (∃ i,i < n ∧ ρ i = id) (Classical.propDecidable _) (fun h=>some (Classical.choose h)) (fun _=>none)
theorem inv_some {ρ:Nat → Nat} {n id i:Nat} (h:inv ρ n id = some i):i < n ∧ ρ i = id:=by
 unfold inv at h
 split at h
 · rename_i hx
   injection h with h
   rw [← h]
   exact Classical.choose_spec hx
 · cases h
theorem inv_at {ρ:Nat → Nat} {n i:Nat} (hi:i < n) (hinj:∀ i j,i < n → j < n → ρ i = ρ j → i = j):inv ρ n (ρ i) = some i:=by
 have hx:∃ j,j < n ∧ ρ j = ρ i:=⟨i,hi,rfl⟩
 unfold inv
 rw [dif_pos hx]
 have:=Classical.choose_spec hx
 rw [hinj _ _ this.1 hi this.2]
noncomputable def Gh.small (G:Gh) (ρ:Nat → Nat) (n:Nat):Gh:=⟨G.F,fun i=>G.r (ρ i),fun b=>match G.K b with
 | some (.box id)=>match inv ρ n id with
   | some i=>some (.box i)
   | none=>some .far
 | some (.cell id j)=>match inv ρ n id with
   | some i=>some (.cell i j)
   | none=>some .far
 | some _=>some .far
 | none=>none⟩
def grow (ρ:Nat → Nat) (n N:Nat) (i:Nat):Nat:=if i < n then ρ i else i - n + N
noncomputable def Gh.large (G:Gh) (w:World) (ρ:Nat → Nat) (n N:Nat) (G':Gh):Gh:=⟨G'.F,fun i=>if i < N then G.r i else G'.r (i - N + n),fun b=>@ite _ (b < w.heap.size ∧ ¬ ((G.small ρ n).Tch b)) (Classical.propDecidable _) (G.K b) (match G'.K b with
 | some (.box i)=>some (.box (grow ρ n N i))
 | some (.cell i j)=>some (.cell (grow ρ n N i) j)
 | x=>x)⟩
theorem CFun.lift {P:Program} {f:FuncId} {args:List AVal} {H0:List (List AVal)} {x:AVal} {H0':List (List AVal)} (hcf:CFun P f args H0 x H0') (ρ:Nat → Nat) {H H':List (List AVal)}
   (hρ:∀ i,i < H0.length → ρ i < H.length) (hinj:∀ i j,i < H0.length → j < H0.length → ρ i = ρ j → i = j)
   (hH:∀ (i:Nat) (cs:List AVal),H0[i]? = some cs → H[ρ i]? = some (cs.map (ren0 ρ)) ∧ cs.all (low0 H0.length) = true) (ha:args.all (low H0.length) = true)
   (e1:H'.length = H.length + (H0'.length - H0.length)) (e2:∀ (i:Nat) (cs:List AVal),H0'[i]? = some cs → H'[grow ρ H0.length H.length i]? = some (cs.map (ren0 (grow ρ H0.length H.length))) ∧ cs.all (low0 H0'.length) = true)
   (e3:∀ j,j < H.length → (∀ i,i < H0.length → ρ i ≠ j) → H'[j]? = H[j]?) (hx:low H0'.length x = true):CFun P f (args.map (ren ρ)) H (ren (grow ρ H0.length H.length) x) H':=by
 obtain ⟨hent,hcall⟩:=hcf
 refine ⟨hent,fun G w cargs hsr hnt hnr hsz hrep=>?_⟩
 let n:=H0.length
 let G1:=G.small ρ n
 have hr1:∀ i,G1.r i = G.r (ρ i):=fun _=>rfl
 have k1box:∀ {b i},G1.K b = some (.box i) → G.K b = some (.box (ρ i)) ∧ i < n:=by
   intro b i e
   simp only [G1,Gh.small] at e
   split at e
   · rename_i id hk
     split at e
     · rename_i i' hi'
       injection e with e
       injection e with e
       subst e
       obtain ⟨q1,q2⟩:=inv_some hi'
       exact ⟨by rw [hk,q2],q1⟩
     · cases e
   · split at e <;> cases e
   · cases e
   · cases e
 have k1cell:∀ {b i j},G1.K b = some (.cell i j) → G.K b = some (.cell (ρ i) j) ∧ i < n:=by
   intro b i j e
   simp only [G1,Gh.small] at e
   split at e
   · split at e <;> cases e
   · rename_i id jj hk
     split at e
     · rename_i i' hi'
       injection e with e
       injection e with e e'
       subst e e'
       obtain ⟨q1,q2⟩:=inv_some hi'
       exact ⟨by rw [hk,q2],q1⟩
     · cases e
   · cases e
   · cases e
 have tch:∀ {b},G1.Tch b → G.Tch b:=by
   rintro b (⟨i,e⟩ | ⟨i,j,e⟩)
   · exact .inl ⟨_,(k1box e).1⟩
   · exact .inr ⟨_,_,(k1cell e).1⟩
 have hsr1:SR G1 H0 w:=by
   refine ⟨hsr.frz,fun i cs hi hne=>?_,fun b hb=>?_⟩
   · have hin:i < n:=(List.getElem?_eq_some_iff.1 hi).1
     obtain ⟨g1,g2⟩:=hH i cs hi
     obtain ⟨c,T,h1,h2,h3,h4,h5⟩:=hsr.box _ _ g1 (by simpa using hne)
     refine ⟨c,T,h1,(by rw [List.length_map] at h2; exact h2),?_,h4,fun j y v hy hv=>?_⟩
     · show (match G.K (G.r (ρ i)).1 with | some (.box id)=>_ | some (.cell id j)=>_ | some _=>some Pos.far | none=>none) = _
       rw [h3]
       simp only [inv_at (n:=n) hin hinj]
     · obtain ⟨q1,q2⟩:=h5 j (ren0 ρ y) v (by simp [hy]) hv
       have hl:=List.all_eq_true.1 g2 y (List.mem_of_getElem? hy)
       refine ⟨ren0_back (r':=G.r) (fun _ _=>rfl) q1 hl,?_⟩
       by_cases ho:y.isOwn = true
       · rw [own_ren0 ho] at q2
         intro k xs ad len cap f1 f2 f3
         obtain ⟨o1,o2,o3,o4,o5⟩:=q2 k xs ad len cap f1 f2 f3
         refine ⟨?_,o2,o3,o4,o5⟩
         show (match G.K ad.block with | some (.box id)=>_ | some (.cell id j)=>_ | some _=>some Pos.far | none=>none) = _
         rw [o1]
         simp only [inv_at (n:=n) hin hinj]
       · exact OwnAt.of_not (by simpa using ho)
   · show (match G.K b with | some (.box id)=>_ | some (.cell id j)=>_ | some _=>some Pos.far | none=>none) = _
     rw [hsr.new b hb]
 have nok:∀ b,(∀ i,G1.K b ≠ some (.tmp i)) ∧ G1.K b ≠ some .ret:=by
   intro b
   constructor
   · intro i e
     simp only [G1,Gh.small] at e
     split at e
     · split at e <;> cases e
     · split at e <;> cases e
     · cases e
     · cases e
   · intro e
     simp only [G1,Gh.small] at e
     split at e
     · split at e <;> cases e
     · split at e <;> cases e
     · cases e
     · cases e
 refine (hcall G1 w cargs hsr1 (fun b i=>(nok b).1 i) (fun b=>(nok b).2) (by simpa using hsz) (fun i y v hy hv=>?_)).mono ?_
 · have:=hrep i (ren ρ y) v (by simp [hy]) hv
   exact ren_back (r':=G.r) (fun _ _=>rfl) this (List.all_eq_true.1 ha y (List.mem_of_getElem? hy))
 rintro e w' ⟨v,G',rfl,he,hs',hxr,hxo,hnt',hle⟩
 let N:=H.length
 let ρ':=grow ρ n N
 let G2:=G.large w ρ n N G'
 have hN:N ≤ H'.length:=by rw [e1]; exact Nat.le_add_right _ _
 have hρ'lt:∀ i,i < H0'.length → ρ' i < H'.length:=by
   intro i hi
   show grow ρ n N i < H'.length
   unfold grow
   split
   · rename_i h; have:=hρ i h; omega
   · rename_i h; have:n ≤ i:=by omega
     have e:=e1
     simp only [n,N] at *
     omega
 have hr2:∀ i,i < H0'.length → G2.r (ρ' i) = G'.r i:=by
   intro i hi
   show (if grow ρ n N i < N then G.r (grow ρ n N i) else G'.r (grow ρ n N i - N + n)) = G'.r i
   unfold grow
   by_cases h:i < n
   · rw [if_pos h,if_pos (hρ i h),he.rho i h]; rfl
   · rw [if_neg h,if_neg (by omega)]
     congr 1; omega
 have hroldN:∀ i,i < N → G2.r i = G.r i:=fun i hi=>if_pos hi
 have K2old:∀ b,b < w.heap.size → ¬ G1.Tch b → G2.K b = G.K b:=fun b h1 h2=>if_pos ⟨h1,h2⟩
 have K2new:∀ b,¬ (b < w.heap.size ∧ ¬ G1.Tch b) → G2.K b = (match G'.K b with | some (.box i)=>some (.box (ρ' i)) | some (.cell i j)=>some (.cell (ρ' i) j) | x=>x):=fun b h=>if_neg h
 have notold:∀ b p,G'.K b = some p → ((∃ i,p = .box i) ∨ (∃ i j,p = .cell i j) ∨ p = .ret) → ¬ (b < w.heap.size ∧ ¬ G1.Tch b):=by
   rintro b p hk hp ⟨h1,h2⟩
   have:=(he.old b h1 h2).2.1
   rw [hk] at this
   rcases hp with ⟨i,rfl⟩ | ⟨i,j,rfl⟩ | rfl
   · exact h2 (.inl ⟨i,this.symm⟩)
   · exact h2 (.inr ⟨i,j,this.symm⟩)
   · exact (nok b).2 this.symm
 have mono2:∀ {x v},Rep H0'.length G'.r G'.F x v → low H0'.length x = true → Rep H'.length G2.r G2.F (ren ρ' x) v:=fun h hl=>ren_rep hρ'lt hr2 h hl
 have mono20:∀ {x v},Rep H0'.length G'.r G'.F x v → low0 H0'.length x = true → Rep H'.length G2.r G2.F (ren0 ρ' x) v:=fun h hl=>ren0_rep hρ'lt hr2 h hl
 refine ⟨v,G2,rfl,⟨he.os,he.tape,he.output,he.size,hroldN,he.mono,fun b hb ht=>?_⟩,⟨hs'.frz,fun j cs hj hne=>?_,fun b hb=>?_⟩,mono2 hxr hx,?_,fun b i hk=>?_,hN⟩
 · have hnt1:¬ G1.Tch b:=fun t=>ht (tch t)
   obtain ⟨q1,q2,q3⟩:=he.old b hb hnt1
   exact ⟨q1,K2old b hb hnt1,q3⟩
 · have hjl:j < H'.length:=(List.getElem?_eq_some_iff.1 hj).1
   have fromCallee:∀ i,i < H0'.length → ρ' i = j → ∃ c T,w'.heap[(G2.r j).1]? = some (.cells c T (0,0)) ∧ (cs.length ≤ c.size ∧ (G2.r j).2 ≤ c.size) ∧ G2.K (G2.r j).1 = some (.box j) ∧ (∀ o,G2.F (G2.r j).1 o = none) ∧
       ∀ jj x v,cs[jj]? = some x → c[jj]? = some v → Rep H'.length G2.r G2.F x v ∧ OwnAt G2 w' (.cell j jj) x v:=by
     intro i hi e
     have hc:H0'[i]? = some H0'[i]:=List.getElem?_eq_getElem hi
     obtain ⟨q1,q2⟩:=e2 i _ hc
     have e':grow ρ H0.length H.length i = j:=e
     rw [e',hj] at q1
     injection q1 with q1
     have hcne:H0'[i] ≠ []:=by
       intro e0
       rw [e0] at q1
       exact hne q1
     obtain ⟨c,T,h1,h2,h3,h4,h5⟩:=hs'.box i _ hc hcne
     have hrr:G2.r j = G'.r i:=by rw [← e]; exact hr2 i hi
     refine ⟨c,T,by rw [hrr]; exact h1,by rw [hrr,q1]; simpa using h2,?_,fun o=>by rw [hrr]; exact h4 o,fun jj y u hy hu=>?_⟩
     · rw [hrr,K2new _ (notold _ _ h3 (.inl ⟨i,rfl⟩)),h3]
       simp only [e]
     · rw [q1] at hy
       simp only [List.getElem?_map,Option.map_eq_some_iff] at hy
       obtain ⟨z,hz,rfl⟩:=hy
       obtain ⟨p1,p2⟩:=h5 jj z u hz hu
       refine ⟨mono20 p1 (List.all_eq_true.1 q2 z (List.mem_of_getElem? hz)),?_⟩
       by_cases ho:z.isOwn = true
       · show OwnAt G2 w' (.cell j jj) (ren0 (grow ρ H0.length H.length) z) u
         rw [own_ren0 ho]
         intro k xs ad len cap f1 f2 f3
         obtain ⟨o1,o2,o3,o4,o5⟩:=p2 k xs ad len cap f1 f2 f3
         refine ⟨?_,o2,o3,o4,o5⟩
         rw [K2new _ (notold _ _ o1 (.inr (.inl ⟨i,jj,rfl⟩))),o1]
         simp only [e]
       · refine OwnAt.of_not ?_
         cases z with
         | sl=>simpa [ren0] using ho
         | _=>rfl
   by_cases hjN:j < N
   · by_cases hrange:∃ i,i < n ∧ ρ i = j
     · obtain ⟨i,hi,e⟩:=hrange
       exact fromCallee i (by have:n ≤ H0'.length:=hle; omega) (by show grow ρ n N i = j; unfold grow; rw [if_pos hi]; exact e)
     · have hnr':∀ i,i < n → ρ i ≠ j:=fun i hi e=>hrange ⟨i,hi,e⟩
       rw [e3 j hjN hnr'] at hj
       obtain ⟨c,T,h1,h2,h3,h4,h5⟩:=hsr.box j cs hj hne
       have hlt:=(Array.getElem?_eq_some_iff.1 h1).1
       have far:∀ {b p},G.K b = some p → (p = .box j ∨ ∃ jj,p = .cell j jj) → ¬ G1.Tch b:=by
         rintro b p hk hp (⟨i,e⟩ | ⟨i,jj,e⟩)
         · obtain ⟨q1,q2⟩:=k1box e
           rw [hk] at q1
           injection q1 with q1
           rcases hp with rfl | ⟨jj,rfl⟩
           · injection q1 with q1; exact hnr' i q2 q1.symm
           · cases q1
         · obtain ⟨q1,q2⟩:=k1cell e
           rw [hk] at q1
           injection q1 with q1
           rcases hp with rfl | ⟨jj',rfl⟩
           · cases q1
           · injection q1 with q1; exact hnr' i q2 q1.symm
       have hnt1:=far h3 (.inl rfl)
       obtain ⟨q1,q2,q3⟩:=he.old _ hlt hnt1
       have hrr:G2.r j = G.r j:=hroldN j hjN
       refine ⟨c,T,by rw [hrr,q1]; exact h1,by rw [hrr]; exact h2,by rw [hrr,K2old _ hlt hnt1]; exact h3,fun o=>by rw [hrr]; exact (q3 o).trans (h4 o),fun jj y u hy hu=>?_⟩
       obtain ⟨p1,p2⟩:=h5 jj y u hy hu
       refine ⟨p1.mono hN hroldN he.mono,fun k xs ad len cap f1 f2 f3=>?_⟩
       obtain ⟨o1,o2,o3,o4,c',T',o5,o6⟩:=p2 k xs ad len cap f1 f2 f3
       have hlt':=(Array.getElem?_eq_some_iff.1 o5).1
       have hnt2:=far o1 (.inr ⟨jj,rfl⟩)
       obtain ⟨z1,z2,z3⟩:=he.old _ hlt' hnt2
       exact ⟨by rw [K2old _ hlt' hnt2]; exact o1,o2,o3,fun o ho=>(z3 o).trans (o4 o ho),c',T',z1.trans o5,o6⟩
   · exact fromCallee (j - N + n) (by have:=hle; omega) (by show grow ρ n N (j - N + n) = j; unfold grow; rw [if_neg (by omega)]; omega)
 · have h1:=he.size
   rw [K2new b (fun h=>by omega),hs'.new b hb]
 · by_cases ho:x.isOwn = true
   · have hxx:ren ρ' x = x:=by cases x <;> first | rfl | (simp [AVal.isOwn] at ho)
     show OwnAt G2 w' .ret (ren ρ' x) v
     rw [hxx]
     intro k xs ad len cap f1 f2 f3
     obtain ⟨o1,o2,o3,o4,o5⟩:=hxo k xs ad len cap f1 f2 f3
     refine ⟨?_,o2,o3,o4,o5⟩
     rw [K2new _ (notold _ _ o1 (.inr (.inr rfl))),o1]
   · refine OwnAt.of_not ?_
     cases x with
     | sl=>simpa [ren,ren0] using ho
     | _=>rfl
 · by_cases hb:b < w.heap.size ∧ ¬ G1.Tch b
   · rw [K2old b hb.1 hb.2] at hk
     exact hnt b i hk
   · rw [K2new b hb] at hk
     split at hk
     · cases hk
     · cases hk
     · exact hnt' b i hk
theorem CFun.up {P:Program} {f:FuncId} {args:List AVal} {x:AVal} (h:CFun P f args [] x []) (ha:args.all (low 0) = true) (hx:low 0 x = true) (H:List (List AVal)):CFun P f (args.map (ren id)) H (ren (grow id 0 H.length) x) H :=
 h.lift id (by simp) (by simp) (by simp) (by simpa using ha) (by simp) (by simp) (fun j _ _=>rfl) hx
theorem noid0_ren {ρ:Nat → Nat} {x:AVal} (h:noid0 x = true):ren0 ρ x = x:=by
 cases x <;> first | rfl | (simp [noid0] at h)
theorem noid0_low {n:Nat} {x:AVal} (h:noid0 x = true):low0 n x = true:=by
 cases x <;> first | rfl | (simp [noid0] at h)
theorem noid_ren {ρ:Nat → Nat} {x:AVal} (h:noid x = true):ren ρ x = x:=by
 have hm:∀ l:List AVal,l.all noid0 = true → l.map (ren0 ρ) = l:=by
   intro l hl
   exact (List.map_congr_left (g:=id) fun y hy=>noid0_ren (List.all_eq_true.1 hl y hy)).trans (List.map_id l)
 cases x with
 | tup vs=>simp only [ren]; rw [hm vs h]
 | fn f fs cs=>simp only [noid,Bool.and_eq_true] at h; simp only [ren]; rw [hm fs h.1,hm cs h.2]
 | ptr=>simp [noid,noid0] at h
 | osl=>simp [noid,noid0] at h
 | mix=>simp [noid,noid0] at h
 | _=>rfl
theorem noid_low {n:Nat} {x:AVal} (h:noid x = true):low n x = true:=by
 have hm:∀ l:List AVal,l.all noid0 = true → l.all (low0 n) = true:=by
   intro l hl
   exact List.all_eq_true.2 fun y hy=>noid0_low (List.all_eq_true.1 hl y hy)
 cases x with
 | tup vs=>exact hm vs h
 | fn f fs cs=>simp only [noid,Bool.and_eq_true] at h; simp only [low,Bool.and_eq_true]; exact ⟨hm fs h.1,hm cs h.2⟩
 | ptr=>simp [noid,noid0] at h
 | osl=>simp [noid,noid0] at h
 | mix=>simp [noid,noid0] at h
 | _=>rfl
theorem CFun.up' {P:Program} {f:FuncId} {args:List AVal} {x:AVal} (h:CFun P f args [] x []) (H:List (List AVal)) (ha:args.all noid = true) (hx:noid x = true):CFun P f args H x H:=by
 have:=h.up (List.all_eq_true.2 fun y hy=>noid_low (List.all_eq_true.1 ha y hy)) (noid_low hx) H
 rw [noid_ren hx] at this
 have e:args.map (ren id) = args:=(List.map_congr_left (g:=id) fun y hy=>noid_ren (List.all_eq_true.1 ha y hy)).trans (List.map_id args)
 rwa [e] at this
theorem CFun.wk {P:Program} {f:FuncId} {args:List AVal} {H:List (List AVal)} {x:AVal} {H':List (List AVal)} (h:CFun P f args H x H') (args':List AVal) (ho:args'.all (fun x=>!x.isOwn) = true) (hl:All2 LeS args' args):CFun P f args' H x H':=by
 obtain ⟨hlen,hget⟩:=All2_get hl
 refine ⟨h.1,fun G w cargs h1 h2 h3 h4 h5=>h.2 G w cargs h1 h2 h3 (by omega) fun i y v hy hv=>?_⟩
 have hi:i < args'.length:=by
   have:=(List.getElem?_eq_some_iff.1 hy).1
   omega
 have hx:args'[i]? = some args'[i]:=List.getElem?_eq_getElem hi
 have hno:=List.all_eq_true.1 ho _ (List.getElem_mem hi)
 exact (LeS_sound (w:=w) (p:=.far) (hget i _ y hx hy) (h5 i _ v hx hv) (OwnAt.of_not (by simpa using hno))).1
theorem ren0_low1 {ρ ρ':Nat → Nat} {x:AVal} (h:low0 1 x = true) (e:ρ 0 = ρ' 0):ren0 ρ x = ren0 ρ' x:=by
 cases x with
 | ptr id off=>simp [low0] at h; subst h; simp [ren0,e]
 | osl id off len cap k=>simp [low0] at h; subst h; simp [ren0,e]
 | mix cs =>
   have hm:cs.map (ren00 ρ) = cs.map (ren00 ρ'):=List.map_congr_left fun y hy=>by
     have hy':=List.all_eq_true.1 (by simpa only [low0] using h) y hy
     cases y with
     | ptr id off=>simp [low00] at hy'; subst hy'; simp [ren00,e]
     | osl id off len cap k=>simp [low00] at hy'; subst hy'; simp [ren00,e]
     | _=>rfl
   simp only [ren0,hm]
 | _=>rfl
theorem ren_low1 {ρ ρ':Nat → Nat} {x:AVal} (h:low 1 x = true) (e:ρ 0 = ρ' 0):ren ρ x = ren ρ' x:=by
 have hm:∀ l:List AVal,l.all (low0 1) = true → l.map (ren0 ρ) = l.map (ren0 ρ'):=fun l hl=>List.map_congr_left fun y hy=>ren0_low1 (List.all_eq_true.1 hl y hy) e
 cases x with
 | tup vs=>simp only [ren]; rw [hm vs h]
 | fn f fs cs=>simp only [low,Bool.and_eq_true] at h; simp only [ren]; rw [hm fs h.1,hm cs h.2]
 | ptr id off=>exact ren0_low1 (x:=.ptr id off) h e
 | osl id off len cap k=>exact ren0_low1 (x:=.osl id off len cap k) h e
 | mix cs=>exact ren0_low1 (x:=.mix cs) h e
 | _=>rfl
theorem noid0_map {ρ:Nat → Nat} {cs:List AVal} (h:cs.all noid0 = true):cs.map (ren0 ρ) = cs :=
 (List.map_congr_left (g:=id) fun y hy=>noid0_ren (List.all_eq_true.1 h y hy)).trans (List.map_id cs)
theorem noid0_alllow {n:Nat} {cs:List AVal} (h:cs.all noid0 = true):cs.all (low0 n) = true :=
 List.all_eq_true.2 fun y hy=>noid0_low (List.all_eq_true.1 h y hy)
theorem CFun.at {P:Program} {f:FuncId} {args:List AVal} {x:AVal} {cs cs':List AVal} (h:CFun P f args [cs] x [cs']) {H:List (List AVal)} {id:Nat} (hid:H[id]? = some cs) (hcs:cs.all noid0 = true) (hcs':cs'.all noid0 = true)
   (ha:args.all (low 1) = true) (hx:low 1 x = true):CFun P f (args.map (ren fun _=>id)) H (ren (fun _=>id) x) (H.set id cs'):=by
 have hlt:id < H.length:=(List.getElem?_eq_some_iff.1 hid).1
 have:=h.lift (fun _=>id) (H:=H) (H':=H.set id cs') (fun _ _=>hlt) (fun i j hi hj _=>by simp at hi hj; omega) (fun i c hc=>?_) ha (by simp) (fun i c hc=>?_) (fun j hj hne=>?_) hx
 · rwa [ren_low1 (ρ:=grow (fun _=>id) [cs].length H.length) (ρ':=fun _=>id) hx (by simp [grow])] at this
 · cases i with
   | zero=>simp at hc; subst hc; exact ⟨by rw [noid0_map hcs]; exact hid,noid0_alllow hcs⟩
   | succ i=>simp at hc
 · cases i with
   | zero =>
     simp at hc; subst hc
     refine ⟨?_,noid0_alllow hcs'⟩
     rw [noid0_map hcs']
     simp [grow,hlt]
   | succ i=>simp at hc
 · have:=hne 0 (by simp)
   rw [List.getElem?_set]
   simp [this]
theorem CFun.upNew {P:Program} {f:FuncId} {args:List AVal} {x:AVal} {cs':List AVal} (h:CFun P f args [] x [cs']) (H:List (List AVal)) (hcs':cs'.all noid0 = true) (ha:args.all noid = true) (hx:low 1 x = true) :
   CFun P f args H (ren (fun _=>H.length) x) (H ++ [cs']):=by
 have:=h.lift id (H:=H) (H':=H ++ [cs']) (by simp) (by simp) (by simp) (List.all_eq_true.2 fun y hy=>noid_low (List.all_eq_true.1 ha y hy)) (by simp) (fun i c hc=>?_) (fun j hj _=>by rw [List.getElem?_append_left hj]) hx
 · rw [ren_low1 (ρ:=grow id ([]:List (List AVal)).length H.length) (ρ':=fun _=>H.length) hx (by simp [grow])] at this
   have e:args.map (ren id) = args:=(List.map_congr_left (g:=id) fun y hy=>noid_ren (List.all_eq_true.1 ha y hy)).trans (List.map_id args)
   rwa [e] at this
 · cases i with
   | zero =>
     simp at hc; subst hc
     refine ⟨?_,noid0_alllow hcs'⟩
     rw [noid0_map hcs']
     simp [grow]
   | succ i=>simp at hc
end Go.Am
