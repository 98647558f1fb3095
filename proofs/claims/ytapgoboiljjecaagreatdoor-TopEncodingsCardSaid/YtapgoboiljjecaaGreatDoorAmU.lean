/- The abstract machine, part twenty-one: from the contract of a law to its row. -/
import Derived.Test.YtapgoboiljjecaaGreatDoorAmT
import Derived.Below
import Derived.ChangeSame
import Derived.ReadAgain
namespace Go.Am
open Go Go.RowKit Go.WideShapes Go.ChangeShapes
set_option linter.unusedSectionVars false
variable [Globs]
def RdA (p:Bool × List CTy) (x:AVal):Prop:=∃ cs,(if p.1 = true then x = .agg cs else cs = [x]) ∧ Rds p.2 cs
def RdAs:List (Bool × List CTy) → List AVal → Prop
 | [],xs=>xs = []
 | p :: ps,xs=>∃ x r,xs = x :: r ∧ RdA p x ∧ RdAs ps r
theorem rdT_agg {P:Program} {n:Nat} {t:TypeId} {ts:List CTy} (h:rdT P n t = some (true,ts)):(∃ fs,P.underlying t = some (.struct fs)) ∨ ∃ k e,P.underlying t = some (.array k e):=by
 cases n with
 | zero=>simp [rdT] at h
 | succ n =>
   simp only [rdT] at h
   split at h
   · simp at h
   · simp at h
   · split at h
     · split at h
       · simp at h
       · cases h
     · cases h
   · rename_i fs hu; exact .inl ⟨fs,hu⟩
   · rename_i k e hu; exact .inr ⟨k,e,hu⟩
   · cases h
theorem rdT_flat {P:Program} {n:Nat} {t:TypeId} {ts:List CTy} (h:rdT P n t = some (false,ts)):P.underlying t = some .bool ∨ (∃ k,P.underlying t = some (.int k)) ∨ ∃ e,P.underlying t = some (.slice e):=by
 cases n with
 | zero=>simp [rdT] at h
 | succ n =>
   simp only [rdT] at h
   split at h
   · rename_i hu; exact .inl hu
   · rename_i k hu; exact .inr (.inl ⟨k,hu⟩)
   · rename_i e hu; exact .inr (.inr ⟨e,hu⟩)
   · split at h
     · split at h <;> simp at h
     · cases h
   · split at h
     · split at h <;> simp at h
     · cases h
   · cases h
section
variable {H:Type} {enc:TypeId × Value → H} {P:Program} {w:World} {spare:Nat → Bool} {held:Bool} [GlobOk w]
theorem arg_read {n:Nat} {t:TypeId} {p:Bool × List CTy} (hp:rdT P n t = some p) {base:Nat} {v:Value} {d:DataW H} {ps:List MemPlace} (hval:Value.okWide P w .any base t v)
   (h:DataW.Trod enc P w 0 spare held t v d ps) (hw:∀ m ∈ d.weights P t,m ≤ reachBytes):∃ x,RdA p x ∧ RepT (W0 w) x v:=by
 obtain ⟨fuel,hf⟩:=h
 obtain ⟨ag,ts⟩:=p
 obtain ⟨xs,x1,x2,x3⟩:=trod_rd n t ag ts hp fuel _ _ hf hw
 cases ag with
 | true =>
   have hv:∃ cs,v = .agg cs:=by
     rcases rdT_agg hp with ⟨fs,hu⟩ | ⟨k,e,hu⟩
     · obtain ⟨cs,h1,_⟩:=okWide_struct hu hval; exact ⟨cs,h1⟩
     · simp only [Value.okWide,hu] at hval; obtain ⟨cs,h1,_⟩:=hval; exact ⟨cs,h1⟩
   obtain ⟨cs,rfl⟩:=hv
   simp only [Value.cells] at x2 x3
   have hl:=(Rds_len x1).1
   refine ⟨.agg xs,⟨xs,by simp,x1⟩,.agg xs cs (by simp at x2; omega) (Rds_len x1).2 (fun i c u hc hu=>x3 i c u hc (by simpa using hu))⟩
 | false =>
   obtain ⟨c,rfl⟩:=rdT_one hp
   obtain ⟨y,rfl⟩:=List.length_eq_one_iff.1 (Rds_len x1).1
   have hv:v.cells = #[v]:=by
     rcases rdT_flat hp with hu | ⟨k,hu⟩ | ⟨e,hu⟩
     · obtain ⟨b,rfl⟩:=okWide_bool hu hval; rfl
     · obtain ⟨b,rfl⟩:=okWide_int hu hval; rfl
     · obtain ⟨a,l,c,rfl⟩:=okWide_slice hu hval; rfl
   exact ⟨y,⟨[y],by simp,x1⟩,x3 0 y v rfl (by rw [hv]; rfl)⟩
theorem args_read {n:Nat} {base:Nat}:∀ {ts:List TypeId} {ps:List (Bool × List CTy)} {vs:List Value} {ds:List (DataW H)} {q:List MemPlace},ts.map (rdT P n) = ps.map some → DataW.TrodAll enc P w 0 spare held ts vs ds q →
   (∀ (j:Nat) t v,ts[j]? = some t → vs[j]? = some v → Value.okWide P w .any base t v) → (∀ m ∈ DataW.weightsEach P ts ds,m ≤ reachBytes) →
   ∃ xs,RdAs ps xs ∧ vs.length = xs.length ∧ ∀ (i:Nat) (x:AVal) (v:Value),xs[i]? = some x → vs[i]? = some v → RepT (W0 w) x v:=by
 intro ts
 induction ts with
 | nil =>
   intro ps vs ds q hp h _ _
   cases ps with
   | cons=>simp at hp
   | nil =>
     cases vs with
     | cons=>cases ds <;> simp [DataW.TrodAll] at h
     | nil=>exact ⟨[],by simp [RdAs],rfl,by simp⟩
 | cons t ts ih =>
   intro ps vs ds q hp h hv hw
   cases ps with
   | nil=>simp at hp
   | cons p ps =>
     simp only [List.map_cons,List.cons.injEq] at hp
     cases vs with
     | nil=>cases ds <;> simp [DataW.TrodAll] at h
     | cons v vs =>
       cases ds with
       | nil=>simp [DataW.TrodAll] at h
       | cons d ds =>
         obtain ⟨q1,q2,h1,h2,_⟩:=h
         obtain ⟨x,r1,r2⟩:=arg_read hp.1 (hv 0 t v rfl rfl) h1 (fun m hm=>hw m (by simp [DataW.weightsEach,hm]))
         obtain ⟨xs,s1,s2,s3⟩:=ih hp.2 h2 (fun j t v a b=>hv (j + 1) t v (by simpa using a) (by simpa using b)) (fun m hm=>hw m (by simp [DataW.weightsEach,hm]))
         refine ⟨x :: xs,⟨x,xs,rfl,r1,s1⟩,by simp [s2],fun i y u hy hu=>?_⟩
         cases i with
         | zero=>simp at hy hu; subst hy hu; exact r2
         | succ i=>exact s3 i y u (by simpa using hy) (by simpa using hu)
theorem trodAll_carry {w':World}:∀ {ts:List TypeId} {vs:List Value} {ds:List (DataW H)} {ps:List MemPlace},DataW.TrodAll enc P w 0 spare held ts vs ds ps → (∀ p ∈ ps,w.sameAt w' p) → DataW.TrodAll enc P w' 0 spare held ts vs ds ps
 | [],[],[],_,h,_=>h
 | _ :: _,_ :: _,_ :: _,_,⟨p,q,⟨n,h1⟩,h2,e⟩,hs=>⟨p,q,⟨n,DataW.trod_carry n _ _ _ h1 (fun x hx=>hs x (by rw [e]; exact List.mem_append_left _ hx))⟩,trodAll_carry h2 (fun x hx=>hs x (by rw [e]; exact List.mem_append_right _ hx)),e⟩
theorem trodAll_len:∀ {ts:List TypeId} {vs:List Value} {ds:List (DataW H)} {ps:List MemPlace},DataW.TrodAll enc P w 0 spare held ts vs ds ps → ds.length = ts.length
 | [],[],[],_,_=>rfl
 | _ :: _,_ :: _,_ :: _,_,⟨_,_,_,h2,_⟩=>by simp [trodAll_len h2]
def lawB (P:Program) (fn:Func):Bool :=
 laidOutB P && mapsRowed P && ((List.range P.types.size).all fun t=>match P.underlying t with | some (.slice e)=>decide (0 < P.cellsOf e) | _=>true) && fn.params.toList.all (fun t=>decide (t < P.types.size))
theorem law_calls {f:FuncId} {fn:Func} {s:ChangeSpec} {apart fresh handsOn again:Bool} (n:Nat) (ps:List (Bool × List CTy)) (tb:TypeId) (hb:lawB P fn = true) (hps:fn.params.toList.map (rdT P n) = ps.map some)
   (hres:fn.resultTypes = #[tb]) (htb:P.underlying tb = some .bool) (hvars:s.vars = []) (hs:∀ (ds:List (DataW H)),ds.length = fn.params.size → s.fn H ds = { results:=[.lit (.bool true)],args:=ds })
   (hc:∀ xs,RdAs ps xs → CFun P f xs [] (.bool true) [])
   (W:World) [GlobOk W] (base:Nat) (args:Array Value) (ds gs:List (DataW H)) (before:List MemPlace) (hval:∀ (j:Nat) t v,fn.params[j]? = some t → args[j]? = some v → Value.okWide P W .any base t v)
   (hW:DataW.Whole enc P fn.params.toList s.vars apart W args.toList ds gs before) (hsz:(DataW.weightsEach P (fn.params.toList ++ s.plain.varTypes P) (ds ++ gs)).all (· ≤ reachBytes) = true) :
   Calls P f args W fun e W'=>∃ v,e = .returned v ∧ s.post enc P fn apart fresh handsOn again W args v W':=by
 have hW':=hW
 obtain ⟨p,q,hA,hV,rfl,hfz,hnd⟩:=hW
 rw [hvars] at hV
 have hg:gs = [] ∧ q = []:=by
   cases gs with
   | nil=>exact ⟨rfl,hV⟩
   | cons=>exact hV.elim
 obtain ⟨rfl,rfl⟩:=hg
 have hvt:s.plain.varTypes P = []:=by
   simp [ChangeSpec.plain,DataSpec.varTypes,hvars]
 rw [hvt,List.append_nil,List.append_nil] at hsz
 have hdl:=trodAll_len hA
 obtain ⟨xs,x1,x2,x3⟩:=args_read (n:=n) (base:=base) hps hA (fun j t v a b=>hval j t v (by simpa using a) (by simpa using b)) (fun m hm=>by simpa using List.all_eq_true.1 hsz m hm)
 obtain ⟨_,hcall⟩:=hc xs x1
 have hsr:SR ⟨W0 W,fun _=>(0,0),fun _=>none⟩ [] W:=⟨fun b o v h=>h,by simp,fun _ _=>rfl⟩
 refine (hcall ⟨W0 W,fun _=>(0,0),fun _=>none⟩ W args hsr (fun _ _ h=>by cases h) (fun _ h=>by cases h) (by simpa using x2) (fun i y v hy hv=>.tree _ _ (x3 i y v hy (by simpa using hv)))).mono ?_
 rintro e W' ⟨v,G',rfl,he,hs',hx,_,_,_⟩
 have hv:v = .bool true:=by
   cases hx with
   | tree _ _ h=>cases h; rfl
 subst hv
 have hbel:Below W.heap.size W W':=⟨he.os,he.tape,he.output,he.size,fun k hk=>(he.old k hk (by rintro (⟨_,e⟩ | ⟨_,_,e⟩) <;> cases e)).1⟩
 refine ⟨_,rfl,?_⟩
 have hsf:=hs ds (by rw [hdl]; simp)
 simp only [lawB,Bool.and_eq_true] at hb
 obtain ⟨⟨⟨b1,b2⟩,b3⟩,b4⟩:=hb
 simp only [List.append_nil] at hW'
 have hlt:∀ p' ∈ p,p'.block < W.heap.size:=fun p' hp'=>hW'.lt p' hp'
 have hresd:∀ (b:Nat) (sp:Nat → Bool) (hd:Bool),DataW.TrodAll enc P W' b sp hd fn.resultTypes.toList ((Value.bool true).resultList fn.resultTypes.size) (s.fn H (ds ++ [])).results []:=by
   intro b sp hd
   rw [hres,List.append_nil,hsf]
   exact ⟨[],[],shut_bool htb _,by simp [DataW.TrodAll],rfl⟩
 have hargd:∀ sp:Nat → Bool,(∀ p' ∈ p,sp p'.block = true) → DataW.TrodAll enc P W' 0 sp true fn.params.toList args.toList (s.fn H (ds ++ [])).args p:=by
   intro sp hsp
   rw [List.append_nil,hsf]
   have h1:=hA.respare (spare':=sp) (kids_rows b1 b2) (fun t e=>slices_full_of P b3 t e) (fun t ht=>by simpa using List.all_eq_true.1 b4 t ht) (fun p hp=>hsp p hp)
   exact trodAll_carry h1 (fun p' hp'=>hbel.same (hlt p' hp'))
 have hvard:∀ sp:Nat → Bool,DataW.TrodVars enc P W' sp s.vars (s.fn H (ds ++ [])).vars []:=by
   intro sp
   rw [List.append_nil,hsf,hvars]; rfl
 refine ⟨ds,[],p,[],p,[],hW',hresd _ _ _,hargd _ (fun p' hp'=>by simpa using hlt p' hp'),hvard _,World.keptBut_mono (fun p' hp'=>⟨hp',.inr (by simpa using hp')⟩) (hbel.frame (· ∈ p)),fun _=>⟨?_,_,_,([] ++ p) ++ [],
   ⟨[] ++ p,[],trodAll_append (hargd _ (fun _ _=>rfl)) (hresd _ _ _),hvard _,rfl,fun b off hp=>?_,fun ha=>?_⟩,fun p' hp' _=>by simpa using hp'⟩⟩
 · rw [hres]
   intro j t r hj hr
   cases j with
   | zero =>
     simp only [List.getElem?_toArray,List.getElem?_cons_zero,Option.some.injEq] at hj
     subst hj
     simp [Value.resultList] at hr
     subst hr
     exact okWide_bool_mk htb _
   | succ j=>simp at hj
 · have hin:MemPlace.cell b off ∈ p:=by simpa using hp
   rw [hbel.frozen (hlt _ hin)]
   exact hfz b off (by simpa using hin)
 · have:=hnd ha
   simpa using this
end
end Go.Am
