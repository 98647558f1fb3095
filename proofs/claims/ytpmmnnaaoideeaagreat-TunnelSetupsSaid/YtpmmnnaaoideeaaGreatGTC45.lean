/- What links, constraints and tunnels bring as arguments. -/
import Derived.Test.YtpmmnnaaoideeaaGreatAmU
import Derived.Test.YtpmmnnaaoideeaaGreatRows
import Derived.JoinedOf
import Derived.Test.YtpmmnnaaoideeaaGreatGTL
import Derived.Test.YtpmmnnaaoideeaaGreatGT51
import Derived.Test.YtpmmnnaaoideeaaGreatGT12
import Derived.Test.YtpmmnnaaoideeaaGreatGT1
set_option linter.unusedSimpArgs false
set_option linter.unusedVariables false
namespace Go.Proofs.YtpmmnnaaoideeaaGreat
open Go Go.Am
theorem Rds_int {k:IntKind} {ts:List CTy} {cs:List AVal} (h:Rds (.int k :: ts) cs):∃ n r,cs = .int k n :: r ∧ Rds ts r ∧ (Lit.int k n).wf = true:=by
 simp only [Rds,Rd] at h
 obtain ⟨x,r,rfl,⟨n,rfl,hn⟩,h2⟩:=h
 exact ⟨n,r,rfl,h2,hn⟩
theorem Rds_nil {cs:List AVal} (h:Rds [] cs):cs = []:=h
theorem decAll {α:Type} {enc:α → AVal}:∀ (xs:List AVal),(∀ y ∈ xs,∃ a,y = enc a) → ∃ l:List α,xs = l.map enc:=by
 intro xs
 induction xs with
 | nil=>intro _; exact ⟨[],rfl⟩
 | cons x xs ih =>
   intro h
   obtain ⟨a,rfl⟩:=h x (by simp)
   obtain ⟨l,rfl⟩:=ih fun y hy=>h y (by simp [hy])
   exact ⟨a :: l,rfl⟩
theorem Rds_sl {α:Type} {enc:α → AVal} {ag:Bool} {by_:Nat} {e ts:List CTy} {cs:List AVal} (h:Rds (.sl ag by_ e :: ts) cs) (hd:∀ y cs,(if ag = true then y = .agg cs else cs = [y]) → Rds e cs → ∃ a,y = enc a) :
   ∃ (l:List α) (r:List AVal),cs = .sl e.length (l.map enc) .sh :: r ∧ Rds ts r ∧ l.length * by_ ≤ reachBytes:=by
 simp only [Rds,Rd] at h
 obtain ⟨x,r,rfl,⟨xs,rfl,hl,hx⟩,h2⟩:=h
 obtain ⟨l,rfl⟩:=decAll (enc:=enc) xs fun y hy=>by
   obtain ⟨cs,h1,h2⟩:=hx y hy
   exact hd y cs h1 h2
 exact ⟨l,r,rfl,h2,by simpa using hl⟩
theorem wf_i64 {n:Int} (h:(Lit.int .i64 n).wf = true):inI n:=by
 simpa [Lit.wf,IntKind.min,IntKind.max,IntKind.signed,IntKind.bits,inI] using h
theorem own:ownKnob Tryz.prog.godebug = none:=by kernel_rfl
def csL:List CTy:=[.int .i64,.int .i64,.int .i64,.int .i64,.int .i64,.int .i64,.int .i64,.int .i64,.int .i64,.int .i64,.int .i64,.int .i64,.int .u32]
def tyLs:Bool × List CTy:=(false,[.sl true 104 csL])
def tyI:Bool × List CTy:=(false,[.int .i64])
theorem rd_i {x:AVal} (h:RdA tyI x):∃ n:Int,x = .int .i64 n ∧ inI n:=by
 obtain ⟨cs,h1,h2⟩:=h
 obtain ⟨n,r,rfl,h3,w⟩:=Rds_int h2
 obtain rfl:=Rds_nil h3
 simp [tyI] at h1
 exact ⟨n,h1.symm,wf_i64 w⟩
theorem reach_eq:reachBytes = 140737488351232:=by decide
theorem rdL_elem {y:AVal} {cs:List AVal} (h1:if true = true then y = .agg cs else cs = [y]) (h:Rds csL cs):∃ a:Lnk,okF a ∧ y = encL a:=by
 obtain ⟨a1,r,rfl,h,w1⟩:=Rds_int h
 obtain ⟨a2,r,rfl,h,w2⟩:=Rds_int h
 obtain ⟨a3,r,rfl,h,w3⟩:=Rds_int h
 obtain ⟨a4,r,rfl,h,w4⟩:=Rds_int h
 obtain ⟨f0,r,rfl,h,v0⟩:=Rds_int h
 obtain ⟨f1,r,rfl,h,v1⟩:=Rds_int h
 obtain ⟨f2,r,rfl,h,v2⟩:=Rds_int h
 obtain ⟨f3,r,rfl,h,v3⟩:=Rds_int h
 obtain ⟨f4,r,rfl,h,v4⟩:=Rds_int h
 obtain ⟨f5,r,rfl,h,v5⟩:=Rds_int h
 obtain ⟨f6,r,rfl,h,v6⟩:=Rds_int h
 obtain ⟨f7,r,rfl,h,v7⟩:=Rds_int h
 obtain ⟨a5,r,rfl,h,_⟩:=Rds_int h
 obtain rfl:=Rds_nil h
 refine ⟨⟨a1,a2,a3,a4,fun i=>[f0,f1,f2,f3,f4,f5,f6,f7].getD i 0,a5⟩,⟨fun k hk=>?_,wf_i64 w4⟩,by simpa [cellsL,frC,frs] using h1⟩
 match k,hk with
 | 0,_=>exact wf_i64 v0
 | 1,_=>exact wf_i64 v1
 | 2,_=>exact wf_i64 v2
 | 3,_=>exact wf_i64 v3
 | 4,_=>exact wf_i64 v4
 | 5,_=>exact wf_i64 v5
 | 6,_=>exact wf_i64 v6
 | 7,_=>exact wf_i64 v7
theorem decAllP {α:Type} {enc:α → AVal} {P:α → Prop}:∀ (xs:List AVal),(∀ y ∈ xs,∃ a,P a ∧ y = enc a) → ∃ l:List α,xs = l.map enc ∧ ∀ a ∈ l,P a:=by
 intro xs
 induction xs with
 | nil=>intro _; exact ⟨[],rfl,by simp⟩
 | cons x xs ih =>
   intro h
   obtain ⟨a,ha,rfl⟩:=h x (by simp)
   obtain ⟨l,rfl,hl⟩:=ih fun y hy=>h y (by simp [hy])
   exact ⟨a :: l,rfl,fun b hb=>by
     rcases List.mem_cons.1 hb with rfl | hb
     · exact ha
     · exact hl b hb⟩
theorem rd_Ls {x:AVal} (h:RdA tyLs x):∃ l:List Lnk,x = .sl 13 (l.map encL) .sh ∧ l.length < 9223372036854775807 ∧ ∀ a ∈ l,okF a:=by
 obtain ⟨cs,h1,h2⟩:=h
 simp only [tyLs,Rds,Rd] at h2
 obtain ⟨y,r,rfl,⟨xs,rfl,hl,hx⟩,rfl⟩:=h2
 simp [tyLs] at h1
 subst h1
 obtain ⟨l,rfl,hok⟩:=decAllP (enc:=encL) (P:=okF) xs fun y hy=>by
   obtain ⟨cs,h1,h2⟩:=hx y hy
   exact rdL_elem h1 h2
 have:=reach_eq
 simp only [List.length_map] at hl
 exact ⟨l,rfl,by omega,hok⟩
theorem dec_i {y:AVal} {cs:List AVal} (h1:if false = true then y = .agg cs else cs = [y]) (h:Rds [.int .i64] cs):∃ a,y = encI a:=by
 obtain ⟨a1,r,rfl,h,_⟩:=Rds_int h
 obtain rfl:=Rds_nil h
 simp at h1
 exact ⟨a1,h1.symm⟩
def csT:List CTy:=[.int .i64,.int .i64,.int .i64,.int .i64,.int .i64,.int .i64,.int .u32,.int .u32,.int .i64,.sl false 8 [.int .i64],.sl false 8 [.int .i64],.sl false 8 [.int .i64]]
def tyT:Bool × List CTy:=(true,csT)
def okT (t:Tun):Prop:=(inI t.ID ∧ inI t.From ∧ inI t.To) ∧ (inI t.W.Band ∧ inI t.W.Setup ∧ inI t.W.Hold) ∧ t.P.length < 9223372036854775807 ∧ t.W.Avoid.length < 9223372036854775807 ∧ t.W.Thru.length < 9223372036854775807
def tyTs:Bool × List CTy:=(false,[.sl true 136 csT])
end Go.Proofs.YtpmmnnaaoideeaaGreat

/- The law of Room, by the program. -/
namespace Go.Proofs.YtpmmnnaaoideeaaGreat
open Go Go.Am Go.Wk
def fullL (x:Lnk):Lnk:={ x with Fr:=fun _=>x.Cap }
@[simp] def encA (a:Bool × Tun):AVal:=.agg (.bool a.1 :: cellsT a.2)
theorem Inv.sm {n:Int} {l:List Lnk} {ts:List Tun} (h:Inv n l ts):∀ t ∈ ts,okTn t ∧ smT t ∧ t.P.length < 1000000:=by
 intro t ht
 have h1:=tunsE_all h.tu t ht
 have h2:=h.pl t ht
 unfold tunE at h1
 by_cases g1:conE n t.W = 0
 case neg=>rw [if_pos g1] at h1; exact absurd h1 g1
 obtain ⟨_,c2,c3,_⟩:=con_ok g1
 exact ⟨⟨by omega,by omega,by omega⟩,⟨by omega,by omega,by omega⟩,by omega⟩
theorem Inv.fr {n:Int} {l:List Lnk} {ts:List Tun} (h:Inv n l ts):∀ x ∈ l,okF x ∧ ∀ k,k < 8 → -1125899906842624 ≤ x.Fr k ∧ x.Fr k ≤ 1125899906842624:=by
 intro x hx
 obtain ⟨n1,n2,l2,lk,cn⟩:=check_links h.ck
 obtain ⟨_,_,lko⟩:=links_asc lk
 have h1:=linkE_cap (lko x hx)
 have h2:=linkE_fr (lko x hx)
 refine ⟨⟨fun k hk=>?_,?_⟩,fun k hk=>?_⟩
 · have:=h2 k hk; unfold inI; omega
 · unfold inI; omega
 · have:=h2 k hk; omega
theorem Inv.start {n:Int} {l:List Lnk} (h:checkE n l con0 = 0):Inv n (l.map fullL) []:=by
 obtain ⟨n1,n2,l2,lk,cn⟩:=check_links h
 obtain ⟨asc,_,lko⟩:=links_asc lk
 refine ⟨?_,rfl,fun i x hx k hk=>?_,by simp⟩
 · have hl:linksE n none (l.map fullL) = 0:=by
     refine links_iff (fun x hx=>?_) (List.pairwise_map.2 asc) (fun q hq=>by cases hq)
     obtain ⟨y,hy,rfl⟩:=List.mem_map.1 hx
     have hc:=linkE_cap (lko y hy)
     exact linkE_of (lko y hy) rfl rfl rfl rfl (fun k _=>⟨hc.1,Int.le_refl _⟩) (fun k _=>Int.le_refl _)
   unfold checkE
   rw [if_neg (by omega),if_neg (by rw [List.length_map]; omega),if_neg (by simpa using hl)]
   exact cn
 · rw [List.getElem?_map,Option.map_eq_some_iff] at hx
   obtain ⟨y,hy,rfl⟩:=hx
   simp [totT,fullL]
theorem tdN_sub {l:List Lnk} {ts:List Tun} {id:Int}:(tdN l ts id).2.1.Sublist ts ∧ ((tdN l ts id).2.2 = 0 → (tdN l ts id).1.length = l.length):=by
 unfold tdN
 split
 · exact ⟨List.nil_sublist _,fun h=>by cases h⟩
 · simp only
   by_cases hp:(ts.getD (idT ts id).toNat tun0).P = []
   · simp only [hp,if_true,ne_eq,not_true,if_false]
     exact ⟨List.eraseIdx_sublist _ _,fun _=>by trivial⟩
   · simp only [hp,if_false]
     by_cases g:(relN l (ts.getD (idT ts id).toNat tun0)).2 = 0
     · rw [if_neg (by simpa using g)]
       exact ⟨List.eraseIdx_sublist _ _,fun _=>by rw [(relN_some g).2.2.1,chA_len]⟩
     · rw [if_pos g]
       exact ⟨List.nil_sublist _,fun h=>absurd h g⟩
end Go.Proofs.YtpmmnnaaoideeaaGreat

/- What the reference's Setup computes is what Setup computes. No program. -/
namespace Go.Proofs.YtpmmnnaaoideeaaGreat
open Go Go.Am Go.Wk
theorem Inv.relOk {n:Int} {l:List Lnk} {a b:List Tun} {t:Tun} (h:Inv n l (a ++ t :: b)):(relN l t).2 = 0:=by
 have ok:=h.okA t (by simp)
 have hus:=ok.us
 have g1:pathE l t = 0:=by
   unfold pathE
   have q1:=ok.h0; have q2:=ok.h7; have q3:=ok.b0; have q4:=ok.b1
   rw [if_neg (by omega),if_neg]
   rw [hasB_iff]
   intro hm
   have:=(hus _ hm).1
   omega
 unfold relN
 rw [if_neg (by simpa using g1),add_yes ok.b0 (by have:=ok.h7; omega) hus]
 intro i x hx _ k k1 k2
 rw [chA_get,Option.map_eq_some_iff] at hx
 obtain ⟨y,hy,rfl⟩:=hx
 have hag:=h.ag i y hy k k2
 rw [totT_app] at hag
 simp only [totT] at hag
 have ha:=fun u (hu:u ∈ a)=>h.okA u (List.mem_append.2 (.inl hu))
 have hb:=fun u (hu:u ∈ b)=>h.okA u (by simp [hu])
 have n1:=(totT_bd ha i k).1
 have n2:=(totT_bd hb i k).1
 rw [chR_fr k1 k2,hag]
 have:oneT l t i k = t.W.Band * (cntI i (usesL l t.P):Int):=by
   unfold oneT takenF
   rw [if_pos (by have:=ok.h0; omega)]
 rw [this]
 show y.Cap - _ + _ ≤ y.Cap
 omega
def suL (vs:List Int):List Tun → List Lnk → List Lnk × List Tun
 | [],l=>(l,[])
 | x :: ts,l=>if hasB vs x.ID = true then ((suL vs ts (relN l x).1).1,noP x :: (suL vs ts (relN l x).1).2) else ((suL vs ts l).1,x :: (suL vs ts l).2)
theorem suV_suL {n:Int} (vs:List Int):∀ (ts acc:List Tun) (l:List Lnk),Inv n l (acc ++ ts) → suV vs acc ts l = ((suL vs ts l).1,acc ++ (suL vs ts l).2,0)
 | [],acc,l,_=>by simp [suV,suL]
 | x :: ts,acc,l,h=>by
   simp only [suV,suL]
   by_cases g1:hasB vs x.ID = true
   · have g2:=h.relOk
     rw [if_pos g1,if_pos g1,if_neg (by simpa using g2),suV_suL vs ts (acc ++ [noP x]) _ (by simpa using h.rel g2)]
     simp
   · rw [if_neg g1,if_neg g1,suV_suL vs ts (acc ++ [x]) l (by simpa using h)]
     simp
def insW (w:Tun):List Tun → List Tun
 | []=>[w]
 | x :: ts=>if w.ID < x.ID then w :: x :: ts else x :: insW w ts
theorem insW_insL {w:Tun}:∀ {ts:List Tun},ts.any (isID w.ID) = false → (ts.Pairwise fun a b=>a.ID < b.ID) → insW w ts = insL ts (posT w.ID ts) w
 | [],_,_=>rfl
 | x :: ts,h,ha=>by
   obtain ⟨k1,k2⟩:=List.pairwise_cons.1 ha
   simp only [List.any_cons,Bool.or_eq_false_iff,isID,decide_eq_false_iff_not] at h
   simp only [insW]
   by_cases hx:w.ID < x.ID
   · rw [if_pos hx]
     have e:posT w.ID (x :: ts) = 0:=by
       unfold posT
       rw [List.takeWhile_cons_of_neg (by simp; omega)]
       rfl
     rw [e]; rfl
   · rw [if_neg hx]
     have e:posT w.ID (x :: ts) = posT w.ID ts + 1:=by
       unfold posT
       rw [List.takeWhile_cons_of_pos (by simp; omega),List.length_cons]
     rw [e,insW_insL h.2 k2]
     unfold insL
     rw [List.take_succ_cons,List.drop_succ_cons,List.cons_append]
def rfV (vs:List Int) (w:Tun):List Tun → Bool → List Tun → List Lnk → List Lnk × List Tun × Bool
 | acc,d,[],l=>(l,acc,d)
 | acc,d,x :: ts,l=>rfV vs w ((if (!d && decide (w.ID < x.ID)) = true then acc ++ [w] else acc) ++ [if hasB vs x.ID = true then noP x else x]) (d || decide (w.ID < x.ID)) ts (if hasB vs x.ID = true then (relN l x).1 else l)
theorem rfV_eq (vs:List Int) (w:Tun):∀ (ts acc:List Tun) (d:Bool) (l:List Lnk),(rfV vs w acc d ts l).1 = (suL vs ts l).1 ∧ (if (rfV vs w acc d ts l).2.2 = true then (rfV vs w acc d ts l).2.1 else (rfV vs w acc d ts l).2.1 ++ [w]) = acc ++ (if d = true then (suL vs ts l).2 else insW w (suL vs ts l).2)
 | [],acc,d,l=>by cases d <;> simp [rfV,suL,insW]
 | x :: ts,acc,d,l=>by
   simp only [rfV]
   obtain ⟨i1,i2⟩:=rfV_eq vs w ts ((if (!d && decide (w.ID < x.ID)) = true then acc ++ [w] else acc) ++ [if hasB vs x.ID = true then noP x else x]) (d || decide (w.ID < x.ID)) (if hasB vs x.ID = true then (relN l x).1 else l)
   refine ⟨i1.trans ?_,i2.trans ?_⟩
   · simp only [suL]
     by_cases g:hasB vs x.ID = true
     · simp only [g,if_true]
     · simp only [g,if_false]; rfl
   · simp only [suL]
     by_cases g:hasB vs x.ID = true
     · simp only [g,if_true]
       cases d with
       | true=>simp
       | false =>
         by_cases hx:w.ID < x.ID
         · simp [hx,insW,noP]
         · simp [hx,insW,noP]
     · simp only [g,if_false]
       cases d with
       | true=>simp
       | false =>
         by_cases hx:w.ID < x.ID
         · simp [hx,insW]
         · simp [hx,insW]
theorem suL_ids (vs:List Int):∀ (ts:List Tun) (l:List Lnk),(suL vs ts l).2.map Tun.ID = ts.map Tun.ID
 | [],_=>rfl
 | x :: ts,l=>by
   simp only [suL]
   by_cases g:hasB vs x.ID = true
   · simp [g,suL_ids vs ts,noP]
   · simp [g,suL_ids vs ts]
def rf2 (l:List Lnk) (ts:List Tun) (w:Tun) (p vs:List Int):List Lnk × List Tun × List Int × Int :=
 if (resN (rfV vs (wP w p) [] false ts l).1 (wP w p)).2 ≠ 0 then ([],[],[],(resN (rfV vs (wP w p) [] false ts l).1 (wP w p)).2)
 else ((resN (rfV vs (wP w p) [] false ts l).1 (wP w p)).1,(if (rfV vs (wP w p) [] false ts l).2.2 = true then (rfV vs (wP w p) [] false ts l).2.1 else (rfV vs (wP w p) [] false ts l).2.1 ++ [wP w p]),vs,0)
theorem rf2_eq {n:Int} {l:List Lnk} {ts:List Tun} {w:Tun} {p vs:List Int} (h:Inv n l ts) (hw:wantE n ts w = 0):rf2 l ts w p vs = su2 l ts w p vs:=by
 obtain ⟨w1,w2,w3,w4⟩:=want_parts hw
 have hs:=suV_suL vs ts [] l (by simpa using h)
 rw [List.nil_append] at hs
 obtain ⟨e1,e2⟩:=rfV_eq vs (wP w p) ts [] false l
 rw [List.nil_append] at e2
 have e2:=e2.trans (if_neg Bool.false_ne_true)
 have hids:=suL_ids vs ts l
 have hasc:=asc_of hids (tuns_iff.1 h.tu).2.1
 have hany:=any_ids hids w.ID
 rw [w2] at hany
 have e3:=insW_insL (w:=wP w p) (ts:=(suL vs ts l).2) hany hasc
 unfold rf2 su2
 rw [hs,e1,e2,e3]
 simp only [ne_eq,not_true,if_false]
 rfl
end Go.Proofs.YtpmmnnaaoideeaaGreat

/- The reference's Teardown, by the program. -/
namespace Go.Proofs.YtpmmnnaaoideeaaGreat
open Go Go.Am Go.Wk
theorem idT_cons (id:Int) (x:Tun) (ts:List Tun):idT (x :: ts) id = if x.ID = id then 0 else if idT ts id < 0 then -1 else idT ts id + 1:=by
 have hsh:∀ (ts:List Tun) (i:Nat),idxL (isID id) ts (i + 1) = if idxL (isID id) ts i < 0 then -1 else idxL (isID id) ts i + 1:=by
   intro ts
   induction ts with
   | nil=>intro i; simp [idxL]
   | cons y ts ih =>
     intro i
     simp only [idxL]
     split
     · rw [if_neg (by omega)]; simp
     · exact ih (i + 1)
 show (if isID id x = true then ((0:Nat):Int) else idxL (isID id) ts (0 + 1)) = _
 by_cases hx:x.ID = id
 · rw [if_pos (by simpa [isID] using hx),if_pos hx]; rfl
 · rw [if_neg (by simpa [isID] using hx),if_neg hx,hsh ts 0]; rfl
def rtN (id:Int):List Tun → List Tun → List Lnk → List Lnk × List Tun × Int
 | _,[],_=>([],[],6)
 | acc,x :: ts,l=>if x.ID ≠ id then rtN id (acc ++ [x]) ts l else
   if x.P = [] then (l,acc ++ ts,0) else if (relN l x).2 ≠ 0 then ([],[],(relN l x).2) else ((relN l x).1,acc ++ ts,0)
theorem tdN_err {l:List Lnk} {ts:List Tun} {id:Int} (h:(tdN l ts id).2.2 ≠ 0):(tdN l ts id).2.1 = []:=by
 unfold tdN at h ⊢
 by_cases g:idT ts id < 0
 · rw [if_pos g]
 rw [if_neg g] at h ⊢
 simp only at h ⊢
 generalize (if (ts.getD (idT ts id).toNat tun0).P = [] then (l,0) else relN l (ts.getD (idT ts id).toNat tun0)) = q at h ⊢
 by_cases gq:q.2 = 0
 · simp [gq] at h
 · rw [if_pos gq]
theorem rtN_eq (id:Int) (l:List Lnk):∀ (ts acc:List Tun),rtN id acc ts l = ((tdN l ts id).1,(if (tdN l ts id).2.2 = 0 then acc ++ (tdN l ts id).2.1 else []),(tdN l ts id).2.2)
 | [],acc=>by simp [rtN,tdN,idT,idxL]
 | x :: ts,acc=>by
   simp only [rtN]
   by_cases hx:x.ID = id
   · have e:idT (x :: ts) id = 0:=by rw [idT_cons,if_pos hx]
     have et:tdN l (x :: ts) id = if (if x.P = [] then (l,0) else relN l x).2 ≠ 0 then ([],[],(if x.P = [] then (l,0) else relN l x).2) else ((if x.P = [] then (l,0) else relN l x).1,ts,0):=by
       unfold tdN
       rw [e,if_neg (by omega)]
       rfl
     rw [if_neg (by simpa using hx),et]
     by_cases hp:x.P = []
     · simp [hp]
     · rw [if_neg hp,if_neg hp]
       by_cases g:(relN l x).2 = 0
       · simp [g]
       · simp [g]
   · rw [if_pos hx,rtN_eq id l ts]
     have e:idT (x :: ts) id = if idT ts id < 0 then -1 else idT ts id + 1:=by rw [idT_cons,if_neg hx]
     by_cases g:idT ts id < 0
     · have e1:tdN l ts id = ([],[],6):=by unfold tdN; rw [if_pos g]
       have e2:tdN l (x :: ts) id = ([],[],6):=by unfold tdN; rw [e,if_pos g,if_pos (by omega)]
       rw [e1,e2]
       simp
     · rw [if_neg g] at e
       obtain ⟨i,hi⟩:∃ i:Nat,idT ts id = i:=⟨(idT ts id).toNat,by omega⟩
       have hi0:¬ ((i:Int) < 0):=by omega
       have hi1:¬ ((i:Int) + 1 < 0):=by omega
       have hi2:((i:Int) + 1).toNat = i + 1:=by omega
       have e1:tdN l (x :: ts) id = if (if (ts.getD i tun0).P = [] then (l,0) else relN l (ts.getD i tun0)).2 ≠ 0 then ([],[],(if (ts.getD i tun0).P = [] then (l,0) else relN l (ts.getD i tun0)).2) else ((if (ts.getD i tun0).P = [] then (l,0) else relN l (ts.getD i tun0)).1,x :: ts.eraseIdx i,0):=by
         unfold tdN
         rw [e,hi,if_neg hi1,hi2]
         rfl
       have e2:tdN l ts id = if (if (ts.getD i tun0).P = [] then (l,0) else relN l (ts.getD i tun0)).2 ≠ 0 then ([],[],(if (ts.getD i tun0).P = [] then (l,0) else relN l (ts.getD i tun0)).2) else ((if (ts.getD i tun0).P = [] then (l,0) else relN l (ts.getD i tun0)).1,ts.eraseIdx i,0):=by
         unfold tdN
         rw [hi,if_neg hi0,Int.toNat_natCast]
       rw [e1,e2]
       generalize (if (ts.getD i tun0).P = [] then (l,0) else relN l (ts.getD i tun0)) = q
       by_cases gq:q.2 = 0
       · simp [gq]
       · simp [gq]
theorem rtN_tdN (id:Int) (l:List Lnk) (ts:List Tun):rtN id [] ts l = tdN l ts id:=by
 rw [rtN_eq]
 by_cases g:(tdN l ts id).2.2 = 0
 · rw [if_pos g,List.nil_append]
 · rw [if_neg g,← tdN_err g]
set_option maxHeartbeats 16000000 in
set_option maxRecDepth 10000 in
theorem t20f (l:List Lnk) (n:Nat) (hn:l.length = n) (hn2:n < 1000000) (hB:∀ x ∈ l,∀ k,k < 8 → -1125899906842624 ≤ x.Fr k ∧ x.Fr k ≤ 1125899906842624) (ts:List Tun) (r:Nat) (hr:ts.length = r) (hr2:r ≤ 1000) (hts:∀ t ∈ ts,t.P.length ≤ 60 ∧ inI t.W.Hold ∧ inI t.W.Band) (id:Int) :
   CFun Tryz.prog 20 [.sl 13 (l.map encL) .sh,.sl 12 (ts.map encT) .sh,.int .i64 id] [] (.tup [.sl 13 ((tdN l ts id).1.map encL) .sh,.sl 12 ((tdN l ts id).2.1.map encT) .sh,.int .i64 (tdN l ts id).2.2]) []:=by
 refine CFun.intro (tr:=[28]) (fz:=[]) (n:=51) (rs:=[.tmp 6,.tmp 7,.tmp 8]) Tryz.func20 rfl (by kernel_rfl) rfl rfl mixed (by kernel_rfl) (by simp) (by simp) ?_
 rw [← rtN_tdN]
 obtain ⟨T,hT⟩:∃ T,T = rtN id [] ts l:=⟨_,rfl⟩
 rw [← hT]
 simp
 refine LoopK.intro (tr:=[28]) mixed (by kernel_rfl) (fun s:Nat × List Tun × Bool × List Lnk=>[(0,.sl 13 (s.2.2.2.map encL) .sh),(2,.int .i64 id),(9,.sl 12 (s.2.1.map encT) .own),(10,.bool s.2.2.1),(15,.sl 12 (ts.map encT) .sh),(16,.int .i64 r),(17,.int .i64 s.1)]) (fun _=>[])
   (fun s=>s.1 ≤ r ∧ s.2.1.length ≤ s.1 ∧ (s.2.2.1 = false → s.2.2.2 = l ∧ T = rtN id s.2.1 (ts.drop s.1) l) ∧ (s.2.2.1 = true → T = (s.2.2.2,s.2.1 ++ ts.drop s.1,0))) (fun s=>r - s.1) (0,[],false,l) ?_ ?_ ?_
 · exact ⟨Nat.zero_le _,Nat.le_refl _,fun _=>⟨rfl,hT⟩,fun h=>(by cases h)⟩
 · simp [hr]
 rintro ⟨i,acc,d,ls⟩ ⟨i1,i2,i3,i4⟩
 simp only at i1 i2 i3 i4 ⊢
 by_cases hi:i < r
 · obtain ⟨x,hx,hd⟩:=get_drop (l:=ts) (i:=i) (by omega)
   rw [hd] at i3 i4
   obtain ⟨b1,b2,b3⟩:=hts x (List.mem_of_getElem? hx)
   have w1:IntKind.i64.wrap ((i:Int) + 1) = i + 1:=wrap_in (by omega)
   have s1:acc.length ≤ 140737488355327:=by omega
   have s2:(acc.length + 1) * 136 ≤ 140737488355328:=by omega
   cases d with
   | true =>
     have i4:=i4 rfl
     simp [hi,hr,hx,gE hx,s1,s2,w1,-Bool.exists_bool]
     exact ⟨i + 1,acc ++ [x],true,ls,⟨by omega,by first | omega | (simp; omega),fun h=>(by cases h),fun _=>by rw [i4]; simp⟩,by omega,by simp⟩
   | false =>
     obtain ⟨e1,i3⟩:=i3 rfl
     subst e1
     simp only [rtN] at i3
     by_cases hid:x.ID = id
     case neg =>
       rw [if_pos hid] at i3
       simp [hi,hr,hx,gE hx,s1,s2,w1,hid,-Bool.exists_bool]
       exact ⟨i + 1,acc ++ [x],false,ls,⟨by omega,by first | omega | (simp; omega),fun _=>⟨rfl,i3⟩,fun h=>(by cases h)⟩,by omega,by simp⟩
     rw [if_neg (by simpa using hid)] at i3
     by_cases hp:x.P = []
     · rw [if_pos hp] at i3
       simp [hi,hr,hx,gE hx,s1,s2,w1,hid,hp,-Bool.exists_bool]
       exact ⟨i + 1,acc,true,ls,⟨by omega,by first | omega | (simp; omega),fun h=>(by cases h),fun _=>i3⟩,by omega,by simp⟩
     · rw [if_neg hp] at i3
       have hp1:0 < x.P.length:=List.length_pos_iff.2 hp
       have k16:=fun H=>(t16 ls n hn hn2 hB x _ rfl b1 ⟨b2,b3⟩).up' H (by simp [noid,noid0]) (by simp [noid,noid0])
       generalize hq:relN ls x = q at *
       by_cases g:q.2 = 0
       · rw [if_neg (by simpa using g)] at i3
         simp [hi,hr,hx,gE hx,s1,s2,w1,hid,hp,hp1,-Bool.exists_bool]
         refine ⟨_,_,.inl (by simpa [hid] using k16 _),by simp,?_⟩
         simp [g,w1,-Bool.exists_bool]
         exact ⟨i + 1,acc,true,q.1,⟨by omega,by first | omega | (simp; omega),fun h=>(by cases h),fun _=>i3⟩,by omega,by simp⟩
       · rw [if_pos g] at i3
         subst i3
         simp [hi,hr,hx,gE hx,s1,s2,w1,hid,hp,hp1,-Bool.exists_bool]
         refine ⟨_,_,.inl (by simpa [hid] using k16 _),by simp,?_⟩
         simp [g]
 · have:i = r:=by omega
   subst this
   rw [List.drop_eq_nil_of_le (by omega)] at i3 i4
   cases d with
   | true =>
     have i4:=i4 rfl
     rw [List.append_nil] at i4
     subst i4
     simp
   | false =>
     obtain ⟨e1,i3⟩:=i3 rfl
     simp only [rtN] at i3
     subst i3
     simp
end Go.Proofs.YtpmmnnaaoideeaaGreat

/- What the reference's Route needs beyond the rest. -/
namespace Go.Proofs.YtpmmnnaaoideeaaGreat
open Go Go.Am Go.Wk
set_option maxHeartbeats 4000000 in
set_option maxRecDepth 10000 in
theorem c10 (x:Lnk) (c:Con) (n:Nat) (hn:c.Avoid.length = n) (hlen:n < 9223372036854775807):CFun Tryz.prog 78 [encL x,encC c] [] (.bool (usableN x c)) []:=by
 refine CFun.intro (tr:=[]) (fz:=[]) (n:=58) (rs:=[.tmp 4]) Tryz.func78 rfl (by kernel_rfl) rfl rfl mixed (by kernel_rfl) (by simp) (by simp) ?_
 have h2:=fun a H=>(c25 c.Avoid n hn hlen a).up' H (by simp [noid,noid0]) rfl
 generalize hu:usableN x c = u
 simp
 by_cases g1:c.Setup < 0
 · have e:=usable_1 (x:=x) (.inl g1)
   simp [g1,← hu,e]
 by_cases g2:7 < c.Setup
 · have e:=usable_1 (x:=x) (.inr g2)
   simp [g1,g2,← hu,e]
 obtain ⟨i,hi⟩:∃ i:Nat,c.Setup = i:=⟨c.Setup.toNat,by omega⟩
 have hi8:i < 8:=by omega
 have hf:=cellsL_fr x hi8
 have gi:(i:Int) < 8:=by omega
 have g7:¬ 7 < (i:Int):=by omega
 have g8:¬ (i:Int) < 0:=by omega
 by_cases g3:x.Fr i < c.Band
 · have e:=usable_2 hi hi8 g3
   simp [hi,g7,g8,gi,hf,g3,← hu,e]
 have last:∀ (g4:andW c.Excl x.Aff = 0) (g5:c.Incl = 0 ∨ ¬ andW c.Incl x.Aff = 0),u = (!hasB c.Avoid x.From && !hasB c.Avoid x.To):=fun g4 g5=>by rw [← hu]; exact usable_6 hi hi8 g3 g4 g5
 by_cases g4:andW c.Excl x.Aff = 0
 · have g4':=g4
   rw [andW_comm] at g4'
   by_cases g5:c.Incl = 0
   · have hl:=last g4 (.inl g5)
     clear last
     simp [hi,g7,g8,gi,hf,g3,g4,g4',g5]
     refine ⟨_,_,.inl (by simpa using h2 _ _),by simp,?_⟩
     cases hp:hasB c.Avoid x.From with
     | true=>simp [hl,hp]
     | false =>
       simp [hp]
       refine ⟨_,_,.inl (by simpa using h2 _ _),by simp,?_⟩
       simp [hl,hp]
   · by_cases g6:andW c.Incl x.Aff = 0
     · have e:=usable_5 hi hi8 g3 g4 g5 g6
       have g6':=g6
       rw [andW_comm] at g6'
       simp [hi,g7,g8,gi,hf,g3,g4,g4',g5,g6,g6',← hu,e]
     · have g6':=g6
       rw [andW_comm] at g6'
       have hl:=last g4 (.inr g6)
       clear last
       simp [hi,g7,g8,gi,hf,g3,g4,g4',g5,g6,g6']
       refine ⟨_,_,.inl (by simpa using h2 _ _),by simp,?_⟩
       cases hp:hasB c.Avoid x.From with
       | true=>simp [hl,hp]
       | false =>
         simp [hp]
         refine ⟨_,_,.inl (by simpa using h2 _ _),by simp,?_⟩
         simp [hl,hp]
 · have e:=usable_4 hi hi8 g3 g4
   have g4':=g4
   rw [andW_comm] at g4'
   simp [hi,g7,g8,gi,hf,g3,g4,g4',← hu,e]
set_option maxHeartbeats 4000000 in
set_option maxRecDepth 10000 in
theorem c21 (a b:List Int) (n m:Nat) (hn:a.length = n) (hm:b.length = m) (hn2:n < 9223372036854775807) (hm2:m < 9223372036854775807):CFun Tryz.prog 98 [.sl 1 (a.map encI) .sh,.sl 1 (b.map encI) .sh] [] (.int .i64 (cmpI a b)) []:=by
 refine CFun.intro (tr:=[]) (fz:=[]) (n:=38) (rs:=[.tmp 4]) Tryz.func98 rfl (by kernel_rfl) rfl rfl mixed (by kernel_rfl) (by simp) (by simp) ?_
 obtain ⟨T,hT⟩:∃ T,T = cmpI a b:=⟨_,rfl⟩
 rw [← hT]
 simp
 refine LoopK.intro (tr:=[]) mixed (by kernel_rfl) (fun i:Nat=>[(0,.sl 1 (a.map encI) .sh),(1,.sl 1 (b.map encI) .sh),(7,.sl 1 (a.map encI) .sh),(8,.int .i64 n),(9,.int .i64 i)]) (fun _=>[]) (fun i=>i ≤ n ∧ i ≤ m ∧ T = cmpI (a.drop i) (b.drop i)) (fun i=>n - i) 0 ?_ ?_ ?_
 · simp [hT]
 · simp [hn]
 · rintro i ⟨h1,h2,h3⟩
   by_cases hi:i < n
   · obtain ⟨x,hx⟩:∃ x,a[i]? = some x:=⟨_,List.getElem?_eq_getElem (by omega)⟩
     have w1:IntKind.i64.wrap ((i:Int) + 1) = i + 1:=wrap_in (by omega)
     by_cases hj:i = m
     · rw [cmpI_long (by omega) (by omega)] at h3
       subst hj
       simp [hi,hn,hm,hx,gE hx,h3]
     · obtain ⟨y,hy⟩:∃ y,b[i]? = some y:=⟨_,List.getElem?_eq_getElem (by omega)⟩
       rw [cmpI_step hx hy] at h3
       have hj':¬ (i:Int) = m:=by omega
       have hj2:i < m:=by omega
       by_cases g1:y < x
       · rw [if_pos g1] at h3
         simp [hi,hn,hm,hx,gE hx,hy,gE hy,hj,hj',hj2,g1,h3]
       · rw [if_neg g1] at h3
         by_cases g2:x < y
         · rw [if_pos g2] at h3
           simp [hi,hn,hm,hx,gE hx,hy,gE hy,hj,hj',hj2,g1,g2,h3]
         · rw [if_neg g2] at h3
           simp [hi,hn,hm,hx,gE hx,hy,gE hy,hj,hj',hj2,g1,g2,w1]
           exact ⟨i + 1,⟨by omega,by omega,h3⟩,by omega,by simp⟩
   · have:i = n:=by omega
     subst this
     rw [cmpI_end (by omega)] at h3
     by_cases g:i < m
     · rw [if_pos (by omega)] at h3
       simp [hn,hm,g,h3]
     · rw [if_neg (by omega)] at h3
       simp [hn,hm,g,h3]
set_option maxHeartbeats 4000000 in
set_option maxRecDepth 10000 in
theorem c55 (a:List Int) (n:Nat) (hn:a.length = n) (hn2:n < 1000000) (x:Int):CFun Tryz.prog 99 [.sl 1 (a.map encI) .sh,.sl 1 [.int .i64 x] .full] [] (.sl 1 ((a ++ [x]).map encI) .sh) []:=by
 refine CFun.intro (tr:=[9]) (fz:=[]) (n:=13) (rs:=[.tmp 4]) Tryz.func99 rfl (by kernel_rfl) rfl rfl mixed (by kernel_rfl) (by simp) (by simp) ?_
 have b1:n ≤ 140737488355328:=by omega
 have b2:n * 8 ≤ 140737488355328:=by omega
 have b3:n + 1 ≤ 140737488355328:=by omega
 have b4:(n + 1) * 8 ≤ 140737488355328:=by omega
 by_cases h0:a = []
 · subst h0
   simp
 simp [hn,b1,b2,b3,b4,h0]
 done
set_option maxHeartbeats 4000000 in
set_option maxRecDepth 10000 in
theorem c34 (w:Wlk) (hw:w.N.length < 1000000) (hC:0 ≤ w.C ∧ w.C < 1099511627776) (x:Lnk) (hx:0 ≤ x.Cost ∧ x.Cost ≤ 65535) (c:Con) (hD:w.D ≤ 1000) :
   CFun Tryz.prog 80 [encW w,encL x,encC c] [] (encW (stepW w x c)) []:=by
 refine CFun.intro (tr:=[900001000008]) (fz:=[]) (n:=44) (rs:=[.cell 6 104]) Tryz.func80 rfl (by kernel_rfl) rfl rfl mixed (by kernel_rfl) (by simp) (by simp) ?_
 have h55:=c55 w.N w.N.length rfl hw x.To
 have w1:IntKind.i64.wrap (w.C + x.Cost) = w.C + x.Cost:=wrap_in (by omega)
 have w2:IntKind.i64.wrap ((w.D:Int) + 1) = (w.D:Int) + 1:=wrap_in (by omega)
 unfold stepW
 by_cases hd:w.D < c.Thru.length
 · have hg:c.Thru[w.D]? = some (c.Thru[w.D]'hd):=List.getElem?_eq_getElem hd
   by_cases he:c.Thru[w.D]'hd = x.To
   · simp [ceW,w1]
     refine ⟨_,by simpa using h55,by simp [noid,noid0],?_⟩
     simp [ceW,hd,he,hg,w1,w2]
   · simp [ceW,w1]
     refine ⟨_,by simpa using h55,by simp [noid,noid0],?_⟩
     simp [ceW,hd,he,hg,w1,w2]
 · have hg:c.Thru[w.D]? = none:=List.getElem?_eq_none (by omega)
   simp [ceW,w1]
   refine ⟨_,by simpa using h55,by simp [noid,noid0],?_⟩
   simp [ceW,hd,hg,w1,w2]
set_option maxHeartbeats 4000000 in
set_option maxRecDepth 10000 in
theorem c33n (w:Wlk) (h0:0 < w.N.length) (hw:w.N.length < 1000000):CFun Tryz.prog 79 [.sl 0 [] .full,encW w] [] (.osl 1 0 1 none 3) [[],rowC ceW [w]]:=by
 refine CFun.intro (tr:=[100069]) (fz:=[]) (n:=70) (rs:=[.tmp 4]) Tryz.func79 rfl (by kernel_rfl) rfl rfl mixed (by kernel_rfl) (by simp) (by simp) ?_
 obtain ⟨k,hk⟩:∃ k,w.N.length = k + 1:=⟨w.N.length - 1,by omega⟩
 obtain ⟨e,he⟩:∃ e,w.N[k]? = some e:=⟨_,List.getElem?_eq_getElem (by omega)⟩
 have w1:IntKind.i64.wrap (k:Int) = k:=wrap_in (by omega)
 have hr:rowC ceW [w] = ceW w:=rowC_one w
 rw [hr]
 simp [ceW,hk,w1,he,gE he]
 refine LoopK.intro (tr:=[100069]) mixed (by kernel_rfl) (fun _:Nat=>[(0,.sl 0 [] .full),(3,.ptr 0 0),(16,.sl 0 [] .full),(17,.int .i64 0),(18,.int .i64 0)]) (fun _=>[ceW w]) (fun _=>True) (fun i=>i) 0 trivial ?_ ?_
 · simp [ceW]
 · intro i _
   simp [ceW]
set_option maxHeartbeats 8000000 in
set_option maxRecDepth 10000 in
theorem c33s (l:List Wlk) (m:Nat) (hm:l.length = m) (hm0:0 < m) (hm2:m < 1000000) (w:Wlk) (h0:0 < w.N.length) (hw:w.N.length < 1000000) (hl:∀ y ∈ l,0 < y.N.length ∧ y.N.length < 1000000) (hf:∃ y ∈ l,lastW y = lastW w ∧ y.D = w.D) :
   CFun Tryz.prog 79 [.osl 0 0 m none 3,encW w] [rowC ceW l] (.osl 0 0 m none 3) [rowC ceW (keepN l w)]:=by
 refine CFun.intro (tr:=[100069]) (fz:=[]) (n:=70) (rs:=[.tmp 4]) Tryz.func79 rfl (by kernel_rfl) rfl rfl mixed (by kernel_rfl) (by simp) (by simp) ?_
 obtain ⟨k,hk⟩:∃ k,w.N.length = k + 1:=⟨w.N.length - 1,by omega⟩
 obtain ⟨e,he⟩:∃ e,w.N[k]? = some e:=⟨_,List.getElem?_eq_getElem (by omega)⟩
 have hlw:lastW w = e:=by unfold lastW; rw [hk]; simp [List.getD_eq_getElem?_getD,he]
 have w1:IntKind.i64.wrap (k:Int) = k:=wrap_in (by omega)
 have hle:=fun q (l:List Wlk)=>eWe.rowLe q l
 have hrl:=eWe.rowLen l
 rw [hm] at hrl
 rw [hlw] at hf
 simp [ceW,hk,w1,he,gE he]
 refine LoopK.intro (tr:=[100069]) mixed (by kernel_rfl) (fun i:Nat=>[(0,.osl 0 0 m none 3),(3,.ptr 1 0),(5,.int .i64 e),(16,.osl 0 0 m none 3),(17,.int .i64 m),(18,.int .i64 i)]) (fun _=>[rowC ceW l,[.sl 1 (w.N.map encI) .sh,.int .i64 w.C,.int .i64 w.D]]) (fun i=>i ≤ m ∧ ∀ j y,j < i → l[j]? = some y → ¬ (lastW y = e ∧ y.D = w.D)) (fun i=>m - i) 0 ?_ ?_ ?_
 · simp
 · simp [hle]
   done
 · rintro i ⟨h1,h2⟩
   by_cases hi:i < m
   case neg =>
     exfalso
     obtain ⟨y,hy,hy2⟩:=hf
     obtain ⟨j,hj,he⟩:=List.getElem_of_mem hy
     exact h2 j y (by omega) (by rw [List.getElem?_eq_getElem hj,he]) hy2
   obtain ⟨y,hy⟩:∃ y,l[i]? = some y:=⟨_,List.getElem?_eq_getElem (by omega)⟩
   obtain ⟨y0,y1⟩:=hl y (List.mem_of_getElem? hy)
   obtain ⟨ky,hky⟩:∃ k,y.N.length = k + 1:=⟨y.N.length - 1,by omega⟩
   obtain ⟨ey,hey⟩:∃ e,y.N[ky]? = some e:=⟨_,List.getElem?_eq_getElem (by omega)⟩
   have hly:lastW y = ey:=by unfold lastW; rw [hky]; simp [List.getD_eq_getElem?_getD,hey]
   have w2:IntKind.i64.wrap (ky:Int) = ky:=wrap_in (by omega)
   have w3:IntKind.i64.wrap ((i:Int) + 1) = i + 1:=wrap_in (by omega)
   obtain ⟨hta,hfit⟩:=eWe.rowAt hy []
   rw [List.append_nil] at hta hfit
   rw [hrl] at hfit
   have hdis:=eWe.rowDis l
   have htr:(∀ x ∈ ceW y,x.tree = true):=by simp [ceW]
   by_cases g1:ey = e
   · by_cases g2:y.D = w.D
     · have hk':=keepN_at (w:=w) hy (fun j y hj h=>by rw [hlw]; exact h2 j y hj h) (by rw [hly,hlw]; exact ⟨g1,g2⟩)
       have g2':(y.D:Int) = w.D:=by omega
       have hset:(((rowC ceW l).set (i * 3) (.sl 1 (w.N.map encI) .sh)).set (i * 3 + 1) (.int .i64 w.C)).set (i * 3 + 1 + 1) (.int .i64 w.D) = rowC ceW (l.set i w):=eWe.setOne0 l i w (by omega)
       have h21:=fun H=>(c21 w.N y.N w.N.length y.N.length rfl rfl (by omega) (by omega)).up' H rfl rfl
       have hle2:=fun q=>hle q (l.set i w)
       have hsame:l.set i y = l:=by
         apply List.ext_getElem?
         intro j
         rw [List.getElem?_set]
         split
         · rename_i e; subst e; rw [if_pos (by omega),hy]
         · rfl
       rw [hk']
       by_cases b1:w.C < y.C
       · have hb:betW w y = true:=by simp [betW,b1]
         rw [if_pos hb]
         simp [hi,hta,htr,hfit,hrl,hdis,ceW,hky,w2,hey,gE hey,g1,g2',b1,hset,hle2]
       · by_cases b2:w.C = y.C
         · have hbe:betW w y = decide (cmpI w.N y.N < 0):=by simp [betW,b1,b2]
           rw [hbe]
           simp [hi,hta,htr,hfit,hrl,hdis,ceW,hky,w2,hey,gE hey,g1,g2',b1,b2]
           refine ⟨_,_,.inl (by simpa using h21 _),by simp,?_⟩
           by_cases b3:cmpI w.N y.N < 0
           · rw [b2] at hset
             simp [hi,hfit,hrl,b3,hset,hle2,ceW]
           · simp [b3,hle,hsame]
         · have hb:betW w y = false:=by simp [betW,b1,b2]
           rw [hb]
           simp [hi,hta,htr,hfit,hrl,hdis,ceW,hky,w2,hey,gE hey,g1,g2',b1,b2,hle,hsame]
     · have g2':¬ (y.D:Int) = w.D:=by omega
       simp [hi,hta,htr,hfit,hrl,hdis,ceW,hky,w2,hey,gE hey,g1,g2,g2',w3]
       refine ⟨i + 1,⟨by omega,fun j z hj hz=>?_⟩,by omega,by omega,hle _ _⟩
       by_cases ej:j = i
       · subst ej
         rw [hy] at hz
         injection hz with hz
         subst hz
         exact fun _=>g2
       · intro k1 k2
         exact h2 j z (by omega) hz ⟨k1,k2⟩
   · simp [hi,hta,htr,hfit,hrl,hdis,ceW,hky,w2,hey,gE hey,g1,w3]
     refine ⟨i + 1,⟨by omega,fun j z hj hz=>?_⟩,by omega,by omega,hle _ _⟩
     by_cases ej:j = i
     · subst ej
       rw [hy] at hz
       injection hz with hz
       subst hz
       exact fun k1 _=>g1 (by rw [← hly]; exact k1)
     · intro k1 k2
       exact h2 j z (by omega) hz ⟨k1,k2⟩
set_option maxHeartbeats 8000000 in
set_option maxRecDepth 10000 in
theorem c33m (l:List Wlk) (m:Nat) (hm:l.length = m) (hm0:0 < m) (hm2:m < 1000000) (w:Wlk) (h0:0 < w.N.length) (hw:w.N.length < 1000000) (hl:∀ y ∈ l,0 < y.N.length ∧ y.N.length < 1000000) (hf:∀ y ∈ l,¬ (lastW y = lastW w ∧ y.D = w.D)) :
   CFun Tryz.prog 79 [.osl 0 0 m none 3,encW w] [rowC ceW l] (.osl 2 0 (m + 1) none 3) [[],[],rowC ceW (l ++ [w])]:=by
 refine CFun.intro (tr:=[100069]) (fz:=[]) (n:=70) (rs:=[.tmp 4]) Tryz.func79 rfl (by kernel_rfl) rfl rfl mixed (by kernel_rfl) (by simp) (by simp) ?_
 obtain ⟨k,hk⟩:∃ k,w.N.length = k + 1:=⟨w.N.length - 1,by omega⟩
 obtain ⟨e,he⟩:∃ e,w.N[k]? = some e:=⟨_,List.getElem?_eq_getElem (by omega)⟩
 have hlw:lastW w = e:=by unfold lastW; rw [hk]; simp [List.getD_eq_getElem?_getD,he]
 have w1:IntKind.i64.wrap (k:Int) = k:=wrap_in (by omega)
 have hle:=fun q (l:List Wlk)=>eWe.rowLe q l
 have hrl:=eWe.rowLen l
 rw [hm] at hrl
 rw [hlw] at hf
 simp [ceW,hk,w1,he,gE he]
 refine LoopK.intro (tr:=[100069]) mixed (by kernel_rfl) (fun i:Nat=>[(0,.osl 0 0 m none 3),(3,.ptr 1 0),(5,.int .i64 e),(16,.osl 0 0 m none 3),(17,.int .i64 m),(18,.int .i64 i)]) (fun _=>[rowC ceW l,[.sl 1 (w.N.map encI) .sh,.int .i64 w.C,.int .i64 w.D]]) (fun i=>i ≤ m ∧ ∀ j y,j < i → l[j]? = some y → ¬ (lastW y = e ∧ y.D = w.D)) (fun i=>m - i) 0 ?_ ?_ ?_
 · simp
 · simp [hle]
   done
 · rintro i ⟨h1,h2⟩
   by_cases hi:i < m
   case neg =>
     have:i = m:=by omega
     subst this
     have s1:i + 1 ≤ 140737488355328:=by omega
     have s2:(i + 1) * 40 ≤ 140737488355328:=by omega
     have hsc:(rowC ceW l).all (fun c=>c.scalar && !c.isOwn) = true:=by
       have:∀ l:List Wlk,(rowC ceW l).all (fun c=>c.scalar && !c.isOwn) = true:=by
         intro l
         induction l with
         | nil=>rfl
         | cons y l ih=>rw [rowC_cons,List.all_append,ih]; rfl
       exact this l
     simp only [AVal.isOwn] at hsc
     have htk:(rowC ceW l).take (i * 3) = rowC ceW l:=List.take_of_length_le (by omega)
     have hne:rowC ceW l ≠ []:=by
       intro e
       rw [e] at hrl
       simp at hrl
       omega
     have happ:rowC ceW l ++ [.sl 1 (w.N.map encI) .sh,.int .i64 w.C,.int .i64 w.D] = rowC ceW (l ++ [w]):=by rw [rowC_app,rowC_one]; rfl
     have hle2:=fun q=>hle q (l ++ [w])
     simp [hrl,s1,s2,hsc,htk,hne,happ,hle2,-List.all_eq_true]
     done
   obtain ⟨y,hy⟩:∃ y,l[i]? = some y:=⟨_,List.getElem?_eq_getElem (by omega)⟩
   obtain ⟨y0,y1⟩:=hl y (List.mem_of_getElem? hy)
   obtain ⟨ky,hky⟩:∃ k,y.N.length = k + 1:=⟨y.N.length - 1,by omega⟩
   obtain ⟨ey,hey⟩:∃ e,y.N[ky]? = some e:=⟨_,List.getElem?_eq_getElem (by omega)⟩
   have hly:lastW y = ey:=by unfold lastW; rw [hky]; simp [List.getD_eq_getElem?_getD,hey]
   have w2:IntKind.i64.wrap (ky:Int) = ky:=wrap_in (by omega)
   have w3:IntKind.i64.wrap ((i:Int) + 1) = i + 1:=wrap_in (by omega)
   obtain ⟨hta,hfit⟩:=eWe.rowAt hy []
   rw [List.append_nil] at hta hfit
   rw [hrl] at hfit
   have hdis:=eWe.rowDis l
   have htr:(∀ x ∈ ceW y,x.tree = true):=by simp [ceW]
   by_cases g1:ey = e
   · by_cases g2:y.D = w.D
     · exact (hf y (List.mem_of_getElem? hy) ⟨by rw [hly]; exact g1,g2⟩).elim
     · have g2':¬ (y.D:Int) = w.D:=by omega
       simp [hi,hta,htr,hfit,hrl,hdis,ceW,hky,w2,hey,gE hey,g1,g2,g2',w3]
       refine ⟨i + 1,⟨by omega,fun j z hj hz=>?_⟩,by omega,by omega,hle _ _⟩
       by_cases ej:j = i
       · subst ej
         rw [hy] at hz
         injection hz with hz
         subst hz
         exact fun _=>g2
       · intro k1 k2
         exact h2 j z (by omega) hz ⟨k1,k2⟩
   · simp [hi,hta,htr,hfit,hrl,hdis,ceW,hky,w2,hey,gE hey,g1,w3]
     refine ⟨i + 1,⟨by omega,fun j z hj hz=>?_⟩,by omega,by omega,hle _ _⟩
     by_cases ej:j = i
     · subst ej
       rw [hy] at hz
       injection hz with hz
       subst hz
       exact fun k1 _=>g1 (by rw [← hly]; exact k1)
     · intro k1 k2
       exact h2 j z (by omega) hz ⟨k1,k2⟩
set_option maxHeartbeats 16000000 in
set_option maxRecDepth 10000 in
theorem c16l (l:List Lnk) (m:Nat) (hm:l.length = m) (hm2:m ≤ 1024) (c:Con) (p:Nat) (hp:c.Avoid.length = p) (hp2:p < 9223372036854775807) (N:Nat) (hN2:N ≤ 128) (t:Nat) (ht:c.Thru.length = t) (ht3:t ≤ 64) (hlk:∀ x ∈ l,okLk N x) (to:Int)
   (h:Nat) (hh:h ≤ 8320) (A:List Wlk) (j:Nat) (b:Option Wlk) (w:Wlk) (hw:okW N t h w) (nx0:List Wlk) (hn0:okNx N t (h + 1) nx0) (loc0:Nat) (hl0:loc0 = 0 ∧ nx0 = [] ∨ loc0 = 2 ∧ nx0 ≠ [])
   (Q:APost) (hQ:∀ (u:Nat → AVal) (nx:List Wlk) (loc:Nat),holds u (slL l N to b h A j nx loc) → nx = linksR l c nx0 w → okNx N t (h + 1) nx → (loc = 0 ∧ nx = [] ∨ loc = 1 ∧ nx ≠ [] ∨ loc = 2 ∧ nx ≠ []) → Q (.exit 4) ⟨u,HL c b w nx loc⟩) (body:Code) (hb:loopIn (loopIn (loopIn (Tryz.f49.body.getD .skip))) = body) (s:ASt)
   (hs:Le 0 s (slL l N to b h A j nx0 loc0 ++ [(21,.ptr (if loc0 = 2 then 4 else 3) 0),(129,.sl 13 (l.map encL) .sh),(130,.int .i64 m),(131,.int .i64 0)]) (HL c b w nx0 loc0)):LoopK Tryz.prog 166 0 body Q s:=by
 unfold Tryz.f49 at hb
 simp only [loopIn,Option.getD_some,firstLoop,Option.orElse_none,Option.orElse_some] at hb
 subst hb
 have hble:=fun q b=>bC_le q b
 have h10:=fun x H=>(c10 x c p hp hp2).up' H (by simp [noid,noid0]) rfl
 have hrle:=fun q l=>eWe.rowLe q l
 obtain ⟨hwl,hwg⟩:=lastW_get hw
 have hwlen:=hw.len
 refine LoopK.introS (tr:=[30000019000007]) mixed (by kernel_rfl)
   (fun s:LS=>slL l N to b h A j s.nx s.loc ++ [(21,.ptr (if s.loc = 2 then 4 else 3) 0),(129,.sl 13 (l.map encL) .sh),(130,.int .i64 m),(131,.int .i64 s.i)])
   (fun s=>HL c b w s.nx s.loc)
   (fun s=>s.i ≤ m ∧ okNx N t (h + 1) s.nx ∧ linksR l c nx0 w = (l.drop s.i).foldl (linkR c w) s.nx ∧ (s.loc = 0 ∧ s.nx = [] ∨ s.loc = 1 ∧ s.nx ≠ [] ∨ s.loc = 2 ∧ s.nx ≠ [])) (fun s=>m - s.i) ⟨0,nx0,loc0⟩ ?_ hs ?_
 · exact ⟨Nat.zero_le _,hn0,rfl,hl0.elim .inl fun q=>.inr (.inr q)⟩
 · clear hs
   rintro ⟨i,nx,loc⟩ ⟨i1,i2,i3,i4⟩
   simp only at i1 i2 i3 i4
   generalize hPQ:LoopPostS _ _ _ _ _ _ _ = PQ
   by_cases hi:i < m
   case neg =>
     have hle:l.length ≤ i:=by omega
     rw [List.drop_eq_nil_of_le hle] at i3
     have q:=fun u hu=>hQ u nx loc hu i3.symm i2 i4
     simp only [slL]
     simp [hi]
     rw [← hPQ]
     simp only [LoopPostS]
     refine q _ ?_
     intro p hp
     simp only [slL,List.mem_cons,List.not_mem_nil,or_false] at hp
     rcases hp with rfl | rfl | rfl | rfl | rfl | rfl | rfl | rfl | rfl | rfl | rfl <;> simp
   obtain ⟨x,hx⟩:∃ x,l[i]? = some x:=⟨_,List.getElem?_eq_getElem (by omega)⟩
   have hxok:=hlk x (List.mem_of_getElem? hx)
   have hd:l.drop i = x :: l.drop (i + 1):=by
     obtain ⟨k1,k2⟩:=List.getElem?_eq_some_iff.1 hx
     rw [List.drop_eq_getElem_cons k1,k2]
   rw [hd,List.foldl_cons] at i3
   have hu:=h10 x
   have w3:IntKind.i64.wrap ((i:Int) + 1) = i + 1:=wrap_in (by omega)
   have hgN:w.N.getD h 0 = lastW w:=hwl
   have hih:h < w.N.length:=by omega
   have h34:=fun H=>(c34 w (by omega) ⟨hw.c0,by have:=hw.c1; omega⟩ x (by obtain ⟨_,_,_,_,q5,q6⟩:=hxok; omega) c (by have:=hw.d; omega)).up' H (by simp [noid,noid0,ceW]) (by simp [noid,noid0,ceW])
   have hwo:=hw.step hxok ht
   have hko:=i2.keep hwo
   obtain ⟨w',hw'⟩:∃ w',w' = stepW w x c:=⟨_,rfl⟩
   have hwl':=hwo.len
   have hlen:=i2.length
   have hlb:N * (t + 1) ≤ 128 * 65:=Nat.mul_le_mul hN2 (by omega)
   have hwn:∀ y ∈ nx,0 < y.N.length ∧ y.N.length < 1000000:=fun y hy=>by have:=(i2.w y hy).len; omega
   rw [← hw'] at h34 hko hwl'
   have hlk0:¬ (x.From = lastW w ∧ usableN x c = true) → linkR c w nx x = nx:=fun q=>by unfold linkR; rw [if_neg q]
   have hlk1:(x.From = lastW w ∧ usableN x c = true) → linkR c w nx x = keepN nx w':=fun q=>by unfold linkR; rw [if_pos q,← hw']
   rcases i4 with ⟨rfl,hnil⟩ | ⟨rfl,hnil⟩ | ⟨rfl,hnil⟩
   · simp only [slL,HL,nxV] at *
     by_cases f1:x.From = lastW w
     case neg =>
       rw [hlk0 (fun q=>f1 q.1)] at i3
       simp [hi,hm,hx,gE hx,ceW,hih,hwg,gE hwg,f1,w3]
       rw [← hPQ]
       simp only [LoopPostS]
       exact ⟨⟨i + 1,nx,0⟩,⟨by simp only; omega,i2,i3,.inl ⟨rfl,hnil⟩⟩,by simp only; omega,.inl (by simp [ceW,hble,hrle])⟩
     by_cases f2:usableN x c = true
     case neg =>
       have f2':usableN x c = false:=by simpa using f2
       rw [f2'] at hu
       rw [hlk0 (fun q=>f2 q.2)] at i3
       simp [hi,hm,hx,gE hx,ceW,hih,hwg,gE hwg,f1]
       refine ⟨_,_,.inl (by simpa using hu _),by simp,?_⟩
       simp [w3]
       rw [← hPQ]
       simp only [LoopPostS]
       exact ⟨⟨i + 1,nx,0⟩,⟨by simp only; omega,i2,i3,.inl ⟨rfl,hnil⟩⟩,by simp only; omega,.inl (by simp [ceW,hble,hrle])⟩
     rw [hlk1 ⟨f1,f2⟩] at i3
     rw [f2] at hu
     have hk:=(c33n w' (by omega) (by omega)).upAll [cellsC c,[],bC b,ceW w,cellsL x] rfl (by simp [noid,noid0,ceW]) rfl
     have hkk:keepN nx w' = [w']:=by rw [hnil]; rfl
     rw [hkk] at hko i3
     simp [hi,hm,hx,gE hx,ceW,hih,hwg,gE hwg,f1]
     refine ⟨_,_,.inl (by simpa using hu _),by simp,?_⟩
     simp
     refine ⟨_,_,.inl (by simpa [ceW] using h34 _),by simp,?_⟩
     simp
     refine ⟨_,_,.inl (by simpa [ren,ren0,grow,ceW] using hk),by simp,?_⟩
     have t1:∀ l:List Wlk,LeCellsS (swp 4 6) 7 5 (rowC ceW l) (rowC ceW l):=fun l=>treeCS (eWe.rowTree l)
     have t2:LeCellsS (swp 4 6) 7 5 (bC b) (bC b):=treeCS (bC_tree b)
     simp [w3]
     rw [← hPQ]
     simp only [LoopPostS]
     refine ⟨⟨i + 1,[w'],1⟩,⟨by simp only; omega,hko,i3,by simp⟩,by simp only; omega,.inr ⟨4,6,by simp,by simp,by simp,by simp,by simp,?_,?_⟩⟩
     · simp [slL,nxV,LeLookS,ren,ren0,swp]
     · simp [HL,LeBoxesS,swpH,t1,t2,LeCellsS,ceW,ren,ren0,swp]
   · simp only [slL,HL,nxV] at *
     by_cases f1:x.From = lastW w
     case neg =>
       rw [hlk0 (fun q=>f1 q.1)] at i3
       simp [hi,hm,hx,gE hx,ceW,hih,hwg,gE hwg,f1,w3]
       rw [← hPQ]
       simp only [LoopPostS]
       exact ⟨⟨i + 1,nx,1⟩,⟨by simp only; omega,i2,i3,.inr (.inl ⟨rfl,hnil⟩)⟩,by simp only; omega,.inl (by simp [ceW,hble,hrle])⟩
     by_cases f2:usableN x c = true
     case neg =>
       have f2':usableN x c = false:=by simpa using f2
       rw [f2'] at hu
       rw [hlk0 (fun q=>f2 q.2)] at i3
       simp [hi,hm,hx,gE hx,ceW,hih,hwg,gE hwg,f1]
       refine ⟨_,_,.inl (by simpa using hu _),by simp,?_⟩
       simp [w3]
       rw [← hPQ]
       simp only [LoopPostS]
       exact ⟨⟨i + 1,nx,1⟩,⟨by simp only; omega,i2,i3,.inr (.inl ⟨rfl,hnil⟩)⟩,by simp only; omega,.inl (by simp [ceW,hble,hrle])⟩
     rw [hlk1 ⟨f1,f2⟩] at i3
     rw [f2] at hu
     have hml:0 < nx.length:=List.length_pos_iff.2 hnil
     rcases keepN_cases nx w' with ⟨k,y,y1,y2,y3,y4⟩ | ⟨y1,y2⟩
     · have hk:=(c33s nx nx.length rfl hml (by omega) w' (by omega) (by omega) hwn ⟨y,List.mem_of_getElem? y1,y2,y3⟩).at (H:=[cellsC c,[],bC b,ceW w,rowC ceW nx,cellsL x]) (id:=4) rfl (eWe.rowNoid _) (eWe.rowNoid _) (by simp [low,low0,ceW]) rfl
       simp [hi,hm,hx,gE hx,ceW,hih,hwg,gE hwg,f1]
       refine ⟨_,_,.inl (by simpa using hu _),by simp,?_⟩
       simp
       refine ⟨_,_,.inl (by simpa [ceW] using h34 _),by simp,?_⟩
       simp
       refine ⟨_,_,.inl (by simpa [ren,ren0,ceW] using hk),by simp,?_⟩
       have hkl:(keepN nx w').length = nx.length:=by rw [y4]; simp
       have hke:keepN nx w' ≠ []:=by intro e; rw [e] at hkl; simp at hkl; omega
       simp [w3]
       rw [← hPQ]
       simp only [LoopPostS]
       exact ⟨⟨i + 1,keepN nx w',1⟩,⟨by simp only; omega,hko,i3,by simp [hke]⟩,by simp only; omega,.inl (by simp [slL,HL,nxV,ceW,hble,hrle,hkl])⟩
     · have hk:=(c33m nx nx.length rfl hml (by omega) w' (by omega) (by omega) hwn y1).atNews (H:=[cellsC c,[],bC b,ceW w,rowC ceW nx,cellsL x]) (id:=4) rfl (eWe.rowNoid _) rfl (by simp [eWe.rowNoid]) (by simp [low,low0,ceW]) rfl
       simp [hi,hm,hx,gE hx,ceW,hih,hwg,gE hwg,f1]
       refine ⟨_,_,.inl (by simpa using hu _),by simp,?_⟩
       simp
       refine ⟨_,_,.inl (by simpa [ceW] using h34 _),by simp,?_⟩
       simp
       refine ⟨_,_,.inl (by simpa [ren,ren0,grow,ceW] using hk),by simp,?_⟩
       rw [y2] at hko i3
       have t1:∀ l:List Wlk,LeCellsS (swp 4 7) 8 5 (rowC ceW l) (rowC ceW l):=fun l=>treeCS (eWe.rowTree l)
       have t2:LeCellsS (swp 4 7) 8 5 (bC b) (bC b):=treeCS (bC_tree b)
       simp [w3]
       rw [← hPQ]
       simp only [LoopPostS]
       refine ⟨⟨i + 1,nx ++ [w'],1⟩,⟨by simp only; omega,hko,i3,by simp⟩,by simp only; omega,.inr ⟨4,7,by simp,by simp,by simp,by simp,by simp,?_,?_⟩⟩
       · simp [slL,nxV,LeLookS,ren,ren0,swp]
       · simp [HL,LeBoxesS,swpH,t1,t2,LeCellsS,ceW,ren,ren0,swp]
   · simp only [slL,HL,nxV] at *
     by_cases f1:x.From = lastW w
     case neg =>
       rw [hlk0 (fun q=>f1 q.1)] at i3
       simp [hi,hm,hx,gE hx,ceW,hih,hwg,gE hwg,f1,w3]
       rw [← hPQ]
       simp only [LoopPostS]
       exact ⟨⟨i + 1,nx,2⟩,⟨by simp only; omega,i2,i3,.inr (.inr ⟨rfl,hnil⟩)⟩,by simp only; omega,.inl (by simp [ceW,hble,hrle])⟩
     by_cases f2:usableN x c = true
     case neg =>
       have f2':usableN x c = false:=by simpa using f2
       rw [f2'] at hu
       rw [hlk0 (fun q=>f2 q.2)] at i3
       simp [hi,hm,hx,gE hx,ceW,hih,hwg,gE hwg,f1]
       refine ⟨_,_,.inl (by simpa using hu _),by simp,?_⟩
       simp [w3]
       rw [← hPQ]
       simp only [LoopPostS]
       exact ⟨⟨i + 1,nx,2⟩,⟨by simp only; omega,i2,i3,.inr (.inr ⟨rfl,hnil⟩)⟩,by simp only; omega,.inl (by simp [ceW,hble,hrle])⟩
     rw [hlk1 ⟨f1,f2⟩] at i3
     rw [f2] at hu
     have hml:0 < nx.length:=List.length_pos_iff.2 hnil
     rcases keepN_cases nx w' with ⟨k,y,y1,y2,y3,y4⟩ | ⟨y1,y2⟩
     · have hk:=(c33s nx nx.length rfl hml (by omega) w' (by omega) (by omega) hwn ⟨y,List.mem_of_getElem? y1,y2,y3⟩).at (H:=[cellsC c,[],bC b,rowC ceW nx,ceW w,cellsL x]) (id:=3) rfl (eWe.rowNoid _) (eWe.rowNoid _) (by simp [low,low0,ceW]) rfl
       simp [hi,hm,hx,gE hx,ceW,hih,hwg,gE hwg,f1]
       refine ⟨_,_,.inl (by simpa using hu _),by simp,?_⟩
       simp
       refine ⟨_,_,.inl (by simpa [ceW] using h34 _),by simp,?_⟩
       simp
       refine ⟨_,_,.inl (by simpa [ren,ren0,ceW] using hk),by simp,?_⟩
       have hkl:(keepN nx w').length = nx.length:=by rw [y4]; simp
       have hke:keepN nx w' ≠ []:=by intro e; rw [e] at hkl; simp at hkl; omega
       simp [w3]
       rw [← hPQ]
       simp only [LoopPostS]
       exact ⟨⟨i + 1,keepN nx w',2⟩,⟨by simp only; omega,hko,i3,by simp [hke]⟩,by simp only; omega,.inl (by simp [slL,HL,nxV,ceW,hble,hrle,hkl])⟩
     · have hk:=(c33m nx nx.length rfl hml (by omega) w' (by omega) (by omega) hwn y1).atNews (H:=[cellsC c,[],bC b,rowC ceW nx,ceW w,cellsL x]) (id:=3) rfl (eWe.rowNoid _) rfl (by simp [eWe.rowNoid]) (by simp [low,low0,ceW]) rfl
       simp [hi,hm,hx,gE hx,ceW,hih,hwg,gE hwg,f1]
       refine ⟨_,_,.inl (by simpa using hu _),by simp,?_⟩
       simp
       refine ⟨_,_,.inl (by simpa [ceW] using h34 _),by simp,?_⟩
       simp
       refine ⟨_,_,.inl (by simpa [ren,ren0,grow,ceW] using hk),by simp,?_⟩
       rw [y2] at hko i3
       have t1:∀ l:List Wlk,LeCellsS (swp 3 7) 8 5 (rowC ceW l) (rowC ceW l):=fun l=>treeCS (eWe.rowTree l)
       have t2:LeCellsS (swp 3 7) 8 5 (bC b) (bC b):=treeCS (bC_tree b)
       simp [w3]
       rw [← hPQ]
       simp only [LoopPostS]
       refine ⟨⟨i + 1,nx ++ [w'],2⟩,⟨by simp only; omega,hko,i3,by simp⟩,by simp only; omega,.inr ⟨3,7,by simp,by simp,by simp,by simp,by simp,?_,?_⟩⟩
       · simp [slL,nxV,LeLookS,ren,ren0,swp]
       · simp [HL,LeBoxesS,swpH,t1,t2,LeCellsS,ceW,ren,ren0,swp]
end Go.Proofs.YtpmmnnaaoideeaaGreat

/- The reference's Route, by the program: the walks of so many hops. -/
namespace Go.Proofs.YtpmmnnaaoideeaaGreat
open Go Go.Am Go.Wk
structure MS where
  j:Nat
  nx:List Wlk
  b:Option Wlk
  loc:Nat
def HM (c:Con) (b:Option Wlk) (nx:List Wlk):Nat → List (List AVal)
 | 0=>[cellsC c,[],bC b]
 | _=>[cellsC c,[],bC b,rowC ceW nx]
def slM (l:List Lnk) (N:Nat) (to:Int) (b:Option Wlk) (h:Nat) (nx:List Wlk) (loc:Nat):List (Nat × AVal) :=
 [(0,.int .i64 N),(1,.sl 13 (l.map encL) .sh),(3,.int .i64 to),(9,.ptr 0 0),(16,.ptr 2 0),(17,.bool b.isSome),(18,.int .i64 h),(19,nxV nx loc)]
set_option maxHeartbeats 16000000 in
set_option maxRecDepth 10000 in
theorem c16m (l:List Lnk) (m:Nat) (hm:l.length = m) (hm2:m ≤ 1024) (c:Con) (p:Nat) (hp:c.Avoid.length = p) (hp2:p < 9223372036854775807) (N:Nat) (hN2:N ≤ 128) (t:Nat) (ht:c.Thru.length = t) (ht3:t ≤ 64) (hlk:∀ x ∈ l,okLk N x) (to:Int)
   (h:Nat) (hh:h ≤ 8320) (A:List Wlk) (k:Nat) (hk:A.length = k) (hk2:k ≤ 8320) (hA:∀ w ∈ A,okW N t h w) (b0:Option Wlk)
   (Q:APost) (hQ:∀ (u:Nat → AVal) (nx:List Wlk) (loc:Nat) (b:Option Wlk),holds u (slM l N to b h nx loc) → nx = nextR l c A → b = bestR to t b0 A → okNx N t (h + 1) nx → (loc = 0 ∧ nx = [] ∨ loc = 2 ∧ nx ≠ []) → Q (.exit 2) ⟨u,HM c b nx loc⟩) (body:Code) (hb:loopIn (loopIn (Tryz.f49.body.getD .skip)) = body) (s:ASt)
   (hs:Le 0 s (slM l N to b0 h [] 0 ++ [(96,.sl 3 (A.map encW) .sh),(97,.int .i64 k),(98,.int .i64 0)]) (HM c b0 [] 0)):LoopK Tryz.prog 166 0 body Q s:=by
 unfold Tryz.f49 at hb
 simp only [loopIn,Option.getD_some,firstLoop,Option.orElse_none,Option.orElse_some] at hb
 subst hb
 have hble:=fun q b=>bC_le q b
 have hrle:=fun q l=>eWe.rowLe q l
 refine LoopK.introS (tr:=[30000019000007]) mixed (by kernel_rfl)
   (fun s:MS=>slM l N to s.b h s.nx s.loc ++ [(96,.sl 3 (A.map encW) .sh),(97,.int .i64 k),(98,.int .i64 s.j)])
   (fun s=>HM c s.b s.nx s.loc)
   (fun s=>s.j ≤ k ∧ okNx N t (h + 1) s.nx ∧ nextR l c A = (A.drop s.j).foldl (linksR l c) s.nx ∧ bestR to t b0 A = (A.drop s.j).foldl (bestS to t) s.b ∧ (s.loc = 0 ∧ s.nx = [] ∨ s.loc = 2 ∧ s.nx ≠ [])) (fun s=>k - s.j) ⟨0,[],b0,0⟩ ?_ hs ?_
 · exact ⟨Nat.zero_le _,okNx_nil _ _ _,rfl,rfl,.inl ⟨rfl,rfl⟩⟩
 · clear hs
   rintro ⟨j,nx,b,loc⟩ ⟨i1,i2,i3,i4,i5⟩
   simp only at i1 i2 i3 i4 i5
   generalize hPQ:LoopPostS _ _ _ _ _ _ _ = PQ
   by_cases hj:j < k
   case neg =>
     have hle:A.length ≤ j:=by omega
     rw [List.drop_eq_nil_of_le hle] at i3 i4
     have q:=fun u hu=>hQ u nx loc b hu i3.symm i4.symm i2 i5
     simp only [slM]
     simp [hj]
     rw [← hPQ]
     simp only [LoopPostS]
     refine q _ ?_
     intro p hp
     simp only [slM,List.mem_cons,List.not_mem_nil,or_false] at hp
     rcases hp with rfl | rfl | rfl | rfl | rfl | rfl | rfl | rfl <;> simp
   obtain ⟨w,hx⟩:∃ w,A[j]? = some w:=⟨_,List.getElem?_eq_getElem (by omega)⟩
   have hw:=hA w (List.mem_of_getElem? hx)
   have hd:A.drop j = w :: A.drop (j + 1):=by
     obtain ⟨k1,k2⟩:=List.getElem?_eq_some_iff.1 hx
     rw [List.drop_eq_getElem_cons k1,k2]
   rw [hd,List.foldl_cons] at i3 i4
   have w3:IntKind.i64.wrap ((j:Int) + 1) = j + 1:=wrap_in (by omega)
   obtain ⟨hwl,hwg⟩:=lastW_get hw
   have hwlen:=hw.len
   have hih:h < w.N.length:=by omega
   have c16':=fun b' Q' hQ' s' hs'=>c16l l m hm hm2 c p hp hp2 N hN2 t ht ht3 hlk to h hh A j b' w hw nx i2 loc i5 Q' hQ' _ rfl s' hs'
   have fin:∀ b',bestS to t b w = b' → ∀ (u:Nat → AVal) (nx':List Wlk) (loc':Nat),holds u (slL l N to b' h A j nx' loc') → nx' = linksR l c nx w → okNx N t (h + 1) nx' → (loc' = 0 ∧ nx' = [] ∨ loc' = 1 ∧ nx' ≠ [] ∨ loc' = 2 ∧ nx' ≠ []) → PQ .normal ⟨upd (upd u 155 (.int .i64 (j + 1))) 98 (.int .i64 (j + 1)),HL c b' w nx' loc'⟩:=by
     intro b' hb' u nx' loc' hu hn' ho' hl'
     rw [hb'] at i4
     rw [← hn'] at i3
     clear c16' hQ i5
     simp only [holds,slL,List.mem_cons,List.not_mem_nil,or_false,forall_eq_or_imp,forall_eq] at hu
     obtain ⟨u0,u1,u2,u3,u4,u5,u6,u7,u8,u9,u10⟩:=hu
     rw [← hPQ]
     simp only [LoopPostS]
     rcases hl' with ⟨rfl,hnil⟩ | ⟨rfl,hnil⟩ | ⟨rfl,hnil⟩
     · exact ⟨⟨j + 1,nx',b',0⟩,⟨by simp only; omega,ho',i3,i4,.inl ⟨rfl,hnil⟩⟩,by simp only; omega,.inl (by simp [slM,HM,HL,nxV,hble,hrle,hm,hk,u0,u1,u2,u3,u4,u5,u6,u7,u8,u9,u10])⟩
     · have t1:∀ l:List Wlk,LeCellsS (swp 3 4) 5 4 (rowC ceW l) (rowC ceW l):=fun l=>treeCS (eWe.rowTree l)
       have t2:LeCellsS (swp 3 4) 5 4 (bC b') (bC b'):=treeCS (bC_tree b')
       refine ⟨⟨j + 1,nx',b',2⟩,⟨by simp only; omega,ho',i3,i4,.inr ⟨rfl,hnil⟩⟩,by simp only; omega,.inr ⟨3,4,by simp,by simp,by simp [HL],by simp [HL],by simp,?_,?_⟩⟩
       · simp [slM,HM,HL,nxV,LeLookS,ren,ren0,swp,hm,hk,u0,u1,u2,u3,u4,u5,u6,u7,u8,u9,u10]
       · simp [HM,HL,LeBoxesS,swpH,t1,t2,LeCellsS,ceW,ren,ren0,swp]
     · exact ⟨⟨j + 1,nx',b',2⟩,⟨by simp only; omega,ho',i3,i4,.inr ⟨rfl,hnil⟩⟩,by simp only; omega,.inl (by simp [slM,HM,HL,nxV,hble,hrle,hm,hk,u0,u1,u2,u3,u4,u5,u6,u7,u8,u9,u10])⟩
   clear hPQ hQ
   have hbs:bestS to t b w = if lastW w = to ∧ w.D = t ∧ lessB b w = true then some w else b:=rfl
   rcases i5 with ⟨rfl,hnil⟩ | ⟨rfl,hnil⟩
   · simp only [slM,HM,nxV] at *
     by_cases f1:lastW w = to
     case neg =>
       rw [if_neg (fun q=>f1 q.1)] at hbs
       simp [hj,hk,hx,gE hx,ceW,hih,hwg,gE hwg,ht,f1]
       refine c16' b _ (fun u nx' loc' hu hn' ho' hl'=>?_) _ ?_
       · have hf:=fin b hbs u nx' loc' hu hn' ho' hl'
         simp only [holds,slL,List.mem_cons,List.not_mem_nil,or_false,forall_eq_or_imp,forall_eq] at hu
         obtain ⟨u0,u1,u2,u3,u4,u5,u6,u7,u8,u9,u10⟩:=hu
         simp [u0,u1,u2,u3,u4,u5,u6,u7,u8,u9,u10,w3]
         exact hf
       · simp [slL,HL,nxV,ceW,hble,hble,hrle,hk,hm]
     by_cases f2:w.D = t
     case neg =>
       have f2':¬ (w.D:Int) = t:=by omega
       rw [if_neg (fun q=>f2 q.2.1)] at hbs
       simp [hj,hk,hx,gE hx,ceW,hih,hwg,gE hwg,ht,f1,f2,f2']
       refine c16' b _ (fun u nx' loc' hu hn' ho' hl'=>?_) _ ?_
       · have hf:=fin b hbs u nx' loc' hu hn' ho' hl'
         simp only [holds,slL,List.mem_cons,List.not_mem_nil,or_false,forall_eq_or_imp,forall_eq] at hu
         obtain ⟨u0,u1,u2,u3,u4,u5,u6,u7,u8,u9,u10⟩:=hu
         simp [u0,u1,u2,u3,u4,u5,u6,u7,u8,u9,u10,w3]
         exact hf
       · simp [slL,HL,nxV,ceW,hble,hble,hrle,hk,hm]
     cases b with
     | none =>
       rw [if_pos ⟨f1,f2,rfl⟩] at hbs
       simp [hj,hk,hx,gE hx,ceW,bC,hih,hwg,gE hwg,ht,f1,f2]
       refine c16' (some w) _ (fun u nx' loc' hu hn' ho' hl'=>?_) _ ?_
       · have hf:=fin (some w) hbs u nx' loc' hu hn' ho' hl'
         simp only [holds,slL,List.mem_cons,List.not_mem_nil,or_false,forall_eq_or_imp,forall_eq] at hu
         obtain ⟨u0,u1,u2,u3,u4,u5,u6,u7,u8,u9,u10⟩:=hu
         simp [u0,u1,u2,u3,u4,u5,u6,u7,u8,u9,u10,w3]
         exact hf
       · simp [slL,HL,nxV,ceW,bC,hble,hrle,hk,hm,f2]
     | some q =>
       by_cases f3:w.C < q.C
       · rw [if_pos ⟨f1,f2,by simpa [lessB] using f3⟩] at hbs
         simp [hj,hk,hx,gE hx,ceW,bC,hih,hwg,gE hwg,ht,f1,f2,f3]
         refine c16' (some w) _ (fun u nx' loc' hu hn' ho' hl'=>?_) _ ?_
         · have hf:=fin (some w) hbs u nx' loc' hu hn' ho' hl'
           simp only [holds,slL,List.mem_cons,List.not_mem_nil,or_false,forall_eq_or_imp,forall_eq] at hu
           obtain ⟨u0,u1,u2,u3,u4,u5,u6,u7,u8,u9,u10⟩:=hu
           simp [u0,u1,u2,u3,u4,u5,u6,u7,u8,u9,u10,w3]
           exact hf
         · simp [slL,HL,nxV,ceW,bC,hble,hrle,hk,hm,f2]
       · rw [if_neg (fun r=>f3 (by simpa [lessB] using r.2.2))] at hbs
         simp [hj,hk,hx,gE hx,ceW,bC,hih,hwg,gE hwg,ht,f1,f2,f3]
         refine c16' (some q) _ (fun u nx' loc' hu hn' ho' hl'=>?_) _ ?_
         · have hf:=fin (some q) hbs u nx' loc' hu hn' ho' hl'
           simp only [holds,slL,List.mem_cons,List.not_mem_nil,or_false,forall_eq_or_imp,forall_eq] at hu
           obtain ⟨u0,u1,u2,u3,u4,u5,u6,u7,u8,u9,u10⟩:=hu
           simp [u0,u1,u2,u3,u4,u5,u6,u7,u8,u9,u10,w3]
           exact hf
         · simp [slL,HL,nxV,ceW,bC,hble,hrle,hk,hm,f2]
   · simp only [slM,HM,nxV] at *
     by_cases f1:lastW w = to
     case neg =>
       rw [if_neg (fun q=>f1 q.1)] at hbs
       simp [hj,hk,hx,gE hx,ceW,hih,hwg,gE hwg,ht,f1]
       refine c16' b _ (fun u nx' loc' hu hn' ho' hl'=>?_) _ ?_
       · have hf:=fin b hbs u nx' loc' hu hn' ho' hl'
         simp only [holds,slL,List.mem_cons,List.not_mem_nil,or_false,forall_eq_or_imp,forall_eq] at hu
         obtain ⟨u0,u1,u2,u3,u4,u5,u6,u7,u8,u9,u10⟩:=hu
         simp [u0,u1,u2,u3,u4,u5,u6,u7,u8,u9,u10,w3]
         exact hf
       · simp [slL,HL,nxV,ceW,hble,hble,hrle,hk,hm]
     by_cases f2:w.D = t
     case neg =>
       have f2':¬ (w.D:Int) = t:=by omega
       rw [if_neg (fun q=>f2 q.2.1)] at hbs
       simp [hj,hk,hx,gE hx,ceW,hih,hwg,gE hwg,ht,f1,f2,f2']
       refine c16' b _ (fun u nx' loc' hu hn' ho' hl'=>?_) _ ?_
       · have hf:=fin b hbs u nx' loc' hu hn' ho' hl'
         simp only [holds,slL,List.mem_cons,List.not_mem_nil,or_false,forall_eq_or_imp,forall_eq] at hu
         obtain ⟨u0,u1,u2,u3,u4,u5,u6,u7,u8,u9,u10⟩:=hu
         simp [u0,u1,u2,u3,u4,u5,u6,u7,u8,u9,u10,w3]
         exact hf
       · simp [slL,HL,nxV,ceW,hble,hble,hrle,hk,hm]
     cases b with
     | none =>
       rw [if_pos ⟨f1,f2,rfl⟩] at hbs
       simp [hj,hk,hx,gE hx,ceW,bC,hih,hwg,gE hwg,ht,f1,f2]
       refine c16' (some w) _ (fun u nx' loc' hu hn' ho' hl'=>?_) _ ?_
       · have hf:=fin (some w) hbs u nx' loc' hu hn' ho' hl'
         simp only [holds,slL,List.mem_cons,List.not_mem_nil,or_false,forall_eq_or_imp,forall_eq] at hu
         obtain ⟨u0,u1,u2,u3,u4,u5,u6,u7,u8,u9,u10⟩:=hu
         simp [u0,u1,u2,u3,u4,u5,u6,u7,u8,u9,u10,w3]
         exact hf
       · simp [slL,HL,nxV,ceW,bC,hble,hrle,hk,hm,f2]
     | some q =>
       by_cases f3:w.C < q.C
       · rw [if_pos ⟨f1,f2,by simpa [lessB] using f3⟩] at hbs
         simp [hj,hk,hx,gE hx,ceW,bC,hih,hwg,gE hwg,ht,f1,f2,f3]
         refine c16' (some w) _ (fun u nx' loc' hu hn' ho' hl'=>?_) _ ?_
         · have hf:=fin (some w) hbs u nx' loc' hu hn' ho' hl'
           simp only [holds,slL,List.mem_cons,List.not_mem_nil,or_false,forall_eq_or_imp,forall_eq] at hu
           obtain ⟨u0,u1,u2,u3,u4,u5,u6,u7,u8,u9,u10⟩:=hu
           simp [u0,u1,u2,u3,u4,u5,u6,u7,u8,u9,u10,w3]
           exact hf
         · simp [slL,HL,nxV,ceW,bC,hble,hrle,hk,hm,f2]
       · rw [if_neg (fun r=>f3 (by simpa [lessB] using r.2.2))] at hbs
         simp [hj,hk,hx,gE hx,ceW,bC,hih,hwg,gE hwg,ht,f1,f2,f3]
         refine c16' (some q) _ (fun u nx' loc' hu hn' ho' hl'=>?_) _ ?_
         · have hf:=fin (some q) hbs u nx' loc' hu hn' ho' hl'
           simp only [holds,slL,List.mem_cons,List.not_mem_nil,or_false,forall_eq_or_imp,forall_eq] at hu
           obtain ⟨u0,u1,u2,u3,u4,u5,u6,u7,u8,u9,u10⟩:=hu
           simp [u0,u1,u2,u3,u4,u5,u6,u7,u8,u9,u10,w3]
           exact hf
         · simp [slL,HL,nxV,ceW,bC,hble,hrle,hk,hm,f2]
end Go.Proofs.YtpmmnnaaoideeaaGreat
