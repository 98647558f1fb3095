/- The search: the best walk, by the program. -/
import Derived.Test.YtpmmnnaaoideeaaGreatGTC38
import Derived.Test.YtpmmnnaaoideeaaGreatGTC23
set_option linter.unusedSimpArgs false
set_option linter.unusedVariables false
namespace Go.Proofs.YtpmmnnaaoideeaaGreat
open Go Go.Am Go.Wk
def totR (f:Nat → Int):Nat → Int × Int
 | 0=>(-1,0)
 | m + 1=>if 0 ≤ f m ∧ ((totR f m).1 < 0 ∨ (f m < (totR f m).1 ∨ f m = (totR f m).1 ∧ (m:Int) < (totR f m).2)) then (f m,m) else totR f m
theorem totR_shape (f:Nat → Int):∀ m,(totR f m = (-1,0)) ∨ ∃ k,k < m ∧ 0 ≤ f k ∧ totR f m = (f k,(k:Int))
 | 0=>.inl rfl
 | m + 1=>by
   simp only [totR]
   split
   · rename_i h
     exact .inr ⟨m,by omega,h.1,rfl⟩
   · rcases totR_shape f m with h | ⟨k,h1,h2,h3⟩
     · exact .inl h
     · exact .inr ⟨k,by omega,h2,h3⟩
noncomputable def blO (ls:List Lnk) (th:List Int) (n t:Nat):List (Int × Int):=blB (bestO (arcsN ls th n) (th.length * n + t)) (n * (th.length + 1))
noncomputable def walkN (ls:List Lnk) (th:List Int) (n t:Nat) (from_:Nat) (most:Int):Option (List Int × Int) :=
 match bestO (arcsN ls th n) (th.length * n + t) (entN th n from_ 0) with
 | none=>none
 | some p =>
   if most = 0 ∨ (p.2:Int) ≤ most then some ((from_:Int) :: folN ls th n (fun x y co _=>gdB (blO ls th n t) x y co) p.2 (entN th n from_ 0),p.1)
   else
     let rows:=mnRows (arcsN ls th n) (th.length * n + t) (n * (th.length + 1)) (most.toNat + 1)
     let tot:=totR (fun h=>rowAt rows h (entN th n from_ 0)) (most.toNat + 1)
     if tot.1 < 0 then none else some ((from_:Int) :: folN ls th n (fun x y co l=>gdR rows x y co l) tot.2.toNat (entN th n from_ 0),tot.1)
noncomputable def resW:Option (List Int × Int) → AVal
 | none=>.tup [.sl 1 [] .sh,.int .i64 0,.bool false]
 | some p=>.tup [.sl 1 (p.1.map encI) .sh,.int .i64 p.2,.bool true]
set_option maxHeartbeats 8000000 in
set_option maxRecDepth 10000 in
theorem c31 (ls:List Lnk) (th:List Int) (n t:Nat) (h0:0 < n) (hn:n ≤ 128) (ht:t < n) (hth:th.length ≤ 64) (hls:∀ x ∈ ls,okLk n x) (hL2:ls.length ≤ 1024) (from_:Nat) (hf:from_ < n) (most:Int) (hm0:0 ≤ most) :
   CFun Tryz.prog 71 [.ptr 0 0,.int .i64 from_,.int .i64 most] [sC ls th n t] (resW (walkN ls th n t from_ most)) [sC ls th n t]:=by
 refine CFun.intro (tr:=[900004000018]) (fz:=[]) (n:=88) (rs:=[.tmp 6,.tmp 7,.tmp 8]) Tryz.func71 rfl (by kernel_rfl) rfl rfl mixed (by kernel_rfl) (by simp) (by simp) ?_
 have h48:=c48 ls th n t h0 hn ht hth hls hL2 _ rfl _ rfl
 have h49:=fun Z=>at0 (c49 ls th n t from_ 0 hn (by omega) hth (by omega)) rfl rfl rfl Z
 have hE4:∀ a ∈ arcsN ls th n,a.2.2 ≤ 65535:=fun a ha=>(arcs_bound hls ha).2.2.2
 have hE1:∀ a ∈ arcsN ls th n,1 ≤ a.2.2:=fun a ha=>(arcs_bound hls ha).2.2.1
 have hE2:∀ a ∈ arcsN ls th n,a.2.1 < n * (th.length + 1):=fun a ha=>(arcs_bound hls ha).2.1
 obtain ⟨sz,hsz⟩:∃ sz,sz = n * (th.length + 1):=⟨_,rfl⟩
 obtain ⟨z,hz⟩:∃ z,z = th.length * n + t:=⟨_,rfl⟩
 obtain ⟨x0,hx0⟩:∃ x0,x0 = entN th n from_ 0:=⟨_,rfl⟩
 have hsb:sz ≤ 8320:=by rw [hsz]; exact Nat.mul_le_mul hn (show th.length + 1 ≤ 65 by omega)
 have hx0s:x0 < sz:=by
   rw [hx0,hsz]
   unfold entN
   have:=entK_len (th:=th) (a:=from_) (k:=0) (by omega)
   have e2:(entK th from_ 0 + 1) * n ≤ (th.length + 1) * n:=Nat.mul_le_mul_right n (by omega)
   rw [Nat.succ_mul] at e2
   rw [Nat.mul_comm n]
   omega
 unfold walkN blO
 rw [← hsz,← hz] at h48
 rw [← hsz,← hz,← hx0]
 rw [← hx0] at h49
 rw [← hsz] at hE2
 obtain ⟨bl,hbl⟩:∃ bl,bl = blB (bestO (arcsN ls th n) z) sz:=⟨_,rfl⟩
 rw [← hbl] at h48 ⊢
 have hbll:bl.length = sz:=by rw [hbl]; exact blB_len _ _
 have hblb:∀ p ∈ bl,-1 ≤ p.1 ∧ p.1 < 1099511627776 ∧ 0 ≤ p.2 ∧ p.2 < 1099511627776:=by
   intro p hp
   rw [hbl] at hp
   obtain ⟨x,hx,rfl⟩:=List.mem_map.1 hp
   have hx:=List.mem_range.1 hx
   unfold encB
   cases e:bestO (arcsN ls th n) z x with
   | none=>simp
   | some q =>
     have hd:=bestO_spec (c:=q.1) (h:=q.2) e
     obtain ⟨ys,h1,h2⟩:=hd.1
     have:=h1.cost hE4
     have:=hd.hops hE1 hE2 hx
     have:ys.length * 65535 ≤ 8320 * 65535:=Nat.mul_le_mul_right _ (by omega)
     simp only
     omega
 have hblg:bl[x0]? = some (encB (bestO (arcsN ls th n) z) x0):=by rw [hbl]; exact blB_get _ hx0s
 have h51:∀ x y co left,x < n * (th.length + 1) → y < n * (th.length + 1) → 0 ≤ co → co ≤ 65535 → ∀ Z,CFun Tryz.prog 93 [.int .i64 ((x:Nat):Int),.int .i64 ((y:Nat):Int),.int .i64 (co:Int),.int .i64 ((left:Nat):Int),.ptr 1 0] (sC ls th n t :: [.sl 2 (bl.map fun p=>.agg (ceP p)) .sh] :: Z) (.bool (gdB bl x y co)) (sC ls th n t :: [.sl 2 (bl.map fun p=>.agg (ceP p)) .sh] :: Z):=by
   intro x y co left hx hy h1 h2 Z
   rw [← hsz] at hx hy
   have:=(c51 bl sz hbll hblb x y hx hy co left ⟨h1,h2⟩).at (H:=sC ls th n t :: [.sl 2 (bl.map fun p=>.agg (ceP p)) .sh] :: Z) (id:=1) rfl rfl rfl rfl rfl
   exact this
 have h50:=fun hops (hh:hops < 1000000)=>c50 ls th n t h0 hn hth hls ls.length rfl hL2 93 (fun x y co _=>gdB bl x y co) 2 (bl.map fun p=>.agg (ceP p)) from_ hops hf hh (fun x y co left hx hy h1 h2 _ _ Z=>h51 x y co left hx hy h1 h2 Z)
 rw [← hx0] at h50
 have h50':=fun hops hh Z=>(h50 hops hh).app rfl rfl rfl rfl rfl Z
 clear h50
 simp only [sC] at *
 simp
 refine ⟨_,_,.inl (by simpa using h48),by simp,?_⟩
 simp
 refine ⟨_,_,⟨rfl,fun Z=>by simpa using h49 _⟩,by simp,?_⟩
 have hx0l:x0 < bl.length:=by omega
 cases hbo:bestO (arcsN ls th n) z x0 with
 | none =>
   have he:encB (bestO (arcsN ls th n) z) x0 = (-1,0):=by unfold encB; rw [hbo]
   rw [he] at hblg
   simp [hx0l,hbll,hx0s,hblg,gE hblg,ceP,resW]
   done
 | some p =>
   obtain ⟨c,h⟩:=p
   have he:encB (bestO (arcsN ls th n) z) x0 = ((c:Int),(h:Int)):=by unfold encB; rw [hbo]
   rw [he] at hblg
   have hd:=bestO_spec hbo
   have hhb:=hd.hops hE1 hE2 hx0s
   have c0:¬ (c:Int) < 0:=by omega
   simp only
   by_cases hmo:most = 0 ∨ (h:Int) ≤ most
   · rw [if_pos hmo]
     by_cases hm1:most = 0
     · simp [hx0l,hbll,hx0s,hblg,gE hblg,ceP,c0,hm1,resW]
       refine ⟨_,_,.inl (by simpa [ceP] using h50' h (by omega) [[.int .i64 c,.int .i64 h]]),by simp,?_⟩
       simp
     · have hm2:=hmo.resolve_left hm1
       simp [hx0l,hbll,hx0s,hblg,gE hblg,ceP,c0,hm1,hm2,resW]
       refine ⟨_,_,.inl (by simpa [ceP] using h50' h (by omega) [[.int .i64 c,.int .i64 h]]),by simp,?_⟩
       simp
   · rw [if_neg hmo]
     have hmn:most = (most.toNat:Int):=by omega
     obtain ⟨M,hM⟩:∃ M,M = most.toNat:=⟨_,rfl⟩
     rw [← hM] at hmn ⊢
     have hM2:M < 8320:=by omega
     have hm1:¬ most = 0:=fun e=>hmo (.inl e)
     have hm2:¬ (h:Int) ≤ most:=fun e=>hmo (.inr e)
     have h52:=fun Z=>at0 (c52 ls th n t h0 hn ht hth hls hL2 sz hsz.symm z hz.symm M hM2) rfl rfl rfl Z
     simp only [sC] at h52
     obtain ⟨rows,hrows⟩:∃ rows,rows = mnRows (arcsN ls th n) z sz (M + 1):=⟨_,rfl⟩
     rw [← hrows] at h52 ⊢
     have hrl:rows.length = M + 1:=by rw [hrows]; exact mnRows_len _ _ _ _
     have hrb:∀ r ∈ rows,r.length = sz ∧ ∀ v ∈ r,-1 ≤ v ∧ v < 1099511627776:=by
       intro r hr
       rw [hrows] at hr
       obtain ⟨i,hi,rfl⟩:=List.mem_map.1 hr
       have hi:=List.mem_range.1 hi
       exact ⟨mnRow_len _ _ _ _,encO_b hE4 (by omega)⟩
     have h54:∀ x y co left,x < n * (th.length + 1) → y < n * (th.length + 1) → 0 ≤ co → co ≤ 65535 → 0 < left → left ≤ M → ∀ Z,CFun Tryz.prog 96 [.int .i64 ((x:Nat):Int),.int .i64 ((y:Nat):Int),.int .i64 (co:Int),.int .i64 ((left:Nat):Int),.ptr 1 0] (sC ls th n t :: [.sl 1 (rows.map encF) .sh] :: Z) (.bool (gdR rows x y co left)) (sC ls th n t :: [.sl 1 (rows.map encF) .sh] :: Z):=by
       intro x y co left hx hy h1 h2 h3 h4 Z
       rw [← hsz] at hx hy
       have:=(c54 rows sz hrb (M + 1) hrl (by omega) x y hx hy co left h3 (by omega) ⟨h1,h2⟩).at (H:=sC ls th n t :: [.sl 1 (rows.map encR) .sh] :: Z) (id:=1) rfl rfl rfl rfl rfl
       exact this
     have h50r:=fun hops (hh:hops ≤ M)=>c50 ls th n t h0 hn hth hls ls.length rfl hL2 96 (fun x y co l=>gdR rows x y co l) 1 (rows.map encF) from_ hops hf (by omega) (fun x y co left hx hy h1 h2 h3 h4 Z=>h54 x y co left hx hy h1 h2 h3 (by omega) Z)
     rw [← hx0] at h50r
     simp only [sC] at h50r
     have hsh:=totR_shape (fun h=>rowAt rows h x0)
     generalize hT:totR (fun h=>rowAt rows h x0) = T at *
     have hTS:∀ m,T (m + 1) = if 0 ≤ rowAt rows m x0 ∧ ((T m).1 < 0 ∨ (rowAt rows m x0 < (T m).1 ∨ rowAt rows m x0 = (T m).1 ∧ (m:Int) < (T m).2)) then (rowAt rows m x0,(m:Int)) else T m:=by
       intro m
       rw [← hT]
       rfl
     have hT0:T 0 = (-1,0):=by rw [← hT]; rfl
     rw [hmn] at hm1 hm2 ⊢
     have hm3:¬ M = 0:=by omega
     have hm4:¬ h ≤ M:=by omega
     simp [hx0l,hbll,hx0s,hblg,gE hblg,ceP,c0,hm3,hm4]
     refine ⟨_,_,.inl (by simpa using h52 _),by simp,?_⟩
     simp [hrl]
     refine LoopK.intro (tr:=[900004000018]) mixed (by kernel_rfl)
       (fun i:Nat=>[(0,.ptr 0 0),(1,.int .i64 from_),(11,.ptr 3 0),(12,.ptr 4 0),(47,.sl 1 (rows.map encF) .sh),(48,.int .i64 ((M:Int) + 1)),(49,.int .i64 i)])
       (fun i=>[[.sl 13 (ls.map encL) .own,.sl 1 (th.map encI) .sh,.int .i64 n,.int .i64 t],[.sl 2 (bl.map fun p=>.agg (ceP p)) .sh],[.int .i64 c,.int .i64 h],[.sl 1 (rows.map encF) .sh],[.int .i64 (T i).1,.int .i64 (T i).2]]) (fun i=>i ≤ M + 1) (fun i=>M + 1 - i) 0 ?_ ?_ ?_
     · simp
     · simp [ceP,hT0]
     · intro i hi
       by_cases hi2:i < M + 1
       · obtain ⟨r,hr⟩:∃ r,rows[i]? = some r:=⟨_,List.getElem?_eq_getElem (by omega)⟩
         obtain ⟨hrN,hrv⟩:=hrb r (List.mem_of_getElem? hr)
         have hv:=getD_ofI (l:=r) (i:=x0) (by omega)
         have hra:rowAt rows i x0 = r.getD x0 0:=by unfold rowAt; rw [List.getD_eq_getElem?_getD (l:=rows),hr]; rfl
         have hts:=hTS i
         rw [hra] at hts
         generalize r.getD x0 0 = v at *
         have hz1:=rowZ_get hv
         have hzl:=rowZ_len r
         obtain ⟨t1,t2,ht12⟩:∃ t1 t2,T i = (t1,t2):=⟨_,_,rfl⟩
         rw [ht12] at hts
         simp only at hts
         have hii:(i:Int) < (M:Int) + 1:=by omega
         have w3:IntKind.i64.wrap ((i:Int) + 1) = i + 1:=wrap_in (by omega)
         have h53:=fun a b c d H=>(c53 a b c d).up' H rfl rfl
         simp [hii,hi2,hrl,hr,gE hr,encF,ht12]
         refine ⟨_,_,.inl (by simpa [ceP] using h49 _),by simp,?_⟩
         have hx0r:x0 < (rowZ r).length:=by omega
         by_cases g1:0 ≤ v
         · by_cases g2:t1 < 0
           · rw [if_pos ⟨g1,.inl g2⟩] at hts
             simp [hz1,gE hz1,hzl,hrN,hx0s,g1,g2,w3]
             exact ⟨i + 1,by omega,by omega,by simp [hts,ceP]⟩
           · by_cases g3:v < t1 ∨ v = t1 ∧ (i:Int) < t2
             · rw [if_pos ⟨g1,.inr g3⟩] at hts
               have hb:(decide (v < t1) || decide (v = t1) && decide ((i:Int) < t2)) = true:=by simpa using g3
               have hk:=h53 v i t1 t2
               rw [hb] at hk
               simp [hz1,gE hz1,hzl,hrN,hx0s,g1,g2,w3]
               refine ⟨_,_,.inl (by simpa using hk _),by simp,?_⟩
               simp [w3]
               exact ⟨i + 1,by omega,by omega,by simp [hts,ceP]⟩
             · rw [if_neg (fun q=>q.2.elim g2 g3)] at hts
               have hb:(decide (v < t1) || decide (v = t1) && decide ((i:Int) < t2)) = false:=by
                 rw [Bool.eq_false_iff]
                 intro e
                 exact g3 (by simpa using e)
               have hk:=h53 v i t1 t2
               rw [hb] at hk
               simp [hz1,gE hz1,hzl,hrN,hx0s,g1,g2,w3]
               refine ⟨_,_,.inl (by simpa using hk _),by simp,?_⟩
               simp [w3]
               exact ⟨i + 1,by omega,by omega,by simp [hts,ceP]⟩
         · rw [if_neg (fun q=>g1 q.1)] at hts
           simp [hz1,gE hz1,hzl,hrN,hx0s,g1,w3]
           exact ⟨i + 1,by omega,by omega,by simp [hts,ceP]⟩
       · have:i = M + 1:=by omega
         subst this
         have hs:=hsh (M + 1)
         have h50r':=fun hops hh=>(h50r hops hh).at2 (i:=0) (j:=3) (H:=[[.sl 13 (ls.map encL) .own,.sl 1 (th.map encI) .sh,.int .i64 n,.int .i64 t],[.sl 2 (bl.map fun p=>.agg (ceP p)) .sh],[.int .i64 c,.int .i64 h],[.sl 1 (rows.map encF) .sh],[.int .i64 (T (M + 1)).1,.int .i64 (T (M + 1)).2]]) (by decide) rfl rfl rfl rfl rfl rfl rfl rfl
         rcases hs with hs | ⟨k,k1,k2,k3⟩
         · rw [hs]
           simp [hs,resW]
         · rw [k3]
           have k4:¬ rowAt rows k x0 < 0:=by omega
           rw [if_neg k4]
           have hc:=h50r' k (by omega)
           rw [k3] at hc
           simp [k3,resW,k4]
           refine ⟨_,_,.inl (by simpa [two,ren,ren0] using hc),by simp,?_⟩
           simp
end Go.Proofs.YtpmmnnaaoideeaaGreat

/- Fits of the program. -/
namespace Go.Proofs.YtpmmnnaaoideeaaGreat
open Go Go.Am
@[simp] def hF (p:List Int) (c:Con) (i x:Int):List (List AVal):=[[.sl 1 (p.map encI) .sh],cellsC c,[.int .i64 i],[.int .i64 x]]
end Go.Proofs.YtpmmnnaaoideeaaGreat

/- Fits of the program, its walk. -/
namespace Go.Proofs.YtpmmnnaaoideeaaGreat
open Go Go.Am
end Go.Proofs.YtpmmnnaaoideeaaGreat

/- Fits of the reference. -/
namespace Go.Proofs.YtpmmnnaaoideeaaGreat
open Go Go.Am
def goR (l:List Lnk) (c:Con):Option Int → Nat → List Int → Bool
 | _,k,[]=>decide (k = c.Thru.length)
 | p,k,x :: xs=>if hasB c.Avoid x = true then false
   else if (match p with | some a=>!((findL l a x).2 && usableN (findL l a x).1 c) | none=>false) = true then false
   else goR l c (some x) (if c.Thru[k]? = some x then k + 1 else k) xs
theorem links_asc {n:Int}:∀ {l:List Lnk} {p:Option Lnk},linksE n p l = 0 → (l.Pairwise fun x y=>x.From < y.From ∨ x.From = y.From ∧ x.To < y.To) ∧ (∀ q,p = some q → ∀ y ∈ l,q.From < y.From ∨ q.From = y.From ∧ q.To < y.To) ∧ ∀ y ∈ l,linkE n y = 0:=by
 intro l
 induction l with
 | nil=>intro p _; exact ⟨.nil,fun _ _ _ h=>by simp at h,fun _ h=>by simp at h⟩
 | cons x l ih =>
   intro p h
   simp only [linksE] at h
   by_cases h1:linkE n x = 0
   · rw [if_neg (by simpa using h1)] at h
     by_cases h2:befL p x = true
     · rw [if_pos h2] at h; cases h
     · rw [if_neg h2] at h
       obtain ⟨k1,k2,k3⟩:=ih h
       have k2':=k2 x rfl
       refine ⟨List.pairwise_cons.2 ⟨k2',k1⟩,fun q hq y hy=>?_,fun y hy=>?_⟩
       · subst hq
         have hx:q.From < x.From ∨ q.From = x.From ∧ q.To < x.To:=by
           simp only [befL,Bool.or_eq_true,Bool.and_eq_true,decide_eq_true_eq,not_or,not_and] at h2
           omega
         rcases List.mem_cons.1 hy with rfl | hy
         · exact hx
         · have:=k2' y hy
           omega
       · rcases List.mem_cons.1 hy with rfl | hy
         · exact h1
         · exact k3 y hy
   · rw [if_pos h1] at h
     exact (h1 h).elim
theorem check_links {n:Int} {l:List Lnk} {c:Con} (h:checkE n l c = 0):1 ≤ n ∧ n ≤ 128 ∧ l.length ≤ 1024 ∧ linksE n none l = 0 ∧ conE n c = 0:=by
 unfold checkE at h
 by_cases g1:n < 1 ∨ 128 < n
 · rw [if_pos g1] at h; cases h
 rw [if_neg g1] at h
 by_cases g2:1024 < l.length
 · rw [if_pos g2] at h; cases h
 rw [if_neg g2] at h
 by_cases g3:linksE n none l = 0
 · rw [if_neg (by simpa using g3)] at h
   exact ⟨by omega,by omega,by omega,g3,h⟩
 · rw [if_pos g3] at h
   exact (g3 h).elim
end Go.Proofs.YtpmmnnaaoideeaaGreat

/- Route, by the program. -/
namespace Go.Proofs.YtpmmnnaaoideeaaGreat
open Go Go.Am Go.Wk
theorem folN_len (ls:List Lnk) (th:List Int) (n:Nat) (gd:Nat → Nat → Int → Nat → Bool):∀ h x,(folN ls th n gd h x).length ≤ h
 | 0,_=>by simp [folN]
 | h + 1,x=>by
   simp only [folN]
   split
   · simpa using folN_len ls th n gd h _
   · have:=folN_len ls th n gd h x
     omega
theorem link_ok {n:Nat} {x:Lnk} (h:linkE n x = 0):okLk n x ∧ x.From ≠ x.To:=by
 unfold linkE at h
 by_cases g1:x.From < 0 ∨ (n:Int) ≤ x.From ∨ x.To < 0 ∨ (n:Int) ≤ x.To
 · rw [if_pos g1] at h; cases h
 rw [if_neg g1] at h
 by_cases g2:x.From = x.To
 · rw [if_pos g2] at h; cases h
 rw [if_neg g2] at h
 by_cases g3:x.Cost < 1 ∨ 65535 < x.Cost ∨ x.Cap < 0 ∨ 1099511627776 < x.Cap
 · rw [if_pos g3] at h; cases h
 exact ⟨by unfold okLk; omega,g2⟩
theorem con_ok {n:Int} {c:Con} (h:conE n c = 0):0 ≤ c.Hops ∧ c.Avoid.length ≤ 64 ∧ c.Thru.length ≤ 64 ∧ 0 ≤ c.Setup ∧ c.Setup ≤ 7 ∧ 0 ≤ c.Band:=by
 unfold conE at h
 by_cases g1:c.Band < 0 ∨ 1099511627776 < c.Band ∨ c.Setup < 0 ∨ 7 < c.Setup ∨ c.Hold < 0 ∨ 7 < c.Hold ∨ c.Hops < 0
 · rw [if_pos g1] at h; cases h
 rw [if_neg g1] at h
 by_cases g2:c.Setup < c.Hold
 · rw [if_pos g2] at h; cases h
 rw [if_neg g2] at h
 by_cases g3:64 < c.Avoid.length ∨ 64 < c.Thru.length
 · rw [if_pos g3] at h; cases h
 omega
theorem walkN_len {ls:List Lnk} {th:List Int} {n t from_:Nat} {most:Int} (hn:n ≤ 128) (hth:th.length ≤ 64) (hf:from_ < n) (hls:∀ x ∈ ls,okLk n x) {p:List Int × Int} (h:walkN ls th n t from_ most = some p):p.1.length ≤ 10000:=by
 unfold walkN at h
 split at h
 · cases h
 · rename_i q hb
   have hd:=bestO_spec (c:=q.1) (h:=q.2) hb
   have hE1:∀ a ∈ arcsN ls th n,1 ≤ a.2.2:=fun a ha=>(arcs_bound hls ha).2.2.1
   have hE2:∀ a ∈ arcsN ls th n,a.2.1 < n * (th.length + 1):=fun a ha=>(arcs_bound hls ha).2.1
   have hsb:n * (th.length + 1) ≤ 128 * 65:=Nat.mul_le_mul hn (by omega)
   have hx0s:entN th n from_ 0 < n * (th.length + 1):=by
     unfold entN
     have:=entK_len (th:=th) (a:=from_) (k:=0) (by omega)
     have e2:(entK th from_ 0 + 1) * n ≤ (th.length + 1) * n:=Nat.mul_le_mul_right n (by omega)
     rw [Nat.succ_mul] at e2
     rw [Nat.mul_comm n]
     omega
   have hh:=hd.hops hE1 hE2 hx0s
   split at h
   · injection h with h
     subst h
     have:=folN_len ls th n (fun x y co _=>gdB (blO ls th n t) x y co) q.2 (entN th n from_ 0)
     simp only [List.length_cons]
     omega
   · rename_i hmo
     simp only at h
     split at h
     · cases h
     · injection h with h
       subst h
       have hl:=folN_len ls th n (fun x y co l=>gdR (mnRows (arcsN ls th n) (th.length * n + t) (n * (th.length + 1)) (most.toNat + 1)) x y co l) (totR (fun h=>rowAt (mnRows (arcsN ls th n) (th.length * n + t) (n * (th.length + 1)) (most.toNat + 1)) h (entN th n from_ 0)) (most.toNat + 1)).2.toNat (entN th n from_ 0)
       have hs:=totR_shape (fun h=>rowAt (mnRows (arcsN ls th n) (th.length * n + t) (n * (th.length + 1)) (most.toNat + 1)) h (entN th n from_ 0)) (most.toNat + 1)
       simp only [List.length_cons]
       rcases hs with hs | ⟨k,k1,_,k3⟩
       · rw [hs] at hl ⊢
         simp only at hl ⊢
         omega
       · rw [k3] at hl ⊢
         simp only at hl ⊢
         omega
noncomputable def routeN (n:Int) (l:List Lnk) (fr to:Int) (c:Con):List Int × Int × Int :=
 if checkE n l c ≠ 0 then ([],0,checkE n l c) else if (outN n fr || outN n to) = true then ([],0,5) else if hasB c.Avoid fr = true then ([],0,20)
 else match walkN (l.filter fun x=>usableN x c) c.Thru n.toNat to.toNat fr.toNat c.Hops with
   | none=>([],0,20)
   | some p=>if repB p.1 = true then ([],0,10) else (p.1,p.2,0)
@[simp] def encRt (p:List Int × Int × Int):AVal:=.tup [.sl 1 (p.1.map encI) .sh,.int .i64 p.2.1,.int .i64 p.2.2]
theorem out_23 {n x:Int}:(decide (x < 0) || decide (n - 1 < x)) = outN n x:=by
 unfold outN
 congr 1
 exact decide_eq_decide.2 (by omega)
set_option maxHeartbeats 8000000 in
set_option maxRecDepth 10000 in
theorem c15 (l:List Lnk) (m:Nat) (hm:l.length = m) (hm2:m < 9223372036854775807) (c:Con) (p q:Nat) (hp:c.Avoid.length = p) (hq:c.Thru.length = q) (hp2:p < 9223372036854775807) (hq2:q < 9223372036854775807) (n fr to:Int) :
   CFun Tryz.prog 42 [.int .i64 n,.sl 13 (l.map encL) .sh,.int .i64 fr,.int .i64 to,encC c] [] (encRt (routeN n l fr to c)) []:=by
 refine CFun.intro (tr:=[60,2000060]) (fz:=[]) (n:=82) (rs:=[.tmp 10,.tmp 11,.tmp 12]) Tryz.func42 rfl (by kernel_rfl) rfl rfl mixed (by kernel_rfl) (by simp) (by simp) ?_
 have h12:=fun H=>(c12 l m hm hm2 c n p q hp hq hp2 hq2).up' H (by simp [noid,noid0]) rfl
 have h23:=fun a b c H=>(c23 a b c).up' H rfl rfl
 have h24:=fun H=>(c24 c.Avoid p hp hp2 fr).up' H rfl rfl
 unfold routeN
 by_cases g1:checkE n l c = 0
 case neg =>
   rw [if_pos g1]
   have g1':¬ checkE n l c = 0:=g1
   generalize checkE n l c = e at *
   simp
   refine ⟨_,_,.inl (by simpa using h12 _),by simp,?_⟩
   simp [g1']
 rw [if_neg (by simpa using g1)]
 rw [g1] at h12
 obtain ⟨n1,n2,l2,lk,cn⟩:=check_links g1
 obtain ⟨asc,_,lko⟩:=links_asc lk
 obtain ⟨c1,c2,c3,_⟩:=con_ok cn
 obtain ⟨N,hN⟩:∃ N:Nat,n = N:=⟨n.toNat,by omega⟩
 subst hN
 have w1:IntKind.i64.wrap ((N:Int) - 1) = (N:Int) - 1:=wrap_in (by omega)
 have k1:=h23 fr 0 ((N:Int) - 1)
 have k2:=h23 to 0 ((N:Int) - 1)
 rw [out_23] at k1 k2
 simp
 refine ⟨_,_,.inl (by simpa using h12 _),by simp,?_⟩
 by_cases o1:outN N fr = true
 · rw [o1] at k1
   simp [o1,w1]
   refine ⟨_,_,.inl (by simpa using k1 _),by simp,?_⟩
   simp
 have o1':outN N fr = false:=by simpa using o1
 rw [o1'] at k1
 by_cases o2:outN N to = true
 · rw [o2] at k2
   simp [o1',o2,w1]
   refine ⟨_,_,.inl (by simpa using k1 _),by simp,?_⟩
   simp [w1]
   refine ⟨_,_,.inl (by simpa using k2 _),by simp,?_⟩
   simp
 have o2':outN N to = false:=by simpa using o2
 rw [o2'] at k2
 simp [o1',o2',w1]
 refine ⟨_,_,.inl (by simpa using k1 _),by simp,?_⟩
 simp [w1]
 refine ⟨_,_,.inl (by simpa using k2 _),by simp,?_⟩
 simp
 by_cases a1:hasB c.Avoid fr = true
 · rw [a1] at h24
   simp [a1]
   refine ⟨_,_,.inl (by simpa using h24 _),by simp,?_⟩
   simp
 have a1':hasB c.Avoid fr = false:=by simpa using a1
 rw [a1'] at h24
 simp [a1']
 refine ⟨_,_,.inl (by simpa using h24 _),by simp,?_⟩
 simp [hm]
 clear h24 k1 k2 h12
 obtain ⟨F,hF⟩:∃ F:Nat → List Lnk,F = fun i=>(l.take i).filter fun x=>usableN x c:=⟨_,rfl⟩
 have F0:F 0 = []:=by rw [hF]; rfl
 have FS:∀ i x,l[i]? = some x → F (i + 1) = F i ++ (if usableN x c = true then [x] else []):=by
   intro i x hx
   rw [hF]
   show (l.take (i + 1)).filter _ = (l.take i).filter _ ++ _
   rw [List.take_add_one,hx,List.filter_append]
   congr 1
   by_cases hu:usableN x c = true
   · simp [hu]
   · simp [hu]
 have FL:∀ i,(F i).length ≤ m:=fun i=>by
   rw [hF]
   have h1:=List.length_filter_le (fun x=>usableN x c) (l.take i)
   have h2:=List.length_take_le i l
   simp only at h1 ⊢
   have h3:(l.take i).length ≤ l.length:=by simp; omega
   omega
 have FE:(l.filter fun x=>usableN x c) = F m:=by rw [hF,← hm]; simp
 have FM:∀ x ∈ F m,okLk N x:=by
   intro x hx
   rw [← FE] at hx
   exact (link_ok (lko x (List.mem_filter.1 hx).1)).1
 rw [FE]
 clear hF FE
 have h9:=fun x H=>(c9 x c p hp hp2).up' H (by simp [noid,noid0]) rfl
 refine LoopK.intro (tr:=[60,2000060]) mixed (by kernel_rfl)
   (fun i:Nat=>[(2,.int .i64 fr),(9,.ptr 0 0),(14,.ptr 1 0),(47,.sl 13 (l.map encL) .sh),(48,.int .i64 m),(49,.int .i64 i)])
   (fun i=>[cellsC c,[.sl 13 ((F i).map encL) .own,.sl 1 (c.Thru.map encI) .sh,.int .i64 N,.int .i64 to]]) (fun i=>i ≤ m) (fun i=>m - i) 0 ?_ ?_ ?_
 · simp
 · simp [hm,F0]
   done
 · intro i hi
   by_cases hi2:i < m
   · obtain ⟨x,hx⟩:∃ x,l[i]? = some x:=⟨_,List.getElem?_eq_getElem (by omega)⟩
     have hu9:=h9 x
     have fs:=FS i x hx
     have fl:=FL i
     have w3:IntKind.i64.wrap ((i:Int) + 1) = i + 1:=wrap_in (by omega)
     have s1:(F i).length + 1 ≤ 140737488355328:=by omega
     have s2:((F i).length + 1) * 104 ≤ 140737488355328:=by omega
     simp [hi2,hm,hx,gE hx]
     refine ⟨_,_,.inl (by simpa using hu9 _),by simp,?_⟩
     by_cases hu:usableN x c = true
     · rw [if_pos hu] at fs
       simp [hu,s1,s2,w3]
       exact ⟨i + 1,by omega,by omega,by simp [fs]⟩
     · rw [if_neg hu,List.append_nil] at fs
       have hu':usableN x c = false:=by simpa using hu
       simp [hu',w3]
       exact ⟨i + 1,by omega,by omega,by simp [fs]⟩
   · have:i = m:=by omega
     subst this
     have hfr:fr = (fr.toNat:Int) ∧ fr.toNat < N:=by
       simp only [outN,Bool.or_eq_false_iff,decide_eq_false_iff_not] at o1'
       omega
     have hto:to = (to.toNat:Int) ∧ to.toNat < N:=by
       simp only [outN,Bool.or_eq_false_iff,decide_eq_false_iff_not] at o2'
       omega
     have h31:=c31 (F i) c.Thru N to.toNat (by omega) (by omega) hto.2 (by omega) FM (by have:=FL i; omega) fr.toNat hfr.2 c.Hops c1
     rw [← hfr.1] at h31
     have hwl:=fun p hp=>walkN_len (ls:=F i) (th:=c.Thru) (n:=N) (t:=to.toNat) (from_:=fr.toNat) (most:=c.Hops) (by omega) (by omega) hfr.2 FM (p:=p) hp
     simp only [sC] at h31
     rw [← hto.1] at h31
     simp
     generalize walkN (F i) c.Thru N to.toNat fr.toNat c.Hops = W at *
     cases W with
     | none =>
       have:CFun Tryz.prog 71 [.ptr 1 0,.int .i64 fr,.int .i64 c.Hops] [cellsC c,[.sl 13 ((F i).map encL) .own,.sl 1 (c.Thru.map encI) .sh,.int .i64 N,.int .i64 to]] (.tup [.sl 1 [] .sh,.int .i64 0,.bool false]) [cellsC c,[.sl 13 ((F i).map encL) .own,.sl 1 (c.Thru.map encI) .sh,.int .i64 N,.int .i64 to]]:=h31.at (H:=[cellsC c,[.sl 13 ((F i).map encL) .own,.sl 1 (c.Thru.map encI) .sh,.int .i64 N,.int .i64 to]]) (id:=1) rfl rfl rfl rfl rfl
       refine ⟨_,_,.inl (by simpa using this),by simp,?_⟩
       simp
     | some w =>
       obtain ⟨w,co⟩:=w
       have hw:=hwl _ rfl
       simp only at hw
       have h32:=fun H=>(c32 w w.length rfl (by omega)).up' H rfl rfl
       have:CFun Tryz.prog 71 [.ptr 1 0,.int .i64 fr,.int .i64 c.Hops] [cellsC c,[.sl 13 ((F i).map encL) .own,.sl 1 (c.Thru.map encI) .sh,.int .i64 N,.int .i64 to]] (.tup [.sl 1 (w.map encI) .sh,.int .i64 co,.bool true]) [cellsC c,[.sl 13 ((F i).map encL) .own,.sl 1 (c.Thru.map encI) .sh,.int .i64 N,.int .i64 to]]:=h31.at (H:=[cellsC c,[.sl 13 ((F i).map encL) .own,.sl 1 (c.Thru.map encI) .sh,.int .i64 N,.int .i64 to]]) (id:=1) rfl rfl rfl rfl rfl
       refine ⟨_,_,.inl (by simpa using this),by simp,?_⟩
       simp
       refine ⟨_,_,.inl (by simpa using h32 _),by simp,?_⟩
       by_cases hr:repB w = true
       · simp [hr]
       · simp [hr]
end Go.Proofs.YtpmmnnaaoideeaaGreat

/- The reference's lists of numbers. -/
namespace Go.Proofs.YtpmmnnaaoideeaaGreat
open Go Go.Am Go.Wk
def cmpI:List Int → List Int → Int
 | [],[]=>0
 | [],_ :: _=>-1
 | _ :: _,[]=>1
 | x :: a,y :: b=>if y < x then 1 else if x < y then -1 else cmpI a b
theorem cmpI_step {a b:List Int} {i:Nat} {x y:Int} (hx:a[i]? = some x) (hy:b[i]? = some y):cmpI (a.drop i) (b.drop i) = if y < x then 1 else if x < y then -1 else cmpI (a.drop (i + 1)) (b.drop (i + 1)):=by
 obtain ⟨h1,e1⟩:=List.getElem?_eq_some_iff.1 hx
 obtain ⟨h2,e2⟩:=List.getElem?_eq_some_iff.1 hy
 rw [List.drop_eq_getElem_cons h1,List.drop_eq_getElem_cons h2,e1,e2,cmpI]
theorem cmpI_long {a b:List Int} {i:Nat} (h1:i < a.length) (h2:i = b.length):cmpI (a.drop i) (b.drop i) = 1:=by
 rw [List.drop_eq_getElem_cons h1,List.drop_eq_nil_of_le (show b.length ≤ i by omega)]
 rfl
theorem cmpI_end {a b:List Int} {i:Nat} (h1:a.length ≤ i):cmpI (a.drop i) (b.drop i) = if i < b.length then -1 else 0:=by
 rw [List.drop_eq_nil_of_le h1]
 split
 · rename_i h
   rw [List.drop_eq_getElem_cons h]
   rfl
 · rename_i h
   rw [List.drop_eq_nil_of_le (show b.length ≤ i by omega)]
   rfl
set_option maxHeartbeats 4000000 in
set_option maxRecDepth 10000 in
theorem c17 (a b:List Int) (n m:Nat) (hn:a.length = n) (hm:b.length = m) (hn2:n < 9223372036854775807) (hm2:m < 9223372036854775807):CFun Tryz.prog 18 [.sl 1 (a.map encI) .sh,.sl 1 (b.map encI) .sh] [] (.bool (decide (a = b))) []:=by
 refine CFun.intro (tr:=[]) (fz:=[]) (n:=26) (rs:=[.tmp 4]) Tryz.func18 rfl (by kernel_rfl) rfl rfl mixed (by kernel_rfl) (by simp) (by simp) ?_
 by_cases hl:n = m
 case neg =>
   have hab:¬ a = b:=fun e=>hl (by rw [← hn,← hm,e])
   have hl':¬ (n:Int) = m:=by omega
   simp [hn,hm,hl,hl',hab]
 subst hl
 obtain ⟨T,hT⟩:∃ T,T = decide (a = b):=⟨_,rfl⟩
 rw [← hT]
 simp [hn,hm]
 refine LoopK.intro (tr:=[]) mixed (by kernel_rfl) (fun i:Nat=>[(1,.sl 1 (b.map encI) .sh),(12,.sl 1 (a.map encI) .sh),(13,.int .i64 n),(14,.int .i64 i)]) (fun _=>[]) (fun i=>i ≤ n ∧ ∀ j,j < i → a[j]? = b[j]?) (fun i=>n - i) 0 ?_ ?_ ?_
 · simp
 · simp
 · rintro i ⟨h1,h2⟩
   by_cases hi:i < n
   · obtain ⟨x,hx⟩:∃ x,a[i]? = some x:=⟨_,List.getElem?_eq_getElem (by omega)⟩
     obtain ⟨y,hy⟩:∃ y,b[i]? = some y:=⟨_,List.getElem?_eq_getElem (by omega)⟩
     have w1:IntKind.i64.wrap ((i:Int) + 1) = i + 1:=wrap_in (by omega)
     by_cases g:x = y
     · subst g
       simp [hi,hn,hm,hx,gE hx,hy,gE hy,w1]
       refine ⟨i + 1,⟨by omega,fun j hj=>?_⟩,by omega,by simp⟩
       by_cases e:j = i
       · subst e; rw [hx,hy]
       · exact h2 j (by omega)
     · have:T = false:=by
         rw [hT]
         refine decide_eq_false fun e=>g ?_
         subst e
         rw [hx] at hy
         injection hy
       simp [hi,hn,hm,hx,gE hx,hy,gE hy,g,this]
   · have:i = n:=by omega
     subst this
     have:T = true:=by
       rw [hT]
       refine decide_eq_true (List.ext_getElem? fun j=>?_)
       by_cases hj:j < i
       · exact h2 j hj
       · rw [List.getElem?_eq_none (by omega),List.getElem?_eq_none (by omega)]
     simp [this]
end Go.Proofs.YtpmmnnaaoideeaaGreat
