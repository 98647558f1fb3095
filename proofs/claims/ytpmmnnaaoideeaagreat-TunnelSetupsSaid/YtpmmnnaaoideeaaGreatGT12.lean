/- tunnel.clone, as data and as a row. -/
import Derived.Test.YtpmmnnaaoideeaaGreatGT20
import Derived.Test.YtpmmnnaaoideeaaGreatGT16
set_option linter.unusedSimpArgs false
set_option linter.unusedVariables false
namespace Go.Proofs.YtpmmnnaaoideeaaGreat
open Go Go.Am Go.Wk
set_option maxHeartbeats 4000000 in
set_option maxRecDepth 10000 in
theorem t44d (us:List Int) (s1:us.length ≤ 17592186044415):CFun Tryz.prog 32 [.sl 1 (us.map encI) .sh] [] (.sl 1 (us.map encI) .sh) []:=by
 refine CFun.intro (tr:=[]) (fz:=[]) (n:=8) (rs:=[.tmp 2]) Tryz.func32 rfl (by kernel_rfl) rfl rfl mixed (by kernel_rfl) (by simp) (by simp) ?_
 have s2:us.length ≤ 140737488355328:=by omega
 have s3:us.length * 8 ≤ 140737488355328:=by omega
 cases us with
 | nil=>simp
 | cons x xs =>
   simp only [List.length_cons] at s2 s3
   simp [s2,s3]
def smT (t:Tun):Prop:=t.P.length ≤ 17592186044415 ∧ t.W.Avoid.length ≤ 17592186044415 ∧ t.W.Thru.length ≤ 17592186044415
set_option maxHeartbeats 4000000 in
set_option maxRecDepth 10000 in
theorem t54d (ts:List Tun) (n:Nat) (hn:ts.length = n) (hn2:n ≤ 1000000) (hs:∀ t ∈ ts,smT t):CFun Tryz.prog 43 [.sl 12 (ts.map encT) .sh] [] (.sl 12 (ts.map encT) .sh) []:=by
 refine CFun.intro (tr:=[28]) (fz:=[]) (n:=34) (rs:=[.tmp 2]) Tryz.func43 rfl (by kernel_rfl) rfl rfl mixed (by kernel_rfl) (by simp) (by simp) ?_
 have h44:=fun us s1 H=>(t44d us s1).up' H rfl rfl
 simp [hn]
 refine LoopK.intro (tr:=[28]) mixed (by kernel_rfl) (fun i:Nat=>[(3,.sl 12 ((ts.take i).map encT) .own),(6,.sl 12 (ts.map encT) .sh),(7,.int .i64 n),(8,.int .i64 i)]) (fun _=>[])
   (fun i=>i ≤ n) (fun i=>n - i) 0 ?_ ?_ ?_
 · simp
 · simp
 · intro i h1
   by_cases hi:i < n
   · obtain ⟨x,hx,hd⟩:=get_drop (l:=ts) (i:=i) (by omega)
     clear hd
     obtain ⟨b1,b2,b3⟩:=hs x (List.mem_of_getElem? hx)
     have w1:IntKind.i64.wrap ((i:Int) + 1) = i + 1:=wrap_in (by omega)
     have htk:ts.take (i + 1) = ts.take i ++ [x]:=by rw [List.take_add_one,hx]; simp
     have s1:i + 1 ≤ 140737488355328:=by omega
     have s2:(i + 1) * 136 ≤ 140737488355328:=by omega
     have s3:min i ts.length = i:=by omega
     have k1:=h44 x.P b1
     have k2:=h44 x.W.Avoid b2
     have k3:=h44 x.W.Thru b3
     simp [hn,hi,hx,gE hx]
     refine ⟨_,_,.inl (by simpa [cargs] using k1 _),by simp [cargs],?_⟩
     simp
     refine ⟨_,_,.inl (by simpa [cargs] using k2 _),by simp [cargs],?_⟩
     simp
     refine ⟨_,_,.inl (by simpa [cargs] using k3 _),by simp [cargs],?_⟩
     simp [s1,s2,s3,w1]
     refine ⟨i + 1,by omega,by omega,?_⟩
     have e:=congrArg (List.map encT) htk
     simp only [List.map_take,List.map_append,List.map_cons,List.map_nil,encT,cellsT] at e
     simp [e]
   · have:i = n:=by omega
     subst this
     have e:ts.take i = ts:=List.take_of_length_le (by omega)
     simp [hn,e]
set_option maxHeartbeats 8000000 in
set_option maxRecDepth 10000 in
theorem t54r (ts:List Tun) (n:Nat) (hn:ts.length = n) (h0:0 < n) (hn2:n ≤ 1000000) (hs:∀ t ∈ ts,smT t):CFun Tryz.prog 43 [.sl 12 (ts.map encT) .sh] [] (.osl 0 0 n none 12) [rowC cellsT ts]:=by
 refine CFun.intro (tr:=[100031]) (fz:=[]) (n:=34) (rs:=[.tmp 2]) Tryz.func43 rfl (by kernel_rfl) rfl rfl mixed (by kernel_rfl) (by simp) (by simp) ?_
 have h44:=fun us s1 H=>(t44d us s1).up' H rfl rfl
 simp [hn]
 refine LoopK.introS (tr:=[100031]) mixed (by kernel_rfl)
   (fun i:Nat=>[(3,if i = 0 then .sl 0 [] .full else .osl 0 0 i none 12),(6,.sl 12 (ts.map encT) .sh),(7,.int .i64 n),(8,.int .i64 i)])
   (fun i=>if i = 0 then [] else [rowC cellsT (ts.take i)]) (fun i=>i ≤ n) (fun i=>n - i) 0 ?_ ?_ ?_
 · simp
 · simp
 · intro i h1
   generalize hPQ:LoopPostS _ _ _ _ _ _ _ = PQ
   by_cases hi:i < n
   case neg =>
     have:i = n:=by omega
     subst this
     have hle:=fun k=>encT_enc.rowLe k ts
     have e:ts.take i = ts:=List.take_of_length_le (by omega)
     have hz:¬ i = 0:=by omega
     simp [hn,hz]
     rw [← hPQ]
     simp only [LoopPostS]
     simp [hz,hle,e]
   obtain ⟨x,hx,hd⟩:=get_drop (l:=ts) (i:=i) (by omega)
   clear hd
   obtain ⟨b1,b2,b3⟩:=hs x (List.mem_of_getElem? hx)
   have w1:IntKind.i64.wrap ((i:Int) + 1) = i + 1:=wrap_in (by omega)
   have htk:ts.take (i + 1) = ts.take i ++ [x]:=by rw [List.take_add_one,hx]; simp
   have s1:i + 1 ≤ 140737488355328:=by omega
   have s2:(i + 1) * 136 ≤ 140737488355328:=by omega
   have hrl:(ts.take i).length = i:=by simp; omega
   have k1:=h44 x.P b1
   have k2:=h44 x.W.Avoid b2
   have k3:=h44 x.W.Thru b3
   by_cases hz:i = 0
   · subst hz
     have w0:IntKind.i64.wrap 1 = 1:=by decide
     have h1x:=treeCellsS (σ:=swp 0 1) (N:=2) (n:=1) (encT_enc.rowTree [x])
     rw [rowC_one] at h1x
     have htk1:ts.take 1 = [x]:=by simpa using htk
     simp [hn,hi,hx,gE hx]
     refine ⟨_,_,.inl (by simpa [cargs] using k1 _),by simp [cargs],?_⟩
     simp
     refine ⟨_,_,.inl (by simpa [cargs] using k2 _),by simp [cargs],?_⟩
     simp
     refine ⟨_,_,.inl (by simpa [cargs] using k3 _),by simp [cargs],?_⟩
     simp [w0]
     rw [← hPQ]
     simp only [LoopPostS]
     refine ⟨1,by omega,by omega,.inr ⟨0,1,Nat.zero_le _,Nat.zero_le _,by simp,by simp,Nat.zero_le _,?_,?_⟩⟩
     · simp [LeLookS,ren,ren0,swp]
     · simp only [Nat.succ_ne_zero,if_false,htk1,rowC_one]
       simp [LeBoxesS,swpH]
       exact h1x
   · generalize ts.take i = r at *
     have hfl:=encT_enc.rowLen r
     rw [hrl] at hfl
     have hsc:(rowC cellsT r).all (fun c=>c.scalar && !c.isOwn) = true:=by
       have:∀ l:List Tun,(rowC cellsT l).all (fun c=>c.scalar && !c.isOwn) = true:=by
         intro l
         induction l with
         | nil=>rfl
         | cons y l ih=>rw [rowC_cons,List.all_append,ih]; rfl
       exact this r
     have hi0:0 < i:=by omega
     have hi':(i:Int) < n:=by omega
     have ht7:(rowC cellsT r).take (i * 12) = rowC cellsT r:=List.take_of_length_le (by omega)
     have hL:=treeCellsS (σ:=swp 0 2) (N:=3) (n:=1) (encT_enc.rowTree (r ++ [x]))
     have hpos:0 < i * 12:=by omega
     simp [hn,hi,hi',hi0,hz,hx,gE hx]
     refine ⟨_,_,.inl (by simpa [cargs] using k1 _),by simp [cargs],?_⟩
     simp
     refine ⟨_,_,.inl (by simpa [cargs] using k2 _),by simp [cargs],?_⟩
     simp
     refine ⟨_,_,.inl (by simpa [cargs] using k3 _),by simp [cargs],?_⟩
     simp only [AVal.isOwn] at hsc
     have hrn:¬ rowC cellsT r = []:=by intro e; rw [e] at hfl; simp at hfl; omega
     simp [hrn,hi0,hfl,hpos,s1,s2,hsc,ht7,-List.all_eq_true]
     rw [← hPQ]
     simp only [LoopPostS]
     refine ⟨i + 1,by omega,by omega,.inr ⟨0,2,Nat.zero_le _,Nat.zero_le _,by simp,by simp,Nat.zero_le _,?_,?_⟩⟩
     · simp [LeLookS,ren,ren0,swp,w1]
     · simp only [Nat.succ_ne_zero,if_false,htk]
       simp [LeBoxesS,swpH]
       rw [rowC_app,rowC_one] at hL ⊢
       exact hL
end Go.Proofs.YtpmmnnaaoideeaaGreat

/- Rows of tunnels: slices.Insert. -/
namespace Go.Proofs.YtpmmnnaaoideeaaGreat
open Go Go.Am Go.Wk
def ceT (t:Tun):List AVal:=cellsT t
theorem eT:Enc ceT 12 where
  pos:=by omega
  len x:=rfl
  dis x:=rfl
  tree x:=by simp [AVal.tree,ceT]
theorem it_ov {k1:Nat} {xs:List AVal} {mm:Am.Mode} {id off len:Nat} {cap:Option Nat} {k2:Nat} {H:List (List AVal)} {cs:List AVal} (hid:H[id]? = some cs) (hne:cs ≠ []):EFun Tryz.prog 76 [.sl k1 xs mm,.osl id off len cap k2] H (.bool false) :=
 overlaps_no (fn:=Tryz.f76) Tryz.func76 (by kernel_rfl) (by decide +kernel) (by kernel_rfl) (by kernel_rfl) (t:=23) (k:=12) (by kernel_rfl) (by simp) hid hne
set_option maxHeartbeats 4000000 in
set_option maxRecDepth 10000 in
theorem it_insN (l:List (Tun)) (i n M:Nat) (hn:l.length = n) (hlen:(n + 1) * 136 ≤ 140737488355328) (hi:i ≤ n) (h0:0 < n) (b:Tun):CFun Tryz.prog 48 [.osl 0 0 n (some n) 12,.int .i64 i,.sl 12 [.agg (ceT b)] .sh] [rowC ceT l ++ List.replicate M .undef]
   (.osl 1 0 (n + 1) none 12) [[],rowC ceT (insL l i b)]:=by
 refine CFun.intro (tr:=[100025,100040]) (fz:=[]) (n:=95) (rs:=[.tmp 6]) Tryz.func48 rfl (by kernel_rfl) rfl rfl mixed (by kernel_rfl) (by simp) (by simp) ?_
 have s1:(n:Int) + 1 < 140737488355330:=by omega
 have w1:IntKind.i64.wrap ((n:Int) + 1) = n + 1:=wrap_in (by omega)
 have w2:IntKind.i64.wrap ((i:Int) + 1) = i + 1:=wrap_in (by omega)
 have w3:IntKind.i64.wrap ((n:Int) + 1 - i) = n + 1 - i:=wrap_in (by omega)
 have hfl:=(eT).rowLen l
 have hil:=insL_len (b:=b) (l:=l) (i:=i) (by omega)
 have htr:=(eT).rowTree (insL l i b)
 have hcb:ceT b = rowC ceT [b]:=(rowC_one b).symm
 have hbl:(rowC ceT [b]).length = 12:=by rw [(eT).rowLen]; rfl
 have hsrc:asrc [rowC ceT l ++ List.replicate M AVal.undef] (.osl 0 0 i (some n) 12) = some (12,i,rowC ceT (l.take i)):=by
   unfold asrc
   by_cases h0:i = 0
   · subst h0; rfl
   · simp only [h0,if_false,List.getElem?_cons_zero,Option.bind_some]
     rw [if_pos (by rw [List.length_append,hfl]; simp; omega),List.drop_zero,List.take_append_of_le_length (by omega),(eT).rowTake]
 have hsb:∀ H,asrc H (.sl 12 [.agg (ceT b)] .sh) = some (12,1,rowC ceT [b]):=fun H=>rfl
 have hle:=(eT).rowLe 2 (insL l i b)
 have hds:=(eT).rowDis (insL l i b)
 by_cases h1:i = n
 · subst h1
   have z1:(i + 1) * 136 ≤ 140737488355328:=by omega
   have z2:i ≤ 140737488355327:=by omega
   have e1:l.take i = l:=List.take_of_length_le (by omega)
   have e2:insL l i b = l ++ [b]:=by simp [insL,e1,List.drop_of_length_le (show l.length ≤ i by omega)]
   rw [e1] at hsrc
   rw [e2] at htr hil hle hds ⊢
   simp [hsrc,hsb,-asrc,z1,z2,hds,← rowC_app,-List.all_eq_true,hle]
 · have h1':¬ ((i:Int) = n):=by omega
   have hsrc2:∀ X,asrc ((rowC ceT l ++ List.replicate M AVal.undef) :: X) (.osl 0 (i * 12) (n - i) (some (n - i)) 12) = some (12,n - i,rowC ceT (l.drop i)):=by
     intro X
     unfold asrc
     simp only [show ¬ n - i = 0 by omega,if_false,List.getElem?_cons_zero,Option.bind_some]
     rw [if_pos (by rw [List.length_append,hfl]; omega),List.drop_append_of_le_length (by omega),(eT).rowDrop,List.take_append_of_le_length (by rw [(eT).rowLen]; simp; omega),List.take_of_length_le (by rw [(eT).rowLen]; simp; omega)]
   have hp0:(0:Int) ≤ (i:Int) + 1:=by omega
   have hp1:0 < (n + 1) * 12:=by omega
   have hi1:i ≤ n + 1:=by omega
   have hnat:((n:Int) + 1 - i).toNat = n + 1 - i:=by omega
   have hti:(rowC ceT (l.take i)).length = i * 12:=by rw [(eT).rowLen,List.length_take]; congr 1; omega
   have hdr:(rowC ceT (l.drop i)).length = (n - i) * 12:=by rw [(eT).rowLen,List.length_drop,hn]
   have hbt:(rowC ceT [b]).take 12 = rowC ceT [b]:=List.take_of_length_le (by rw [hbl]; exact Nat.le_refl _)
   have hLL:(rowC ceT (insL l i b)).length = (n + 1) * 12:=by rw [(eT).rowLen,hil,hn]
   have hdr2:(rowC ceT (l.drop i)).take ((n - i) * 12) = rowC ceT (l.drop i):=List.take_of_length_le (by rw [hdr]; omega)
   have h2':((n:Int) < n + 1):=by omega
   have y1:(i:Int) ≤ n + 1:=by omega
   have y2:((n:Int) + 1 - i) * 136 ≤ 281474976710656:=by omega
   have y3:(n + 1) * 136 ≤ 140737488355328:=by omega
   have y4:n ≤ 140737488355327:=by omega
   have m1:¬ n + 1 - i = 0:=by omega
   have m2:min 1 (n + 1 - i) = 1:=by omega
   have m3:min (n - i) (n - i) = n - i:=by omega
   have m4:¬ n - i = 0:=by omega
   have m5:n + 1 - (i + 1) = n - i:=by omega
   have m6:(n + 1 - i) * 12 - 12 - (l.length - i) * 12 = 0:=by omega
   have hset1:=(eT).setFlat (l.take i) i (by simp; omega) (List.replicate ((n + 1 - i) * 12) AVal.undef) [b] (by simp; omega)
   have hset2:=(eT).setFlat (l.take i ++ [b]) (i + 1) (by simp; omega) (List.replicate ((n + 1 - i) * 12 - 12) AVal.undef) (l.drop i) (by simp; omega)
   have hins:l.take i ++ [b] ++ l.drop i = insL l i b:=by simp [insL]
   rw [hins] at hset2
   have hft1:i * 12 + 12 ≤ i * 12 + (n + 1 - i) * 12:=by omega
   have hft2:i + 1 ≤ n + 1:=by omega
   have hft3:(i + 1) * 12 + (n - i) * 12 ≤ i * 12 + (n + 1 - i) * 12:=by omega
   have hft4:(i + 1) * 12 + (n - i) * 12 ≤ (rowC ceT (l.take i ++ [b])).length + ((n + 1 - i) * 12 - 12):=by rw [(eT).rowLen]; simp; omega
   simp [hp0,hp1,y1,y2,y3,y4,m1,m2,m3,m4,m5,m6,hbt,hset1,hset2,hft1,hft2,hft3,hti,hft4,htr,hdr,hdr2,hLL,hi,hi1,h1,h1',h2',w1,w2,w3,hsrc,hsrc2,hsb,-asrc,-setR,hds,(eT).rowDis,(eT).rowScalar,-List.all_eq_true,hnat,hle]
set_option maxHeartbeats 4000000 in
set_option maxRecDepth 10000 in
theorem it_insC (l:List (Tun)) (i n C M:Nat) (hn:l.length = n) (hlen:(n + 1) * 136 ≤ 140737488355328) (hC:n + 1 ≤ C) (hM:(C - n) * 12 ≤ M) (hi:i ≤ n) (b:Tun):CFun Tryz.prog 48 [.osl 1 0 n (some C) 12,.int .i64 i,.sl 12 [.agg (ceT b)] .sh] [[],rowC ceT l ++ List.replicate M .undef]
   (.osl 1 0 (n + 1) (some C) 12) [[],rowC ceT (insL l i b)]:=by
 refine CFun.intro (tr:=[100025,100040]) (fz:=[]) (n:=95) (rs:=[.tmp 6]) Tryz.func48 rfl (by kernel_rfl) rfl rfl mixed (by kernel_rfl) (by simp) (by simp) ?_
 have w1:IntKind.i64.wrap ((n:Int) + 1) = n + 1:=wrap_in (by omega)
 have w2:IntKind.i64.wrap ((i:Int) + 1) = i + 1:=wrap_in (by omega)
 have hfl:=(eT).rowLen l
 have hil:=insL_len (b:=b) (l:=l) (i:=i) (by omega)
 have hcb:ceT b = rowC ceT [b]:=(rowC_one b).symm
 have hbl:(rowC ceT [b]).length = 12:=by rw [(eT).rowLen]; rfl
 have hsb:∀ H,asrc H (.sl 12 [.agg (ceT b)] .sh) = some (12,1,rowC ceT [b]):=fun H=>rfl
 have hle:∀ rest,LeCells 2 (rowC ceT (insL l i b) ++ rest) (rowC ceT (insL l i b)):=fun rest=>by
   have h1:=(eT).rowLe 2 (insL l i b)
   have h2:=LeCells_app h1 rfl (show LeCells 2 rest [] by simp)
   rwa [List.append_nil] at h2
 have hsrc:asrc [[],rowC ceT l ++ List.replicate M AVal.undef] (.osl 1 0 i (some C) 12) = some (12,i,rowC ceT (l.take i)):=by
   unfold asrc
   by_cases h0:i = 0
   · subst h0; rfl
   · simp only [h0,if_false,List.getElem?_cons_zero,List.getElem?_cons_succ,Option.bind_some]
     rw [if_pos (by rw [List.length_append,hfl]; simp; omega),List.drop_zero,List.take_append_of_le_length (by omega),(eT).rowTake]
 by_cases h1:i = n
 · subst h1
   have z1:(i + 1) * 136 ≤ 140737488355328:=by omega
   have z2:i ≤ 140737488355327:=by omega
   have z3:¬ C < i + 1:=by omega
   have e1:l.take i = l:=List.take_of_length_le (by omega)
   have e2:insL l i b = l ++ [b]:=by simp [insL,e1,List.drop_of_length_le (show l.length ≤ i by omega)]
   rw [e1] at hsrc
   rw [e2] at hil hle ⊢
   have hset:=(eT).setFlat l i hn.symm (List.replicate M AVal.undef) [b] (by simp; omega)
   have hfit:i * 12 + 12 ≤ (rowC ceT l).length + M:=by omega
   have hfit2:(i + 1) * 12 ≤ (rowC ceT l).length + M:=by omega
   simp [hsrc,hsb,-asrc,z1,z2,z3,hset,hfit,hfit2,-setR,(eT).rowDis,(eT).rowScalar,-List.all_eq_true,hle]
 · have h1':¬ ((i:Int) = n):=by omega
   have h2':¬ ((C:Int) < n + 1):=by omega
   have y1:(n:Int) + 1 ≤ C:=by omega
   have y2:n + 1 ≤ C:=by omega
   have y3:(0:Int) ≤ (n:Int) + 1:=by omega
   have y4:i + 1 ≤ n + 1:=by omega
   have m5:n + 1 - (i + 1) = n - i:=by omega
   have m4:¬ n - i = 0:=by omega
   have m6:min (n + 1 - i) (n - i) = n - i:=by omega
   have m7:min 1 (n + 1 - i) = 1:=by omega
   have hiC:i ≤ C:=by omega
   have hp0:(0:Int) ≤ (i:Int) + 1:=by omega
   have hi1:i ≤ n + 1:=by omega
   have hti:(rowC ceT (l.take i)).length = i * 12:=by rw [(eT).rowLen,List.length_take]; congr 1; omega
   have hdr:(rowC ceT (l.drop i)).length = (n - i) * 12:=by rw [(eT).rowLen,List.length_drop,hn]
   have hbt:(rowC ceT [b]).take 12 = rowC ceT [b]:=List.take_of_length_le (by rw [hbl]; exact Nat.le_refl _)
   obtain ⟨x,hx,hd⟩:=get_drop (l:=l) (i:=i) (by omega)
   have hl1:l = l.take (i + 1) ++ l.drop (i + 1):=(List.take_append_drop _ _).symm
   have hsrc3:asrc [[],rowC ceT l ++ List.replicate M AVal.undef] (.osl 1 (i * 12) (n + 1 - i) (some (C - i)) 12) = some (12,n + 1 - i,rowC ceT (l.drop i) ++ List.replicate 12 .undef):=by
     unfold asrc
     simp only [show ¬ n + 1 - i = 0 by omega,if_false,List.getElem?_cons_zero,List.getElem?_cons_succ,Option.bind_some]
     rw [if_pos (by rw [List.length_append,hfl]; simp; omega),List.drop_append_of_le_length (by omega),(eT).rowDrop]
     have e:(n + 1 - i) * 12 = (rowC ceT (l.drop i)).length + 12:=by rw [hdr]; omega
     rw [e,List.take_length_add_append,List.take_replicate,show min 12 M = 12 by omega]
   have htk:(rowC ceT (l.drop i) ++ List.replicate 12 AVal.undef).take ((n - i) * 12) = rowC ceT (l.drop i):=by
     rw [← hdr,List.take_left']; rfl
   have hset1:setR (rowC ceT l ++ List.replicate M AVal.undef) ((i + 1) * 12) (rowC ceT (l.drop i)) = rowC ceT (l.take (i + 1) ++ l.drop i) ++ List.replicate (M - 12) .undef:=by
     have:=(eT).setFlat (l.take (i + 1)) (i + 1) (by simp; omega) (rowC ceT (l.drop (i + 1)) ++ List.replicate M AVal.undef) (l.drop i) (by simp [(eT).rowLen]; omega)
     rw [← List.append_assoc,← rowC_app,← hl1] at this
     rw [this]
     congr 1
     have e:(l.drop i).length * 12 = (rowC ceT (l.drop (i + 1))).length + 12:=by rw [(eT).rowLen]; simp; omega
     rw [e,← List.drop_drop,List.drop_left]
     simp
   have hset2:setR (rowC ceT (l.take (i + 1) ++ l.drop i) ++ List.replicate (M - 12) .undef) (i * 12) (rowC ceT [b]) = rowC ceT (insL l i b) ++ List.replicate (M - 12) .undef:=by
     rw [rowC_one]
     have:=(eT).setOne (l.take (i + 1) ++ l.drop i) i b (by simp; omega) (List.replicate (M - 12) AVal.undef)
     rw [this]
     congr 2
     rw [insL,List.take_add_one,hx]
     simp [List.set_append,hn,hi,show min i n = i by omega]
   have hf1:(i + 1) * 12 + (n - i) * 12 ≤ n * 12 + M:=by omega
   have hf2:i * 12 + 12 ≤ (rowC ceT (l.take (i + 1) ++ l.drop i)).length + (M - 12):=by rw [(eT).rowLen]; simp; omega
   have hne0:rowC ceT l ++ List.replicate M AVal.undef ≠ []:=by intro e; have:=congrArg List.length e; rw [List.length_append,hfl] at this; simp at this; omega
   have h45:=it_ov (k1:=12) (xs:=[.agg (ceT b)]) (mm:=.sh) (id:=1) (off:=(i + 1) * 12) (len:=n - i) (cap:=some (C - (i + 1))) (k2:=12) (H:=[[],rowC ceT l ++ List.replicate M AVal.undef]) rfl hne0
   rw [hn] at hfl
   simp [hp0,y1,y2,y3,y4,m4,m5,m6,m7,hfl,hi,hiC,hi1,h1,h1',h2',w1,w2,hsb,-asrc,-setR,(eT).rowDis,(eT).rowScalar,-List.all_eq_true]
   refine ⟨_,_,.inr ⟨rfl,h45⟩,trivial,?_⟩
   simp [hp0,y1,y2,y3,y4,m4,m5,m6,m7,hfl,hf1,hf2,hset1,hset2,htk,hbt,hi,hiC,hi1,h1,h1',h2',w1,w2,hsb,hsrc3,hdr,-asrc,-setR,(eT).rowDis,(eT).rowScalar,-List.all_eq_true,hle]
theorem it_insR (l:List (Tun)) (i n:Nat) (hn:l.length = n) (hlen:(n + 1) * 136 ≤ 140737488355328) (hi:i ≤ n) (h0:0 < n) (b:Tun):CFun Tryz.prog 48 [.osl 0 0 n none 12,.int .i64 i,.sl 12 [.agg (ceT b)] .sh] [rowC ceT l]
   (.osl 1 0 (n + 1) none 12) [[],rowC ceT (insL l i b)]:=by
 have hfl:=(eT).rowLen l
 rw [hn] at hfl
 have hne:rowC ceT l ≠ []:=by
   intro e
   rw [e] at hfl
   simp at hfl
   omega
 refine CFun.reveal (id:=0) (off:=0) (len:=n) (k:=12) (cs:=rowC ceT l) 0 rfl rfl hne (fun C hC=>?_) (fun C hC h0=>by omega)
 rw [hfl]
 show CFun Tryz.prog 48 [.osl 0 0 n (some C) 12,.int .i64 i,.sl 12 [.agg (ceT b)] .sh] [rowC ceT l ++ List.replicate (0 + C * 12 - n * 12) .undef] _ _
 by_cases hc:C = n
 · subst hc
   exact it_insN l i C _ hn hlen hi h0 b
 · have h:=it_insC l i n C (0 + C * 12 - n * 12) hn hlen (by omega) (by rw [Nat.sub_mul]; omega) hi b
   refine CFun.forget (c:=some C) (CFun.adopt (p:=0) (cs:=rowC ceT l ++ List.replicate (0 + C * 12 - n * 12) .undef) rfl rfl ?_)
   exact h
set_option maxHeartbeats 2000000 in
set_option maxRecDepth 10000 in
theorem it_ins0 (b:Tun):CFun Tryz.prog 48 [.sl 12 [] .full,.int .i64 0,.sl 12 [.agg (ceT b)] .sh] [] (.osl 0 0 1 none 12) [rowC ceT [b]]:=by
 refine CFun.intro (tr:=[100025,100040]) (fz:=[]) (n:=95) (rs:=[.tmp 6]) Tryz.func48 rfl (by kernel_rfl) rfl rfl mixed (by kernel_rfl) (by simp) (by simp) ?_
 have hle:=fun k=>eT.rowLe k [b]
 rw [rowC_one] at hle ⊢
 simp [ceT]
end Go.Proofs.YtpmmnnaaoideeaaGreat

/- Rows of tunnels: slices.Delete of one. -/
namespace Go.Proofs.YtpmmnnaaoideeaaGreat
open Go Go.Am Go.Wk
set_option maxHeartbeats 4000000 in
set_option maxRecDepth 10000 in
theorem t53C (l:List Tun) (i n C M:Nat) (hn:l.length = n) (hn2:n ≤ 1000000) (hC:n ≤ C) (hM:M = (C - n) * 12) (hi:i < n) :
   CFun Tryz.prog 54 [.osl 0 0 n (some C) 12,.int .i64 i,.int .i64 (i + 1)] [rowC ceT l ++ List.replicate M .undef] (.sl 12 ((l.eraseIdx i).map encT) .sh) [[]]:=by
 refine CFun.intro (tr:=[100026]) (fz:=[(6,0,true)]) (n:=33) (rs:=[.tmp 6]) Tryz.func54 rfl (by kernel_rfl) rfl rfl mixed (by kernel_rfl) (by simp) (by simp) ?_
 have hfl:=eT.rowLen l
 have e1:¬ (i:Int) = i + 1:=by omega
 have e2:((i:Int) + 1).toNat = i + 1:=by omega
 have e3:(0:Int) ≤ i + 1:=by omega
 have e4:(i:Int) + 1 ≤ n:=by omega
 have e5:i + 1 ≤ n:=by omega
 have e6:i ≤ n:=by omega
 have e7:n ≤ C:=hC
 have e8:i + 1 ≤ C:=by omega
 have e9:i ≤ C:=by omega
 have hsrc1:asrc [rowC ceT l ++ List.replicate M AVal.undef] (.osl 0 0 i (some C) 12) = some (12,i,rowC ceT (l.take i)):=by
   unfold asrc
   by_cases h0:i = 0
   · subst h0; rfl
   · simp only [h0,if_false,List.getElem?_cons_zero,Option.bind_some]
     rw [if_pos (by rw [List.length_append,hfl]; omega),List.drop_zero,List.take_append_of_le_length (by omega),eT.rowTake]
 have hsrc2:asrc [rowC ceT l ++ List.replicate M AVal.undef] (.osl 0 ((i + 1) * 12) (n - (i + 1)) (some (C - (i + 1))) 12) = some (12,n - (i + 1),rowC ceT (l.drop (i + 1))):=by
   unfold asrc
   by_cases h0:n - (i + 1) = 0
   · simp only [h0,if_true]
     rw [List.drop_eq_nil_of_le (show l.length ≤ i + 1 by omega)]; rfl
   · simp only [h0,if_false,List.getElem?_cons_zero,Option.bind_some]
     rw [if_pos (by rw [List.length_append,hfl]; omega),List.drop_append_of_le_length (by omega),eT.rowDrop,List.take_append_of_le_length (by rw [eT.rowLen]; simp; omega),List.take_of_length_le (by rw [eT.rowLen]; simp; omega)]
 have hset:=eT.setFlat (l.take i) i (by simp; omega) (rowC ceT (l.drop i) ++ List.replicate M AVal.undef) (l.drop (i + 1)) (by simp [eT.rowLen]; omega)
 rw [← List.append_assoc,← rowC_app,List.take_append_drop,← List.eraseIdx_eq_take_drop_succ] at hset
 have hle:(l.eraseIdx i).length = n - 1:=by rw [List.length_eraseIdx_of_lt (by omega),hn]
 obtain ⟨rest,hrest⟩:∃ rest,rest = (rowC ceT (l.drop i) ++ List.replicate M AVal.undef).drop ((l.drop (i + 1)).length * 12):=⟨_,rfl⟩
 have hrl:rest.length = 12 + M:=by rw [hrest]; simp [eT.rowLen]; omega
 rw [← hrest] at hset
 generalize l.eraseIdx i = z at *
 have hzl:=eT.rowLen z
 have f1:i + (n - (i + 1)) = n - 1:=by omega
 have f2:n - 1 ≤ 140737488355328:=by omega
 have f3:(n - 1) * 136 ≤ 140737488355328:=by omega
 have f4:¬ C < n - 1:=by omega
 have f5:(n - 1) * 12 ≤ (rowC ceT l).length + M:=by omega
 have f6:n - 1 ≤ C:=by omega
 have f7:n - 1 ≤ n:=by omega
 have g2:n - (n - 1) = 1:=by omega
 have g3:(n - 1) * 12 + 12 ≤ (rowC ceT z ++ rest).length:=by rw [List.length_append,hzl,hrl]; omega
 have g4:(n - 1) * 12 + 12 ≤ (rowC ceT z).length + rest.length:=by rw [hzl,hrl]; omega
 have g5:n ≤ (n - 1) + 1:=by omega
 have g6:i * 12 + (n - (i + 1)) * 12 ≤ (rowC ceT l).length + M:=by omega
 obtain ⟨u12,hu12⟩:∃ u:List AVal,u = [AVal.undef,.undef,.undef,.undef,.undef,.undef,.undef,.undef,.undef,.undef,.undef,.undef]:=⟨_,rfl⟩
 obtain ⟨rest2,hrest2⟩:∃ rest2,rest2 = u12 ++ rest.drop 12:=⟨_,rfl⟩
 have hzl':(rowC ceT z).length = (n - 1) * 12:=by rw [hzl,hle]
 have hclr:setR (rowC ceT z ++ rest) ((n - 1) * 12) u12 = rowC ceT z ++ rest2:=by
   rw [setR_mid _ _ _ (by rw [hu12,hrl]; simp) _ hzl'.symm,hrest2,hu12]; rfl
 rw [hu12] at hclr
 have htk:(rowC ceT z ++ rest2).take ((n - 1) * 12) = rowC ceT z:=by rw [← hzl',List.take_left']; rfl
 have htr:=eT.rowTree z
 have hch:=eT.chunk z (n - 1) hle
 have hr2:rest2.length = 12 + M:=by rw [hrest2,hu12]; simp [hrl]; omega
 have hr3:0 < (rowC ceT z).length + rest2.length:=by omega
 have hcz:=eT.chunk z (n - 1) hle
 by_cases hz:n - (i + 1) = 0
 · have h8:n - i = 1:=by omega
   rw [hz] at hsrc2
   rw [show l.drop (i + 1) = [] from List.drop_eq_nil_of_le (by omega)] at hset hsrc2
   have g0:rowC ceT ([]:List Tun) = []:=rfl
   have hset:rowC ceT l ++ List.replicate M AVal.undef = rowC ceT z ++ rest:=hset
   rw [hset] at hsrc1 hsrc2 ⊢
   rw [show n - 1 = i by omega] at *
   have g1:i * 12 + 12 ≤ (rowC ceT z).length + rest.length:=by omega
   simp [e1,e2,e3,e4,e5,e6,e7,e8,e9,hn,hsrc1,hsrc2,-asrc,f2,f3,f4,f5,f6,f7,g0,g1,hz,h8,-setR,eT.rowDis,eT.rowScalar,-List.all_eq_true,hclr,htk,htr,hch,hr3,hcz]
   rw [if_pos (by omega)]
   exact ⟨rfl,.inl ⟨rfl,rfl⟩⟩
 · simp [e1,e2,e3,e4,e5,e6,e7,e8,e9,hn,hsrc1,hsrc2,-asrc,f1,f2,f3,f4,f5,f6,f7,g2,g3,g4,hz,hset,-setR,eT.rowDis,eT.rowScalar,-List.all_eq_true,hclr,htk,htr,hch,hr3,hcz]
   rw [if_pos (by omega)]
   exact ⟨rfl,.inl ⟨rfl,rfl⟩⟩
theorem t53 (l:List Tun) (i n:Nat) (hn:l.length = n) (hn2:n ≤ 1000000) (hi:i < n) :
   CFun Tryz.prog 54 [.osl 0 0 n none 12,.int .i64 i,.int .i64 (i + 1)] [rowC ceT l] (.sl 12 ((l.eraseIdx i).map encT) .sh) [[]]:=by
 have hfl:=eT.rowLen l
 rw [hn] at hfl
 have hne:rowC ceT l ≠ []:=by
   intro e
   rw [e] at hfl
   simp at hfl
   omega
 refine CFun.reveal (id:=0) (off:=0) (len:=n) (k:=12) (cs:=rowC ceT l) 0 rfl rfl hne (fun C hC=>?_) (fun C hC h0=>by omega)
 rw [hfl]
 exact t53C l i n C _ hn hn2 hC (by rw [Nat.sub_mul]; omega) hi
end Go.Proofs.YtpmmnnaaoideeaaGreat

/- The next tunnel to give way, by the program. -/
namespace Go.Proofs.YtpmmnnaaoideeaaGreat
open Go Go.Am Go.Wk
def tun0:Tun:=⟨0,0,0,⟨0,0,0,0,0,0,[],[]⟩,[]⟩
def betT (t u:Tun):Bool:=decide (u.W.Hold < t.W.Hold) || decide (t.W.Hold = u.W.Hold) && decide (u.ID < t.ID)
def vicF (cand:Nat → Tun → Bool) (ts:List Tun):Int → Nat → List Tun → Int
 | b,_,[]=>b
 | b,i,t :: r=>vicF cand ts (if (cand i t && (decide (b < 0) || betT t (ts.getD b.toNat tun0))) = true then (i:Int) else b) (i + 1) r
def inF (fu:List Int) (k:Int):Bool:=decide (0 ≤ k) && hasB fu k
def candP (l:List Lnk) (fu:List Int) (c:Con) (ch:List Int) (i:Nat) (t:Tun):Bool:=!(decide (t.W.Band ≤ 0) || decide (t.W.Hold ≤ c.Setup) || hasB ch i) && (usesL l t.P).any (inF fu)
set_option maxHeartbeats 4000000 in
set_option maxRecDepth 10000 in
theorem t71 (fu:List Int) (m:Nat) (hm:fu.length = m) (hm2:m < 1000000) (k:Int):CFun Tryz.prog 62 [.int .i64 k,.ptr 0 0] [[.sl 1 (fu.map encI) .sh]] (.bool (inF fu k)) [[.sl 1 (fu.map encI) .sh]]:=by
 refine CFun.intro (tr:=[]) (fz:=[]) (n:=11) (rs:=[.tmp 3]) Tryz.func62 rfl (by kernel_rfl) rfl rfl mixed (by kernel_rfl) (by simp) (by simp) ?_
 have h:=fun H=>(c24 fu m hm (by omega) k).up' H rfl rfl
 unfold inF
 by_cases g:0 ≤ k
 · simp [g]
   refine ⟨_,_,.inl (by simpa using h _),by simp,?_⟩
   simp
 · simp [g]
set_option maxHeartbeats 4000000 in
set_option maxRecDepth 10000 in
theorem t69b (us:List Int) (n:Nat) (hn:us.length = n) (hn2:n < 1000000) (fu:List Int) (m:Nat) (hm:fu.length = m) (hm2:m < 1000000) :
   CFun Tryz.prog 60 [.sl 1 (us.map encI) .sh,.fn 62 [] [.ptr 0 0]] [[.sl 1 (fu.map encI) .sh]] (.int .i64 (idxL (inF fu) us 0)) [[.sl 1 (fu.map encI) .sh]]:=by
 refine CFun.intro (tr:=[]) (fz:=[]) (n:=19) (rs:=[.tmp 4]) Tryz.func60 rfl (by kernel_rfl) rfl rfl mixed (by kernel_rfl) (by simp) (by simp) ?_
 have h:=t71 fu m hm hm2
 simp
 refine LoopK.intro (tr:=[]) mixed (by kernel_rfl) (fun j:Nat=>[(0,.sl 1 (us.map encI) .sh),(1,.fn 62 [] [.ptr 0 0]),(7,.int .i64 n),(8,.int .i64 j)]) (fun _=>[[.sl 1 (fu.map encI) .sh]]) (fun j=>j ≤ n ∧ idxL (inF fu) us 0 = idxL (inF fu) (us.drop j) j) (fun j=>n - j) 0 ?_ ?_ ?_
 · simp
 · simp [hn]
 · rintro j ⟨h1,h2⟩
   by_cases hj:j < n
   · obtain ⟨y,hy,hd⟩:=get_drop (l:=us) (i:=j) (by omega)
     rw [hd] at h2
     simp only [idxL] at h2
     have w1:IntKind.i64.wrap ((j:Int) + 1) = j + 1:=wrap_in (by omega)
     clear hd
     have hyc:=h y
     generalize inF fu y = b at hyc h2
     simp [hj,hn,hy,gE hy]
     refine ⟨_,_,.inl (by simpa using hyc),by simp,?_⟩
     cases b with
     | true=>simp at h2; simp [h2]
     | false =>
       simp at h2
       simp [w1]
       exact ⟨j + 1,⟨by omega,h2⟩,by omega,by simp⟩
   · have:j = n:=by omega
     subst this
     rw [List.drop_eq_nil_of_le (by omega)] at h2
     simp [hn,h2,idxL]
set_option maxHeartbeats 4000000 in
set_option maxRecDepth 10000 in
theorem t70b (us:List Int) (n:Nat) (hn:us.length = n) (hn2:n < 1000000) (fu:List Int) (m:Nat) (hm:fu.length = m) (hm2:m < 1000000) :
   CFun Tryz.prog 61 [.sl 1 (us.map encI) .sh,.fn 62 [] [.ptr 0 0]] [[.sl 1 (fu.map encI) .sh]] (.bool (us.any (inF fu))) [[.sl 1 (fu.map encI) .sh]]:=by
 refine CFun.intro (tr:=[]) (fz:=[]) (n:=9) (rs:=[.tmp 4]) Tryz.func61 rfl (by kernel_rfl) rfl rfl mixed (by kernel_rfl) (by simp) (by simp) ?_
 have h:=t69b us n hn hn2 fu m hm hm2
 rw [show us.any (inF fu) = decide (0 ≤ idxL (inF fu) us 0) from idxL_any _ _ _]
 generalize idxL (inF fu) us 0 = q at h
 simp
 refine ⟨_,_,.inl (by simpa using h),by simp,?_⟩
 simp
set_option maxHeartbeats 16000000 in
set_option maxRecDepth 10000 in
theorem t46 (l:List Lnk) (n:Nat) (hn:l.length = n) (hn2:n < 1000000) (ts:List Tun) (r:Nat) (hr:ts.length = r) (hr2:r < 1000000) (hts:∀ t ∈ ts,t.P.length < 1000000) (fu:List Int) (m:Nat) (hm:fu.length = m) (hm2:m < 1000000) (c:Con) (ch:List Int) (q:Nat) (hq:ch.length = q) (hq2:q < 1000000) :
   CFun Tryz.prog 34 [.sl 13 (l.map encL) .sh,.sl 12 (ts.map encT) .sh,.sl 1 (fu.map encI) .sh,encC c,.sl 1 (ch.map encI) .sh] [] (.int .i64 (vicF (candP l fu c ch) ts (-1) 0 ts)) []:=by
 refine CFun.intro (tr:=[]) (fz:=[]) (n:=84) (rs:=[.tmp 10]) Tryz.func34 rfl (by kernel_rfl) rfl rfl mixed (by kernel_rfl) (by simp) (by simp) ?_
 have h41:=fun t (ht:t ∈ ts) H=>(t41 l n hn (by omega) t.P t.P.length rfl (hts t ht)).up' H rfl rfl
 have h42:=fun (i:Nat) H=>(c24 ch q hq (by omega) (i:Int)).up' H rfl rfl
 have h70:=fun t (ht:t ∈ ts) H (hH:H[0]? = some [.sl 1 (fu.map encI) .sh])=>(t70b (usesL l t.P) (t.P.length - 1) (usesL_len l t.P) (by have:=hts t ht; omega) fu m hm hm2).at (H:=H) (id:=0) hH rfl rfl rfl rfl
 obtain ⟨T,hT⟩:∃ T,T = vicF (candP l fu c ch) ts (-1) 0 ts:=⟨_,rfl⟩
 rw [← hT]
 simp [hr]
 refine LoopK.intro (tr:=[]) mixed (by kernel_rfl) (fun s:Nat × Int=>[(0,.sl 13 (l.map encL) .sh),(1,.sl 12 (ts.map encT) .sh),(4,.sl 1 (ch.map encI) .sh),(7,.ptr 0 0),(8,.ptr 1 0),(11,.int .i64 s.2),(14,.sl 12 (ts.map encT) .sh),(15,.int .i64 r),(16,.int .i64 s.1)]) (fun _=>[[.sl 1 (fu.map encI) .sh],cellsC c])
   (fun s=>s.1 ≤ r ∧ -1 ≤ s.2 ∧ s.2 < r ∧ T = vicF (candP l fu c ch) ts s.2 s.1 (ts.drop s.1)) (fun s=>r - s.1) (0,-1) ?_ ?_ ?_
 · exact ⟨Nat.zero_le _,by simp,by simp; omega,hT⟩
 · simp
 rintro ⟨i,b⟩ ⟨i1,i2,i3,i4⟩
 simp only at i1 i2 i3 i4
 by_cases hi:i < r
 case neg =>
   rw [List.drop_eq_nil_of_le (by omega)] at i4
   simp only [vicF] at i4
   simp [hi,i4]
 obtain ⟨t,ht,hd⟩:=get_drop (l:=ts) (i:=i) (by omega)
 rw [hd] at i4
 simp only [vicF] at i4
 have hmm:=List.mem_of_getElem? ht
 have w1:IntKind.i64.wrap ((i:Int) + 1) = i + 1:=wrap_in (by omega)
 have k41:=h41 t hmm
 have k70:=h70 t hmm
 have k42:=h42 i
 clear h41 h42 h70 hd hT
 have hcp:candP l fu c ch i t = (!(decide (t.W.Band ≤ 0) || decide (t.W.Hold ≤ c.Setup) || hasB ch i) && (usesL l t.P).any (inF fu)):=rfl
 generalize candP l fu c ch i t = cd at *
 generalize hasB ch (i:Int) = b1 at *
 generalize usesL l t.P = us at *
 generalize us.any (inF fu) = b2 at *
 have skip:cd = false → T = vicF (candP l fu c ch) ts b (i + 1) (ts.drop (i + 1)):=by
   intro e
   rw [e] at i4
   simpa using i4
 by_cases g1:t.W.Band ≤ 0
 · have:=skip (by rw [hcp]; simp [g1])
   simp [hi,hr,ht,gE ht,g1,w1]
   exact ⟨i + 1,b,⟨by omega,i2,i3,this⟩,by omega,by simp⟩
 by_cases g2:t.W.Hold ≤ c.Setup
 · have:=skip (by rw [hcp]; simp [g2])
   simp [hi,hr,ht,gE ht,g1,g2,w1]
   exact ⟨i + 1,b,⟨by omega,i2,i3,this⟩,by omega,by simp⟩
 cases b1 with
 | true =>
   have:=skip (by rw [hcp]; simp)
   simp [hi,hr,ht,gE ht,g1,g2]
   refine ⟨_,_,.inl (by simpa [cargs] using k42 _),by simp [cargs],?_⟩
   simp [w1]
   exact ⟨i + 1,b,⟨by omega,i2,i3,this⟩,by omega,by simp⟩
 | false =>
 cases b2 with
 | false =>
   have:=skip (by rw [hcp]; simp)
   simp [hi,hr,ht,gE ht,g1,g2]
   refine ⟨_,_,.inl (by simpa [cargs] using k42 _),by simp [cargs],?_⟩
   simp
   refine ⟨_,_,.inl (by simpa using k41 _),by simp,?_⟩
   simp
   refine ⟨_,_,.inl (by simpa [ren,ren0] using k70 _ rfl),by simp,?_⟩
   simp [w1]
   exact ⟨i + 1,b,⟨by omega,i2,i3,this⟩,by omega,by simp⟩
 | true =>
 have hcd:cd = true:=by rw [hcp]; simp [g1,g2]
 rw [hcd,Bool.true_and] at i4
 by_cases g3:b < 0
 · rw [if_pos (by simp [g3])] at i4
   simp [hi,hr,ht,gE ht,g1,g2]
   refine ⟨_,_,.inl (by simpa [cargs] using k42 _),by simp [cargs],?_⟩
   simp
   refine ⟨_,_,.inl (by simpa using k41 _),by simp,?_⟩
   simp
   refine ⟨_,_,.inl (by simpa [ren,ren0] using k70 _ rfl),by simp,?_⟩
   simp [g3,w1]
   exact ⟨i + 1,(i:Int),⟨by omega,by omega,by omega,i4⟩,by omega,by simp⟩
 obtain ⟨j,rfl⟩:∃ j:Nat,b = j:=⟨b.toNat,by omega⟩
 have hj:j < r:=by omega
 obtain ⟨u,hu⟩:∃ u,ts[j]? = some u:=⟨_,List.getElem?_eq_getElem (by omega)⟩
 have hud:ts.getD j tun0 = u:=by rw [List.getD_eq_getElem?_getD,hu]; rfl
 rw [Int.toNat_natCast,hud] at i4
 unfold betT at i4
 have g3':¬ (j:Int) < 0:=g3
 by_cases g4:u.W.Hold < t.W.Hold
 · rw [if_pos (by simp [g4])] at i4
   simp [hi,hr,ht,gE ht,g1,g2]
   refine ⟨_,_,.inl (by simpa [cargs] using k42 _),by simp [cargs],?_⟩
   simp
   refine ⟨_,_,.inl (by simpa using k41 _),by simp,?_⟩
   simp
   refine ⟨_,_,.inl (by simpa [ren,ren0] using k70 _ rfl),by simp,?_⟩
   simp [g3',hj,hr,hu,gE hu,g4,w1]
   exact ⟨i + 1,(i:Int),⟨by omega,by omega,by omega,i4⟩,by omega,by simp⟩
 by_cases g5:t.W.Hold = u.W.Hold ∧ u.ID < t.ID
 · obtain ⟨g5,g6⟩:=g5
   rw [if_pos (by simp [g5,g6])] at i4
   simp [hi,hr,ht,gE ht,g1,g2]
   refine ⟨_,_,.inl (by simpa [cargs] using k42 _),by simp [cargs],?_⟩
   simp
   refine ⟨_,_,.inl (by simpa using k41 _),by simp,?_⟩
   simp
   refine ⟨_,_,.inl (by simpa [ren,ren0] using k70 _ rfl),by simp,?_⟩
   simp [g3',hj,hr,hu,gE hu,g4,g5,g6,w1]
   exact ⟨i + 1,(i:Int),⟨by omega,by omega,by omega,i4⟩,by omega,by simp⟩
 rw [if_neg (by simp only [Bool.or_eq_true,Bool.and_eq_true,decide_eq_true_eq]; omega)] at i4
 by_cases g6:t.W.Hold = u.W.Hold
 · have g7:¬ u.ID < t.ID:=fun h=>g5 ⟨g6,h⟩
   simp [hi,hr,ht,gE ht,g1,g2]
   refine ⟨_,_,.inl (by simpa [cargs] using k42 _),by simp [cargs],?_⟩
   simp
   refine ⟨_,_,.inl (by simpa using k41 _),by simp,?_⟩
   simp
   refine ⟨_,_,.inl (by simpa [ren,ren0] using k70 _ rfl),by simp,?_⟩
   simp [g3',hj,hr,hu,gE hu,g4,g6,g7,w1]
   exact ⟨i + 1,(j:Int),⟨by omega,by omega,by omega,i4⟩,by omega,by simp⟩
 · simp [hi,hr,ht,gE ht,g1,g2]
   refine ⟨_,_,.inl (by simpa [cargs] using k42 _),by simp [cargs],?_⟩
   simp
   refine ⟨_,_,.inl (by simpa using k41 _),by simp,?_⟩
   simp
   refine ⟨_,_,.inl (by simpa [ren,ren0] using k70 _ rfl),by simp,?_⟩
   simp [g3',hj,hr,hu,gE hu,g4,g6,w1]
   exact ⟨i + 1,(j:Int),⟨by omega,by omega,by omega,i4⟩,by omega,by simp⟩
end Go.Proofs.YtpmmnnaaoideeaaGreat

/- The reference's change of links. -/
namespace Go.Proofs.YtpmmnnaaoideeaaGreat
open Go Go.Am Go.Wk
theorem cntI_pos {i:Nat} {us:List Int}:0 < cntI i us ↔ (i:Int) ∈ us:=by
 unfold cntI
 rw [List.countP_pos_iff]
 constructor
 · rintro ⟨a,ha,hb⟩
   have:a = (i:Int):=by simpa using hb
   rw [← this]; exact ha
 · intro h; exact ⟨_,h,by simp⟩
set_option maxHeartbeats 4000000 in
set_option maxRecDepth 10000 in
theorem t38 (l:List Lnk) (n:Nat) (hn:l.length = n) (hn2:n < 1000000) (p:List Int) (m:Nat) (hm:p.length = m) (hm2:m < 1000000) (b:Int) (hus:∀ u ∈ usesL l p,0 ≤ u ∧ u < l.length) :
   CFun Tryz.prog 81 [.sl 13 (l.map encL) .sh,.sl 1 (p.map encI) .sh,.int .i64 b] [] (.bool (!roomB l b (usesL l p))) []:=by
 refine CFun.intro (tr:=[]) (fz:=[]) (n:=29) (rs:=[.tmp 6]) Tryz.func81 rfl (by kernel_rfl) rfl rfl mixed (by kernel_rfl) (by simp) (by simp) ?_
 have h:=fun j H=>(t39 l n hn (by omega) p m hm hm2 j).up' H rfl rfl
 generalize usesL l p = us at *
 obtain ⟨T,hT⟩:∃ T,T = roomB l b us:=⟨_,rfl⟩
 rw [← hT]
 simp
 refine LoopK.intro (tr:=[]) mixed (by kernel_rfl) (fun i:Nat=>[(0,.sl 13 (l.map encL) .sh),(1,.sl 1 (p.map encI) .sh),(2,.int .i64 b),(9,.sl 13 (l.map encL) .sh),(10,.int .i64 n),(11,.int .i64 i)]) (fun _=>[])
   (fun i=>i ≤ n ∧ ∀ (j:Nat) (x:Lnk),j < i → l[j]? = some x → 0 < cntI j us → b ≤ x.Fr 7) (fun i=>n - i) 0 ?_ ?_ ?_
 · exact ⟨by omega,fun j x hj=>by omega⟩
 · simp [hn]
 · rintro i ⟨h1,h2⟩
   by_cases hi:i < n
   · obtain ⟨x,hx⟩:∃ x,l[i]? = some x:=⟨_,List.getElem?_eq_getElem (by omega)⟩
     have w1:IntKind.i64.wrap ((i:Int) + 1) = i + 1:=wrap_in (by omega)
     have h7:=cellsL_fr x (i:=7) (by omega)
     have hc:=h i
     have go:(0 < cntI i us → b ≤ x.Fr 7) → ∀ (j:Nat) (y:Lnk),j < i + 1 → l[j]? = some y → 0 < cntI j us → b ≤ y.Fr 7:=by
       intro hx' j y hj hy hcj
       by_cases e:j = i
       · subst e
         rw [hx] at hy
         injection hy with hy
         subst hy
         exact hx' hcj
       · exact h2 j y (by omega) hy hcj
     have no:0 < cntI i us → x.Fr 7 < b → T = false:=by
       intro k1 k2
       obtain ⟨j,hj,he⟩:=List.getElem_of_mem (cntI_pos.1 k1)
       rw [hT]
       exact roomB_no (j:=j) (by rw [List.getElem?_eq_getElem hj,he]) hx k2
     generalize cntI i us = ct at *
     simp [hi,hn,hx,gE hx]
     refine ⟨_,_,.inl (by simpa using hc _),by simp,?_⟩
     by_cases g1:0 < ct
     · have g1':(0:Int) < ct:=by omega
       by_cases g2:x.Fr 7 < b
       · have:=no g1 g2
         simp [g1,g1',h7,g2,this]
       · simp [g1,g1',h7,g2,w1]
         exact ⟨i + 1,⟨by omega,go fun _=>by omega⟩,by omega,by simp⟩
     · have g1':¬ (0:Int) < ct:=by omega
       simp [g1,g1',w1]
       exact ⟨i + 1,⟨by omega,go fun h=>absurd h g1⟩,by omega,by simp⟩
   · have:i = n:=by omega
     subst this
     have:T = true:=by
       rw [hT]
       refine roomB_yes (fun j k x hj hx=>h2 k x (by rw [← hn]; exact (List.getElem?_eq_some_iff.1 hx).1) hx (cntI_pos.2 (List.mem_of_getElem? hj))) hus
     simp [hn,this]
theorem idxL_map {α:Type} (p:α → Bool):∀ (l:List α) (i:Nat),idxL p l i = idxL id (l.map p) i
 | [],_=>rfl
 | x :: l,i=>by simp only [List.map_cons,idxL,idxL_map p l,id]
theorem findI_set {l:List Lnk} {i:Nat} {x y:Lnk} (hx:l[i]? = some x) (h1:y.From = x.From) (h2:y.To = x.To) (a b:Int):findI (l.set i y) a b = findI l a b:=by
 unfold findI
 rw [idxL_map,idxL_map (isL a b) l]
 suffices hs:(l.set i y).map (isL a b) = l.map (isL a b) by rw [hs]
 rw [List.map_set]
 apply List.ext_getElem?
 intro j
 rw [List.getElem?_set]
 split
 · rename_i e
   subst e
   have hlt:=(List.getElem?_eq_some_iff.1 hx).1
   rw [if_pos (by simpa using hlt),List.getElem?_map,hx]
   simp only [Option.map_some,isL,h1,h2]
 · rfl
set_option maxHeartbeats 16000000 in
set_option maxRecDepth 10000 in
theorem t37 (l:List Lnk) (n:Nat) (hn:l.length = n) (hn2:n < 1000000) (p:List Int) (m:Nat) (hm:p.length = m) (hm2:m ≤ 60) (h:Nat) (h8:h ≤ 8) (b:Int) (hb:-1099511627776 ≤ b ∧ b ≤ 1099511627776) (hus:∀ u ∈ usesL l p,0 ≤ u ∧ u < l.length) (hF:∀ x ∈ l,∀ k,k < 8 → -1125899906842624 ≤ x.Fr k ∧ x.Fr k ≤ 1125899906842624) :
   CFun Tryz.prog 37 [.sl 13 (l.map encL) .sh,.sl 1 (p.map encI) .sh,.int .i64 h,.int .i64 b] [] (.sl 13 ((chA (-b) h (usesL l p) l).map encL) .sh) []:=by
 refine CFun.intro (tr:=[100015]) (fz:=[(8,0,true)]) (n:=51) (rs:=[.tmp 8]) Tryz.func37 rfl (by kernel_rfl) rfl rfl mixed (by kernel_rfl) (by simp) (by simp) ?_
 by_cases hne:l = []
 · have:m ≤ 1:=by
     rcases Nat.lt_or_ge 1 m with g | g
     · have hul:=usesL_len l p
       have:(usesL l p) ≠ []:=by
         intro e
         rw [e] at hul
         simp at hul
         omega
       obtain ⟨u,us,hu⟩:=List.exists_cons_of_ne_nil this
       have:=hus u (by rw [hu]; simp)
       rw [hne] at this
       simp at this
       omega
     · exact g
   have he:(chA (-b) h (usesL l p) l) = []:=by rw [hne]; rfl
   rw [he]
   subst hne
   have g1:¬ (1:Int) < m:=by omega
   simp
   refine LoopK.intro (tr:=[100015]) mixed (by kernel_rfl) (fun _:Nat=>[(1,.sl 1 (p.map encI) .sh),(9,.sl 13 [] .sh),(10,.int .i64 1)]) (fun _=>[]) (fun _=>True) (fun i=>i) 0 trivial (by simp) ?_
   intro _ _
   simp [hm,g1]
 have s1:l.length * 104 ≤ 140737488355328:=by omega
 have s2:l.length ≤ 140737488355328:=by omega
 have s3:0 < l.length:=List.length_pos_iff.2 hne
 have s4:(l.map encL).isEmpty = false:=by cases l <;> simp_all
 have s5:(l.map encL).flatMap AVal.cells = rowC cellsL l:=rowC_map (ce:=cellsL) l
 have s6:(rowC cellsL l).map AVal.dis = rowC cellsL l:=encL_enc.rowDis l
 have hle:=fun k (l:List Lnk)=>encL_enc.rowLe k l
 have hrl:=encL_enc.rowLen
 obtain ⟨us,hU⟩:∃ us,us = usesL l p:=⟨_,rfl⟩
 rw [← hU] at hus ⊢
 have hul:us.length = m - 1:=by rw [hU,usesL_len,hm]
 simp [hne,s1,s2,s3,s4]
 rw [s5,s6]
 refine LoopK.intro (tr:=[100015]) mixed (by kernel_rfl) (fun s:Nat × List Lnk=>[(1,.sl 1 (p.map encI) .sh),(2,.int .i64 h),(3,.int .i64 b),(9,.osl 0 0 n none 13),(10,.int .i64 (s.1 + 1))]) (fun s=>[rowC cellsL s.2])
   (fun s=>s.1 ≤ m ∧ s.2.length = n ∧ (∀ x ∈ s.2,∀ k,k < 8 → -1125899906842624 - 1099511627776 * s.1 ≤ x.Fr k ∧ x.Fr k ≤ 1125899906842624 + 1099511627776 * s.1) ∧ (∀ a c,findI s.2 a c = findI l a c) ∧ chA (-b) h us l = chA (-b) h (us.drop s.1) s.2) (fun s=>m - s.1) (0,l) ?_ ?_ ?_
 · exact ⟨Nat.zero_le _,hn,fun x hx k hk=>by have:=hF x hx k hk; omega,fun _ _=>rfl,rfl⟩
 · simp [hle,hn]
 clear hF
 rintro ⟨q,cur⟩ ⟨q1,q2,q3,q5,q4⟩
 simp only at q1 q2 q3 q4 q5
 by_cases hq:q + 1 < m
 case neg =>
   have hq':¬ (q:Int) + 1 < m:=by omega
   rw [List.drop_eq_nil_of_le (by omega)] at q4
   have hcz:chA (-b) h [] cur = cur:=by
     apply List.ext_getElem?
     intro j
     rw [chA_get]
     cases cur[j]? <;> simp [cntI,chR_zero]
   rw [hcz] at q4
   rw [q4]
   have k4:=encL_enc.chunk cur n q2
   have k3:∀ x ∈ rowC cellsL cur,x.tree = true:=by simpa using encL_enc.rowTree cur
   have hn0:0 < n:=by omega
   have hrc:=hrl cur
   rw [q2] at hrc
   have k2:(rowC cellsL cur).take (n * 13) = rowC cellsL cur:=List.take_of_length_le (by omega)
   simp [hq,hq',hm,hrc,k2,k4,hn0]
   rw [if_pos k3]
   simp
 obtain ⟨x0,hx0⟩:∃ x,p[q]? = some x:=⟨_,List.getElem?_eq_getElem (by omega)⟩
 obtain ⟨y0,hy0⟩:∃ y,p[q + 1]? = some y:=⟨_,List.getElem?_eq_getElem (by omega)⟩
 obtain ⟨u,hu⟩:∃ u,us[q]? = some u:=⟨_,List.getElem?_eq_getElem (by omega)⟩
 have hdd:us.drop q = u :: us.drop (q + 1):=by
   obtain ⟨k1,k2⟩:=List.getElem?_eq_some_iff.1 hu
   rw [List.drop_eq_getElem_cons k1,k2]
 have hu2:u = findI l x0 y0:=by
   have e:∀ (p:List Int) (q:Nat),(usesL l p).drop q = usesL l (p.drop q):=by
     intro p
     induction p with
     | nil=>intro q; simp [usesL]
     | cons a p ih =>
       intro q
       cases p with
       | nil =>
         cases q with
         | zero=>rfl
         | succ q=>simp [usesL]
       | cons c p =>
         cases q with
         | zero=>rfl
         | succ q=>simp only [usesL,List.drop_succ_cons]; exact ih q
   have h1:=e p q
   rw [← hU,hdd,usesL_drop hx0 hy0] at h1
   injection h1
 obtain ⟨u0,u1⟩:=hus u (List.mem_of_getElem? hu)
 obtain ⟨i,hi0⟩:∃ i:Nat,u = i:=⟨u.toNat,by omega⟩
 have hi:i < n:=by omega
 obtain ⟨x,hx⟩:∃ x,cur[i]? = some x:=⟨_,List.getElem?_eq_getElem (by omega)⟩
 have hlend:=lend66 (H:=[rowC cellsL cur]) (id:=0) rfl q2 (by omega) (by omega) x0 y0
 rw [q5,← hu2,hi0] at hlend
 rw [hi0] at hdd
 rw [hdd,← chA_cons hx] at q4
 have w1:IntKind.i64.wrap ((q:Int) + 1 + 1) = (q:Int) + 1 + 1:=wrap_in (by omega)
 have w4:IntKind.i64.wrap (q:Int) = q:=wrap_in (by omega)
 have hq':(q:Int) + 1 < m:=by omega
 have hq2:q < m:=by omega
 have hqn:((q:Int) + 1).toNat = q + 1:=by omega
 simp [hq,hq',hq2,hm,hx0,gE hx0,hy0,gE hy0,w4,hqn]
 refine ⟨_,_,.inl (by simpa [cargs] using hlend),by simp [cargs],?_⟩
 simp
 have hxb:=q3 x (List.mem_of_getElem? hx)
 refine LoopK.intro (tr:=[100015]) mixed (by kernel_rfl) (fun s:Nat × Lnk=>[(1,.sl 1 (p.map encI) .sh),(2,.int .i64 h),(3,.int .i64 b),(9,.osl 0 0 n none 13),(10,.int .i64 (q + 1)),(11,.int .i64 i),(12,.int .i64 s.1)]) (fun s=>[rowC cellsL (cur.set i s.2)])
   (fun s=>h ≤ s.1 ∧ s.1 ≤ 8 ∧ (∀ k,k < 8 → -1125899906842624 - 1099511627776 * ((q + 1:Nat):Int) ≤ s.2.Fr k ∧ s.2.Fr k ≤ 1125899906842624 + 1099511627776 * ((q + 1:Nat):Int)) ∧ (∀ k,s.1 ≤ k → s.2.Fr k = x.Fr k) ∧ (s.2.From = x.From ∧ s.2.To = x.To) ∧ chR h (-b) x = chR s.1 (-b) s.2) (fun s=>8 - s.1) (h,x) ?_ ?_ ?_
 · exact ⟨Nat.le_refl _,h8,fun k hk=>by have:=hxb k hk; show _ ≤ x.Fr k ∧ x.Fr k ≤ _; constructor <;> omega,fun _ _=>rfl,⟨rfl,rfl⟩,rfl⟩
 · have hsame:cur.set i x = cur:=by
     apply List.ext_getElem?
     intro j'
     rw [List.getElem?_set]
     split
     · rename_i e; subst e; rw [if_pos (by omega),hx]
     · rfl
   simp [hsame,hle]
 rintro ⟨k,z⟩ ⟨k1,k2,k3,k5,k6,k4⟩
 simp only at k1 k2 k3 k4 k5 k6
 have hsl:(cur.set i z).length = n:=by rw [List.length_set]; exact q2
 by_cases hk:k < 8
 case neg =>
   have:k = 8:=by omega
   subst this
   rw [chR_eight] at k4
   rw [k4] at q4
   simp [w1]
   refine ⟨q + 1,cur.set i z,⟨by omega,hsl,fun v hv=>?_,fun a c=>?_,q4⟩,by omega,by simp [hle]⟩
   · rcases List.mem_or_eq_of_mem_set hv with hv | rfl
     · intro k hk
       have:=q3 v hv k hk
       omega
     · exact k3
   · rw [findI_set hx k6.1 k6.2,q5]
 have hk':(k:Int) < 8:=by omega
 have hk7:k ≤ 7:=by omega
 have hz:(cur.set i z)[i]? = some z:=by rw [List.getElem?_set_self (by omega)]
 have hg:=rowL_get hz hk
 have hset:=rowL_set hz hk (z.Fr k - b)
 rw [List.set_set] at hset
 have hrc:=hrl (cur.set i z)
 rw [hsl] at hrc
 have hzx:=k5 k (Nat.le_refl _)
 have hxk:=hxb k hk
 have w2:IntKind.i64.wrap ((k:Int) + 1) = k + 1:=wrap_in (by omega)
 have b1:i * 13 + 4 + k < n * 13:=by omega
 have b2:i * 13 + 4 + k + 1 ≤ n * 13:=by omega
 have w3:IntKind.i64.wrap (z.Fr k - b) = z.Fr k - b:=wrap_in (by omega)
 have hst:=chR_step hk (-b) z
 rw [← Int.sub_eq_add_neg] at hst
 have hv:-1125899906842624 - 1099511627776 * ((q + 1:Nat):Int) ≤ z.Fr k - b ∧ z.Fr k - b ≤ 1125899906842624 + 1099511627776 * ((q + 1:Nat):Int):=by
   rw [hzx]
   constructor <;> omega
 simp [hk,hk',hk7,hi,hg,gE hg,hrc,b1,b2,w3]
 simp [hset,w2]
 refine ⟨k + 1,setF z k (z.Fr k - b),⟨by omega,by omega,fun j hj=>?_,fun j hj=>?_,⟨k6.1,k6.2⟩,by rw [hst]; exact k4⟩,by omega,by simp [hle]⟩
 · show _ ≤ updF z.Fr k (z.Fr k - b) j ∧ updF z.Fr k (z.Fr k - b) j ≤ _
   unfold updF
   split
   · exact hv
   · exact k3 j hj
 · show updF z.Fr k (z.Fr k - b) j = x.Fr j
   unfold updF
   rw [if_neg (by omega)]
   exact k5 j (by omega)
end Go.Proofs.YtpmmnnaaoideeaaGreat

/- The reference's Reserve and Release, by the program. -/
namespace Go.Proofs.YtpmmnnaaoideeaaGreat
open Go Go.Am Go.Wk
theorem opA_good {bad:Int → Int → Bool} {v:Int} {h:Nat} (h8:h ≤ 8):∀ (us:List Int) (l:List Lnk),(∀ u ∈ us,0 ≤ u ∧ u < l.length) → ∀ m,opA bad v h us l = some m →
   ∀ (i:Nat) (x:Lnk) (c:Nat),l[i]? = some x → c < cntI i us → ∀ k,h ≤ k → k < 8 → bad (x.Fr k + v * c) x.Cap = false:=by
 intro us
 induction us with
 | nil=>intro l _ m _ i x c _ hc; simp [cntI] at hc
 | cons u us ih =>
   intro l hu m hm j y c hy hc k k1 k2
   obtain ⟨u1,u2⟩:=hu u (by simp)
   obtain ⟨i,rfl⟩:∃ i:Nat,u = i:=⟨u.toNat,by omega⟩
   obtain ⟨x,hx⟩:∃ x,l[i]? = some x:=⟨_,List.getElem?_eq_getElem (by omega)⟩
   have hxd:l.getD i lnk0 = x:=by rw [List.getD_eq_getElem?_getD,hx]; rfl
   simp only [opA,Int.toNat_natCast,hxd] at hm
   by_cases hb:∃ k,8 - (8 - h) ≤ k ∧ k < 8 ∧ bad (x.Fr k) x.Cap = true
   · rw [opK_none _ _ (by omega) hb] at hm
     cases hm
   · have hg:∀ k,8 - (8 - h) ≤ k → k < 8 → bad (x.Fr k) x.Cap = false:=fun k k1 k2=>by
       cases hc:bad (x.Fr k) x.Cap with
       | false=>rfl
       | true=>exact absurd ⟨k,k1,k2,hc⟩ hb
     rw [opK_some _ _ (by omega) hg,show 8 - (8 - h) = h by omega] at hm
     simp only at hm
     have hl:=ih (l.set i (chR h v x)) (fun w hw=>by rw [List.length_set]; exact hu w (by simp [hw])) m hm
     rw [cntI_cons] at hc
     by_cases e:i = j
     · subst e
       rw [hx] at hy
       injection hy with hy
       subst hy
       rw [if_pos rfl] at hc
       cases c with
       | zero=>simpa using hg k (by omega) k2
       | succ c =>
         have:=hl i (chR h v x) c (by rw [List.getElem?_set_self (by omega)]) (by omega) k k1 k2
         have e2:(chR h v x).Fr k = x.Fr k + v:=by simp only [chR]; rw [if_pos ⟨k1,k2⟩]
         rw [e2] at this
         rw [← this]
         show bad _ x.Cap = bad _ x.Cap
         congr 1
         rw [Int.natCast_add,Int.mul_add]
         simp
         omega
     · rw [if_neg (by omega)] at hc
       exact hl j y c (by rw [List.getElem?_set_ne e]; exact hy) (by omega) k k1 k2
theorem chR_fr {h:Nat} {v:Int} {x:Lnk} {k:Nat} (k1:h ≤ k) (k2:k < 8):(chR h v x).Fr k = x.Fr k + v:=by
 simp only [chR]; rw [if_pos ⟨k1,k2⟩]
theorem mul_last (b:Int) {c n:Nat} (hc:c < n) (hb:0 ≤ b):b * (c:Int) + b ≤ b * (n:Int):=by
 have:b * ((c + 1:Nat):Int) ≤ b * (n:Int):=Int.mul_le_mul_of_nonneg_left (by omega) hb
 rw [Int.natCast_add,Int.mul_add] at this
 simpa using this
theorem take_yes {b:Int} (hb:0 ≤ b) {h:Nat} (h8:h ≤ 8) {us:List Int} {l:List Lnk} (hus:∀ u ∈ us,0 ≤ u ∧ u < l.length) (hg:∀ (i:Nat) (x:Lnk),(chA (-b) h us l)[i]? = some x → 0 < cntI i us → ∀ k,h ≤ k → k < 8 → 0 ≤ x.Fr k):takeA b h us l = some (chA (-b) h us l):=by
 rw [takeA_op]
 refine opA_ok h8 us l hus fun i x c hx hc k k1 k2=>decide_eq_false ?_
 have:=hg i _ (by rw [chA_get,hx]; rfl) (by omega) k k1 k2
 rw [chR_fr k1 k2] at this
 have h3:=mul_last b hc hb
 rw [Int.neg_mul] at this ⊢
 omega
theorem take_no {b:Int} {h:Nat} (h8:h ≤ 8) {us:List Int} {l:List Lnk} (hus:∀ u ∈ us,0 ≤ u ∧ u < l.length) {i:Nat} {x:Lnk} (hx:(chA (-b) h us l)[i]? = some x) (hc:0 < cntI i us) {k:Nat} (k1:h ≤ k) (k2:k < 8) (hn:x.Fr k < 0):takeA b h us l = none:=by
 cases hA:takeA b h us l with
 | none=>rfl
 | some m =>
   rw [takeA_op] at hA
   rw [chA_get,Option.map_eq_some_iff] at hx
   obtain ⟨y,hy,rfl⟩:=hx
   rw [chR_fr k1 k2] at hn
   have:=opA_good h8 us l hus m hA i y (cntI i us - 1) hy (by omega) k k1 k2
   have:=of_decide_eq_false this
   have e:(cntI i us:Int) = ((cntI i us - 1:Nat):Int) + 1:=by omega
   rw [e,Int.mul_add] at hn
   rw [Int.neg_mul] at *
   omega
theorem add_yes {b:Int} (hb:0 ≤ b) {h:Nat} (h8:h ≤ 8) {us:List Int} {l:List Lnk} (hus:∀ u ∈ us,0 ≤ u ∧ u < l.length) (hg:∀ (i:Nat) (x:Lnk),(chA b h us l)[i]? = some x → 0 < cntI i us → ∀ k,h ≤ k → k < 8 → x.Fr k ≤ x.Cap):addA b h us l = some (chA b h us l):=by
 rw [addA_op]
 refine opA_ok h8 us l hus fun i x c hx hc k k1 k2=>?_
 rw [exceedsB_eq hb]
 refine decide_eq_false ?_
 have:=hg i _ (by rw [chA_get,hx]; rfl) (by omega) k k1 k2
 rw [chR_fr k1 k2] at this
 have h3:=mul_last b hc hb
 change _ ≤ x.Cap at this
 omega
theorem add_no {b:Int} (hb:0 ≤ b) {h:Nat} (h8:h ≤ 8) {us:List Int} {l:List Lnk} (hus:∀ u ∈ us,0 ≤ u ∧ u < l.length) {i:Nat} {x:Lnk} (hx:(chA b h us l)[i]? = some x) (hc:0 < cntI i us) {k:Nat} (k1:h ≤ k) (k2:k < 8) (hn:x.Cap < x.Fr k):addA b h us l = none:=by
 cases hA:addA b h us l with
 | none=>rfl
 | some m =>
   rw [addA_op] at hA
   rw [chA_get,Option.map_eq_some_iff] at hx
   obtain ⟨y,hy,rfl⟩:=hx
   rw [chR_fr k1 k2] at hn
   have:=opA_good h8 us l hus m hA i y (cntI i us - 1) hy (by omega) k k1 k2
   rw [exceedsB_eq hb] at this
   have:=of_decide_eq_false this
   have e:(cntI i us:Int) = ((cntI i us - 1:Nat):Int) + 1:=by omega
   rw [e,Int.mul_add] at hn
   change y.Cap < _ at hn
   omega
theorem amtB_false {h b:Int} (g:h < 0 ∨ 7 < h ∨ b < 0 ∨ 1099511627776 < b):amtB h b = false:=by
 unfold amtB
 rw [Bool.eq_false_iff]
 intro e
 simp only [Bool.and_eq_true,decide_eq_true_eq] at e
 omega
theorem amtB_true {h b:Int} (g:¬ (h < 0 ∨ 7 < h ∨ b < 0 ∨ 1099511627776 < b)):amtB h b = true:=by
 unfold amtB
 simp only [Bool.and_eq_true,decide_eq_true_eq]
 omega
set_option maxHeartbeats 16000000 in
set_option maxRecDepth 10000 in
theorem t14 (l:List Lnk) (n:Nat) (hn:l.length = n) (hn2:n < 1000000) (hB:∀ x ∈ l,∀ k,k < 8 → -1125899906842624 ≤ x.Fr k ∧ x.Fr k ≤ 1125899906842624) (t:Tun) (m:Nat) (hm:t.P.length = m) (hm2:m ≤ 60) (hI:inI t.W.Hold ∧ inI t.W.Band) :
   CFun Tryz.prog 51 [.sl 13 (l.map encL) .sh,encT t] [] (.tup [.sl 13 ((resN l t).1.map encL) .sh,.int .i64 (resN l t).2]) []:=by
 refine CFun.intro (tr:=[]) (fz:=[]) (n:=69) (rs:=[.tmp 4,.tmp 5]) Tryz.func51 rfl (by kernel_rfl) rfl rfl mixed (by kernel_rfl) (by simp) (by simp) ?_
 have h36:=fun H=>(t36 t.W.Hold t.W.Band).up' H rfl rfl
 have h31:=fun H=>(t31 l n hn (by omega) t.P m hm (by omega)).up' H rfl rfl
 unfold resN pathE
 by_cases g1:t.W.Hold < 0 ∨ 7 < t.W.Hold ∨ t.W.Band < 0 ∨ 1099511627776 < t.W.Band
 · rw [amtB_false g1] at h36
   rw [if_pos g1]
   simp
   refine ⟨_,_,.inl (by simpa using h36 _),by simp,?_⟩
   simp
 rw [amtB_true g1] at h36
 rw [if_neg g1]
 by_cases g2:hasB (usesL l t.P) (-1) = true
 · rw [g2] at h31
   rw [if_pos g2]
   simp
   refine ⟨_,_,.inl (by simpa using h36 _),by simp,?_⟩
   simp
   refine ⟨_,_,.inl (by simpa using h31 _),by simp,?_⟩
   simp
 have g2':hasB (usesL l t.P) (-1) = false:=by simpa using g2
 have hp:pathE l t = 0:=by unfold pathE; rw [if_neg g1,if_neg g2]
 obtain ⟨⟨a1,a2⟩,⟨a3,a4⟩,hus⟩:=pathE_ok hp
 rw [g2'] at h31
 rw [if_neg g2]
 obtain ⟨h,hh⟩:∃ h:Nat,t.W.Hold = h:=⟨t.W.Hold.toNat,by omega⟩
 have hh7:h ≤ 7:=by omega
 have h37:=fun H=>(t37 l n hn (by omega) t.P m hm hm2 h (by omega) (t.W.Band) (by omega) hus hB).up' H rfl rfl
 have h38:=fun H=>(t38 l n hn (by omega) t.P m hm (by omega) t.W.Band hus).up' H rfl rfl
 have h39:=fun j H=>(t39 l n hn (by omega) t.P m hm (by omega) j).up' H rfl rfl
 rw [hh] at h36 ⊢
 simp only [Int.toNat_natCast]
 have hyes:=fun hg=>take_yes (b:=t.W.Band) a3 (h:=h) (by omega) hus hg
 have hno:=fun i x hx hc k k1 k2 hn=>take_no (b:=t.W.Band) (h:=h) (by omega) hus (i:=i) (x:=x) hx hc (k:=k) k1 k2 hn
 have hlen:=chA_len (-t.W.Band) h (usesL l t.P) l
 by_cases g3:roomB l t.W.Band (usesL l t.P) = true
 case neg =>
   have g3':roomB l t.W.Band (usesL l t.P) = false:=by simpa using g3
   rw [g3'] at h38
   simp [hh]
   refine ⟨_,_,.inl (by simpa [hh] using h36 _),by simp,?_⟩
   simp [hh]
   refine ⟨_,_,.inl (by simpa [hh] using h31 _),by simp,?_⟩
   simp [hh]
   refine ⟨_,_,.inl (by simpa [hh] using h37 _),by simp,?_⟩
   simp [hh]
   refine ⟨_,_,.inl (by simpa [hh] using h38 _),by simp,?_⟩
   simp [g3']
 rw [g3] at h38
 generalize chA (-t.W.Band) h (usesL l t.P) l = out at *
 generalize usesL l t.P = us at *
 generalize takeA t.W.Band h us l = R at *
 simp [hh]
 refine ⟨_,_,.inl (by simpa [hh] using h36 _),by simp,?_⟩
 simp [hh]
 refine ⟨_,_,.inl (by simpa [hh] using h31 _),by simp,?_⟩
 simp [hh]
 refine ⟨_,_,.inl (by simpa [hh] using h37 _),by simp,?_⟩
 simp [hh]
 refine ⟨_,_,.inl (by simpa [hh] using h38 _),by simp,?_⟩
 rw [hn] at hlen
 simp [hh,hlen]
 clear h31 h36 h37 h38
 refine LoopK.intro (tr:=[]) mixed (by kernel_rfl) (fun i:Nat=>[(0,.sl 13 (l.map encL) .sh),(3,.ptr 0 0),(6,.sl 13 (out.map encL) .sh),(40,.sl 13 (out.map encL) .sh),(41,.int .i64 n),(42,.int .i64 i)]) (fun _=>[cellsTh t h])
   (fun i=>i ≤ n ∧ ∀ (j:Nat) (x:Lnk),j < i → out[j]? = some x → 0 < cntI j us → ∀ k,h ≤ k → k < 8 → 0 ≤ x.Fr k) (fun i=>n - i) 0 ?_ ?_ ?_
 · exact ⟨by omega,fun j x hj=>by omega⟩
 · simp
 rintro i ⟨h1,h2⟩
 by_cases hi:i < n
 case neg =>
   have:i = n:=by omega
   subst this
   have hR:=hyes fun j x hx=>h2 j x (by rw [← hlen]; exact (List.getElem?_eq_some_iff.1 hx).1) hx
   subst hR
   simp [g3]
 obtain ⟨x,hx⟩:∃ x,out[i]? = some x:=⟨_,List.getElem?_eq_getElem (by omega)⟩
 have w1:IntKind.i64.wrap ((i:Int) + 1) = i + 1:=wrap_in (by omega)
 have hc:=h39 i
 have hnx:=hno i x hx
 have hnext:=fun (hg:0 < cntI i us → ∀ k,h ≤ k → k < 8 → 0 ≤ x.Fr k)=>(fun (j:Nat) (y:Lnk) (hj:j < i + 1) (hy:out[j]? = some y) (hcj:0 < cntI j us)=>(by
   by_cases e:j = i
   · subst e
     rw [hx] at hy
     injection hy with hy
     subst hy
     exact hg hcj
   · exact h2 j y (by omega) hy hcj:∀ k,h ≤ k → k < 8 → 0 ≤ y.Fr k))
 simp [hi,hlen,hx,gE hx]
 refine LoopK.intro (tr:=[]) mixed (by kernel_rfl) (fun k:Nat=>[(0,.sl 13 (l.map encL) .sh),(3,.ptr 0 0),(6,.sl 13 (out.map encL) .sh),(7,.int .i64 i),(8,.ptr 1 0),(9,.int .i64 k),(40,.sl 13 (out.map encL) .sh),(41,.int .i64 n),(42,.int .i64 i)]) (fun _=>[cellsTh t h,cellsL x])
   (fun k=>h ≤ k ∧ k ≤ 8 ∧ (0 < cntI i us → ∀ j,h ≤ j → j < k → 0 ≤ x.Fr j)) (fun k=>8 - k) h ?_ ?_ ?_
 · exact ⟨Nat.le_refl _,by omega,fun _ j j1 j2=>by omega⟩
 · simp
 rintro k ⟨k1,k2,k3⟩
 by_cases hk:k < 8
 case neg =>
   have:k = 8:=by omega
   subst this
   simp [w1]
   exact ⟨i + 1,⟨by omega,hnext k3⟩,by omega,by simp⟩
 have hg:=cellsL_fr x hk
 have hk':(k:Int) < 8:=by omega
 have hk7:k ≤ 7:=by omega
 have w2:IntKind.i64.wrap ((k:Int) + 1) = k + 1:=wrap_in (by omega)
 have b1:4 + k < 13:=by omega
 generalize cntI i us = ct at *
 simp [hk,hk',hk7,cargs]
 refine ⟨_,_,.inl (by simpa [cargs] using hc _),by simp [cargs],?_⟩
 by_cases g1:0 < ct
 · have g1':(0:Int) < ct:=by omega
   by_cases g2:x.Fr k < 0
   · have hR:=hnx g1 k k1 hk g2
     subst hR
     simp [hk,hk',hk7,g1,g1',hg,gE hg,b1,g2]
   · simp [hk,hk',hk7,g1,g1',hg,gE hg,b1,g2,w2]
     refine ⟨k + 1,⟨by omega,by omega,fun j j1 j2=>?_⟩,by omega,by simp⟩
     by_cases e:j = k
     · subst e; omega
     · exact k3 g1 j j1 (by omega)
 · have g1':¬ (0:Int) < ct:=by omega
   simp [hk,hk',hk7,g1,g1',w2]
   exact ⟨k + 1,⟨by omega,by omega⟩,by omega,by simp⟩
set_option maxHeartbeats 16000000 in
set_option maxRecDepth 10000 in
theorem t16 (l:List Lnk) (n:Nat) (hn:l.length = n) (hn2:n < 1000000) (hB:∀ x ∈ l,∀ k,k < 8 → -1125899906842624 ≤ x.Fr k ∧ x.Fr k ≤ 1125899906842624) (t:Tun) (m:Nat) (hm:t.P.length = m) (hm2:m ≤ 60) (hI:inI t.W.Hold ∧ inI t.W.Band) :
   CFun Tryz.prog 11 [.sl 13 (l.map encL) .sh,encT t] [] (.tup [.sl 13 ((relN l t).1.map encL) .sh,.int .i64 (relN l t).2]) []:=by
 refine CFun.intro (tr:=[]) (fz:=[]) (n:=65) (rs:=[.tmp 4,.tmp 5]) Tryz.func11 rfl (by kernel_rfl) rfl rfl mixed (by kernel_rfl) (by simp) (by simp) ?_
 have h36:=fun H=>(t36 t.W.Hold t.W.Band).up' H rfl rfl
 have h31:=fun H=>(t31 l n hn (by omega) t.P m hm (by omega)).up' H rfl rfl
 unfold relN pathE
 by_cases g1:t.W.Hold < 0 ∨ 7 < t.W.Hold ∨ t.W.Band < 0 ∨ 1099511627776 < t.W.Band
 · rw [amtB_false g1] at h36
   rw [if_pos g1]
   simp
   refine ⟨_,_,.inl (by simpa using h36 _),by simp,?_⟩
   simp
 rw [amtB_true g1] at h36
 rw [if_neg g1]
 by_cases g2:hasB (usesL l t.P) (-1) = true
 · rw [g2] at h31
   rw [if_pos g2]
   simp
   refine ⟨_,_,.inl (by simpa using h36 _),by simp,?_⟩
   simp
   refine ⟨_,_,.inl (by simpa using h31 _),by simp,?_⟩
   simp
 have g2':hasB (usesL l t.P) (-1) = false:=by simpa using g2
 have hp:pathE l t = 0:=by unfold pathE; rw [if_neg g1,if_neg g2]
 obtain ⟨⟨a1,a2⟩,⟨a3,a4⟩,hus⟩:=pathE_ok hp
 rw [g2'] at h31
 rw [if_neg g2]
 obtain ⟨h,hh⟩:∃ h:Nat,t.W.Hold = h:=⟨t.W.Hold.toNat,by omega⟩
 have hh7:h ≤ 7:=by omega
 have h37:=fun H=>(t37 l n hn (by omega) t.P m hm hm2 h (by omega) (-t.W.Band) (by omega) hus hB).up' H rfl rfl
 have h39:=fun j H=>(t39 l n hn (by omega) t.P m hm (by omega) j).up' H rfl rfl
 rw [hh] at h36 ⊢
 simp only [Int.toNat_natCast]
 rw [Int.neg_neg] at h37
 have wn:IntKind.i64.wrap (-t.W.Band) = -t.W.Band:=wrap_in (by omega)
 have hyes:=fun hg=>add_yes (b:=t.W.Band) a3 (h:=h) (by omega) hus hg
 have hno:=fun i x hx hc k k1 k2 hn=>add_no (b:=t.W.Band) a3 (h:=h) (by omega) hus (i:=i) (x:=x) hx hc (k:=k) k1 k2 hn
 have hlen:=chA_len (t.W.Band) h (usesL l t.P) l
 generalize chA (t.W.Band) h (usesL l t.P) l = out at *
 generalize usesL l t.P = us at *
 generalize addA t.W.Band h us l = R at *
 simp [hh]
 refine ⟨_,_,.inl (by simpa [hh] using h36 _),by simp,?_⟩
 simp [hh]
 refine ⟨_,_,.inl (by simpa [hh] using h31 _),by simp,?_⟩
 simp [hh,wn]
 refine ⟨_,_,.inl (by simpa [hh] using h37 _),by simp,?_⟩
 rw [hn] at hlen
 simp [hh,hlen]
 clear h31 h36 h37
 refine LoopK.intro (tr:=[]) mixed (by kernel_rfl) (fun i:Nat=>[(0,.sl 13 (l.map encL) .sh),(3,.ptr 0 0),(6,.sl 13 (out.map encL) .sh),(34,.sl 13 (out.map encL) .sh),(35,.int .i64 n),(36,.int .i64 i)]) (fun _=>[cellsTh t h])
   (fun i=>i ≤ n ∧ ∀ (j:Nat) (x:Lnk),j < i → out[j]? = some x → 0 < cntI j us → ∀ k,h ≤ k → k < 8 → x.Fr k ≤ x.Cap) (fun i=>n - i) 0 ?_ ?_ ?_
 · exact ⟨by omega,fun j x hj=>by omega⟩
 · simp
 rintro i ⟨h1,h2⟩
 by_cases hi:i < n
 case neg =>
   have:i = n:=by omega
   subst this
   have hR:=hyes fun j x hx=>h2 j x (by rw [← hlen]; exact (List.getElem?_eq_some_iff.1 hx).1) hx
   subst hR
   simp
 obtain ⟨x,hx⟩:∃ x,out[i]? = some x:=⟨_,List.getElem?_eq_getElem (by omega)⟩
 have w1:IntKind.i64.wrap ((i:Int) + 1) = i + 1:=wrap_in (by omega)
 have hc:=h39 i
 have hnx:=hno i x hx
 have hnext:=fun (hg:0 < cntI i us → ∀ k,h ≤ k → k < 8 → x.Fr k ≤ x.Cap)=>(fun (j:Nat) (y:Lnk) (hj:j < i + 1) (hy:out[j]? = some y) (hcj:0 < cntI j us)=>(by
   by_cases e:j = i
   · subst e
     rw [hx] at hy
     injection hy with hy
     subst hy
     exact hg hcj
   · exact h2 j y (by omega) hy hcj:∀ k,h ≤ k → k < 8 → y.Fr k ≤ y.Cap))
 simp [hi,hlen,hx,gE hx]
 refine LoopK.intro (tr:=[]) mixed (by kernel_rfl) (fun k:Nat=>[(0,.sl 13 (l.map encL) .sh),(3,.ptr 0 0),(6,.sl 13 (out.map encL) .sh),(7,.int .i64 i),(8,.ptr 1 0),(9,.int .i64 k),(34,.sl 13 (out.map encL) .sh),(35,.int .i64 n),(36,.int .i64 i)]) (fun _=>[cellsTh t h,cellsL x])
   (fun k=>h ≤ k ∧ k ≤ 8 ∧ (0 < cntI i us → ∀ j,h ≤ j → j < k → x.Fr j ≤ x.Cap)) (fun k=>8 - k) h ?_ ?_ ?_
 · exact ⟨Nat.le_refl _,by omega,fun _ j j1 j2=>by omega⟩
 · simp
 rintro k ⟨k1,k2,k3⟩
 by_cases hk:k < 8
 case neg =>
   have:k = 8:=by omega
   subst this
   simp [w1]
   exact ⟨i + 1,⟨by omega,hnext k3⟩,by omega,by simp⟩
 have hg:=cellsL_fr x hk
 have hk':(k:Int) < 8:=by omega
 have hk7:k ≤ 7:=by omega
 have w2:IntKind.i64.wrap ((k:Int) + 1) = k + 1:=wrap_in (by omega)
 have b1:4 + k < 13:=by omega
 generalize cntI i us = ct at *
 simp [hk,hk',hk7,cargs]
 refine ⟨_,_,.inl (by simpa [cargs] using hc _),by simp [cargs],?_⟩
 by_cases g1:0 < ct
 · have g1':(0:Int) < ct:=by omega
   by_cases g2:x.Cap < x.Fr k
   · have hR:=hnx g1 k k1 hk g2
     subst hR
     simp [hk,hk',hk7,g1,g1',hg,gE hg,b1,g2]
   · simp [hk,hk',hk7,g1,g1',hg,gE hg,b1,g2,w2]
     refine ⟨k + 1,⟨by omega,by omega,fun j j1 j2=>?_⟩,by omega,by simp⟩
     by_cases e:j = k
     · subst e; omega
     · exact k3 g1 j j1 (by omega)
 · have g1':¬ (0:Int) < ct:=by omega
   simp [hk,hk',hk7,g1,g1',w2]
   exact ⟨k + 1,⟨by omega,by omega⟩,by omega,by simp⟩
end Go.Proofs.YtpmmnnaaoideeaaGreat
