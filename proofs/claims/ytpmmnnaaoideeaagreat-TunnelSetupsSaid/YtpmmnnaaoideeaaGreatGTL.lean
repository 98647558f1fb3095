/- What a tunnel takes; the links of a path; rows of links. -/
import Derived.Test.YtpmmnnaaoideeaaGreatGT1
import Derived.Test.YtpmmnnaaoideeaaGreatGTC41
import Derived.Test.YtpmmnnaaoideeaaGreatAmAF
set_option linter.unusedSimpArgs false
set_option linter.unusedVariables false
namespace Go.Proofs.YtpmmnnaaoideeaaGreat
open Go Go.Am Go.Wk
def ar8 (f:Nat → Int):List Int:=[f 0,f 1,f 2,f 3,f 4,f 5,f 6,f 7]
def arC (f:Nat → Int):List AVal:=(ar8 f).map encI
@[simp] theorem arC_len (f:Nat → Int):(arC f).length = 8:=rfl
theorem arC_get (f:Nat → Int) {i:Nat} (h:i < 8):(arC f)[i]? = some (.int .i64 (f i)):=by
 match i,h with
 | 0,_ | 1,_ | 2,_ | 3,_ | 4,_ | 5,_ | 6,_ | 7,_=>rfl
def updF (f:Nat → Int) (i:Nat) (v:Int):Nat → Int:=fun j=>if j = i then v else f j
theorem arC_set (f:Nat → Int) {i:Nat} (h:i < 8) (v:Int):(arC f).set i (.int .i64 v) = arC (updF f i v):=by
 match i,h with
 | 0,_ | 1,_ | 2,_ | 3,_ | 4,_ | 5,_ | 6,_ | 7,_=>rfl
theorem arC_ext {f g:Nat → Int} (h:∀ i,i < 8 → f i = g i):arC f = arC g:=by
 simp only [arC,ar8]
 rw [h 0 (by omega),h 1 (by omega),h 2 (by omega),h 3 (by omega),h 4 (by omega),h 5 (by omega),h 6 (by omega),h 7 (by omega)]
@[simp] theorem arC_tree (f:Nat → Int):(arC f).all AVal.tree = true:=rfl
@[simp] theorem arC_treeF (f:Nat → Int):(∀ c,c ∈ arC f → c.tree = true) = True:=eq_true (List.all_eq_true.1 (arC_tree f))
@[simp] theorem arC_scal (f:Nat → Int):(∀ c,c ∈ arC f → c.scalar = true) = True:=eq_true (List.all_eq_true.1 (show (arC f).all AVal.scalar = true from rfl))
@[simp] theorem arC_noid (f:Nat → Int):(arC f).all noid0 = true:=rfl
@[simp] theorem arC_dis (f:Nat → Int):(arC f).map AVal.dis = arC f:=rfl
@[simp] theorem arC_le (n:Nat) (f:Nat → Int):LeCells n (arC f) (arC f):=treeCells_le n (arC_tree f)
@[simp] theorem arC_les (f:Nat → Int):All2 LeC (arC f) (arC f):=All2_refl LeC_refl _
@[simp] theorem arC_ne (f:Nat → Int):arC f ≠ []:=by simp [arC,ar8]
@[simp] theorem arC_take (f:Nat → Int):List.take 8 (arC f) = arC f:=rfl
@[simp high] theorem arC_load (f:Nat → Int):aload (some (true,8)) (arC f) 0 = some (.agg (arC f)):=rfl
@[simp] theorem arC_setR (f:Nat → Int) (a1 a2 a3 a4 a5 a6 a7 a8:AVal):setR [a1,a2,a3,a4,a5,a6,a7,a8] 0 (arC f) = arC f:=rfl
def zF:Nat → Int:=fun _=>0
def takenF (h:Int) (b:Int):Nat → Int:=fun k=>if h ≤ k then b else 0
theorem arC_zero:arC zF = [.int .i64 0,.int .i64 0,.int .i64 0,.int .i64 0,.int .i64 0,.int .i64 0,.int .i64 0,.int .i64 0]:=rfl
set_option maxHeartbeats 4000000 in
set_option maxRecDepth 10000 in
theorem t35 (c:Con) (h0:0 ≤ c.Hold) (h1:inI c.Hold):CFun Tryz.prog 74 [encC c] [] (.agg (arC (takenF c.Hold c.Band))) []:=by
 refine CFun.intro (tr:=[]) (fz:=[]) (n:=16) (rs:=[.cell 2 99]) Tryz.func74 rfl (by kernel_rfl) rfl rfl mixed (by kernel_rfl) (by simp) (by simp) ?_
 obtain ⟨h,hh⟩:∃ h:Nat,c.Hold = h:=⟨c.Hold.toNat,by omega⟩
 unfold inI at h1
 rw [hh] at h1 ⊢
 simp [hh]
 refine LoopK.intro (tr:=[]) mixed (by kernel_rfl) (fun k:Nat=>[(1,.ptr 0 0),(2,.ptr 1 0),(3,.ptr 2 0),(4,.int .i64 k)])
   (fun k=>[[.int .i64 c.Band,.int .i64 c.Setup,.int .i64 h,.int .u32 c.Incl,.int .u32 c.Excl,.int .i64 c.Hops,.sl 1 (c.Avoid.map encI) .sh,.sl 1 (c.Thru.map encI) .sh],arC zF,arC (fun j=>if h ≤ j ∧ j < k then c.Band else 0)]) (fun k=>h ≤ k ∧ (k ≤ 8 ∨ k = h)) (fun k=>8 - k) h ?_ ?_ ?_
 · simp
 · have:arC (fun j=>if h ≤ j ∧ j < h then c.Band else 0) = arC zF:=arC_ext fun i _=>by rw [if_neg (by omega)]; rfl
   rw [this,arC_zero]
   simp
 · rintro k ⟨k1,k2⟩
   by_cases hk:k < 8
   · have hk':(k:Int) < 8:=by omega
     have w1:IntKind.i64.wrap ((k:Int) + 1) = k + 1:=wrap_in (by omega)
     have hs:=arC_set (fun j=>if h ≤ j ∧ j < k then c.Band else 0) hk c.Band
     have he:arC (updF (fun j=>if h ≤ j ∧ j < k then c.Band else 0) k c.Band) = arC (fun j=>if h ≤ j ∧ j < k + 1 then c.Band else 0):=arC_ext fun i _=>by
       unfold updF
       by_cases e:i = k
       · subst e; rw [if_pos rfl,if_pos (by omega)]
       · rw [if_neg e]
         by_cases e2:h ≤ i ∧ i < k
         · simp only [if_pos e2,if_pos (show h ≤ i ∧ i < k + 1 by omega)]
         · simp only [if_neg e2,if_neg (show ¬ (h ≤ i ∧ i < k + 1) by omega)]
     rw [he] at hs
     have hk7:k ≤ 7:=by omega
     simp [hk,hk',hk7,w1,hs]
     exact ⟨k + 1,⟨by omega,by omega⟩,by omega,by simp⟩
   · have hk':¬ (k:Int) < 8:=by omega
     have he:arC (fun j=>if h ≤ j ∧ j < k then c.Band else 0) = arC (takenF h c.Band):=arC_ext fun i hi=>by
       unfold takenF
       by_cases e:h ≤ i
       · rw [if_pos (by omega),if_pos (by omega)]
       · rw [if_neg (by omega),if_neg (by omega)]
     rw [he,arC_zero]
     simp [hk,hk']
def pathE (l:List Lnk) (t:Tun):Int:=if t.W.Hold < 0 ∨ 7 < t.W.Hold ∨ t.W.Band < 0 ∨ 1099511627776 < t.W.Band then 5 else if hasB (usesL l t.P) (-1) = true then 20 else 0
set_option maxHeartbeats 4000000 in
set_option maxRecDepth 10000 in
theorem t33 (l:List Lnk) (k:Nat) (hk:l.length = k) (hk2:k < 9223372036854775807) (t:Tun) (m:Nat) (hm:t.P.length = m) (hm2:m < 1000000) :
   CFun Tryz.prog 73 [.sl 13 (l.map encL) .sh,encT t] [] (.tup [.sl 1 ((if pathE l t = 0 then usesL l t.P else []).map encI) .sh,.int .i64 (pathE l t)]) []:=by
 refine CFun.intro (tr:=[]) (fz:=[]) (n:=35) (rs:=[.tmp 4,.tmp 5]) Tryz.func73 rfl (by kernel_rfl) rfl rfl mixed (by kernel_rfl) (by simp) (by simp) ?_
 have h1:=fun H=>(t41 l k hk hk2 t.P m hm hm2).up' H rfl rfl
 have h2:=fun H=>(c24 (usesL l t.P) (m - 1) (by rw [usesL_len,hm]) (by omega) (-1)).up' H rfl rfl
 unfold pathE
 by_cases g1:t.W.Hold < 0
 · simp [g1]
 by_cases g2:7 < t.W.Hold
 · simp [g1,g2]
 by_cases g3:t.W.Band < 0
 · simp [g1,g2,g3]
 by_cases g4:1099511627776 < t.W.Band
 · simp [g1,g2,g3,g4]
 generalize usesL l t.P = us at *
 generalize hasB us (-1) = b at *
 simp [g1,g2,g3,g4]
 refine ⟨_,_,.inl (by simpa using h1 _),by simp,?_⟩
 simp
 refine ⟨_,_,.inl (by simpa using h2 _),by simp,?_⟩
 cases b <;> simp
def exceedsB (f a c:Int):Bool:=if f < 0 then decide (c < f + a) else decide (c < 0) || decide (c - a < f)
set_option maxHeartbeats 4000000 in
set_option maxRecDepth 10000 in
theorem t40 (f a c:Int) (hf:inI f) (ha:0 ≤ a ∧ a ≤ 1099511627776) (hc:inI c):CFun Tryz.prog 75 [.int .i64 f,.int .i64 a,.int .i64 c] [] (.bool (exceedsB f a c)) []:=by
 refine CFun.intro (tr:=[]) (fz:=[]) (n:=23) (rs:=[.tmp 6]) Tryz.func75 rfl (by kernel_rfl) rfl rfl mixed (by kernel_rfl) (by simp) (by simp) ?_
 unfold exceedsB
 unfold inI at hf hc
 by_cases g1:f < 0
 · have w1:IntKind.i64.wrap (f + a) = f + a:=wrap_in (by omega)
   simp [g1,w1]
 by_cases g2:c < 0
 · simp [g1,g2]
 have w1:IntKind.i64.wrap (c - a) = c - a:=wrap_in (by omega)
 simp [g1,g2,w1]
end Go.Proofs.YtpmmnnaaoideeaaGreat

/- Reservations: what is taken of the links. -/
namespace Go.Proofs.YtpmmnnaaoideeaaGreat
open Go Go.Am Go.Wk
set_option maxHeartbeats 4000000 in
set_option maxRecDepth 10000 in
theorem t34d (l:List Lnk) (s1:l.length * 104 ≤ 140737488355328):CFun Tryz.prog 30 [.sl 13 (l.map encL) .sh] [] (.sl 13 (l.map encL) .sh) []:=by
 refine CFun.intro (tr:=[]) (fz:=[]) (n:=8) (rs:=[.tmp 2]) Tryz.func30 rfl (by kernel_rfl) rfl rfl mixed (by kernel_rfl) (by simp) (by simp) ?_
 have s2:l.length ≤ 140737488355328:=by omega
 cases l with
 | nil=>simp
 | cons x xs =>
   simp only [List.length_cons] at s1 s2
   simp [s1,s2]
set_option maxHeartbeats 4000000 in
set_option maxRecDepth 10000 in
theorem t34r (l:List Lnk) (hne:l ≠ []) (s1:l.length * 104 ≤ 140737488355328):CFun Tryz.prog 30 [.sl 13 (l.map encL) .sh] [] (.osl 0 0 l.length none 13) [rowC cellsL l]:=by
 refine CFun.intro (tr:=[100007]) (fz:=[]) (n:=8) (rs:=[.tmp 2]) Tryz.func30 rfl (by kernel_rfl) rfl rfl mixed (by kernel_rfl) (by simp) (by simp) ?_
 have s2:l.length ≤ 140737488355328:=by omega
 have s3:0 < l.length:=List.length_pos_iff.2 hne
 have s4:(l.map encL).isEmpty = false:=by cases l <;> simp_all
 have s5:(l.map encL).flatMap AVal.cells = rowC cellsL l:=rowC_map (ce:=cellsL) l
 simp [hne,s1,s2,s3,s4]
 rw [s5,encL_enc.rowDis]
 exact encL_enc.rowLe 1 l
set_option maxHeartbeats 4000000 in
set_option maxRecDepth 10000 in
theorem t34n:CFun Tryz.prog 30 [.sl 13 [] .sh] [] (.sl 13 [] .full) []:=by
 refine CFun.intro (tr:=[100007]) (fz:=[]) (n:=8) (rs:=[.tmp 2]) Tryz.func30 rfl (by kernel_rfl) rfl rfl mixed (by kernel_rfl) (by simp) (by simp) ?_
 simp
def setF (x:Lnk) (k:Nat) (v:Int):Lnk:={ x with Fr:=updF x.Fr k v }
theorem cellsL_setF (x:Lnk) {k:Nat} (h:k < 8) (v:Int):(cellsL x).set (4 + k) (.int .i64 v) = cellsL (setF x k v):=by
 match k,h with
 | 0,_ | 1,_ | 2,_ | 3,_ | 4,_ | 5,_ | 6,_ | 7,_=>rfl
theorem rowL_get {l:List Lnk} {i:Nat} {x:Lnk} (h:l[i]? = some x) {k:Nat} (hk:k < 8):(rowC cellsL l)[i * 13 + 4 + k]? = some (.int .i64 (x.Fr k)):=by
 have h1:=(encL_enc.rowAt h []).1
 rw [List.append_nil] at h1
 have h2:(((rowC cellsL l).drop (i * 13)).take 13)[4 + k]? = some (.int .i64 (x.Fr k)):=by rw [h1]; exact cellsL_fr x hk
 rw [List.getElem?_take_of_lt (by omega),List.getElem?_drop] at h2
 rw [Nat.add_assoc]
 exact h2
theorem rowL_cap {l:List Lnk} {i:Nat} {x:Lnk} (h:l[i]? = some x):(rowC cellsL l)[i * 13 + 3]? = some (.int .i64 x.Cap):=by
 have h1:=(encL_enc.rowAt h []).1
 rw [List.append_nil] at h1
 have h2:(((rowC cellsL l).drop (i * 13)).take 13)[3]? = some (.int .i64 x.Cap):=by rw [h1]; rfl
 rw [List.getElem?_take_of_lt (by omega),List.getElem?_drop] at h2
 exact h2
theorem rowL_set {l:List Lnk} {i:Nat} {x:Lnk} (h:l[i]? = some x) {k:Nat} (hk:k < 8) (v:Int):(rowC cellsL l).set (i * 13 + 4 + k) (.int .i64 v) = rowC cellsL (l.set i (setF x k v)):=by
 induction l generalizing i with
 | nil=>simp at h
 | cons y l ih =>
   cases i with
   | zero =>
     simp at h
     subst h
     rw [rowC_cons,Nat.zero_mul,Nat.zero_add,List.set_append_left _ _ (by simp; omega),cellsL_setF _ hk,List.set_cons_zero,rowC_cons]
   | succ i =>
     rw [rowC_cons,List.set_append_right _ _ (by simp; omega),cellsL_len,List.set_cons_succ,rowC_cons]
     rw [show (i + 1) * 13 + 4 + k - 13 = i * 13 + 4 + k by omega,ih (by simpa using h)]
theorem findI_range (l:List Lnk) (a b:Int):-1 ≤ findI l a b ∧ findI l a b < l.length:=by
 have:∀ (l:List Lnk) (i:Nat),-1 ≤ idxL (isL a b) l i ∧ idxL (isL a b) l i < (i + l.length:Nat):=by
   intro l
   induction l with
   | nil=>intro i; simp [idxL]; omega
   | cons x l ih =>
     intro i
     simp only [idxL]
     split
     · simp; omega
     · have:=ih (i + 1)
       simp only [List.length_cons]
       omega
 simpa [findI] using this l 0
theorem usesL_range (l:List Lnk):∀ p,∀ u ∈ usesL l p,-1 ≤ u ∧ u < l.length
 | [],u,h=>by simp [usesL] at h
 | [_],u,h=>by simp [usesL] at h
 | a :: b :: p,u,h=>by
   simp only [usesL,List.mem_cons] at h
   rcases h with rfl | h
   · exact findI_range l a b
   · exact usesL_range l (b :: p) u h
theorem pathE_ok {l:List Lnk} {t:Tun} (h:pathE l t = 0):(0 ≤ t.W.Hold ∧ t.W.Hold ≤ 7) ∧ (0 ≤ t.W.Band ∧ t.W.Band ≤ 1099511627776) ∧ ∀ u ∈ usesL l t.P,0 ≤ u ∧ u < l.length:=by
 unfold pathE at h
 by_cases g:t.W.Hold < 0 ∨ 7 < t.W.Hold ∨ t.W.Band < 0 ∨ 1099511627776 < t.W.Band
 · rw [if_pos g] at h; cases h
 rw [if_neg g] at h
 refine ⟨by omega,by omega,fun u hu=>?_⟩
 have h1:=usesL_range l t.P u hu
 have h2:¬ hasB (usesL l t.P) (-1) = true:=by
   intro e; rw [if_pos e] at h; cases h
 rw [hasB_iff] at h2
 have:u ≠ -1:=fun e=>h2 (e ▸ hu)
 omega
def roomB (l:List Lnk) (b:Int) (us:List Int):Bool:=us.all fun i=>decide (b ≤ (l.getD i.toNat lnk0).Fr 7)
def takeK (b:Int):Nat → Lnk → Option Lnk
 | 0,x=>some x
 | f + 1,x=>if x.Fr (8 - (f + 1)) < b then none else takeK b f (setF x (8 - (f + 1)) (x.Fr (8 - (f + 1)) - b))
def takeA (b:Int) (h:Nat):List Int → List Lnk → Option (List Lnk)
 | [],l=>some l
 | i :: us,l=>match takeK b (8 - h) (l.getD i.toNat lnk0) with
   | none=>none
   | some x=>takeA b h us (l.set i.toNat x)
def resN (l:List Lnk) (t:Tun):List Lnk × Int :=
 if pathE l t ≠ 0 then ([],pathE l t) else if roomB l t.W.Band (usesL l t.P) = false then ([],19)
 else match takeA t.W.Band t.W.Hold.toNat (usesL l t.P) l with
   | none=>([],19)
   | some o=>(o,0)
end Go.Proofs.YtpmmnnaaoideeaaGreat

/- tunnel.Reserve, by the program. -/
namespace Go.Proofs.YtpmmnnaaoideeaaGreat
open Go Go.Am Go.Wk
def okF (x:Lnk):Prop:=(∀ k,k < 8 → inI (x.Fr k)) ∧ inI x.Cap
theorem okF_set {x:Lnk} (h:okF x) {k:Nat} {v:Int} (hv:inI v):okF (setF x k v):=by
 refine ⟨fun j hj=>?_,h.2⟩
 show inI (updF x.Fr k v j)
 unfold updF
 split
 · exact hv
 · exact h.1 j hj
@[simp] def cellsTh (t:Tun) (h:Nat):List AVal:=[.int .i64 t.ID,.int .i64 t.From,.int .i64 t.To,.int .i64 t.W.Band,.int .i64 t.W.Setup,.int .i64 h,.int .u32 t.W.Incl,.int .u32 t.W.Excl,.int .i64 t.W.Hops,.sl 1 (t.W.Avoid.map encI) .sh,.sl 1 (t.W.Thru.map encI) .sh,.sl 1 (t.P.map encI) .sh]
theorem roomB_no {l:List Lnk} {b:Int} {us:List Int} {j:Nat} {i:Nat} {x:Lnk} (hu:us[j]? = some (i:Int)) (hx:l[i]? = some x) (h:x.Fr 7 < b):roomB l b us = false:=by
 unfold roomB
 rw [List.all_eq_false]
 refine ⟨_,List.mem_of_getElem? hu,?_⟩
 have:l.getD i lnk0 = x:=by rw [List.getD_eq_getElem?_getD,hx]; rfl
 simp only [Int.toNat_natCast,this]
 simp
 omega
theorem roomB_yes {l:List Lnk} {b:Int} {us:List Int} (h:∀ (j i:Nat) (x:Lnk),us[j]? = some (i:Int) → l[i]? = some x → b ≤ x.Fr 7) (hr:∀ u ∈ us,0 ≤ u ∧ u < l.length):roomB l b us = true:=by
 unfold roomB
 rw [List.all_eq_true]
 intro u hu
 obtain ⟨j,hj,he⟩:=List.getElem_of_mem hu
 obtain ⟨h1,h2⟩:=hr u hu
 have hlt:u.toNat < l.length:=by omega
 have:=h j u.toNat l[u.toNat] (by rw [List.getElem?_eq_getElem hj,he]; congr 1; omega) (List.getElem?_eq_getElem hlt)
 rw [List.getD_eq_getElem?_getD,List.getElem?_eq_getElem hlt]
 simp only [Option.getD_some]
 exact decide_eq_true (by omega)
set_option maxHeartbeats 16000000 in
set_option maxRecDepth 10000 in
theorem t13 (l:List Lnk) (n:Nat) (hn:l.length = n) (hn2:n < 1000000) (hF:∀ x ∈ l,okF x) (t:Tun) (m:Nat) (hm:t.P.length = m) (hm2:m < 1000000) :
   CFun Tryz.prog 45 [.sl 13 (l.map encL) .sh,encT t] [] (.tup [.sl 13 ((resN l t).1.map encL) .sh,.int .i64 (resN l t).2]) []:=by
 refine CFun.intro (tr:=[]) (fz:=[(4,1,true)]) (n:=86) (rs:=[.tmp 4,.tmp 5]) Tryz.func45 rfl (by kernel_rfl) rfl rfl mixed (by kernel_rfl) (by simp) (by simp) ?_
 have h33:=fun H=>(t33 l n hn (by omega) t m hm hm2).up' H (by simp [noid,noid0]) (by simp [noid,noid0])
 unfold resN
 by_cases g1:pathE l t = 0
 case neg =>
   rw [if_pos g1]
   rw [if_neg g1] at h33
   have g1':¬ pathE l t = 0:=g1
   generalize pathE l t = e at *
   simp
   refine ⟨_,_,.inl (by simpa using h33 _),by simp,?_⟩
   simp [g1']
 rw [if_neg (by simpa using g1)]
 obtain ⟨⟨a1,a2⟩,⟨a3,a4⟩,hus⟩:=pathE_ok g1
 rw [if_pos g1,g1] at h33
 have hul:(usesL l t.P).length = m - 1:=by rw [usesL_len,hm]
 have h35:=fun H=>(t35 t.W a1 (by unfold inI; omega)).up' H (by simp [noid,noid0]) (by simp [noid,noid0])
 obtain ⟨h,hh⟩:∃ h:Nat,t.W.Hold = h:=⟨t.W.Hold.toNat,by omega⟩
 have hh7:h ≤ 7:=by omega
 generalize usesL l t.P = us at *
 obtain ⟨u,hu⟩:∃ u,us.length = u:=⟨_,rfl⟩
 rw [hu] at hul
 simp only [encC,cellsC,hh] at h35 ⊢
 simp only [encT,cellsT,hh] at h33
 simp only [Int.toNat_natCast]
 by_cases hne:l = []
 · have:us = []:=by
     cases us with
     | nil=>rfl
     | cons x us =>
       have:=hus x (by simp)
       rw [hne] at this
       simp at this
       omega
   subst this
   subst hne
   have h34:=fun H=>t34n.up' H rfl rfl
   simp [hh]
   refine ⟨_,_,.inl (by simpa using h33 _),by simp,?_⟩
   simp
   refine ⟨_,_,.inl (by simpa using h34 _),by simp,?_⟩
   simp [hh]
   refine ⟨_,_,.inl (by simpa [hh] using h35 _),by simp,?_⟩
   simp [takeA,roomB]
   refine LoopK.intro (tr:=[]) mixed (by kernel_rfl) (fun _:Nat=>[(6,.sl 1 [] .sh),(8,.sl 13 [] .sh),(30,.int .i64 0),(31,.int .i64 0)]) (fun _=>[]) (fun _=>True) (fun i=>i) 0 trivial (by simp) ?_
   intro _ _
   simp
   refine LoopK.intro (tr:=[]) mixed (by kernel_rfl) (fun _:Nat=>[(8,.sl 13 [] .sh),(47,.int .i64 0),(48,.int .i64 0)]) (fun _=>[]) (fun _=>True) (fun i=>i) 0 trivial (by simp) ?_
   intro _ _
   simp
 have h34:∀ H,CFun Tryz.prog 30 [.sl 13 (l.map encL) .sh] H (.osl H.length 0 l.length none 13) (H ++ [rowC cellsL l]):=fun H=>(t34r l hne (by omega)).upNew H (encL_enc.rowNoid l) rfl rfl
 have hle:=fun k (l:List Lnk)=>encL_enc.rowLe k l
 have hrl:=encL_enc.rowLen
 simp [hh]
 refine ⟨_,_,.inl (by simpa using h33 _),by simp,?_⟩
 simp
 refine ⟨_,_,.inl (by simpa using h34 _),by simp,?_⟩
 simp [hh]
 refine ⟨_,_,.inl (by simpa [hh] using h35 _),by simp,?_⟩
 simp [hu]
 refine LoopK.intro (tr:=[]) mixed (by kernel_rfl) (fun j:Nat=>[(0,.sl 13 (l.map encL) .sh),(3,.ptr 0 0),(6,.sl 1 (us.map encI) .sh),(8,.osl 1 0 n none 13),(9,.ptr 2 0),(29,.sl 1 (us.map encI) .sh),(30,.int .i64 u),(31,.int .i64 j)]) (fun _=>[cellsTh t h,rowC cellsL l,arC (takenF h t.W.Band)])
   (fun j=>j ≤ u ∧ ∀ (j' i:Nat) (x:Lnk),j' < j → us[j']? = some (i:Int) → l[i]? = some x → t.W.Band ≤ x.Fr 7) (fun j=>u - j) 0 ?_ ?_ ?_
 · simp
 · simp [hn,hle]
 · rintro j ⟨j1,j2⟩
   by_cases hj:j < u
   · obtain ⟨y,hy⟩:∃ y,us[j]? = some y:=⟨_,List.getElem?_eq_getElem (by omega)⟩
     obtain ⟨y0,y1⟩:=hus y (List.mem_of_getElem? hy)
     obtain ⟨i,rfl⟩:∃ i:Nat,y = i:=⟨y.toNat,by omega⟩
     obtain ⟨x,hx⟩:∃ x,l[i]? = some x:=⟨_,List.getElem?_eq_getElem (by omega)⟩
     have hi:i < n:=by omega
     have w1:IntKind.i64.wrap ((j:Int) + 1) = j + 1:=wrap_in (by omega)
     have h7:=cellsL_fr x (i:=7) (by omega)
     by_cases g:x.Fr 7 < t.W.Band
     · have hr:=roomB_no hy hx g
       simp [hj,hu,hy,gE hy,hi,hn,hx,gE hx,h7,g,hr]
     · simp [hj,hu,hy,gE hy,hi,hn,hx,gE hx,h7,g,w1]
       refine ⟨j + 1,⟨by omega,fun j' i' x' h1 h2 h3=>?_⟩,by omega,by simp [hle]⟩
       by_cases e:j' = j
       · subst e
         rw [hy] at h2
         injection h2 with h2
         have:i = i':=by omega
         subst this
         rw [hx] at h3
         injection h3 with h3
         subst h3
         omega
       · exact j2 j' i' x' (by omega) h2 h3
   · have:j = u:=by omega
     subst this
     have hr:roomB l t.W.Band us = true:=roomB_yes (fun j' i x h1 h2=>j2 j' i x (by rw [← hu]; exact (List.getElem?_eq_some_iff.1 h1).1) h1 h2) hus
     simp [hu,hr]
     refine LoopK.intro (tr:=[]) mixed (by kernel_rfl) (fun s:Nat × List Lnk=>[(3,.ptr 0 0),(8,.osl 1 0 n none 13),(9,.ptr 2 0),(46,.sl 1 (us.map encI) .sh),(47,.int .i64 j),(48,.int .i64 s.1)]) (fun s=>[cellsTh t h,rowC cellsL s.2,arC (takenF h t.W.Band)])
       (fun s=>s.1 ≤ j ∧ s.2.length = n ∧ (∀ x ∈ s.2,okF x) ∧ takeA t.W.Band h us l = takeA t.W.Band h (us.drop s.1) s.2) (fun s=>j - s.1) (0,l) ?_ ?_ ?_
     · exact ⟨Nat.zero_le _,hn,hF,rfl⟩
     · simp [hle]
     clear hF j2 j1 hr h33 h34 h35
     rintro ⟨q,cur⟩ ⟨q1,q2,q3,q4⟩
     simp only at q1 q2 q3 q4
     by_cases hq:q < j
     case neg =>
       have:q = j:=by omega
       subst this
       rw [List.drop_eq_nil_of_le (by omega)] at q4
       rw [q4]
       have k4:=encL_enc.chunk cur n q2
       have k3:∀ x ∈ rowC cellsL cur,x.tree = true:=by simpa using encL_enc.rowTree cur
       have hn0:0 < n:=by rw [← hn]; exact List.length_pos_iff.2 hne
       have hrc:=hrl cur
       rw [q2] at hrc
       have k2:(rowC cellsL cur).take (n * 13) = rowC cellsL cur:=List.take_of_length_le (by omega)
       simp [takeA,hrc,k2,k4,hn0]
       rw [if_pos k3]
       simp
     obtain ⟨y,hy⟩:∃ y,us[q]? = some y:=⟨_,List.getElem?_eq_getElem (by omega)⟩
     obtain ⟨y0,y1⟩:=hus y (List.mem_of_getElem? hy)
     obtain ⟨i,rfl⟩:∃ i:Nat,y = i:=⟨y.toNat,by omega⟩
     have hi:i < n:=by omega
     obtain ⟨x,hx⟩:∃ x,cur[i]? = some x:=⟨_,List.getElem?_eq_getElem (by omega)⟩
     have hd:us.drop q = (i:Int) :: us.drop (q + 1):=by
       obtain ⟨k1,k2⟩:=List.getElem?_eq_some_iff.1 hy
       rw [List.drop_eq_getElem_cons k1,k2]
     have hxd:cur.getD i lnk0 = x:=by rw [List.getD_eq_getElem?_getD,hx]; rfl
     rw [hd] at q4
     simp only [takeA,Int.toNat_natCast,hxd] at q4
     have w1:IntKind.i64.wrap ((q:Int) + 1) = q + 1:=wrap_in (by omega)
     simp [hq,hu,hy,gE hy]
     refine LoopK.intro (tr:=[]) mixed (by kernel_rfl) (fun s:Nat × Lnk=>[(3,.ptr 0 0),(8,.osl 1 0 n none 13),(9,.ptr 2 0),(13,.int .i64 i),(14,.int .i64 s.1),(46,.sl 1 (us.map encI) .sh),(47,.int .i64 j),(48,.int .i64 q)]) (fun s=>[cellsTh t h,rowC cellsL (cur.set i s.2),arC (takenF h t.W.Band)])
       (fun s=>h ≤ s.1 ∧ s.1 ≤ 8 ∧ okF s.2 ∧ takeK t.W.Band (8 - h) x = takeK t.W.Band (8 - s.1) s.2) (fun s=>8 - s.1) (h,x) ?_ ?_ ?_
     · exact ⟨Nat.le_refl _,by omega,q3 x (List.mem_of_getElem? hx),rfl⟩
     · have hsame:cur.set i x = cur:=by
         apply List.ext_getElem?
         intro j'
         rw [List.getElem?_set]
         split
         · rename_i e; subst e; rw [if_pos (by omega),hx]
         · rfl
       simp [hsame,hle]
     rintro ⟨k,z⟩ ⟨k1,k2,k3,k4⟩
     simp only at k1 k2 k3 k4
     have hsl:(cur.set i z).length = n:=by rw [List.length_set]; exact q2
     by_cases hk:k < 8
     case neg =>
       have:k = 8:=by omega
       subst this
       simp only [Nat.sub_self,takeK] at k4
       rw [k4] at q4
       simp only at q4
       simp [w1]
       refine ⟨q + 1,cur.set i z,⟨by omega,hsl,fun v hv=>?_,q4⟩,by omega,by simp [hle]⟩
       rcases List.mem_or_eq_of_mem_set hv with hv | rfl
       · exact q3 v hv
       · exact k3
     have hk':(k:Int) < 8:=by omega
     have hk7:k ≤ 7:=by omega
     have hz:(cur.set i z)[i]? = some z:=by rw [List.getElem?_set_self (by omega)]
     have hg:=rowL_get hz hk
     have hset:=rowL_set hz hk (z.Fr k - t.W.Band)
     rw [List.set_set] at hset
     have hrc:=hrl (cur.set i z)
     rw [hsl] at hrc
     have ha:=arC_get (takenF h t.W.Band) hk
     have ht:takenF h t.W.Band k = t.W.Band:=by unfold takenF; rw [if_pos (by omega)]
     rw [ht] at ha
     obtain ⟨f,hf⟩:∃ f,8 - k = f + 1:=⟨7 - k,by omega⟩
     have hkk:8 - (f + 1) = k:=by omega
     rw [hf] at k4
     simp only [takeK,hkk] at k4
     have hin:=k3.1 k hk
     unfold inI at hin
     have w2:IntKind.i64.wrap ((k:Int) + 1) = k + 1:=wrap_in (by omega)
     have b1:i * 13 + 4 + k < n * 13:=by omega
     have b2:i * 13 + 4 + k + 1 ≤ n * 13:=by omega
     by_cases g:z.Fr k < t.W.Band
     · rw [if_pos g] at k4
       rw [k4] at q4
       simp only at q4
       rw [q4]
       simp [hk,hk',hk7,hi,hg,gE hg,ha,gE ha,g,hrc,b1]
     · rw [if_neg g] at k4
       have w3:IntKind.i64.wrap (z.Fr k - t.W.Band) = z.Fr k - t.W.Band:=wrap_in (by omega)
       simp [hk,hk',hk7,hi,hg,gE hg,ha,gE ha,g,hrc,b1,b2,w3]
       simp [hset,w2]
       refine ⟨k + 1,setF z k (z.Fr k - t.W.Band),⟨by omega,by omega,okF_set k3 (by unfold inI; omega),by rw [k4,show 8 - (k + 1) = f by omega]⟩,by omega,by simp [hle]⟩
end Go.Proofs.YtpmmnnaaoideeaaGreat

/- tunnel.Release, by the program. -/
namespace Go.Proofs.YtpmmnnaaoideeaaGreat
open Go Go.Am Go.Wk
def addK (b:Int):Nat → Lnk → Option Lnk
 | 0,x=>some x
 | f + 1,x=>if exceedsB (x.Fr (8 - (f + 1))) b x.Cap = true then none else addK b f (setF x (8 - (f + 1)) (x.Fr (8 - (f + 1)) + b))
def addA (b:Int) (h:Nat):List Int → List Lnk → Option (List Lnk)
 | [],l=>some l
 | i :: us,l=>match addK b (8 - h) (l.getD i.toNat lnk0) with
   | none=>none
   | some x=>addA b h us (l.set i.toNat x)
def relN (l:List Lnk) (t:Tun):List Lnk × Int :=
 if pathE l t ≠ 0 then ([],pathE l t)
 else match addA t.W.Band t.W.Hold.toNat (usesL l t.P) l with
   | none=>([],1)
   | some o=>(o,0)
set_option maxHeartbeats 16000000 in
set_option maxRecDepth 10000 in
theorem t15 (l:List Lnk) (n:Nat) (hn:l.length = n) (hn2:n < 1000000) (hF:∀ x ∈ l,okF x) (t:Tun) (m:Nat) (hm:t.P.length = m) (hm2:m < 1000000) :
   CFun Tryz.prog 44 [.sl 13 (l.map encL) .sh,encT t] [] (.tup [.sl 13 ((relN l t).1.map encL) .sh,.int .i64 (relN l t).2]) []:=by
 refine CFun.intro (tr:=[]) (fz:=[(4,1,true)]) (n:=72) (rs:=[.tmp 4,.tmp 5]) Tryz.func44 rfl (by kernel_rfl) rfl rfl mixed (by kernel_rfl) (by simp) (by simp) ?_
 have h33:=fun H=>(t33 l n hn (by omega) t m hm hm2).up' H (by simp [noid,noid0]) (by simp [noid,noid0])
 unfold relN
 by_cases g1:pathE l t = 0
 case neg =>
   rw [if_pos g1]
   rw [if_neg g1] at h33
   have g1':¬ pathE l t = 0:=g1
   generalize pathE l t = e at *
   simp
   refine ⟨_,_,.inl (by simpa using h33 _),by simp,?_⟩
   simp [g1']
 rw [if_neg (by simpa using g1)]
 obtain ⟨⟨a1,a2⟩,⟨a3,a4⟩,hus⟩:=pathE_ok g1
 rw [if_pos g1,g1] at h33
 have hul:(usesL l t.P).length = m - 1:=by rw [usesL_len,hm]
 have h35:=fun H=>(t35 t.W a1 (by unfold inI; omega)).up' H (by simp [noid,noid0]) (by simp [noid,noid0])
 obtain ⟨h,hh⟩:∃ h:Nat,t.W.Hold = h:=⟨t.W.Hold.toNat,by omega⟩
 have hh7:h ≤ 7:=by omega
 generalize usesL l t.P = us at *
 obtain ⟨u,hu⟩:∃ u,us.length = u:=⟨_,rfl⟩
 rw [hu] at hul
 simp only [encC,cellsC,hh] at h35 ⊢
 simp only [encT,cellsT,hh] at h33
 simp only [Int.toNat_natCast]
 by_cases hne:l = []
 · have:us = []:=by
     cases us with
     | nil=>rfl
     | cons x us =>
       have:=hus x (by simp)
       rw [hne] at this
       simp at this
       omega
   subst this
   subst hne
   have h34:=fun H=>t34n.up' H rfl rfl
   simp [hh]
   refine ⟨_,_,.inl (by simpa using h33 _),by simp,?_⟩
   simp
   refine ⟨_,_,.inl (by simpa using h34 _),by simp,?_⟩
   simp [hh]
   refine ⟨_,_,.inl (by simpa [hh] using h35 _),by simp,?_⟩
   simp [addA]
   refine LoopK.intro (tr:=[]) mixed (by kernel_rfl) (fun _:Nat=>[(8,.sl 13 [] .sh),(28,.int .i64 0),(29,.int .i64 0)]) (fun _=>[]) (fun _=>True) (fun i=>i) 0 trivial (by simp) ?_
   intro _ _
   simp
 have h34:∀ H,CFun Tryz.prog 30 [.sl 13 (l.map encL) .sh] H (.osl H.length 0 l.length none 13) (H ++ [rowC cellsL l]):=fun H=>(t34r l hne (by omega)).upNew H (encL_enc.rowNoid l) rfl rfl
 have hle:=fun k (l:List Lnk)=>encL_enc.rowLe k l
 have hrl:=encL_enc.rowLen
 simp [hh]
 refine ⟨_,_,.inl (by simpa using h33 _),by simp,?_⟩
 simp
 refine ⟨_,_,.inl (by simpa using h34 _),by simp,?_⟩
 simp [hh]
 refine ⟨_,_,.inl (by simpa [hh] using h35 _),by simp,?_⟩
 simp [hu]
 refine LoopK.intro (tr:=[]) mixed (by kernel_rfl) (fun s:Nat × List Lnk=>[(3,.ptr 0 0),(8,.osl 1 0 n none 13),(9,.ptr 2 0),(27,.sl 1 (us.map encI) .sh),(28,.int .i64 u),(29,.int .i64 s.1)]) (fun s=>[cellsTh t h,rowC cellsL s.2,arC (takenF h t.W.Band)])
   (fun s=>s.1 ≤ u ∧ s.2.length = n ∧ (∀ x ∈ s.2,okF x) ∧ addA t.W.Band h us l = addA t.W.Band h (us.drop s.1) s.2) (fun s=>u - s.1) (0,l) ?_ ?_ ?_
 · exact ⟨Nat.zero_le _,hn,hF,rfl⟩
 · simp [hle,hn]
 clear hF h33 h34 h35
 rintro ⟨q,cur⟩ ⟨q1,q2,q3,q4⟩
 simp only at q1 q2 q3 q4
 by_cases hq:q < u
 case neg =>
   have:q = u:=by omega
   subst this
   rw [List.drop_eq_nil_of_le (by omega)] at q4
   rw [q4]
   have k4:=encL_enc.chunk cur n q2
   have k3:∀ x ∈ rowC cellsL cur,x.tree = true:=by simpa using encL_enc.rowTree cur
   have hn0:0 < n:=by rw [← hn]; exact List.length_pos_iff.2 hne
   have hrc:=hrl cur
   rw [q2] at hrc
   have k2:(rowC cellsL cur).take (n * 13) = rowC cellsL cur:=List.take_of_length_le (by omega)
   simp [addA,hrc,k2,k4,hn0]
   rw [if_pos k3]
   simp
 obtain ⟨y,hy⟩:∃ y,us[q]? = some y:=⟨_,List.getElem?_eq_getElem (by omega)⟩
 obtain ⟨y0,y1⟩:=hus y (List.mem_of_getElem? hy)
 obtain ⟨i,rfl⟩:∃ i:Nat,y = i:=⟨y.toNat,by omega⟩
 have hi:i < n:=by omega
 obtain ⟨x,hx⟩:∃ x,cur[i]? = some x:=⟨_,List.getElem?_eq_getElem (by omega)⟩
 have hd:us.drop q = (i:Int) :: us.drop (q + 1):=by
   obtain ⟨k1,k2⟩:=List.getElem?_eq_some_iff.1 hy
   rw [List.drop_eq_getElem_cons k1,k2]
 have hxd:cur.getD i lnk0 = x:=by rw [List.getD_eq_getElem?_getD,hx]; rfl
 rw [hd] at q4
 simp only [addA,Int.toNat_natCast,hxd] at q4
 have w1:IntKind.i64.wrap ((q:Int) + 1) = q + 1:=wrap_in (by omega)
 simp [hq,hu,hy,gE hy]
 refine LoopK.intro (tr:=[]) mixed (by kernel_rfl) (fun s:Nat × Lnk=>[(3,.ptr 0 0),(8,.osl 1 0 n none 13),(9,.ptr 2 0),(11,.int .i64 i),(12,.int .i64 s.1),(27,.sl 1 (us.map encI) .sh),(28,.int .i64 u),(29,.int .i64 q)]) (fun s=>[cellsTh t h,rowC cellsL (cur.set i s.2),arC (takenF h t.W.Band)])
   (fun s=>h ≤ s.1 ∧ s.1 ≤ 8 ∧ okF s.2 ∧ addK t.W.Band (8 - h) x = addK t.W.Band (8 - s.1) s.2) (fun s=>8 - s.1) (h,x) ?_ ?_ ?_
 · exact ⟨Nat.le_refl _,by omega,q3 x (List.mem_of_getElem? hx),rfl⟩
 · have hsame:cur.set i x = cur:=by
     apply List.ext_getElem?
     intro j'
     rw [List.getElem?_set]
     split
     · rename_i e; subst e; rw [if_pos (by omega),hx]
     · rfl
   simp [hsame,hle]
 rintro ⟨k,z⟩ ⟨k1,k2,k3,k4⟩
 simp only at k1 k2 k3 k4
 have hsl:(cur.set i z).length = n:=by rw [List.length_set]; exact q2
 by_cases hk:k < 8
 case neg =>
   have:k = 8:=by omega
   subst this
   simp only [Nat.sub_self,addK] at k4
   rw [k4] at q4
   simp only at q4
   simp [w1]
   refine ⟨q + 1,cur.set i z,⟨by omega,hsl,fun v hv=>?_,q4⟩,by omega,by simp [hle]⟩
   rcases List.mem_or_eq_of_mem_set hv with hv | rfl
   · exact q3 v hv
   · exact k3
 have hk':(k:Int) < 8:=by omega
 have hk7:k ≤ 7:=by omega
 have hz:(cur.set i z)[i]? = some z:=by rw [List.getElem?_set_self (by omega)]
 have hg:=rowL_get hz hk
 have hset:=rowL_set hz hk (z.Fr k + t.W.Band)
 rw [List.set_set] at hset
 have hrc:=hrl (cur.set i z)
 rw [hsl] at hrc
 have ha:=arC_get (takenF h t.W.Band) hk
 have ht:takenF h t.W.Band k = t.W.Band:=by unfold takenF; rw [if_pos (by omega)]
 rw [ht] at ha
 obtain ⟨f,hf⟩:∃ f,8 - k = f + 1:=⟨7 - k,by omega⟩
 have hkk:8 - (f + 1) = k:=by omega
 rw [hf] at k4
 simp only [addK,hkk] at k4
 have hin:=k3.1 k hk
 have hcp:=rowL_cap hz
 have h40:=fun H=>(t40 (z.Fr k) t.W.Band z.Cap hin ⟨a3,a4⟩ k3.2).up' H rfl rfl
 have hci:=k3.2
 have hex:exceedsB (z.Fr k) t.W.Band z.Cap = false → inI (z.Fr k + t.W.Band):=by
   unfold exceedsB inI at *
   intro e
   split at e
   · simp at e; omega
   · simp at e; omega
 unfold inI at hin
 have w2:IntKind.i64.wrap ((k:Int) + 1) = k + 1:=wrap_in (by omega)
 have b1:i * 13 + 4 + k < n * 13:=by omega
 have b2:i * 13 + 4 + k + 1 ≤ n * 13:=by omega
 have b3:i * 13 + 3 < n * 13:=by omega
 simp [hk,hk',hk7,hi,hg,gE hg,ha,gE ha,hcp,gE hcp,hrc,b1,b3]
 refine ⟨_,_,.inl (by simpa [cargs] using h40 _),by simp [cargs],?_⟩
 generalize exceedsB (z.Fr k) t.W.Band z.Cap = g at *
 cases g with
 | true =>
   rw [if_pos rfl] at k4
   rw [k4] at q4
   simp only at q4
   rw [q4]
   simp
 | false =>
   rw [if_neg (by simp)] at k4
   have hin2:=hex rfl
   have hin3:=hin2
   unfold inI at hin2
   have w3:IntKind.i64.wrap (z.Fr k + t.W.Band) = z.Fr k + t.W.Band:=wrap_in hin2
   simp [hk,hk',hk7,hi,hg,gE hg,ha,gE ha,hrc,b1,b2,w3]
   simp [hset,w2]
   refine ⟨k + 1,setF z k (z.Fr k + t.W.Band),⟨by omega,by omega,okF_set k3 hin3,by rw [k4,show 8 - (k + 1) = f by omega]⟩,by omega,by simp [hle]⟩
end Go.Proofs.YtpmmnnaaoideeaaGreat

/- What is taken and what is given back. No program. -/
namespace Go.Proofs.YtpmmnnaaoideeaaGreat
open Go Go.Am Go.Wk
theorem exceedsB_eq {f a c:Int} (ha:0 ≤ a):exceedsB f a c = decide (c < f + a):=by
 unfold exceedsB
 by_cases g:f < 0
 · rw [if_pos g]
 · rw [if_neg g,Bool.eq_iff_iff]
   simp only [Bool.or_eq_true,decide_eq_true_eq]
   omega
def chR (h:Nat) (v:Int) (x:Lnk):Lnk:={ x with Fr:=fun k=>if h ≤ k ∧ k < 8 then x.Fr k + v else x.Fr k }
theorem chR_add (h:Nat) (v w:Int) (x:Lnk):chR h v (chR h w x) = chR h (w + v) x:=by
 unfold chR
 congr 1
 funext k
 by_cases e:h ≤ k ∧ k < 8
 · simp only [if_pos e]; omega
 · simp only [if_neg e]
theorem chR_zero (h:Nat) (x:Lnk):chR h 0 x = x:=by
 have:(fun k=>if h ≤ k ∧ k < 8 then x.Fr k + 0 else x.Fr k) = x.Fr:=by
   funext k; split <;> simp
 unfold chR
 rw [this]
theorem chR_step {h:Nat} (h8:h < 8) (v:Int) (x:Lnk):chR (h + 1) v (setF x h (x.Fr h + v)) = chR h v x:=by
 unfold chR setF
 congr 1
 funext k
 simp only [updF]
 by_cases e:k = h
 · subst e
   rw [if_neg (by omega),if_pos rfl,if_pos (by omega)]
 · by_cases e2:h ≤ k ∧ k < 8
   · rw [if_pos (by omega),if_neg e,if_pos e2]
   · rw [if_neg (by omega),if_neg e,if_neg e2]
theorem chR_eight (v:Int) (x:Lnk):chR 8 v x = x:=by
 have:(fun k=>if 8 ≤ k ∧ k < 8 then x.Fr k + v else x.Fr k) = x.Fr:=by
   funext k; rw [if_neg (by omega)]
 unfold chR
 rw [this]
def opK (bad:Int → Int → Bool) (v:Int):Nat → Lnk → Option Lnk
 | 0,x=>some x
 | f + 1,x=>if bad (x.Fr (8 - (f + 1))) x.Cap = true then none else opK bad v f (setF x (8 - (f + 1)) (x.Fr (8 - (f + 1)) + v))
theorem takeK_op (b:Int):∀ f x,takeK b f x = opK (fun f _=>decide (f < b)) (-b) f x
 | 0,_=>rfl
 | f + 1,x=>by
   simp only [takeK,opK,decide_eq_true_eq,takeK_op b f,Int.sub_eq_add_neg]
theorem addK_op (b:Int):∀ f x,addK b f x = opK (fun f c=>exceedsB f b c) b f x
 | 0,_=>rfl
 | f + 1,x=>by simp only [addK,opK,addK_op b f]
theorem opK_some {bad:Int → Int → Bool} {v:Int}:∀ (f:Nat) (x:Lnk),f ≤ 8 → (∀ k,8 - f ≤ k → k < 8 → bad (x.Fr k) x.Cap = false) → opK bad v f x = some (chR (8 - f) v x):=by
 intro f
 induction f with
 | zero=>intro x _ _; simp only [opK,Nat.sub_zero,chR_eight]
 | succ f ih =>
   intro x hf h
   have h1:=h (8 - (f + 1)) (Nat.le_refl _) (by omega)
   simp only [opK,h1,Bool.false_eq_true,if_false]
   rw [ih _ (by omega) (fun k k1 k2=>?_),show 8 - f = 8 - (f + 1) + 1 by omega,chR_step (by omega)]
   show bad (updF x.Fr _ _ k) x.Cap = false
   unfold updF
   rw [if_neg (by omega)]
   exact h k (by omega) k2
theorem opK_none {bad:Int → Int → Bool} {v:Int}:∀ (f:Nat) (x:Lnk),f ≤ 8 → (∃ k,8 - f ≤ k ∧ k < 8 ∧ bad (x.Fr k) x.Cap = true) → opK bad v f x = none:=by
 intro f
 induction f with
 | zero=>intro x _ h; obtain ⟨k,h1,h2,_⟩:=h; omega
 | succ f ih =>
   intro x hf h
   obtain ⟨k,h1,h2,h3⟩:=h
   simp only [opK]
   by_cases g:bad (x.Fr (8 - (f + 1))) x.Cap = true
   · rw [if_pos g]
   · rw [if_neg g]
     refine ih _ (by omega) ⟨k,?_,h2,?_⟩
     · by_cases e:k = 8 - (f + 1)
       · subst e; exact absurd h3 g
       · omega
     · show bad (updF x.Fr _ _ k) x.Cap = true
       unfold updF
       by_cases e:k = 8 - (f + 1)
       · subst e; exact absurd h3 g
       · rw [if_neg e]; exact h3
def opA (bad:Int → Int → Bool) (v:Int) (h:Nat):List Int → List Lnk → Option (List Lnk)
 | [],l=>some l
 | i :: us,l=>match opK bad v (8 - h) (l.getD i.toNat lnk0) with
   | none=>none
   | some x=>opA bad v h us (l.set i.toNat x)
theorem takeA_op (b:Int) (h:Nat):∀ us l,takeA b h us l = opA (fun f _=>decide (f < b)) (-b) h us l
 | [],_=>rfl
 | i :: us,l=>by
   simp only [takeA,opA,takeK_op]
   split <;> simp_all [takeA_op b h us]
theorem addA_op (b:Int) (h:Nat):∀ us l,addA b h us l = opA (fun f c=>exceedsB f b c) b h us l
 | [],_=>rfl
 | i :: us,l=>by
   simp only [addA,opA,addK_op]
   split <;> simp_all [addA_op b h us]
def cntI (i:Nat) (us:List Int):Nat:=us.countP fun u=>decide (u = (i:Int))
theorem cntI_cons (i:Nat) (u:Int) (us:List Int):cntI i (u :: us) = cntI i us + if u = (i:Int) then 1 else 0:=by
 unfold cntI
 rw [List.countP_cons]
 simp only [decide_eq_true_eq]
def chA (v:Int) (h:Nat) (us:List Int) (l:List Lnk):List Lnk:=l.mapIdx fun i x=>chR h (v * cntI i us) x
theorem chA_get (v:Int) (h:Nat) (us:List Int) (l:List Lnk) (i:Nat):(chA v h us l)[i]? = l[i]?.map (chR h (v * cntI i us)):=by
 unfold chA
 rw [List.getElem?_mapIdx]
theorem chA_len (v:Int) (h:Nat) (us:List Int) (l:List Lnk):(chA v h us l).length = l.length:=by
 unfold chA; rw [List.length_mapIdx]
theorem chA_cons {v:Int} {h:Nat} {us:List Int} {l:List Lnk} {i:Nat} {x:Lnk} (hx:l[i]? = some x):chA v h us (l.set i (chR h v x)) = chA v h ((i:Int) :: us) l:=by
 apply List.ext_getElem?
 intro j
 rw [chA_get,chA_get,List.getElem?_set,cntI_cons]
 by_cases e:i = j
 · subst e
   have hlt:=(List.getElem?_eq_some_iff.1 hx).1
   rw [if_pos rfl,if_pos hlt,hx]
   simp only [Option.map_some,if_true,chR_add]
   congr 2
   rw [Int.natCast_add,Int.mul_add,Int.add_comm]
   simp
 · rw [if_neg e]
   have:¬ (i:Int) = j:=by omega
   rw [if_neg this]
   rfl
theorem opA_some {bad:Int → Int → Bool} {v:Int} {h:Nat} (h8:h ≤ 8):∀ (us:List Int) (l:List Lnk),(∀ u ∈ us,0 ≤ u ∧ u < l.length) → ∀ m,opA bad v h us l = some m → m = chA v h us l:=by
 intro us
 induction us with
 | nil =>
   intro l _ m hm
   simp only [opA,Option.some.injEq] at hm
   subst hm
   apply List.ext_getElem?
   intro j
   rw [chA_get]
   cases l[j]? <;> simp [cntI,chR_zero]
 | cons u us ih =>
   intro l hu m hm
   obtain ⟨u1,u2⟩:=hu u (by simp)
   obtain ⟨i,rfl⟩:∃ i:Nat,u = i:=⟨u.toNat,by omega⟩
   obtain ⟨x,hx⟩:∃ x,l[i]? = some x:=⟨_,List.getElem?_eq_getElem (by omega)⟩
   have hxd:l.getD i lnk0 = x:=by rw [List.getD_eq_getElem?_getD,hx]; rfl
   simp only [opA,Int.toNat_natCast,hxd] at hm
   by_cases hb:∃ k,8 - (8 - h) ≤ k ∧ k < 8 ∧ bad (x.Fr k) x.Cap = true
   · rw [opK_none _ _ (by omega) hb] at hm
     cases hm
   · rw [opK_some _ _ (by omega) (fun k k1 k2=>by
       cases hc:bad (x.Fr k) x.Cap with
       | false=>rfl
       | true=>exact absurd ⟨k,k1,k2,hc⟩ hb),show 8 - (8 - h) = h by omega] at hm
     rw [← chA_cons hx]
     exact ih _ (fun w hw=>by rw [List.length_set]; exact hu w (by simp [hw])) m hm
theorem opA_ok {bad:Int → Int → Bool} {v:Int} {h:Nat} (h8:h ≤ 8):∀ (us:List Int) (l:List Lnk),(∀ u ∈ us,0 ≤ u ∧ u < l.length) →
   (∀ (i:Nat) (x:Lnk) (c:Nat),l[i]? = some x → c < cntI i us → ∀ k,h ≤ k → k < 8 → bad (x.Fr k + v * c) x.Cap = false) → opA bad v h us l = some (chA v h us l):=by
 intro us
 induction us with
 | nil =>
   intro l _ _
   simp only [opA]
   congr 1
   apply List.ext_getElem?
   intro j
   rw [chA_get]
   cases l[j]? <;> simp [cntI,chR_zero]
 | cons u us ih =>
   intro l hu hb
   obtain ⟨u1,u2⟩:=hu u (by simp)
   obtain ⟨i,rfl⟩:∃ i:Nat,u = i:=⟨u.toNat,by omega⟩
   obtain ⟨x,hx⟩:∃ x,l[i]? = some x:=⟨_,List.getElem?_eq_getElem (by omega)⟩
   have hxd:l.getD i lnk0 = x:=by rw [List.getD_eq_getElem?_getD,hx]; rfl
   simp only [opA,Int.toNat_natCast,hxd]
   rw [opK_some _ _ (by omega) (fun k k1 k2=>by
     have:=hb i x 0 hx (by rw [cntI_cons,if_pos rfl]; omega) k (by omega) k2
     simpa using this),show 8 - (8 - h) = h by omega]
   simp only
   rw [← chA_cons hx]
   refine ih _ (fun w hw=>by rw [List.length_set]; exact hu w (by simp [hw])) fun j y c hy hc k k1 k2=>?_
   rw [List.getElem?_set] at hy
   by_cases e:i = j
   · subst e
     rw [if_pos rfl,if_pos (by omega)] at hy
     injection hy with hy
     subst hy
     have:=hb i x (c + 1) hx (by rw [cntI_cons,if_pos rfl]; omega) k k1 k2
     show bad ((chR h v x).Fr k + v * c) x.Cap = false
     have e2:(chR h v x).Fr k = x.Fr k + v:=by simp only [chR]; rw [if_pos ⟨k1,k2⟩]
     rw [e2]
     rw [Int.natCast_add,Int.mul_add] at this
     rw [← this]
     congr 1
     simp
     omega
   · rw [if_neg e] at hy
     exact hb j y c hy (by rw [cntI_cons,if_neg (by omega)]; exact hc) k k1 k2
theorem usesL_chA (v:Int) (h:Nat) (us:List Int) (l:List Lnk) (p:List Int):usesL (chA v h us l) p = usesL l p:=by
 have hf:∀ a b,findI (chA v h us l) a b = findI l a b:=by
   intro a b
   unfold findI chA
   have:∀ (l:List Lnk) (f:Nat → Lnk → Lnk) (i:Nat),(∀ i x,(f i x).From = x.From ∧ (f i x).To = x.To) → idxL (isL a b) (l.mapIdx f) i = idxL (isL a b) l i:=by
     intro l
     induction l with
     | nil=>intro f i _; rfl
     | cons x l ih =>
       intro f i hf
       rw [List.mapIdx_cons]
       simp only [idxL]
       have:isL a b (f 0 x) = isL a b x:=by unfold isL; rw [(hf 0 x).1,(hf 0 x).2]
       rw [this,ih _ _ (fun i x=>hf (i + 1) x)]
   exact this l _ 0 fun i x=>⟨rfl,rfl⟩
 induction p with
 | nil=>rfl
 | cons a p ih =>
   cases p with
   | nil=>rfl
   | cons b p=>simp only [usesL,hf,ih]
end Go.Proofs.YtpmmnnaaoideeaaGreat

/- The example of the document, by a run. -/
namespace Go.Proofs.YtpmmnnaaoideeaaGreat
open Go Go.Am Go.Wk
def lkN (a0 a1 a2 a3 a4 a5 a6 a7:Int):Lnk:=⟨0,1,1,10,fun i=>[a0,a1,a2,a3,a4,a5,a6,a7].getD i 0,0⟩
theorem exR (a0 a1 a2 a3 a4 a5 a6 a7 b p q:Int):CFun Tryz.prog 42 [.int .i64 2,.sl 13 [.agg [.int .i64 0,.int .i64 1,.int .i64 1,.int .i64 10,.int .i64 a0,.int .i64 a1,.int .i64 a2,.int .i64 a3,.int .i64 a4,.int .i64 a5,.int .i64 a6,.int .i64 a7,.int .u32 0]] .sh,.int .i64 0,.int .i64 1,.agg [.int .i64 b,.int .i64 p,.int .i64 q,.int .u32 0,.int .u32 0,.int .i64 0,.sl 0 [] .full,.sl 0 [] .full]] [] (encRt (refN 2 [lkN a0 a1 a2 a3 a4 a5 a6 a7] 0 1 ⟨b,p,q,0,0,0,[],[]⟩)) []:=by
 have:=c15 [lkN a0 a1 a2 a3 a4 a5 a6 a7] 1 rfl (by decide) ⟨b,p,q,0,0,0,[],[]⟩ 0 0 rfl rfl (by decide) (by decide) 2 0 1
 rw [routeN_ref] at this
 exact this.wk _ (by simp [noid,noid0]) ⟨LeS_refl _,by simp [LeS,lkN,cellsL,frC,frs],LeS_refl _,LeS_refl _,by simp [LeS,LeC],trivial⟩
set_option maxHeartbeats 1000000 in
set_option maxRecDepth 10000 in
theorem cl_0:CFun Tryz.prog 32 [.sl 0 [] .full] [] (.sl 0 [] .sh) []:=by
 refine CFun.intro (tr:=[]) (fz:=[]) (n:=8) (rs:=[.tmp 2]) Tryz.func32 rfl (by kernel_rfl) rfl rfl mixed (by kernel_rfl) (by simp) (by simp) ?_
 simp
set_option maxHeartbeats 1000000 in
set_option maxRecDepth 10000 in
theorem cl_1:CFun Tryz.prog 32 [.sl 0 [] .sh] [] (.sl 0 [] .sh) []:=by
 refine CFun.intro (tr:=[]) (fz:=[]) (n:=8) (rs:=[.tmp 2]) Tryz.func32 rfl (by kernel_rfl) rfl rfl mixed (by kernel_rfl) (by simp) (by simp) ?_
 simp
set_option maxHeartbeats 1000000 in
set_option maxRecDepth 10000 in
theorem cl_2 (a b:Int):CFun Tryz.prog 32 [.sl 1 [.int .i64 a,.int .i64 b] .sh] [] (.sl 1 [.int .i64 a,.int .i64 b] .sh) []:=by
 refine CFun.intro (tr:=[]) (fz:=[]) (n:=8) (rs:=[.tmp 2]) Tryz.func32 rfl (by kernel_rfl) rfl rfl mixed (by kernel_rfl) (by simp) (by simp) ?_
 simp
def tbA:CallF:=fun f args H=>if f = 32 then (match args with
 | [.sl 1 [.int .i64 a,.int .i64 b] .sh]=>some (.sl 1 [.int .i64 a,.int .i64 b] .sh,H)
 | [.sl 0 [] .full]=>some (.sl 0 [] .sh,H)
 | [.sl 0 [] .sh]=>some (.sl 0 [] .sh,H)
 | _=>none) else if f = 42 then (match args with
 | [.int .i64 2,.sl 13 [.agg [.int .i64 0,.int .i64 1,.int .i64 1,.int .i64 10,.int .i64 a0,.int .i64 a1,.int .i64 a2,.int .i64 a3,.int .i64 a4,.int .i64 a5,.int .i64 a6,.int .i64 a7,.int .u32 0]] .sh,.int .i64 0,.int .i64 1,.agg [.int .i64 b,.int .i64 p,.int .i64 q,.int .u32 0,.int .u32 0,.int .i64 0,.sl 0 [] .full,.sl 0 [] .full]] =>
   some (encRt (refN 2 [lkN a0 a1 a2 a3 a4 a5 a6 a7] 0 1 ⟨b,p,q,0,0,0,[],[]⟩),H)
 | _=>none) else none
theorem tbA_ok:CallOk Tryz.prog tbA:=by
 intro f args H x H' h
 unfold tbA at h
 split at h
 · rename_i hf
   subst hf
   split at h
   · injection h with h; injection h with e1 e2; subst e1 e2
     exact (cl_2 _ _).up' H rfl rfl
   · injection h with h; injection h with e1 e2; subst e1 e2
     exact cl_0.up' H rfl rfl
   · injection h with h; injection h with e1 e2; subst e1 e2
     exact cl_1.up' H rfl rfl
   · cases h
 · split at h
   case isFalse=>cases h
   rename_i hf
   subst hf
   split at h
   · injection h with h; injection h with e1 e2; subst e1 e2
     exact (exR _ _ _ _ _ _ _ _ _ _ _).up' H rfl (by simp [noid,noid0])
   · cases h
def cfgA (l:Cfg):Cfg:=l ++ [(65,[100017],[]),(28,[13],[]),(30,[100007],[]),(32,[100007],[]),(45,[],[(4,1,true)]),(44,[],[(4,1,true)]),(8,[60,64],[]),(100,[31],[]),(113,[100022],[])] ++ ([7,40,18,26,14,27,63,64,73,74,75,29,31,33,34,52,53,54,43,41,46,47,48,69,87,88,68,89,58,59,60,61,62,66,67,85,86].map fun i=>(i,[],[]))
def lkV (a0 a1 a2 a3 a4 a5 a6 a7:Int):AVal:=.sl 13 [.agg [.int .i64 0,.int .i64 1,.int .i64 1,.int .i64 10,.int .i64 a0,.int .i64 a1,.int .i64 a2,.int .i64 a3,.int .i64 a4,.int .i64 a5,.int .i64 a6,.int .i64 a7,.int .u32 0]] .sh
def tnV (id b p:Int) (nl pa:AVal):AVal:=.agg [.int .i64 id,.int .i64 0,.int .i64 1,.int .i64 b,.int .i64 p,.int .i64 p,.int .u32 0,.int .u32 0,.int .i64 0,nl,nl,pa]
def p01:AVal:=.sl 1 [.int .i64 0,.int .i64 1] .sh
def nl0:AVal:=.sl 0 [] .full
def nlS:AVal:=.sl 0 [] .sh
theorem ex1:CFun Tryz.prog 14 [.int .i64 2,lkV 10 10 10 10 10 10 10 10,nl0,tnV 1 8 5 nl0 nl0] [] (.tup [lkV 10 10 10 10 10 2 2 2,.sl 12 [tnV 1 8 5 nlS p01] .sh,nl0,.int .i64 0]) [] :=
 CFun.run mixed (cfgA [(14,[15000018000003],[]),(43,[28],[])]) tbA tbA_ok 400 (by kernel_rfl) (by kernel_rfl)
theorem ex54:CFun Tryz.prog 43 [.sl 12 [tnV 2 5 3 nl0 p01] .full] [] (.sl 12 [tnV 2 5 3 nlS p01] .sh) [] :=
 CFun.run mixed (cfgA [(43,[28],[])]) tbA tbA_ok 400 (by kernel_rfl) (by kernel_rfl)
def tbB:CallF:=fun f args H=>if f = 43 then (match args with
 | [.sl 12 [.agg [.int .i64 2,.int .i64 0,.int .i64 1,.int .i64 5,.int .i64 3,.int .i64 3,.int .u32 0,.int .u32 0,.int .i64 0,.sl 0 [] .full,.sl 0 [] .full,.sl 1 [.int .i64 0,.int .i64 1] .sh]] .full]=>some (.sl 12 [tnV 2 5 3 nlS p01] .sh,H)
 | _=>none) else tbA f args H
theorem tbB_ok:CallOk Tryz.prog tbB:=by
 intro f args H x H' h
 unfold tbB at h
 split at h
 · rename_i hf
   subst hf
   split at h
   · injection h with h; injection h with e1 e2; subst e1 e2
     exact ex54.up' H rfl rfl
   · cases h
 · exact tbA_ok f args H x H' h
theorem ex2:CFun Tryz.prog 14 [.int .i64 2,lkV 10 10 10 10 10 2 2 2,.sl 12 [tnV 1 8 5 nlS p01] .sh,tnV 2 5 3 nl0 nl0] [] (.tup [lkV 10 10 10 5 5 5 5 5,.sl 12 [tnV 1 8 5 nlS nl0,tnV 2 5 3 nlS p01] .sh,.sl 1 [.int .i64 1] .sh,.int .i64 0]) [] :=
 CFun.run mixed (cfgA [(14,[15000018000003],[(9,5,true)]),(43,[100031],[]),(48,[100025],[])]) tbB tbB_ok 400 (by kernel_rfl) (by kernel_rfl)
theorem ex3:CFun Tryz.prog 14 [.int .i64 2,lkV 10 10 10 5 5 5 5 5,.sl 12 [tnV 1 8 5 nlS nl0,tnV 2 5 3 nlS p01] .sh,tnV 3 6 7 nl0 nl0] [] (.tup [nl0,nl0,nl0,.int .i64 20]) [] :=
 CFun.run mixed (cfgA [(14,[15000018000003],[]),(43,[28],[])]) tbA tbA_ok 400 (by kernel_rfl) (by kernel_rfl)
end Go.Proofs.YtpmmnnaaoideeaaGreat
