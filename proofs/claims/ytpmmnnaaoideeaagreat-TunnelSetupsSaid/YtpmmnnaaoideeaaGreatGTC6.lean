/- Links and constraints; words in a list. -/
import Derived.Test.YtpmmnnaaoideeaaGreatAmAB
import Derived.Test.YtpmmnnaaoideeaaGreatAmZ
import Derived.Test.YtpmmnnaaoideeaaGreatGFacts
set_option linter.unusedSimpArgs false
set_option linter.unusedVariables false
namespace Go.Proofs.YtpmmnnaaoideeaaGreat
open Go Go.Am
@[simp] def encI (x:Int):AVal:=.int .i64 x
def inI (x:Int):Prop:=-9223372036854775808 ≤ x ∧ x ≤ 9223372036854775807
theorem gE {α:Type} {l:List α} {i:Nat} {x:α} (hx:l[i]? = some x) (h:i < l.length):l[i]'h = x:=by
 rw [List.getElem?_eq_getElem h] at hx
 injection hx
structure Lnk where
  From:Int
  To:Int
  Cost:Int
  Cap:Int
  Fr:Nat → Int
  Aff:Int
def frs (x:Lnk):List Int:=[x.Fr 0,x.Fr 1,x.Fr 2,x.Fr 3,x.Fr 4,x.Fr 5,x.Fr 6,x.Fr 7]
theorem frs_get (x:Lnk) {i:Nat} (h:i < 8):(frs x)[i]? = some (x.Fr i):=by
 match i,h with
 | 0,_ | 1,_ | 2,_ | 3,_ | 4,_ | 5,_ | 6,_ | 7,_=>rfl
def frC (x:Lnk):List AVal:=(frs x).map encI
def cellsL (x:Lnk):List AVal:=[.int .i64 x.From,.int .i64 x.To,.int .i64 x.Cost,.int .i64 x.Cap] ++ (frC x ++ [.int .u32 x.Aff])
theorem frC_get (x:Lnk) {i:Nat} (h:i < 8):(frC x)[i]? = some (.int .i64 (x.Fr i)):=by simp [frC,frs_get x h]
@[simp] theorem frC_len (x:Lnk):(frC x).length = 8:=rfl
@[simp] theorem cellsL_len (x:Lnk):(cellsL x).length = 13:=rfl
@[simp] theorem cellsL_0 (x:Lnk):(cellsL x)[0]? = some (.int .i64 x.From):=rfl
@[simp] theorem cellsL_1 (x:Lnk):(cellsL x)[1]? = some (.int .i64 x.To):=rfl
@[simp] theorem cellsL_2 (x:Lnk):(cellsL x)[2]? = some (.int .i64 x.Cost):=rfl
@[simp] theorem cellsL_3 (x:Lnk):(cellsL x)[3]? = some (.int .i64 x.Cap):=rfl
@[simp] theorem cellsL_12 (x:Lnk):(cellsL x)[12]? = some (.int .u32 x.Aff):=rfl
theorem cellsL_fr (x:Lnk) {i:Nat} (h:i < 8):(cellsL x)[4 + i]? = some (.int .i64 (x.Fr i)):=by
 match i,h with
 | 0,_ | 1,_ | 2,_ | 3,_ | 4,_ | 5,_ | 6,_ | 7,_=>rfl
@[simp] theorem cellsL_dis (x:Lnk):(cellsL x).map AVal.dis = cellsL x:=rfl
@[simp] theorem cellsL_disf (x:Lnk):(cellsL x).map (fun c=>c.dis) = cellsL x:=rfl
@[simp] theorem cellsL_ne (x:Lnk):cellsL x ≠ []:=by simp [cellsL]
@[simp] theorem cellsL_tree (x:Lnk):(cellsL x).all AVal.tree = true:=rfl
@[simp] theorem cellsL_scal (x:Lnk):(cellsL x).all AVal.scalar = true:=rfl
@[simp] theorem cellsL_treeF (x:Lnk):(∀ c,c ∈ cellsL x → c.tree = true) = True:=eq_true (List.all_eq_true.1 (cellsL_tree x))
@[simp] theorem cellsL_scalF (x:Lnk):(∀ c,c ∈ cellsL x → c.scalar = true) = True:=eq_true (List.all_eq_true.1 (cellsL_scal x))
@[simp] theorem cellsL_noid (x:Lnk):(cellsL x).all noid0 = true:=rfl
theorem encL_enc:Enc cellsL 13:=⟨by decide,fun _=>rfl,fun _=>rfl,fun _=>rfl⟩
@[simp] def encL (x:Lnk):AVal:=.agg (cellsL x)
@[simp high] theorem load_L (x:Lnk):aload (some (true,13)) (cellsL x) 0 = some (.agg (cellsL x)):=rfl
@[simp high] theorem load_Lf (x:Lnk):aload (some (true,8)) (cellsL x) 4 = some (.agg (frC x)):=rfl
@[simp] theorem le_L (x:Lnk):All2 LeC (cellsL x) (cellsL x):=All2_refl LeC_refl _
@[simp] theorem les_L (n:Nat) (x:Lnk):LeCells n (cellsL x) (cellsL x):=treeCells_le n (cellsL_tree x)
@[simp] theorem cellsL_mid (x:Lnk):List.take 8 (List.drop 4 (cellsL x)) = frC x:=rfl
@[simp] theorem le_F (x:Lnk):All2 LeC (frC x) (frC x):=All2_refl LeC_refl _
@[simp] theorem frC_dis (x:Lnk):(frC x).map AVal.dis = frC x:=rfl
@[simp] theorem cellsL_take (x:Lnk):List.take 13 (cellsL x) = cellsL x:=rfl
@[simp] theorem setR_L (x:Lnk) (a1 a2 a3 a4 a5 a6 a7 a8 a9 b1 b2 b3 b4:AVal):setR [a1,a2,a3,a4,a5,a6,a7,a8,a9,b1,b2,b3,b4] 0 (cellsL x) = cellsL x:=rfl
@[simp] theorem setR_LL (x y:Lnk):setR (cellsL y) 0 (cellsL x) = cellsL x:=rfl
structure Con where
  Band:Int
  Setup:Int
  Hold:Int
  Incl:Int
  Excl:Int
  Hops:Int
  Avoid:List Int
  Thru:List Int
@[simp] def cellsC (c:Con):List AVal:=[.int .i64 c.Band,.int .i64 c.Setup,.int .i64 c.Hold,.int .u32 c.Incl,.int .u32 c.Excl,.int .i64 c.Hops,.sl 1 (c.Avoid.map encI) .sh,.sl 1 (c.Thru.map encI) .sh]
@[simp] def encC (c:Con):AVal:=.agg (cellsC c)
theorem c23 (a b c:Int):CFun Tryz.prog 69 [.int .i64 a,.int .i64 b,.int .i64 c] [] (.bool (decide (a < b) || decide (c < a))) []:=by
 refine CFun.intro (tr:=[]) (fz:=[]) (n:=15) (rs:=[.tmp 6]) Tryz.func69 rfl (by kernel_rfl) rfl rfl mixed (by kernel_rfl) (by simp) (by simp) ?_
 by_cases h:a < b
 · simp [h]
 · simp [h]
def isI (a b:Int):Bool:=decide (b = a)
set_option maxHeartbeats 1000000 in
set_option maxRecDepth 10000 in
theorem c44 (l:List Int) (n:Nat) (hn:l.length = n) (hlen:n < 9223372036854775807) (a:Int):CFun Tryz.prog 59 [.sl 1 (l.map encI) .sh,.int .i64 a] [] (.int .i64 (idxL (isI a) l 0)) []:=by
 refine CFun.intro (tr:=[]) (fz:=[]) (n:=19) (rs:=[.tmp 4]) Tryz.func59 rfl (by kernel_rfl) rfl rfl mixed (by kernel_rfl) (by simp) (by simp) ?_
 simp
 refine LoopK.intro (tr:=[]) mixed (by kernel_rfl) (fun i:Nat=>[(0,.sl 1 (l.map encI) .sh),(1,.int .i64 a),(7,.int .i64 n),(8,.int .i64 i)]) (fun _=>[]) (fun i=>i ≤ n ∧ idxL (isI a) l 0 = idxL (isI a) (l.drop i) i) (fun i=>n - i) 0 ?_ ?_ ?_
 · simp
 · simp [hn]
 · rintro i ⟨h1,h2⟩
   by_cases hi:i < n
   · obtain ⟨x,hx,hd⟩:=get_drop (l:=l) (i:=i) (by omega)
     rw [hd] at h2
     simp only [idxL,isI] at h2
     have w1:IntKind.i64.wrap ((i:Int) + 1) = i + 1:=wrap_in (by omega)
     clear hd
     by_cases hb:a = x
     · simp [hb] at h2
       simp [hi,hn,hx,gE hx,hb,h2]
     · have hb':¬ x = a:=fun e=>hb e.symm
       simp [hb'] at h2
       simp [hi,hn,hx,gE hx,hb,w1]
       exact ⟨i + 1,⟨by omega,h2⟩,by omega,by simp⟩
   · have:i = n:=by omega
     subst this
     rw [List.drop_eq_nil_of_le (by omega)] at h2
     simp [hn,h2,idxL]
def hasB (l:List Int) (a:Int):Bool:=l.any (isI a)
theorem hasB_iff (l:List Int) (a:Int):hasB l a = true ↔ a ∈ l:=by simp [hasB,isI]
set_option maxHeartbeats 1000000 in
set_option maxRecDepth 10000 in
theorem c24 (l:List Int) (n:Nat) (hn:l.length = n) (hlen:n < 9223372036854775807) (a:Int):CFun Tryz.prog 29 [.sl 1 (l.map encI) .sh,.int .i64 a] [] (.bool (hasB l a)) []:=by
 refine CFun.intro (tr:=[]) (fz:=[]) (n:=9) (rs:=[.tmp 4]) Tryz.func29 rfl (by kernel_rfl) rfl rfl mixed (by kernel_rfl) (by simp) (by simp) ?_
 have h:=fun H=>(c44 l n hn hlen a).up' H (by simp [noid,noid0]) rfl
 rw [show hasB l a = decide (0 ≤ idxL (isI a) l 0) from idxL_any _ _ _]
 generalize idxL (isI a) l 0 = q at h
 simp
 refine ⟨_,_,.inl (h _),by simp,?_⟩
 simp
set_option maxHeartbeats 1000000 in
set_option maxRecDepth 10000 in
theorem c45 (l:List Int) (n:Nat) (hn:l.length = n) (hlen:n < 9223372036854775807) (a:Int):CFun Tryz.prog 39 [.sl 1 (l.map encI) .sh,.int .i64 a] [] (.int .i64 (idxL (isI a) l 0)) []:=by
 refine CFun.intro (tr:=[]) (fz:=[]) (n:=19) (rs:=[.tmp 4]) Tryz.func39 rfl (by kernel_rfl) rfl rfl mixed (by kernel_rfl) (by simp) (by simp) ?_
 simp
 refine LoopK.intro (tr:=[]) mixed (by kernel_rfl) (fun i:Nat=>[(1,.int .i64 a),(7,.sl 1 (l.map encI) .sh),(8,.int .i64 n),(9,.int .i64 i)]) (fun _=>[]) (fun i=>i ≤ n ∧ idxL (isI a) l 0 = idxL (isI a) (l.drop i) i) (fun i=>n - i) 0 ?_ ?_ ?_
 · simp
 · simp [hn]
 · rintro i ⟨h1,h2⟩
   by_cases hi:i < n
   · obtain ⟨x,hx,hd⟩:=get_drop (l:=l) (i:=i) (by omega)
     rw [hd] at h2
     simp only [idxL,isI] at h2
     have w1:IntKind.i64.wrap ((i:Int) + 1) = i + 1:=wrap_in (by omega)
     clear hd
     by_cases hb:x = a
     · simp [hb] at h2
       simp [hi,hn,hx,gE hx,hb,h2]
     · simp [hb] at h2
       simp [hi,hn,hx,gE hx,hb,w1]
       exact ⟨i + 1,⟨by omega,h2⟩,by omega,by simp⟩
   · have:i = n:=by omega
     subst this
     rw [List.drop_eq_nil_of_le (by omega)] at h2
     simp [hn,h2,idxL]
set_option maxHeartbeats 1000000 in
set_option maxRecDepth 10000 in
theorem c25 (l:List Int) (n:Nat) (hn:l.length = n) (hlen:n < 9223372036854775807) (a:Int):CFun Tryz.prog 12 [.sl 1 (l.map encI) .sh,.int .i64 a] [] (.bool (hasB l a)) []:=by
 refine CFun.intro (tr:=[]) (fz:=[]) (n:=9) (rs:=[.tmp 4]) Tryz.func12 rfl (by kernel_rfl) rfl rfl mixed (by kernel_rfl) (by simp) (by simp) ?_
 have h:=fun H=>(c45 l n hn hlen a).up' H (by simp [noid,noid0]) rfl
 rw [show hasB l a = decide (0 ≤ idxL (isI a) l 0) from idxL_any _ _ _]
 generalize idxL (isI a) l 0 = q at h
 simp
 refine ⟨_,_,.inl (h _),by simp,?_⟩
 simp
end Go.Proofs.YtpmmnnaaoideeaaGreat

/- Which links a constraint allows; what is wrong with a link. -/
namespace Go.Proofs.YtpmmnnaaoideeaaGreat
open Go Go.Am
def andW (a b:Int):Int:=IntKind.u32.wrap ((BitVec.ofInt IntKind.u32.bits a &&& BitVec.ofInt IntKind.u32.bits b).toNat:Int)
theorem andW_comm (a b:Int):andW a b = andW b a:=by unfold andW; rw [BitVec.and_comm]
@[simp ↓] theorem aint_and (a b:Int):aint .and .u32 a b = some (.int .u32 (andW a b)):=rfl
@[simp ↓] theorem abit_and (a b:Int):abit .and .u32 a b = some (.int .u32 (andW a b)):=rfl
def usableN (x:Lnk) (c:Con):Bool :=
 if c.Setup < 0 ∨ 7 < c.Setup then false else if x.Fr c.Setup.toNat < c.Band then false
 else if andW c.Excl x.Aff ≠ 0 then false else if c.Incl ≠ 0 ∧ andW c.Incl x.Aff = 0 then false
 else !hasB c.Avoid x.From && !hasB c.Avoid x.To
theorem usable_1 {x:Lnk} {c:Con} (h:c.Setup < 0 ∨ 7 < c.Setup):usableN x c = false:=by
 unfold usableN; rw [if_pos h]
theorem usable_2 {x:Lnk} {c:Con} {i:Nat} (hi:c.Setup = i) (h8:i < 8) (h:x.Fr i < c.Band):usableN x c = false:=by
 unfold usableN; rw [if_neg (by omega),if_pos (by rw [hi]; exact h)]
theorem usable_3 {x:Lnk} {c:Con} {i:Nat} (hi:c.Setup = i) (h8:i < 8) (h:¬ x.Fr i < c.Band):usableN x c = if andW c.Excl x.Aff ≠ 0 then false else if c.Incl ≠ 0 ∧ andW c.Incl x.Aff = 0 then false else !hasB c.Avoid x.From && !hasB c.Avoid x.To:=by
 unfold usableN; rw [if_neg (by omega),if_neg (by rw [hi]; exact h)]
theorem usable_4 {x:Lnk} {c:Con} {i:Nat} (hi:c.Setup = i) (h8:i < 8) (h:¬ x.Fr i < c.Band) (h2:¬ andW c.Excl x.Aff = 0):usableN x c = false:=by
 rw [usable_3 hi h8 h,if_pos h2]
theorem usable_5 {x:Lnk} {c:Con} {i:Nat} (hi:c.Setup = i) (h8:i < 8) (h:¬ x.Fr i < c.Band) (h2:andW c.Excl x.Aff = 0) (h3:¬ c.Incl = 0) (h4:andW c.Incl x.Aff = 0):usableN x c = false:=by
 rw [usable_3 hi h8 h,if_neg (by simpa using h2),if_pos ⟨h3,h4⟩]
theorem usable_6 {x:Lnk} {c:Con} {i:Nat} (hi:c.Setup = i) (h8:i < 8) (h:¬ x.Fr i < c.Band) (h2:andW c.Excl x.Aff = 0) (h3:c.Incl = 0 ∨ ¬ andW c.Incl x.Aff = 0):usableN x c = (!hasB c.Avoid x.From && !hasB c.Avoid x.To):=by
 rw [usable_3 hi h8 h,if_neg (by simpa using h2),if_neg (fun k=>by rcases h3 with h3 | h3; exact k.1 h3; exact h3 k.2)]
set_option maxHeartbeats 4000000 in
set_option maxRecDepth 10000 in
theorem c9 (x:Lnk) (c:Con) (n:Nat) (hn:c.Avoid.length = n) (hlen:n < 9223372036854775807):CFun Tryz.prog 70 [encL x,encC c] [] (.bool (usableN x c)) []:=by
 refine CFun.intro (tr:=[]) (fz:=[]) (n:=51) (rs:=[.tmp 4]) Tryz.func70 rfl (by kernel_rfl) rfl rfl mixed (by kernel_rfl) (by simp) (by simp) ?_
 have h1:=fun a b c H=>(c23 a b c).up' H rfl rfl
 have h2:=fun a H=>(c24 c.Avoid n hn hlen a).up' H (by simp [noid,noid0]) rfl
 generalize hu:usableN x c = u
 simp
 refine ⟨_,_,.inl (by simpa using h1 _ _ _ _),by simp,?_⟩
 by_cases g1:c.Setup < 0
 · have e:=usable_1 (x:=x) (.inl g1)
   simp [g1,← hu,e]
 by_cases g2:7 < c.Setup
 · have e:=usable_1 (x:=x) (.inr g2)
   simp [g1,g2,← hu,e]
 obtain ⟨i,hi⟩:∃ i:Nat,c.Setup = i:=⟨c.Setup.toNat,by omega⟩
 have hi8:i < 8:=by omega
 have hf:=cellsL_fr x hi8
 have gi:(i:Int) < 8:=by omega
 have g7:¬ 7 < (i:Int):=by omega
 have g8:¬ (i:Int) < 0:=by omega
 by_cases g3:x.Fr i < c.Band
 · have e:=usable_2 hi hi8 g3
   simp [hi,g7,g8,gi,hf,g3,← hu,e]
 have last:∀ (g4:andW c.Excl x.Aff = 0) (g5:c.Incl = 0 ∨ ¬ andW c.Incl x.Aff = 0),u = (!hasB c.Avoid x.From && !hasB c.Avoid x.To):=fun g4 g5=>by rw [← hu]; exact usable_6 hi hi8 g3 g4 g5
 by_cases g4:andW c.Excl x.Aff = 0
 · have g4':=g4
   rw [andW_comm] at g4'
   by_cases g5:c.Incl = 0
   · have hl:=last g4 (.inl g5)
     clear last
     simp [hi,g7,g8,gi,hf,g3,g4,g4',g5]
     refine ⟨_,_,.inl (by simpa using h2 _ _),by simp,?_⟩
     cases hp:hasB c.Avoid x.From with
     | true=>simp [hl,hp]
     | false =>
       simp [hp]
       refine ⟨_,_,.inl (by simpa using h2 _ _),by simp,?_⟩
       simp [hl,hp]
   · by_cases g6:andW c.Incl x.Aff = 0
     · have e:=usable_5 hi hi8 g3 g4 g5 g6
       have g6':=g6
       rw [andW_comm] at g6'
       simp [hi,g7,g8,gi,hf,g3,g4,g4',g5,g6,g6',← hu,e]
     · have g6':=g6
       rw [andW_comm] at g6'
       have hl:=last g4 (.inr g6)
       clear last
       simp [hi,g7,g8,gi,hf,g3,g4,g4',g5,g6,g6']
       refine ⟨_,_,.inl (by simpa using h2 _ _),by simp,?_⟩
       cases hp:hasB c.Avoid x.From with
     | true=>simp [hl,hp]
     | false =>
       simp [hp]
       refine ⟨_,_,.inl (by simpa using h2 _ _),by simp,?_⟩
       simp [hl,hp]
 · have e:=usable_4 hi hi8 g3 g4
   have g4':=g4
   rw [andW_comm] at g4'
   simp [hi,g7,g8,gi,hf,g3,g4,g4',← hu,e]
end Go.Proofs.YtpmmnnaaoideeaaGreat

/- What is wrong with a link. -/
namespace Go.Proofs.YtpmmnnaaoideeaaGreat
open Go Go.Am
def outF (cap:Int) (f:Int):Bool:=decide (f < 0) || decide (cap < f)
def upF:List Int → Bool
 | a :: b :: l=>if a < b then true else upF (b :: l)
 | _=>false
def linkE (n:Int) (x:Lnk):Int :=
 if x.From < 0 ∨ n ≤ x.From ∨ x.To < 0 ∨ n ≤ x.To then 5 else if x.From = x.To then 1
 else if x.Cost < 1 ∨ 65535 < x.Cost ∨ x.Cap < 0 ∨ 1099511627776 < x.Cap then 5
 else if (frs x).any (outF x.Cap) = true then 5 else if upF (frs x) = true then 1 else 0
theorem upF_drop (x:Lnk) {i:Nat} (h:i + 1 < 8):upF ((frs x).drop i) = if x.Fr i < x.Fr (i + 1) then true else upF ((frs x).drop (i + 1)):=by
 have:i = 0 ∨ i = 1 ∨ i = 2 ∨ i = 3 ∨ i = 4 ∨ i = 5 ∨ i = 6:=by omega
 rcases this with rfl | rfl | rfl | rfl | rfl | rfl | rfl <;> rfl
theorem upF_end (x:Lnk):upF ((frs x).drop 7) = false:=rfl
theorem any_drop (x:Lnk) (p:Int → Bool) {i:Nat} (h:i < 8):((frs x).drop i).any p = (p (x.Fr i) || ((frs x).drop (i + 1)).any p):=by
 have:i = 0 ∨ i = 1 ∨ i = 2 ∨ i = 3 ∨ i = 4 ∨ i = 5 ∨ i = 6 ∨ i = 7:=by omega
 rcases this with rfl | rfl | rfl | rfl | rfl | rfl | rfl | rfl <;> rfl
set_option maxHeartbeats 4000000 in
set_option maxRecDepth 10000 in
theorem c27 (x:Lnk) (n:Int) (hn:inI (n - 1)):CFun Tryz.prog 87 [.int .i64 n,encL x] [] (.int .i64 (linkE n x)) []:=by
 refine CFun.intro (tr:=[]) (fz:=[]) (n:=57) (rs:=[.tmp 4]) Tryz.func87 rfl (by kernel_rfl) rfl rfl mixed (by kernel_rfl) (by simp) (by simp) ?_
 have h1:=fun a b c H=>(c23 a b c).up' H rfl rfl
 have w1:IntKind.i64.wrap (n - 1) = n - 1:=wrap_in hn
 generalize hu:linkE n x = u
 unfold linkE at hu
 simp [w1]
 refine ⟨_,_,.inl (by simpa using h1 _ _ _ _),by simp,?_⟩
 by_cases g1:x.From < 0 ∨ n ≤ x.From
 · have g1':x.From < 0 ∨ n - 1 < x.From:=by omega
   rw [if_pos (by omega)] at hu
   subst hu
   simp [g1']
 have g1':¬ (x.From < 0) ∧ ¬ (n - 1 < x.From):=by omega
 simp [g1',w1]
 refine ⟨_,_,.inl (by simpa using h1 _ _ _ _),by simp,?_⟩
 by_cases g2:x.To < 0 ∨ n ≤ x.To
 · have g2':x.To < 0 ∨ n - 1 < x.To:=by omega
   rw [if_pos (by omega)] at hu
   subst hu
   simp [g2']
 have g2':¬ (x.To < 0) ∧ ¬ (n - 1 < x.To):=by omega
 rw [if_neg (by omega)] at hu
 by_cases g3:x.From = x.To
 · rw [if_pos g3] at hu
   subst hu
   simp [g2',g3]
 rw [if_neg g3] at hu
 simp [g2',g3]
 refine ⟨_,_,.inl (by simpa using h1 _ _ _ _),by simp,?_⟩
 by_cases g4:x.Cost < 1 ∨ 65535 < x.Cost
 · rw [if_pos (by omega)] at hu
   subst hu
   simp [g4]
 have g4':¬ (x.Cost < 1) ∧ ¬ (65535 < x.Cost):=by omega
 simp [g4']
 refine ⟨_,_,.inl (by simpa using h1 _ _ _ _),by simp,?_⟩
 by_cases g5:x.Cap < 0 ∨ 1099511627776 < x.Cap
 · rw [if_pos (by omega)] at hu
   subst hu
   simp [g5]
 have g5':¬ (x.Cap < 0) ∧ ¬ (1099511627776 < x.Cap):=by omega
 rw [if_neg (by omega)] at hu
 simp [g5']
 refine LoopK.intro (tr:=[]) mixed (by kernel_rfl) (fun i:Nat=>[(3,.ptr 0 0),(34,.agg (frC x)),(35,.int .i64 i)]) (fun _=>[cellsL x]) (fun i=>i ≤ 8 ∧ (frs x).any (outF x.Cap) = ((frs x).drop i).any (outF x.Cap)) (fun i=>8 - i) 0 ?_ ?_ ?_
 · simp
 · simp
 · rintro i ⟨q1,q2⟩
   by_cases hi:i < 8
   · have b1:(i:Int) < 8:=by omega
     have w2:IntKind.i64.wrap ((i:Int) + 1) = i + 1:=wrap_in (by omega)
     have hf:=frC_get x hi
     rw [any_drop x _ hi] at q2
     simp [b1,hf]
     refine ⟨_,_,.inl (by simpa using h1 _ _ _ _),by simp,?_⟩
     cases ho:outF x.Cap (x.Fr i) with
     | true =>
       rw [ho] at q2
       simp at q2
       rw [if_pos (by simpa using q2)] at hu
       simp [outF] at ho
       subst hu
       simp [ho]
     | false =>
       rw [ho,Bool.false_or] at q2
       simp [outF] at ho
       have ho':¬ x.Fr i < 0 ∧ ¬ x.Cap < x.Fr i:=by omega
       simp [ho',w2]
       exact ⟨i + 1,⟨by omega,q2⟩,by omega,by simp⟩
   · have hi8:i = 8:=by omega
     subst hi8
     rw [q2] at hu
     have hu:(if upF (frs x) = true then 1 else 0) = u:=by simpa [frs] using hu
     simp
     refine LoopK.intro (tr:=[]) mixed (by kernel_rfl) (fun i:Nat=>[(3,.ptr 0 0),(43,.int .i64 i)]) (fun _=>[cellsL x]) (fun i=>i ≤ 7 ∧ upF (frs x) = upF ((frs x).drop i)) (fun i=>7 - i) 0 ?_ ?_ ?_
     · simp
     · simp
     · rintro i ⟨q1,q2⟩
       by_cases hi:i < 7
       · have b1:(i:Int) < 7:=by omega
         have b2:(i:Int) < 8:=by omega
         have b3:(i:Int) + 1 < 8:=by omega
         have b4:0 ≤ (i:Int) + 1:=by omega
         have e1:((i:Int) + 1).toNat = i + 1:=by omega
         have w2:IntKind.i64.wrap ((i:Int) + 1) = i + 1:=wrap_in (by omega)
         have hf:=cellsL_fr x (i:=i) (by omega)
         have hf2:=cellsL_fr x (i:=i + 1) (by omega)
         rw [upF_drop x (by omega)] at q2
         simp [b1,b2,b3,b4,e1,w2,hf,hf2]
         by_cases ho:x.Fr i < x.Fr (i + 1)
         · rw [if_pos ho] at q2
           rw [if_pos q2] at hu
           subst hu
           simp [ho]
         · rw [if_neg ho] at q2
           simp [ho,w2]
           exact ⟨i + 1,⟨by omega,q2⟩,by omega,by simp⟩
       · have hi7:i = 7:=by omega
         subst hi7
         rw [q2,upF_end] at hu
         simp at hu
         subst hu
         simp
set_option maxHeartbeats 4000000 in
set_option maxRecDepth 10000 in
theorem c29 (x:Lnk) (n:Int):CFun Tryz.prog 55 [.int .i64 n,encL x] [] (.int .i64 (linkE n x)) []:=by
 refine CFun.intro (tr:=[]) (fz:=[]) (n:=79) (rs:=[.tmp 4]) Tryz.func55 rfl (by kernel_rfl) rfl rfl mixed (by kernel_rfl) (by simp) (by simp) ?_
 generalize hu:linkE n x = u
 unfold linkE at hu
 by_cases g1:x.From < 0 ∨ n ≤ x.From ∨ x.To < 0 ∨ n ≤ x.To
 · rw [if_pos g1] at hu
   subst hu
   by_cases a1:x.From < 0
   · simp [a1]
   by_cases a2:n ≤ x.From
   · simp [a1,a2]
   by_cases a3:x.To < 0
   · simp [a1,a2,a3]
   · have a4:n ≤ x.To:=by omega
     simp [a1,a2,a3,a4]
 rw [if_neg g1] at hu
 have g1':¬ x.From < 0 ∧ ¬ n ≤ x.From ∧ ¬ x.To < 0 ∧ ¬ n ≤ x.To:=by omega
 clear g1
 by_cases g3:x.From = x.To
 · rw [if_pos g3] at hu
   rw [g3] at g1'
   subst hu
   simp [g1',g3]
 rw [if_neg g3] at hu
 by_cases g4:x.Cost < 1 ∨ 65535 < x.Cost ∨ x.Cap < 0 ∨ 1099511627776 < x.Cap
 · rw [if_pos g4] at hu
   subst hu
   by_cases a1:x.Cost < 1
   · simp [g1',g3,a1]
   by_cases a2:65535 < x.Cost
   · simp [g1',g3,a1,a2]
   by_cases a3:x.Cap < 0
   · simp [g1',g3,a1,a2,a3]
   · have a4:1099511627776 < x.Cap:=by omega
     simp [g1',g3,a1,a2,a3,a4]
 rw [if_neg g4] at hu
 have g4':¬ x.Cost < 1 ∧ ¬ 65535 < x.Cost ∧ ¬ x.Cap < 0 ∧ ¬ 1099511627776 < x.Cap:=by omega
 clear g4
 simp [g1',g3,g4']
 refine LoopK.intro (tr:=[]) mixed (by kernel_rfl) (fun i:Nat=>[(3,.ptr 0 0),(52,.agg (frC x)),(53,.int .i64 i)]) (fun _=>[cellsL x]) (fun i=>i ≤ 8 ∧ (frs x).any (outF x.Cap) = ((frs x).drop i).any (outF x.Cap)) (fun i=>8 - i) 0 ?_ ?_ ?_
 · simp
 · simp
 · rintro i ⟨q1,q2⟩
   by_cases hi:i < 8
   · have b1:(i:Int) < 8:=by omega
     have w2:IntKind.i64.wrap ((i:Int) + 1) = i + 1:=wrap_in (by omega)
     have hf:=frC_get x hi
     rw [any_drop x _ hi] at q2
     cases ho:outF x.Cap (x.Fr i) with
     | true =>
       rw [ho] at q2
       simp at q2
       rw [if_pos (by simpa using q2)] at hu
       simp [outF] at ho
       subst hu
       by_cases a1:x.Fr i < 0
       · simp [b1,hf,a1]
       · have a2:x.Cap < x.Fr i:=by omega
         simp [b1,hf,a1,a2]
     | false =>
       rw [ho,Bool.false_or] at q2
       simp [outF] at ho
       have ho':¬ x.Fr i < 0 ∧ ¬ x.Cap < x.Fr i:=by omega
       simp [b1,hf,ho',w2]
       exact ⟨i + 1,⟨by omega,q2⟩,by omega,by simp⟩
   · have hi8:i = 8:=by omega
     subst hi8
     rw [q2] at hu
     have hu:(if upF (frs x) = true then 1 else 0) = u:=by simpa [frs] using hu
     simp
     refine LoopK.intro (tr:=[]) mixed (by kernel_rfl) (fun i:Nat=>[(3,.ptr 0 0),(7,.int .i64 ((i:Int) + 1))]) (fun _=>[cellsL x]) (fun i=>i ≤ 7 ∧ upF (frs x) = upF ((frs x).drop i)) (fun i=>7 - i) 0 ?_ ?_ ?_
     · simp
     · simp
     · rintro i ⟨q1,q2⟩
       by_cases hi:i < 7
       · have b1:(i:Int) + 1 < 8:=by omega
         have b2:(i:Int) < 8:=by omega
         have b4:0 ≤ (i:Int) + 1:=by omega
         have e1:((i:Int) + 1).toNat = i + 1:=by omega
         have w1:IntKind.i64.wrap ((i:Int)) = i:=wrap_in (by omega)
         have w2:IntKind.i64.wrap ((i:Int) + 1 + 1) = (i:Int) + 1 + 1:=wrap_in (by omega)
         have hf:=cellsL_fr x (i:=i) (by omega)
         have hf2:=cellsL_fr x (i:=i + 1) (by omega)
         rw [upF_drop x (by omega)] at q2
         simp [b1,b2,b4,e1,w1,w2,hf,hf2]
         by_cases ho:x.Fr i < x.Fr (i + 1)
         · rw [if_pos ho] at q2
           rw [if_pos q2] at hu
           subst hu
           simp [ho]
         · rw [if_neg ho] at q2
           simp [ho,w2]
           exact ⟨i + 1,⟨by omega,q2⟩,by omega,by simp⟩
       · have hi7:i = 7:=by omega
         subst hi7
         rw [q2,upF_end] at hu
         simp at hu
         subst hu
         simp
end Go.Proofs.YtpmmnnaaoideeaaGreat

/- What is wrong with a constraint. -/
namespace Go.Proofs.YtpmmnnaaoideeaaGreat
open Go Go.Am
def outN (n:Int) (x:Int):Bool:=decide (x < 0) || decide (n ≤ x)
set_option maxHeartbeats 4000000 in
set_option maxRecDepth 10000 in
theorem c38 (l:List Int) (m:Nat) (hm:l.length = m) (hlen:m < 9223372036854775807) (n:Int):CFun Tryz.prog 84 [.int .i64 n,.sl 1 (l.map encI) .sh] [] (.bool (!(l.any (outN n)))) []:=by
 refine CFun.intro (tr:=[]) (fz:=[]) (n:=21) (rs:=[.tmp 4]) Tryz.func84 rfl (by kernel_rfl) rfl rfl mixed (by kernel_rfl) (by simp) (by simp) ?_
 generalize hu:l.any (outN n) = u
 simp
 refine LoopK.intro (tr:=[]) mixed (by kernel_rfl) (fun i:Nat=>[(0,.int .i64 n),(7,.sl 1 (l.map encI) .sh),(8,.int .i64 m),(9,.int .i64 i)]) (fun _=>[]) (fun i=>i ≤ m ∧ u = (l.drop i).any (outN n)) (fun i=>m - i) 0 ?_ ?_ ?_
 · simp [← hu]
 · simp [hm]
 · rintro i ⟨h1,h2⟩
   by_cases hi:i < m
   · obtain ⟨x,hx,hd⟩:=get_drop (l:=l) (i:=i) (by omega)
     rw [hd,List.any_cons] at h2
     have w1:IntKind.i64.wrap ((i:Int) + 1) = i + 1:=wrap_in (by omega)
     clear hd
     by_cases a1:x < 0
     · have:outN n x = true:=by simp [outN,a1]
       rw [this,Bool.true_or] at h2
       subst h2
       simp [hi,hm,hx,gE hx,a1]
     by_cases a2:n ≤ x
     · have:outN n x = true:=by simp [outN,a2]
       rw [this,Bool.true_or] at h2
       subst h2
       simp [hi,hm,hx,gE hx,a1,a2]
     · have:outN n x = false:=by simp [outN]; omega
       rw [this,Bool.false_or] at h2
       simp [hi,hm,hx,gE hx,a1,a2,w1]
       exact ⟨i + 1,⟨by omega,h2⟩,by omega,by simp⟩
   · have:i = m:=by omega
     subst this
     rw [List.drop_eq_nil_of_le (by omega)] at h2
     subst h2
     simp [hm]
set_option maxHeartbeats 4000000 in
set_option maxRecDepth 10000 in
theorem c61 (n:Nat) (hn:n ≤ 1000000):CFun Tryz.prog 113 [.sl 0 [] .full,.int .i64 n] [] (.sl 1 [] .own) []:=by
 have w0:IntKind.i64.wrap 0 = 0:=rfl
 by_cases h0:0 < n
 case neg =>
   have:n = 0:=by omega
   subst this
   refine CFun.intro (tr:=[]) (fz:=[]) (n:=27) (rs:=[.tmp 4]) Tryz.func113 rfl (by kernel_rfl) rfl rfl mixed (by kernel_rfl) (by simp) (by simp) ?_
   simp [w0]
 refine CFun.ownRet (cap:=none) (cs:=List.replicate n .undef) ?_ (by intro e; have:=congrArg List.length e; simp at this; omega) (by decide)
 refine CFun.intro (tr:=[100022]) (fz:=[]) (n:=27) (rs:=[.tmp 4]) Tryz.func113 rfl (by kernel_rfl) rfl rfl mixed (by kernel_rfl) (by simp) (by simp) ?_
 have w1:IntKind.i64.wrap (n:Int) = n:=wrap_in (by omega)
 have b1:¬ (n:Int) < 0:=by omega
 have b2:(n:Int) > 0:=by omega
 have b3:0 < (n:Int):=by omega
 have b4:(n:Int) * 8 ≤ 281474976710656:=by omega
 have b5:n * 8 ≤ 140737488355328:=by omega
 have b6:(n:Int) ≤ 140737488355328:=by omega
 have b7:n ≤ 140737488355328:=by omega
 simp [h0,b1,b2,b3,b4,b5,b6,b7,w0,w1]
 exact undef_le 1 n
set_option maxHeartbeats 4000000 in
set_option maxRecDepth 10000 in
theorem c47 (l r:List Int) (n m:Nat) (hn:l.length = n) (hm:r.length = m) (hb:n ≤ 1000) (hc:m ≤ 1000):CFun Tryz.prog 100 [.sl 1 [.sl 1 (l.map encI) .sh,.sl 1 (r.map encI) .sh] .full] [] (.sl 1 ((l ++ r).map encI) .sh) []:=by
 refine CFun.intro (tr:=[31]) (fz:=[]) (n:=36) (rs:=[.tmp 2]) Tryz.func100 rfl (by kernel_rfl) rfl rfl mixed (by kernel_rfl) (by simp) (by simp) ?_
 have w1:IntKind.i64.wrap ((n:Int)) = n:=wrap_in (by omega)
 have w2:IntKind.i64.wrap ((n:Int) + m) = (n:Int) + m:=wrap_in (by omega)
 have b1:¬ (n:Int) < 0:=by omega
 have b2:¬ (n:Int) + m < 0:=by omega
 simp
 refine LoopK.intro (tr:=[31]) mixed (by kernel_rfl) (fun i:Nat=>[(0,.sl 1 [.sl 1 (l.map encI) .sh,.sl 1 (r.map encI) .sh] .full),(3,.int .i64 (if i = 0 then 0 else if i = 1 then (n:Int) else n + m)),(9,.sl 1 [.sl 1 (l.map encI) .sh,.sl 1 (r.map encI) .sh] .full),(10,.int .i64 2),(11,.int .i64 i)]) (fun _=>[]) (fun i=>i ≤ 2) (fun i=>2 - i) 0 ?_ ?_ ?_
 · simp
 · simp
 · intro i hi
   have:i = 0 ∨ i = 1 ∨ i = 2:=by omega
   rcases this with rfl | rfl | rfl
   · simp [hn,w1,b1]
     exact ⟨1,by omega,by omega,by simp; decide⟩
   · simp [hm,w2,b2]
     exact ⟨2,by omega,by omega,by simp; decide⟩
   · have h:=fun H=>(c61 (n + m) (by omega)).up' H rfl rfl
     simp
     refine ⟨_,_,.inl (by simpa using h _),by simp,?_⟩
     simp
     refine LoopK.intro (tr:=[31]) mixed (by kernel_rfl) (fun i:Nat=>[(6,.sl 1 ((if i = 0 then [] else if i = 1 then l else l ++ r).map encI) .own),(25,.sl 1 [.sl 1 (l.map encI) .sh,.sl 1 (r.map encI) .sh] .full),(26,.int .i64 2),(27,.int .i64 i)]) (fun _=>[]) (fun i=>i ≤ 2) (fun i=>2 - i) 0 ?_ ?_ ?_
     · simp
     · simp
     · intro i hi
       have:i = 0 ∨ i = 1 ∨ i = 2:=by omega
       rcases this with rfl | rfl | rfl
       · have s1:n ≤ 140737488355328:=by omega
         have s2:n * 8 ≤ 140737488355328:=by omega
         simp [hn,s1,s2]
         exact ⟨1,by omega,by omega,by simp; decide⟩
       · have s1:n + m ≤ 140737488355328:=by omega
         have s2:(n + m) * 8 ≤ 140737488355328:=by omega
         simp [hn,hm,s1,s2]
         exact ⟨2,by omega,by omega,by simp; decide⟩
       · simp
end Go.Proofs.YtpmmnnaaoideeaaGreat

/- Check. -/
namespace Go.Proofs.YtpmmnnaaoideeaaGreat
open Go Go.Am
def conE (n:Int) (c:Con):Int :=
 if c.Band < 0 ∨ 1099511627776 < c.Band ∨ c.Setup < 0 ∨ 7 < c.Setup ∨ c.Hold < 0 ∨ 7 < c.Hold ∨ c.Hops < 0 then 5 else if c.Setup < c.Hold then 1
 else if 64 < c.Avoid.length ∨ 64 < c.Thru.length then 4 else if (c.Avoid.any (outN n) || c.Thru.any (outN n)) = true then 5 else 0
set_option maxHeartbeats 4000000 in
set_option maxRecDepth 10000 in
theorem c28 (c:Con) (n:Int) (hn:inI (n - 1)) (p q:Nat) (hp:c.Avoid.length = p) (hq:c.Thru.length = q) (hp2:p < 9223372036854775807) (hq2:q < 9223372036854775807):CFun Tryz.prog 88 [.int .i64 n,encC c] [] (.int .i64 (conE n c)) []:=by
 refine CFun.intro (tr:=[]) (fz:=[]) (n:=59) (rs:=[.tmp 4]) Tryz.func88 rfl (by kernel_rfl) rfl rfl mixed (by kernel_rfl) (by simp) (by simp) ?_
 have h1:=fun a b c H=>(c23 a b c).up' H rfl rfl
 have w1:IntKind.i64.wrap (n - 1) = n - 1:=wrap_in hn
 generalize hu:conE n c = u
 unfold conE at hu
 rw [hp,hq] at hu
 simp
 refine ⟨_,_,.inl (by simpa using h1 _ _ _ _),by simp,?_⟩
 by_cases g1:c.Band < 0 ∨ 1099511627776 < c.Band
 · rw [if_pos (by omega)] at hu
   subst hu
   simp [g1]
 have g1':¬ c.Band < 0 ∧ ¬ 1099511627776 < c.Band:=by omega
 simp [g1']
 refine ⟨_,_,.inl (by simpa using h1 _ _ _ _),by simp,?_⟩
 by_cases g2:c.Setup < 0 ∨ 7 < c.Setup
 · rw [if_pos (by omega)] at hu
   subst hu
   simp [g2]
 have g2':¬ c.Setup < 0 ∧ ¬ 7 < c.Setup:=by omega
 simp [g2']
 refine ⟨_,_,.inl (by simpa using h1 _ _ _ _),by simp,?_⟩
 by_cases g3:c.Hold < 0 ∨ 7 < c.Hold
 · rw [if_pos (by omega)] at hu
   subst hu
   simp [g3]
 have g3':¬ c.Hold < 0 ∧ ¬ 7 < c.Hold:=by omega
 by_cases g4:c.Hops < 0
 · rw [if_pos (by omega)] at hu
   subst hu
   simp [g3',g4]
 rw [if_neg (by omega)] at hu
 by_cases g5:c.Setup < c.Hold
 · rw [if_pos g5] at hu
   subst hu
   simp [g3',g4,g5]
 rw [if_neg g5] at hu
 by_cases g6:64 < p
 · have g6i:¬ (p:Int) ≤ 64:=by omega
   have g6j:64 < (p:Int):=by omega
   rw [if_pos (.inl g6)] at hu
   subst hu
   simp [g3',g4,g5,hp,g6,g6i,g6j]
 have g6i:(p:Int) ≤ 64:=by omega
 have g6j:¬ 64 < (p:Int):=by omega
 by_cases g7:64 < q
 · have g7i:¬ (q:Int) ≤ 64:=by omega
   have g7j:64 < (q:Int):=by omega
   rw [if_pos (.inr g7)] at hu
   subst hu
   simp [g3',g4,g5,hp,hq,g6,g7,g6i,g6j,g7i,g7j]
 have g7i:(q:Int) ≤ 64:=by omega
 have g7j:¬ 64 < (q:Int):=by omega
 rw [if_neg (by omega)] at hu
 rw [← List.any_append] at hu
 have hmb:p + q ≤ 1000000:=by omega
 have h2:=fun H=>(c47 c.Avoid c.Thru p q hp hq (by omega) (by omega)).up' H (by simp [noid,noid0]) rfl
 have hm:(c.Avoid ++ c.Thru).length = p + q:=by simp [hp,hq]
 generalize c.Avoid ++ c.Thru = l at *
 generalize p + q = m at *
 have r2:[0,1] = List.range 2:=rfl
 simp [r2,g3',g4,g5,hp,hq,g6,g7,g6i,g6j,g7i,g7j]
 refine ⟨_,_,.inl (by simpa using h2 _),by simp,?_⟩
 simp [hm]
 refine LoopK.intro (tr:=[]) mixed (by kernel_rfl) (fun i:Nat=>[(0,.int .i64 n),(48,.sl 1 (l.map encI) .sh),(49,.int .i64 m),(50,.int .i64 i)]) (fun _=>[]) (fun i=>i ≤ m ∧ l.any (outN n) = (l.drop i).any (outN n)) (fun i=>m - i) 0 ?_ ?_ ?_
 · simp
 · simp
 · rintro i ⟨q1,q2⟩
   by_cases hi:i < m
   · obtain ⟨x,hx,hd⟩:=get_drop (l:=l) (i:=i) (by omega)
     rw [hd,List.any_cons] at q2
     have w2:IntKind.i64.wrap ((i:Int) + 1) = i + 1:=wrap_in (by omega)
     clear hd
     simp [hi,hm,hx,gE hx,w1]
     refine ⟨_,_,.inl (by simpa using h1 _ _ _ _),by simp,?_⟩
     by_cases ho:x < 0 ∨ n - 1 < x
     · have e:outN n x = true:=by simp [outN]; omega
       rw [e,Bool.true_or] at q2
       rw [if_pos q2] at hu
       subst hu
       simp [ho]
     · have e:outN n x = false:=by simp [outN]; omega
       rw [e,Bool.false_or] at q2
       have ho':¬ x < 0 ∧ ¬ n - 1 < x:=by omega
       simp [ho',w2]
       exact ⟨i + 1,⟨by omega,q2⟩,by omega,by simp⟩
   · have:i = m:=by omega
     subst this
     rw [List.drop_eq_nil_of_le (by omega)] at q2
     rw [q2] at hu
     simp at hu
     subst hu
     simp
set_option maxHeartbeats 4000000 in
set_option maxRecDepth 10000 in
theorem c30 (c:Con) (n:Int) (p q:Nat) (hp:c.Avoid.length = p) (hq:c.Thru.length = q) (hp2:p < 9223372036854775807) (hq2:q < 9223372036854775807):CFun Tryz.prog 56 [.int .i64 n,encC c] [] (.int .i64 (conE n c)) []:=by
 refine CFun.intro (tr:=[]) (fz:=[]) (n:=69) (rs:=[.tmp 4]) Tryz.func56 rfl (by kernel_rfl) rfl rfl mixed (by kernel_rfl) (by simp) (by simp) ?_
 have h1:=fun H=>(c38 c.Avoid p hp hp2 n).up' H (by simp [noid,noid0]) rfl
 have h2:=fun H=>(c38 c.Thru q hq hq2 n).up' H (by simp [noid,noid0]) rfl
 generalize hu:conE n c = u
 unfold conE at hu
 rw [hp,hq] at hu
 by_cases g1:c.Band < 0
 · rw [if_pos (by omega)] at hu
   subst hu
   simp [g1]
 by_cases g2:1099511627776 < c.Band
 · rw [if_pos (by omega)] at hu
   subst hu
   simp [g1,g2]
 by_cases g3:c.Setup < 0
 · rw [if_pos (by omega)] at hu
   subst hu
   simp [g1,g2,g3]
 by_cases g4:7 < c.Setup
 · rw [if_pos (by omega)] at hu
   subst hu
   simp [g1,g2,g3,g4]
 by_cases g5:c.Hold < 0
 · rw [if_pos (by omega)] at hu
   subst hu
   simp [g1,g2,g3,g4,g5]
 by_cases g6:7 < c.Hold
 · rw [if_pos (by omega)] at hu
   subst hu
   simp [g1,g2,g3,g4,g5,g6]
 by_cases g7:c.Hops < 0
 · rw [if_pos (by omega)] at hu
   subst hu
   simp [g1,g2,g3,g4,g5,g6,g7]
 rw [if_neg (by omega)] at hu
 by_cases g8:c.Setup < c.Hold
 · rw [if_pos g8] at hu
   subst hu
   simp [g1,g2,g3,g4,g5,g6,g7,g8]
 rw [if_neg g8] at hu
 by_cases g9:64 < p
 · have g9i:¬ (p:Int) ≤ 64:=by omega
   have g9j:64 < (p:Int):=by omega
   rw [if_pos (.inl g9)] at hu
   subst hu
   simp [g1,g2,g3,g4,g5,g6,g7,g8,hp,g9,g9i,g9j]
 have g9i:(p:Int) ≤ 64:=by omega
 have g9j:¬ 64 < (p:Int):=by omega
 by_cases g10:64 < q
 · have g10i:¬ (q:Int) ≤ 64:=by omega
   have g10j:64 < (q:Int):=by omega
   rw [if_pos (.inr g10)] at hu
   subst hu
   simp [g1,g2,g3,g4,g5,g6,g7,g8,hp,hq,g9,g10,g9i,g9j,g10i,g10j]
 have g10i:(q:Int) ≤ 64:=by omega
 have g10j:¬ 64 < (q:Int):=by omega
 rw [if_neg (by omega)] at hu
 generalize c.Avoid.any (outN n) = a1 at *
 generalize c.Thru.any (outN n) = a2 at *
 simp [g1,g2,g3,g4,g5,g6,g7,g8,hp,hq,g9,g10,g9i,g9j,g10i,g10j]
 refine ⟨_,_,.inl (by simpa using h1 _),by simp,?_⟩
 cases a1 with
 | true =>
   simp at hu
   subst hu
   simp
 | false =>
   simp
   refine ⟨_,_,.inl (by simpa using h2 _),by simp,?_⟩
   cases a2 <;> simp at hu <;> subst hu <;> simp
end Go.Proofs.YtpmmnnaaoideeaaGreat

/- Check of links and a constraint. -/
namespace Go.Proofs.YtpmmnnaaoideeaaGreat
open Go Go.Am
def befL (p:Option Lnk) (x:Lnk):Bool:=match p with
 | some y=>decide (x.From < y.From) || (decide (y.From = x.From) && decide (x.To ≤ y.To))
 | none=>false
def linksE (n:Int):Option Lnk → List Lnk → Int
 | _,[]=>0
 | p,x :: xs=>if linkE n x ≠ 0 then linkE n x else if befL p x = true then 16 else linksE n (some x) xs
def checkE (n:Int) (l:List Lnk) (c:Con):Int :=
 if n < 1 ∨ 128 < n then 5 else if 1024 < l.length then 4 else if linksE n none l ≠ 0 then linksE n none l else conE n c
def prevL (l:List Lnk):Nat → Option Lnk
 | 0=>none
 | i + 1=>l[i]?
set_option maxHeartbeats 4000000 in
set_option maxRecDepth 10000 in
theorem c12 (l:List Lnk) (m:Nat) (hm:l.length = m) (hm2:m < 9223372036854775807) (c:Con) (n:Int) (p q:Nat) (hp:c.Avoid.length = p) (hq:c.Thru.length = q) (hp2:p < 9223372036854775807) (hq2:q < 9223372036854775807) :
   CFun Tryz.prog 63 [.int .i64 n,.sl 13 (l.map encL) .sh,encC c] [] (.int .i64 (checkE n l c)) []:=by
 refine CFun.intro (tr:=[]) (fz:=[]) (n:=67) (rs:=[.tmp 6]) Tryz.func63 rfl (by kernel_rfl) rfl rfl mixed (by kernel_rfl) (by simp) (by simp) ?_
 have h1:=fun a b c H=>(c23 a b c).up' H rfl rfl
 generalize hu:checkE n l c = u
 unfold checkE at hu
 rw [hm] at hu
 simp
 refine ⟨_,_,.inl (by simpa using h1 _ _ _ _),by simp,?_⟩
 by_cases g1:n < 1 ∨ 128 < n
 · rw [if_pos g1] at hu
   subst hu
   simp [g1]
 rw [if_neg g1] at hu
 have g1':¬ n < 1 ∧ ¬ 128 < n:=by omega
 by_cases g2:1024 < m
 · rw [if_pos g2] at hu
   have g2i:1024 < (m:Int):=by omega
   have g2j:¬ (m:Int) ≤ 1024:=by omega
   subst hu
   simp [g1',hm,g2,g2i,g2j]
 rw [if_neg g2] at hu
 have g2i:¬ 1024 < (m:Int):=by omega
 have g2j:(m:Int) ≤ 1024:=by omega
 have hin:inI (n - 1):=by unfold inI; omega
 have h2:=fun x H=>(c27 x n hin).up' H rfl rfl
 have h3:=fun H=>(c28 c n hin p q hp hq hp2 hq2).up' H (by simp [noid,noid0]) rfl
 simp [g1',hm,g2,g2i,g2j]
 refine LoopK.intro (tr:=[]) mixed (by kernel_rfl) (fun i:Nat=>[(0,.int .i64 n),(1,.sl 13 (l.map encL) .sh),(5,.ptr 0 0),(15,.sl 13 (l.map encL) .sh),(16,.int .i64 m),(17,.int .i64 i)]) (fun _=>[cellsC c]) (fun i=>i ≤ m ∧ linksE n none l = linksE n (prevL l i) (l.drop i)) (fun i=>m - i) 0 ?_ ?_ ?_
 · simp [prevL]
 · simp [hm]
 · rintro i ⟨q1,q2⟩
   by_cases hi:i < m
   · obtain ⟨x,hx,hd⟩:=get_drop (l:=l) (i:=i) (by omega)
     rw [hd] at q2
     simp only [linksE] at q2
     have w2:IntKind.i64.wrap ((i:Int) + 1) = i + 1:=wrap_in (by omega)
     clear hd
     simp [hi,hm,hx,gE hx]
     refine ⟨_,_,.inl (by simpa using h2 _ _),by simp,?_⟩
     by_cases ho:linkE n x = 0
     · rw [if_neg (by simpa using ho)] at q2
       have done:linksE n none l = linksE n (prevL l (i + 1)) (l.drop (i + 1)) → i + 1 ≤ m ∧ linksE n none l = linksE n (prevL l (i + 1)) (l.drop (i + 1)):=fun h=>⟨by omega,h⟩
       have hp1:prevL l (i + 1) = some x:=hx
       rw [hp1] at done
       cases i with
       | zero =>
         simp only [prevL,befL] at q2
         simp only [Bool.false_eq_true,if_false] at q2
         simp [ho]
         exact ⟨1,by rw [hp1]; exact done q2,by omega,by simp; rfl⟩
       | succ i =>
         have hy:∃ y,l[i]? = some y:=⟨l[i]'(by omega),List.getElem?_eq_getElem (by omega)⟩
         obtain ⟨y,hy⟩:=hy
         have w3:IntKind.i64.wrap (((i + 1:Nat):Int) - 1) = i:=by rw [wrap_in] <;> omega
         have w3':IntKind.i64.wrap ((i:Int)) = i:=wrap_in (by omega)
         have b1:(0:Int) < (i:Int) + 1:=by omega
         have b2:i < m:=by omega
         simp only [prevL,hy,befL] at q2
         have e1:((i:Int) + 1 + 1).toNat = i + 2:=by omega
         by_cases a1:x.From < y.From
         · simp [a1] at q2
           rw [q2] at hu
           simp at hu
           subst hu
           simp [ho,w3,w3',b1,b2,hy,gE hy,a1]
         by_cases a2:y.From = x.From
         · by_cases a3:x.To ≤ y.To
           · simp [a1,a2,a3] at q2
             rw [q2] at hu
             simp at hu
             subst hu
             simp [ho,w3,w3',b1,b2,hy,gE hy,a1,a2,a3]
           · simp [a1,a2,a3] at q2
             simp [ho,w3,w3',b1,b2,hy,gE hy,a1,a2,a3]
             simp at w2
             simp [w2]
             exact ⟨i + 2,by rw [hp1]; exact done q2,by omega,by simp; omega⟩
         · simp [a1,a2] at q2
           simp [ho,w3,w3',b1,b2,hy,gE hy,a1,a2]
           simp at w2
           simp [w2]
           exact ⟨i + 2,by rw [hp1]; exact done q2,by omega,by simp; omega⟩
     · rw [if_pos (by simpa using ho)] at q2
       rw [q2,if_pos (by simpa using ho)] at hu
       subst hu
       simp [ho]
   · have:i = m:=by omega
     subst this
     rw [List.drop_eq_nil_of_le (by omega)] at q2
     simp only [linksE] at q2
     rw [q2] at hu
     simp at hu
     subst hu
     simp [hm]
     refine ⟨_,_,.inl (by simpa using h3 _),by simp,?_⟩
     simp
end Go.Proofs.YtpmmnnaaoideeaaGreat
