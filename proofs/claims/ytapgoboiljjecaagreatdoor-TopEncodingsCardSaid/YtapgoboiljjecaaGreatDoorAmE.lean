/- The abstract machine, part five: arithmetic, comparisons, conversions. -/
import Derived.Laws.BytesArg
import Derived.Laws.Strings
import Derived.Test.YtapgoboiljjecaaGreatDoorAmD
import Derived.Laws.StructEq
import Derived.ChangeKeysEq
namespace Go.Am
open Go
set_option linter.unusedSectionVars false
variable [Globs]
def abit (op:BinOp) (k:IntKind) (a b:Int):Option AVal :=
 match op with
 | .and=>some (.int k (k.wrap ((BitVec.ofInt k.bits a &&& BitVec.ofInt k.bits b).toNat:Int)))
 | .or=>some (.int k (k.wrap ((BitVec.ofInt k.bits a ||| BitVec.ofInt k.bits b).toNat:Int)))
 | .xor=>some (.int k (k.wrap ((BitVec.ofInt k.bits a ^^^ BitVec.ofInt k.bits b).toNat:Int)))
 | .andNot=>some (.int k (k.wrap ((BitVec.ofInt k.bits a &&& ~~~ BitVec.ofInt k.bits b).toNat:Int)))
 | _=>none
def aint (op:BinOp) (k:IntKind) (a b:Int):Option AVal :=
 match op with
 | .add=>some (.int k (k.wrap (a + b)))
 | .sub=>some (.int k (k.wrap (a - b)))
 | .mul=>some (.int k (k.wrap (a * b)))
 | .quo=>if b = 0 then none else some (.int k (k.wrap (a.tdiv b)))
 | .rem=>if b = 0 then none else some (.int k (a.tmod b))
 | .eql=>some (.bool (a == b))
 | .neq=>some (.bool (a != b))
 | .lss=>some (.bool (decide (a < b)))
 | .leq=>some (.bool (decide (a ≤ b)))
 | .gtr=>some (.bool (decide (a > b)))
 | .geq=>some (.bool (decide (a ≥ b)))
 | op=>abit op k a b
def ashift (op:BinOp) (k:IntKind) (a b:Int):Option AVal :=
 if b < 0 then none else match op with
 | .shl=>some (.int k (k.wrap (a * 2 ^ (min b.toNat k.bits))))
 | .shr=>some (.int k (a.fdiv (2 ^ (min b.toNat k.bits))))
 | _=>none
def BinOp.isShift:BinOp → Bool
 | .shl | .shr=>true
 | _=>false
def acmp:List Bool → List AVal → List AVal → Option Bool
 | [],[],[]=>some true
 | true :: l,.int k a :: xs,.int k' b :: ys=>if k = k' then (acmp l xs ys).map fun r=>(a == b) && r else none
 | false :: l,.bool a :: xs,.bool b :: ys=>(acmp l xs ys).map fun r=>(a == b) && r
 | _,_,_=>none
def flatFs (P:Program) (g:TypeId → Option (List Bool)):Nat → List Field → Option (List Bool)
 | _,[]=>some []
 | off,f :: fs =>
   if f.name = "_" ∨ f.offset ≠ off then none else
   match g f.type,tk P f.type with
   | some l,some (_,sz)=>if sz = l.length then (flatFs P g (off + sz) fs).map fun r=>l ++ r else none
   | _,_=>none
def flat (P:Program):Nat → TypeId → Option (List Bool)
 | 0,_=>none
 | d + 1,t =>
   match P.underlying t with
   | some .bool=>some [false]
   | some (.int _)=>some [true]
   | some (.struct fs)=>if P.stoodInHeld t = true then none else flatFs P (flat P d) 0 fs.toList
   | some (.array m e)=>if d = 0 then none else match P.underlying e,tk P e with
     | some (.int _),some (false,1)=>some (List.replicate m true)
     | _,_=>none
   | _=>none
def feq (P:Program) (t:TypeId):Option (List Bool) :=
 if P.eqGuardType P.depth t = true then none else
 match tk P t,flat P 6 t with
 | some (true,k),some l=>if k = l.length then some l else none
 | _,_=>none
def tpt (P:Program) (t:TypeId):Bool:=match P.underlying t with
 | some (.pointer _)=>true
 | _=>false
def apn (q:Bool) (e:Bool):BinOp → Option AVal
 | .eql=>if q = true then some (.bool e) else none
 | .neq=>if q = true then some (.bool (!e)) else none
 | _=>none
def abin (P:Program) (op:BinOp) (t:TypeId) (x y:AVal):Option AVal :=
 match x,y with
 | .int k a,.int k' b=>if BinOp.isShift op = true then ashift op k a b else if k = k' then aint op k a b else none
 | .bool a,.bool b=>match op,P.underlying t with
   | .eql,some .bool=>some (.bool (a == b))
   | .neq,some .bool=>some (.bool (!(a == b)))
   | _,_=>none
 | .agg xs,.agg ys=>match feq P t with
   | some l=>match op with
     | .eql=>(acmp l xs ys).map .bool
     | .neq=>(acmp l xs ys).map fun r=>.bool (!r)
     | _=>none
   | none=>none
 | .str a,.str b=>if isBytes a = true ∧ isBytes b = true then match op with
   | .eql=>some (.bool (a == b))
   | .neq=>some (.bool (!(a == b)))
   | _=>none
   else none
 | .ptr _ _,.nilp=>apn (tpt P t) false op
 | .iptr _ _,.nilp=>apn (tpt P t) false op
 | .nilp,.nilp=>apn (tpt P t) true op
 | _,_=>none
theorem strOf_data (bs:List Int):strOf bs = ⟨(bs.map fun n=>UInt8.ofNat n.toNat).toArray⟩:=by
 unfold strOf
 rw [foldl_push_bytes]
 simp
theorem map_u8_inj:∀ (a b:List Int),isBytes a = true → isBytes b = true → (a.map fun n=>UInt8.ofNat n.toNat) = (b.map fun n=>UInt8.ofNat n.toNat) → a = b
 | [],[],_,_,_=>rfl
 | [],_ :: _,_,_,h=>by simp at h
 | _ :: _,[],_,_,h=>by simp at h
 | x :: a,y :: b,ha,hb,h=>by
   simp only [isBytes,List.all_cons,Bool.and_eq_true,decide_eq_true_eq] at ha hb
   simp only [List.map_cons,List.cons.injEq] at h
   have e:=congrArg UInt8.toNat h.1
   have e1:(UInt8.ofNat x.toNat).toNat = x.toNat:=by simp [UInt8.toNat,UInt8.ofNat]; omega
   have e2:(UInt8.ofNat y.toNat).toNat = y.toNat:=by simp [UInt8.toNat,UInt8.ofNat]; omega
   rw [e1,e2] at e
   have:x = y:=by omega
   rw [this,map_u8_inj a b ha.2 hb.2 h.2]
theorem strOf_beq (a b:List Int) (ha:isBytes a = true) (hb:isBytes b = true):((strOf a).toList == (strOf b).toList) = (a == b):=by
 have e:((strOf a).toList = (strOf b).toList) ↔ a = b:=by
   rw [strOf_data,strOf_data]
   constructor
   · intro h
     rw [ByteArray.toList_eq,ByteArray.toList_eq] at h
     exact map_u8_inj a b ha hb (by simpa using h)
   · intro h; rw [h]
 by_cases h:a = b
 · subst h; rw [beq_self_eq_true,beq_self_eq_true]
 · have h':¬ (strOf a).toList = (strOf b).toList:=fun q=>h (e.1 q)
   rw [beq_eq_false_iff_ne.2 h,beq_eq_false_iff_ne.2 h']
section
variable {P:Program} {n:Nat} {r:Nat → Nat × Nat} {F:Frz} {w:World}
theorem abit_sound {op:BinOp} {k:IntKind} {a b:Int} {x:AVal} (h:abit op k a b = some x):∃ u,(Op.intBits op k a b).run P w = .ok u w ∧ Rep n r F x u ∧ x.isOwn = false:=by
 unfold abit at h
 split at h <;> first | (injection h with h; subst h; exact ⟨_,rfl,.tree _ _ (.int _ _),rfl⟩) | cases h
theorem binInt_sound {op:BinOp} {t:TypeId} {k k':IntKind} {a b:Int} {x:AVal} (h:abin P op t (.int k a) (.int k' b) = some x) :
   ∃ u,(binOp op t (.int k a) (.int k' b)).run P w = .ok u w ∧ Rep n r F x u ∧ x.isOwn = false:=by
 simp only [abin] at h
 split at h
 · rename_i hs
   unfold ashift at h
   split at h
   · cases h
   · rename_i hb
     cases op <;> simp [BinOp.isShift] at hs <;> simp only at h <;> (injection h with h; subst h; exact ⟨_,by simp [binOp,Op.shift,hb] <;> rfl,.tree _ _ (.int _ _),rfl⟩)
 · rename_i hs
   split at h
   · rename_i hk
     subst hk
     cases op <;> first
       | (simp [BinOp.isShift] at hs; done)
       | (simp only [aint] at h
          obtain ⟨u,h1,h2,h3⟩:=abit_sound (P:=P) (n:=n) (r:=r) (F:=F) (w:=w) h
          refine ⟨u,?_,h2,h3⟩
          simp only [binOp,ne_eq,not_true_eq_false,if_false]
          exact h1)
       | (simp only [aint] at h
          split at h
          · cases h
          · rename_i hb; injection h with h; subst h; exact ⟨_,by simp [binOp,Op.intDiv,hb] <;> rfl,.tree _ _ (.int _ _),rfl⟩)
       | (simp only [aint] at h; injection h with h; subst h; exact ⟨_,by simp [binOp,Op.intArith] <;> rfl,.tree _ _ (.int _ _),rfl⟩)
       | (simp only [aint] at h; injection h with h; subst h; exact ⟨_,by simp [binOp,Op.intCmp] <;> rfl,.tree _ _ (.bool _),rfl⟩)
   · cases h
def vcmp:List Bool → List Value → List Value → Option Bool
 | [],[],[]=>some true
 | true :: l,.int k a :: xs,.int k' b :: ys=>if k = k' then (vcmp l xs ys).map fun r=>(a == b) && r else none
 | false :: l,.bool a :: xs,.bool b :: ys=>(vcmp l xs ys).map fun r=>(a == b) && r
 | _,_,_=>none
theorem vcmp_append:∀ (l l':List Bool) (xs ys xs' ys':List Value),xs.length = l.length → ys.length = l.length → ∀ q,vcmp (l ++ l') (xs ++ xs') (ys ++ ys') = some q →
   ∃ q1 q2,vcmp l xs ys = some q1 ∧ vcmp l' xs' ys' = some q2 ∧ q = (q1 && q2):=by
 intro l
 induction l with
 | nil =>
   intro l' xs ys xs' ys' h1 h2 q h
   have:xs = []:=List.eq_nil_of_length_eq_zero (by simpa using h1)
   have:ys = []:=List.eq_nil_of_length_eq_zero (by simpa using h2)
   subst_vars
   exact ⟨true,q,rfl,h,by simp⟩
 | cons e l ih =>
   intro l' xs ys xs' ys' h1 h2 q h
   cases xs with
   | nil=>simp at h1
   | cons x xs=>cases ys with
     | nil=>simp at h2
     | cons y ys =>
       simp only [List.cons_append] at h
       unfold vcmp at h
       split at h
       · rename_i e1 _ _; cases e1
       · rename_i k a _ k' b _ e0 e1 e2
         injection e0 with e0 e0'
         injection e1 with e1 e1'
         injection e2 with e2 e2'
         subst e0 e0' e1 e1' e2 e2'
         split at h
         · rename_i hk
           rw [Option.map_eq_some_iff] at h
           obtain ⟨q',h,hq⟩:=h
           obtain ⟨q1,q2,g1,g2,g3⟩:=ih l' xs ys xs' ys' (by simpa using h1) (by simpa using h2) q' h
           exact ⟨(a == b) && q1,q2,by simp [vcmp,hk,g1],g2,by rw [← hq,g3,Bool.and_assoc]⟩
         · cases h
       · rename_i a _ b _ e0 e1 e2
         injection e0 with e0 e0'
         injection e1 with e1 e1'
         injection e2 with e2 e2'
         subst e0 e0' e1 e1' e2 e2'
         rw [Option.map_eq_some_iff] at h
         obtain ⟨q',h,hq⟩:=h
         obtain ⟨q1,q2,g1,g2,g3⟩:=ih l' xs ys xs' ys' (by simpa using h1) (by simpa using h2) q' h
         exact ⟨(a == b) && q1,q2,by simp [vcmp,g1],g2,by rw [← hq,g3,Bool.and_assoc]⟩
       · cases h
theorem vcmp_len:∀ (l:List Bool) (xs ys:List Value) (q:Bool),vcmp l xs ys = some q → xs.length = l.length ∧ ys.length = l.length:=by
 intro l
 induction l with
 | nil=>intro xs ys q h; unfold vcmp at h; split at h <;> first | exact ⟨rfl,rfl⟩ | (rename_i e; cases e) | cases h
 | cons e l ih =>
   intro xs ys q h
   unfold vcmp at h
   split at h
   · rename_i e; cases e
   · rename_i e0
     injection e0 with e0 e0'
     subst e0'
     split at h
     · rw [Option.map_eq_some_iff] at h
       obtain ⟨q',h,_⟩:=h
       have:=ih _ _ _ h
       simp [this]
     · cases h
   · rename_i e0
     injection e0 with e0 e0'
     subst e0'
     rw [Option.map_eq_some_iff] at h
     obtain ⟨q',h,_⟩:=h
     have:=ih _ _ _ h
     simp [this]
   · cases h
theorem acmp_vcmp:∀ (l:List Bool) (xs ys:List AVal) (vs us:List Value),vs.length = xs.length → us.length = ys.length →
   (∀ (i:Nat) (x:AVal) (v:Value),xs[i]? = some x → vs[i]? = some v → Rep n r F x v) → (∀ (i:Nat) (x:AVal) (v:Value),ys[i]? = some x → us[i]? = some v → Rep n r F x v) →
   ∀ q,acmp l xs ys = some q → vcmp l vs us = some q:=by
 intro l
 induction l with
 | nil =>
   intro xs ys vs us h1 h2 hx hy q h
   unfold acmp at h
   split at h
   · have:vs = []:=List.eq_nil_of_length_eq_zero (by simpa using h1)
     have:us = []:=List.eq_nil_of_length_eq_zero (by simpa using h2)
     subst_vars
     exact h
   · rename_i e; cases e
   · rename_i e; cases e
   · cases h
 | cons e l ih =>
   intro xs ys vs us h1 h2 hx hy q h
   unfold acmp at h
   split at h
   · rename_i e0; cases e0
   · rename_i _ k a xs k' b ys e0
     injection e0 with e0 e0'
     subst e0 e0'
     cases vs with
     | nil=>simp at h1
     | cons v vs=>cases us with
       | nil=>simp at h2
       | cons u us =>
         have e1:=(hx 0 _ v rfl rfl).int_inv
         have e2:=(hy 0 _ u rfl rfl).int_inv
         subst e1 e2
         split at h
         · rename_i hk
           rw [Option.map_eq_some_iff] at h
           obtain ⟨q',h,hq⟩:=h
           simp only [vcmp,hk,if_true]
           rw [ih xs ys vs us (by simpa using h1) (by simpa using h2) (fun i x v ha hb=>hx (i + 1) x v ha hb) (fun i x v ha hb=>hy (i + 1) x v ha hb) q' h,← hq]
           rfl
         · cases h
   · rename_i _ a xs b ys e0
     injection e0 with e0 e0'
     subst e0 e0'
     cases vs with
     | nil=>simp at h1
     | cons v vs=>cases us with
       | nil=>simp at h2
       | cons u us =>
         have e1:=(hx 0 _ v rfl rfl).bool_inv
         have e2:=(hy 0 _ u rfl rfl).bool_inv
         subst e1 e2
         rw [Option.map_eq_some_iff] at h
         obtain ⟨q',h,hq⟩:=h
         simp only [vcmp]
         rw [ih xs ys vs us (by simpa using h1) (by simpa using h2) (fun i x v ha hb=>hx (i + 1) x v ha hb) (fun i x v ha hb=>hy (i + 1) x v ha hb) q' h,← hq]
         rfl
   · cases h
theorem tk_size {t:TypeId} {q:Bool × Nat} (h:tk P t = some q):∃ i,P.info? t = some i ∧ i.size = q.2:=by
 unfold tk at h
 split at h <;> first | (injection h with h; subst h; exact ⟨_,by assumption,rfl⟩) | cases h
theorem tk_agg {t:TypeId} {q:Bool × Nat} (h:tk P t = some q):(isAgg t).run P w = .ok q.1 w:=by
 unfold tk at h
 split at h
 · rename_i hu _; injection h with h; subst h; simp [isAgg,run_underlying hu]
 · rename_i hu _; injection h with h; subst h; simp [isAgg,run_underlying hu]
 · rename_i d i hn1 hn2 hu _
   injection h with h
   subst h
   unfold isAgg
   simp only [Sem.run_bind,run_underlying hu,Result.andThen_ok]
   cases d <;> first | rfl | exact (hn1 _ rfl).elim | exact (hn2 _ _ rfl).elim
 · cases h
theorem tk_scalar {t:TypeId} {q:Bool × Nat} (h:tk P t = some q) (hs:∀ d,P.underlying t = some d → (∀ fs,d ≠ .struct fs) ∧ ∀ k e,d ≠ .array k e):q.1 = false:=by
 unfold tk at h
 split at h
 · rename_i hu _; exact ((hs _ hu).1 _ rfl).elim
 · rename_i hu _; exact ((hs _ hu).2 _ _ rfl).elim
 · injection h with h; subst h; rfl
 · cases h
theorem run_part {t:TypeId} {q:Bool × Nat} (h:tk P t = some q) (cs:Array Value) (off:Nat) (hq:q.1 = false → off < cs.size) :
   (part t cs off).run P w = .ok (if q.1 = true then .agg (cs.extract off (off + q.2)) else cs.getD off undef) w:=by
 obtain ⟨i,hi,hs⟩:=tk_size h
 unfold part
 simp only [Sem.run_bind,tk_agg h,Result.andThen_ok]
 cases hg:q.1 with
 | true=>simp [run_sizeOf' hi,hs]
 | false =>
   have hlt:=hq hg
   have:cs[off]? = some cs[off]:=Array.getElem?_eq_getElem hlt
   simp only [Bool.false_eq_true,if_false,this]
   simp [Array.getD,hlt]
theorem drop_take_one (xs:Array Value) (off:Nat) (h:off < xs.size):(xs.toList.drop off).take 1 = [xs.getD off undef]:=by
 have:off < xs.toList.length:=by simpa using h
 rw [List.drop_eq_getElem_cons this]
 simp [Array.getD,h]
theorem vcmp_one_int {x y:Value} {q:Bool} (h:vcmp [true] [x] [y] = some q):∃ k a b,x = .int k a ∧ y = .int k b ∧ q = (a == b):=by
 unfold vcmp at h
 split at h
 · rename_i e _ _; cases e
 · rename_i k a _ k' b _ e0 e1 e2
   injection e0 with e0 e0'
   injection e1 with e1 e1'
   injection e2 with e2 e2'
   subst e0' e1' e2'
   split at h
   · rename_i hk
     subst hk
     simp [vcmp] at h
     exact ⟨_,_,_,e1,e2,h.symm⟩
   · cases h
 · rename_i e _ _; injection e with e _; cases e
 · cases h
theorem vcmp_one_bool {x y:Value} {q:Bool} (h:vcmp [false] [x] [y] = some q):∃ a b,x = .bool a ∧ y = .bool b ∧ q = (a == b):=by
 unfold vcmp at h
 split at h
 · rename_i e _ _; cases e
 · rename_i e _ _; injection e with e _; cases e
 · rename_i a _ b _ e0 e1 e2
   injection e0 with e0 e0'
   injection e1 with e1 e1'
   injection e2 with e2 e2'
   subst e0' e1' e2'
   simp [vcmp] at h
   exact ⟨_,_,e1,e2,h.symm⟩
 · cases h
abbrev pv (g:Bool) (k:Nat) (xs:Array Value) (off:Nat):Value:=if g = true then .agg (xs.extract off (off + k)) else xs.getD off undef
theorem eqFields_sound (gf : TypeId → Option (List Bool)) (D : Nat) (tk_one : ∀ t l, gf t = some l → tk P t = some (false, l.length) → l.length = 1) (hrec : ∀ t l, gf t = some l → ∀ g, tk P t = some (g, l.length) → ∀ (xs ys : Array Value) (off : Nat), off + l.length ≤ xs.size → off + l.length ≤ ys.size →
     ∀ q,vcmp l ((xs.toList.drop off).take l.length) ((ys.toList.drop off).take l.length) = some q → (Op.equalIn D t (pv g l.length xs off) (pv g l.length ys off)).run P w = .ok q w) :
   ∀ (fs:List Field) (off:Nat) (l:List Bool),flatFs P gf off fs = some l → ∀ (xs ys:Array Value),off + l.length ≤ xs.size → off + l.length ≤ ys.size →
     ∀ q,vcmp l ((xs.toList.drop off).take l.length) ((ys.toList.drop off).take l.length) = some q → (Op.eqFields D xs ys fs).run P w = .ok q w:=by
 intro fs
 induction fs with
 | nil =>
   intro off l h xs ys hx hy q hq
   simp only [flatFs,Option.some.injEq] at h
   subst h
   simp [vcmp] at hq
   subst hq
   simp [Op.eqFields]
 | cons f fs ih =>
   intro off l h xs ys hx hy q hq
   unfold flatFs at h
   split at h
   · cases h
   rename_i hn
   split at h
   case h_2=>cases h
   rename_i l1 g sz hg hk
   split at h
   case isFalse=>cases h
   rename_i hsz
   subst hsz
   rw [Option.map_eq_some_iff] at h
   obtain ⟨l2,h2,hl⟩:=h
   subst hl
   simp only [List.length_append] at hx hy hq
   have hoff:f.offset = off:=by
     by_cases e:f.offset = off
     · exact e
     · exact (hn (.inr e)).elim
   have hname:f.name ≠ "_":=fun e=>hn (.inl e)
   have split2:∀ (zs:Array Value),(zs.toList.drop off).take (l1.length + l2.length) = (zs.toList.drop off).take l1.length ++ (zs.toList.drop (off + l1.length)).take l2.length:=by
     intro zs
     rw [List.take_add,List.drop_drop]
   rw [split2 xs,split2 ys] at hq
   obtain ⟨q1,q2,v1,v2,v3⟩:=vcmp_append l1 l2 _ _ _ _ (by simp only [List.length_take,List.length_drop,Array.length_toList]; omega) (by simp only [List.length_take,List.length_drop,Array.length_toList]; omega) q hq
   have e1:=hrec f.type l1 hg g hk xs ys off (by omega) (by omega) q1 v1
   have e2:=ih (off + l1.length) l2 h2 xs ys (by omega) (by omega) q2 v2
   have hpx:=run_part (P:=P) (w:=w) hk xs off (fun hgf=>by
     simp only at hgf
     subst hgf
     have:l1.length = 1:=by
       exact tk_one _ _ hg hk
     omega)
   have hpy:=run_part (P:=P) (w:=w) hk ys off (fun hgf=>by
     simp only at hgf
     subst hgf
     have:l1.length = 1:=by
       exact tk_one _ _ hg hk
     omega)
   simp only [Op.eqFields,hname,ne_eq,not_false_eq_true,if_true,Sem.run_bind,hoff,hpx,hpy,Result.andThen_ok]
   rw [e1]
   simp only [Result.andThen_ok]
   cases q1 with
   | false=>simp [v3]
   | true=>simp [v3,e2]
theorem eqItems_ints {D:Nat} {e:TypeId} {k:IntKind} (hu:P.underlying e = some (.int k)) (hk:tk P e = some (false,1)) (xs ys:Array Value):∀ (m s:Nat),s + m ≤ xs.size → s + m ≤ ys.size →
   ∀ q,vcmp (List.replicate m true) ((xs.toList.drop s).take m) ((ys.toList.drop s).take m) = some q → (Op.eqItems (D + 1) e 1 xs ys (List.range' s m)).run P w = .ok q w:=by
 intro m
 induction m with
 | zero =>
   intro s _ _ q hq
   simp [vcmp] at hq
   subst hq
   simp [Op.eqItems]
 | succ m ih =>
   intro s hx hy q hq
   have split2:∀ (zs:Array Value),(zs.toList.drop s).take (m + 1) = (zs.toList.drop s).take 1 ++ (zs.toList.drop (s + 1)).take m:=by
     intro zs
     rw [Nat.add_comm m 1,List.take_add,List.drop_drop]
   rw [split2 xs,split2 ys,show List.replicate (m + 1) true = [true] ++ List.replicate m true from rfl] at hq
   obtain ⟨q1,q2,v1,v2,v3⟩:=vcmp_append [true] _ _ _ _ _ (by simp only [List.length_take,List.length_drop,Array.length_toList,List.length_cons,List.length_nil]; omega) (by simp only [List.length_take,List.length_drop,Array.length_toList,List.length_cons,List.length_nil]; omega) q hq
   rw [drop_take_one xs s (by omega),drop_take_one ys s (by omega)] at v1
   obtain ⟨k',a,b,e1,e2,e3⟩:=vcmp_one_int v1
   have hpx:=run_part (P:=P) (w:=w) hk xs s (fun _=>by omega)
   have hpy:=run_part (P:=P) (w:=w) hk ys s (fun _=>by omega)
   simp only [Bool.false_eq_true,if_false] at hpx hpy
   rw [List.range'_succ]
   simp only [Op.eqItems,Sem.run_bind,Nat.mul_one,hpx,hpy,Result.andThen_ok]
   rw [e1,e2,run_equalIn_int w D e k' k a b hu]
   simp only [Result.andThen_ok]
   have hih:=ih (s + 1) (by omega) (by omega) q2 v2
   rw [← e3]
   cases q1 with
   | false=>simp [v3]
   | true=>simp [v3,hih]
theorem flat_one:∀ (d:Nat) (t:TypeId) (l:List Bool),flat P d t = some l → tk P t = some (false,l.length) → l.length = 1:=by
 intro d t l h hk
 cases d with
 | zero=>simp [flat] at h
 | succ d =>
   unfold flat at h
   split at h
   · injection h with h; subst h; rfl
   · injection h with h; subst h; rfl
   · rename_i fs hu
     unfold tk at hk
     rw [hu] at hk
     cases hi:P.info? t with
     | none=>rw [hi] at hk; cases hk
     | some i=>rw [hi] at hk; simp at hk
   · rename_i m e hu
     unfold tk at hk
     rw [hu] at hk
     cases hi:P.info? t with
     | none=>rw [hi] at hk; cases hk
     | some i=>rw [hi] at hk; simp at hk
   · cases h
theorem flat_sound:∀ (d:Nat) (t:TypeId) (l:List Bool),flat P d t = some l → ∀ (g:Bool),tk P t = some (g,l.length) → ∀ (D:Nat),d ≤ D → ∀ (xs ys:Array Value) (off:Nat),off + l.length ≤ xs.size → off + l.length ≤ ys.size →
   ∀ q,vcmp l ((xs.toList.drop off).take l.length) ((ys.toList.drop off).take l.length) = some q → (Op.equalIn D t (pv g l.length xs off) (pv g l.length ys off)).run P w = .ok q w:=by
 intro d
 induction d with
 | zero=>intro t l h; simp [flat] at h
 | succ d ih =>
   intro t l h g hk D hD xs ys off hx hy q hq
   obtain ⟨D,rfl⟩:∃ D',D = D' + 1:=⟨D - 1,by omega⟩
   unfold flat at h
   split at h
   · rename_i hu
     injection h with h
     subst h
     have hg:g = false:=tk_scalar hk (fun d hd=>by rw [hu] at hd; injection hd with hd; subst hd; exact ⟨by simp,by simp⟩)
     subst hg
     simp only [List.length_cons,List.length_nil,Nat.zero_add] at hx hy hq
     rw [drop_take_one xs off (by omega),drop_take_one ys off (by omega)] at hq
     obtain ⟨a,b,e1,e2,e3⟩:=vcmp_one_bool hq
     simp only [pv,Bool.false_eq_true,if_false]
     rw [e1,e2,run_equalIn_bool' w D t a b hu,e3]
   · rename_i k hu
     injection h with h
     subst h
     have hg:g = false:=tk_scalar hk (fun d hd=>by rw [hu] at hd; injection hd with hd; subst hd; exact ⟨by simp,by simp⟩)
     subst hg
     simp only [List.length_cons,List.length_nil,Nat.zero_add] at hx hy hq
     rw [drop_take_one xs off (by omega),drop_take_one ys off (by omega)] at hq
     obtain ⟨k',a,b,e1,e2,e3⟩:=vcmp_one_int hq
     simp only [pv,Bool.false_eq_true,if_false]
     rw [e1,e2,run_equalIn_int w D t k' k a b hu,e3]
   · rename_i fs hu
     split at h
     · cases h
     rename_i hst
     have hg:g = true:=by
       unfold tk at hk
       rw [hu] at hk
       cases hi:P.info? t with
       | none=>rw [hi] at hk; cases hk
       | some i=>rw [hi] at hk; simp at hk; exact hk.1
     subst hg
     have hfs:P.underlying t = some (.struct (P.fieldsOf t)):=by rw [hu]; simp [Program.fieldsOf,hu]
     have hfs':P.fieldsOf t = fs:=by simp [Program.fieldsOf,hu]
     simp only [pv,if_true]
     rw [run_equalIn_struct w D t _ _ hfs (by simpa using hst),hfs']
     have ext:∀ (zs:Array Value),off + l.length ≤ zs.size → ((zs.extract off (off + l.length)).toList.drop 0).take l.length = (zs.toList.drop off).take l.length:=by
       intro zs hz
       simp only [Array.toList_extract,List.drop_zero,List.extract_eq_take_drop]
       rw [Nat.add_sub_cancel_left,List.take_take,Nat.min_self]
     refine eqFields_sound (flat P d) D (fun t l=>flat_one d t l) (fun t l hl g hk xs ys off hx hy q hq=>ih t l hl g hk D (by omega) xs ys off hx hy q hq) fs.toList 0 l h _ _ ?_ ?_ q ?_
     · simp only [Array.size_extract]; omega
     · simp only [Array.size_extract]; omega
     · rw [ext xs hx,ext ys hy]; exact hq
   · rename_i m e hu
     split at h
     · cases h
     rename_i hd
     split at h
     case h_2=>cases h
     rename_i k hue hke
     injection h with h
     have hg:g = true:=by
       unfold tk at hk
       rw [hu] at hk
       cases hi:P.info? t with
       | none=>rw [hi] at hk; cases hk
       | some i=>rw [hi] at hk; simp at hk; exact hk.1
     subst hg
     subst h
     obtain ⟨D,rfl⟩:∃ D',D = D' + 1:=⟨D - 1,by omega⟩
     obtain ⟨i,hi,his⟩:=tk_size hke
     have hc:P.cellsOf e = 1:=by unfold Program.cellsOf; rw [hi]; exact his
     simp only [pv,if_true]
     rw [run_equalIn_array w (D + 1) _ _ hu hi,hc,List.range_eq_range']
     have ext:∀ (zs:Array Value),off + m ≤ zs.size → ((zs.extract off (off + m)).toList.drop 0).take m = (zs.toList.drop off).take m:=by
       intro zs hz
       simp only [Array.toList_extract,List.drop_zero,List.extract_eq_take_drop]
       rw [Nat.add_sub_cancel_left,List.take_take,Nat.min_self]
     simp only [List.length_replicate] at hx hy hq ⊢
     refine eqItems_ints hue hke _ _ m 0 ?_ ?_ q ?_
     · simp only [Array.size_extract]; omega
     · simp only [Array.size_extract]; omega
     · rw [ext xs hx,ext ys hy]; exact hq
   · cases h
theorem binAgg_sound {op:BinOp} {t:TypeId} {xs ys:List AVal} {x:AVal} {v u:Value} (hv:RepT F (.agg xs) v) (hu:RepT F (.agg ys) u) (ox oy:Operand) (h:abin P op t (.agg xs) (.agg ys) = some x) :
   ∃ z,((do eqGuard op t ox oy v u; binOp op t v u):Sem Value).run P w = .ok z w ∧ Rep n r F x z ∧ x.isOwn = false:=by
 cases hv with
 | agg _ vs hsx h1x hrx =>
   cases hu with
   | agg _ us hsy h1y hry =>
     simp only [abin] at h
     cases hf:feq P t with
     | none=>rw [hf] at h; cases h
     | some l =>
       rw [hf] at h
       unfold feq at hf
       split at hf
       · cases hf
       rename_i hgt
       split at hf
       case h_2=>cases hf
       rename_i k l' hk hl
       split at hf
       case isFalse=>cases hf
       rename_i hkl
       injection hf with hf
       subst hf hkl
       have hgd:(eqGuard op t ox oy (.agg vs) (.agg us)).run P w = .ok () w:=run_eqGuard_agg w op t ox oy vs us (by simpa using hgt)
       have main:∀ q,acmp l' xs ys = some q → (Op.equalIn 10000 t (.agg vs) (.agg us)).run P w = .ok q w:=by
         intro q hq
         have hvc:=acmp_vcmp (n:=n) (r:=r) (F:=F) l' xs ys vs.toList us.toList (by simpa using hsx) (by simpa using hsy) (fun i x v e1 e2=>.tree _ _ (hrx i x v e1 (by simpa using e2))) (fun i x v e1 e2=>.tree _ _ (hry i x v e1 (by simpa using e2))) q hq
         have hlen:vs.size = l'.length ∧ us.size = l'.length:=by
           have:=vcmp_len l' _ _ q hvc
           simpa using this
         have:=flat_sound (P:=P) (w:=w) 6 t l' hl true hk 10000 (by omega) vs us 0 (by omega) (by omega) q (by
           simp only [List.drop_zero]
           rw [List.take_of_length_le (by simp [hlen.1]),List.take_of_length_le (by simp [hlen.2])]
           exact hvc)
         have e1:vs.extract 0 (0 + l'.length) = vs:=by rw [Nat.zero_add,← hlen.1]; exact Array.extract_size
         have e2:us.extract 0 (0 + l'.length) = us:=by rw [Nat.zero_add,← hlen.2]; exact Array.extract_size
         simp only [pv,if_true] at this
         rw [e1,e2] at this
         exact this
       cases op <;> simp only at h <;> first
         | cases h
         | (rw [Option.map_eq_some_iff] at h
            obtain ⟨q,hq,h⟩:=h
            subst h
            have:=main q hq
            refine ⟨_,?_,.tree _ _ (.bool _),rfl⟩
            simp only [Sem.run_bind,hgd,Result.andThen_ok,run_eql_struct,run_neq_struct,this])
end
end Go.Am
