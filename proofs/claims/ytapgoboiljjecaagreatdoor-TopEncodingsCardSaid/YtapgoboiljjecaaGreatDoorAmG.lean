/- The abstract machine, part seven: one operation that computes or reads, whichever it is. -/
import Derived.Test.YtapgoboiljjecaaGreatDoorAmF
import Derived.Laws.BytesString
import Derived.Laws.BytesArg
import Derived.Laws.Strings
namespace Go.Am
open Go
set_option linter.unusedSectionVars false
variable [Globs]
def aun (op:UnOp):AVal → Option AVal
 | .int k a=>match op with
   | .neg=>some (.int k (k.wrap (0 - a)))
   | .xor=>abit .xor k (if k.signed then -1 else k.max) a
   | _=>none
 | .bool b=>match op with
   | .not=>some (.bool (!b))
   | _=>none
 | _=>none
def tint (P:Program) (t:TypeId):Option IntKind :=
 match P.underlying t with
 | some (.int k)=>some k
 | _=>none
def tok (P:Program) (t:TypeId):Bool:=(P.underlying t).isSome
def tstr (P:Program) (src dst:TypeId):Bool :=
 match P.underlying src,P.underlying dst with
 | some (.slice e),some .string=>match P.underlying e with
   | some (.int .u8)=>true
   | _=>false
 | _,_=>false
def abytes:List AVal → Option (List Int)
 | []=>some []
 | .int .u8 n :: l=>(abytes l).map (n :: ·)
 | _=>none
@[simp] theorem abytes_map:∀ (l:List Int),abytes (l.map fun n=>AVal.int .u8 n) = some l
  | []=>rfl
  | n :: l=>by simp [abytes,abytes_map l]
@[simp] theorem abytes_append (a b:List AVal):abytes (a ++ b) = (abytes a).bind fun x=>(abytes b).map fun y=>x ++ y:=by
  induction a with
  | nil=>simp [abytes]
  | cons x a ih =>
    cases x with
    | int k n =>
      cases k with
      | u8 =>
        simp only [List.cons_append,abytes,ih]
        cases abytes a <;> cases abytes b <;> rfl
      | _=>rfl
    | _=>rfl
theorem abytes_spec:∀ (l:List AVal) (ns:List Int),abytes l = some ns → l = ns.map fun n=>AVal.int .u8 n
 | [],ns,h=>by simp only [abytes] at h; injection h with h; subst h; rfl
 | x :: l,ns,h=>by
   unfold abytes at h
   split at h
   · rename_i e; cases e
   · rename_i n l' e
     injection e with e1 e2
     subst e1 e2
     rw [Option.map_eq_some_iff] at h
     obtain ⟨ns',h1,rfl⟩:=h
     rw [abytes_spec l ns' h1]
     rfl
   · cases h
def afield (q:Option (Nat × Nat × Bool)):AVal → Option AVal
 | .agg cs=>match q with
   | some (o,sz,true)=>if o + sz ≤ cs.length then some (.agg ((cs.drop o).take sz)) else none
   | some (o,_,false)=>(cs[o]?).map AVal.dis
   | none=>none
 | .mix cs=>match q with
   | some (o,sz,true)=>if o + sz ≤ cs.length then (if ((cs.drop o).take sz).all AVal.tree = true then some (.agg ((cs.drop o).take sz)) else some (.mix ((cs.drop o).take sz))) else none
   | some (o,_,false)=>(cs[o]?).map AVal.dis
   | none=>none
 | _=>none
def tx (P:Program) (t:TypeId):Option Nat :=
 match P.underlying t with
 | some (.array n e)=>match tk P e with
   | some (false,1)=>some n
   | _=>none
 | _=>none
theorem tx_spec {P:Program} {t:TypeId} {n:Nat} (h:tx P t = some n):∃ e,P.underlying t = some (.array n e) ∧ tk P e = some (false,1):=by
 unfold tx at h
 split at h
 case h_2=>cases h
 rename_i m e hu
 split at h
 case h_2=>cases h
 rename_i hk
 injection h with h
 subst h
 exact ⟨e,hu,hk⟩
def aindex (q:Option Nat):AVal → AVal → Option AVal
 | .agg cs,.int _ i=>match q with
   | some n=>if 0 ≤ i ∧ i < n then (cs[i.toNat]?).map AVal.dis else none
   | none=>none
 | _,_=>none
def amin:AVal → List AVal → Option AVal
 | x,[]=>match x with
   | .int k a=>some (.int k a)
   | _=>none
 | .int k a,.int _ b :: l=>amin (.int k (if b < a then b else a)) l
 | _,_=>none
def amax:AVal → List AVal → Option AVal
 | x,[]=>match x with
   | .int k a=>some (.int k a)
   | _=>none
 | .int k a,.int _ b :: l=>amax (.int k (if b > a then b else a)) l
 | _,_=>none
def alen (q:Option (Nat × Option Nat)):AVal → Option AVal
 | .sl _ xs _=>match q with
   | some (_,none)=>some (.int .i64 xs.length)
   | _=>none
 | .osl _ _ len _ _=>match q with
   | some (_,none)=>some (.int .i64 len)
   | _=>none
 | _=>none
def acap (q:Option (Nat × Option Nat)):AVal → Option AVal
 | .osl _ _ _ (some c) _=>match q with
   | some (_,none)=>some (.int .i64 c)
   | _=>none
 | .sl _ xs .full=>match q with
   | some (_,none)=>some (.int .i64 xs.length)
   | _=>none
 | _=>none
def isNilSl:Operand → Bool
 | .const (.slice none 0 0)=>true
 | _=>false
def nilb (op:BinOp) (e:Bool):Option AVal :=
 match op with
 | .eql=>some (if e = true then .ubool else .bool false)
 | .neq=>some (if e = true then .ubool else .bool true)
 | _=>none
def anil (op:BinOp) (q:Option (Nat × Option Nat)):AVal → Option AVal
 | .sl _ xs _=>match q with
   | some (_,none)=>nilb op xs.isEmpty
   | _=>none
 | .osl _ _ len _ _=>match q with
   | some (_,none)=>nilb op (len == 0)
   | _=>none
 | _=>none
def aval (P:Program) (s:ASt) (o:Op):Option AVal :=
 match o with
 | .move x=>some (av s.t x).dis
 | .pick c a b=>match av s.t c with
   | .bool v=>some (if v = true then (av s.t a).dis else (av s.t b).dis)
   | _=>none
 | .build t parts=>abuild (bplan P t) (parts.toList.map fun p=>(p.1,av s.t p.2))
 | .load t x=>aloadp (tk P t) s.H (av s.t x)
 | .nilCheck x=>match av s.t x with
   | .ptr id off=>some (.ptr id off)
   | .iptr cs off=>some (.iptr cs off)
   | .fn f fs cs=>some (.fn f fs cs)
   | _=>none
 | .binOp op t x y _=>if isNilSl y = true then anil op (te P t) (av s.t x) else abin P op t (av s.t x) (av s.t y)
 | .unOp op _ x=>aun op (av s.t x)
 | .convert src dst x=>match av s.t x with
   | .int _ a=>match tint P dst,tok P src with
     | some k,true=>some (.int k (k.wrap a))
     | _,_=>none
   | .sl _ xs _=>if tstr P src dst = true then (abytes xs).map .str else none
   | _=>none
 | .makeFunc (.func f) first captured=>some (.fn f (first.toList.map fun x=>(av s.t x).dis) (captured.toList.map fun x=>(av s.t x).dis))
 | .slice t x lo hi mx=>aslice (te P t) (av s.t x) (lo.map (av s.t)) (hi.map (av s.t)) (mx.map (av s.t))
 | .fieldAddr t x i=>afieldAddr (tf P t i) (av s.t x)
 | .field t x i=>afield (tf P t i) (av s.t x)
 | .indexAddr t x i=>aindexAddr (te P t) (av s.t x) (av s.t i)
 | .index t x i=>aindex (tx P t) (av s.t x) (av s.t i)
 | .extract x i=>match av s.t x with
   | .tup vs=>(vs[i]?).map AVal.dis
   | _=>none
 | .call c=>match c.callee with
   | .builtin .len=>match c.args.toList,c.argTypes.toList with
     | [x],[t]=>alen (te P t) (av s.t x)
     | _,_=>none
   | .builtin .cap=>match c.args.toList,c.argTypes.toList with
     | [x],[t]=>acap (te P t) (av s.t x)
     | _,_=>none
   | .builtin .min=>match c.args.toList.map (av s.t) with
     | x :: l=>amin x l
     | _=>none
   | .builtin .max=>match c.args.toList.map (av s.t) with
     | x :: l=>amax x l
     | _=>none
   | _=>none
 | _=>none
section
variable {P:Program} {n m:Nat} {G0:Gh} {w0:World} {s:ASt} {G:Gh} {a:Act} {w:World}
theorem aun_sound {k:Nat} {r:Nat → Nat × Nat} {F:Frz} {op:UnOp} {x y:AVal} {v:Value} (hr:Rep k r F x v) (h:aun op x = some y):∃ u,(Op.unary op v).run P w = .ok u w ∧ Rep k r F y u ∧ y.isOwn = false:=by
 unfold aun at h
 split at h
 · have:=hr.int_inv
   subst this
   split at h
   · injection h with h; subst h; exact ⟨_,rfl,.tree _ _ (.int _ _),rfl⟩
   · obtain ⟨u,h1,h2,h3⟩:=abit_sound (P:=P) (n:=k) (r:=r) (F:=F) (w:=w) h
     exact ⟨u,h1,h2,h3⟩
   · cases h
 · have:=hr.bool_inv
   subst this
   split at h
   · injection h with h; subst h; exact ⟨_,rfl,.tree _ _ (.bool _),rfl⟩
   · cases h
 · cases h
theorem aindex_sound {k:Nat} {r:Nat → Nat × Nat} {F:Frz} {t:TypeId} {x i y:AVal} {v vi:Value} (hr:Rep k r F x v) (hri:Rep k r F i vi) (h:aindex (tx P t) x i = some y) :
   ∃ u,(Instr.index t v vi).run P w = .ok u w ∧ Rep k r F y u ∧ y.isOwn = false:=by
 unfold aindex at h
 split at h
 case h_2=>cases h
 rename_i cs kd i'
 have:=hri.int_inv
 subst this
 split at h
 case h_2=>cases h
 rename_i n hq
 obtain ⟨e,g1,g2⟩:=tx_spec hq
 split at h
 case isFalse=>cases h
 rename_i hc
 rw [Option.map_eq_some_iff] at h
 obtain ⟨y',hy',rfl⟩:=h
 have ht:RepT F (.agg cs) v:=by
   cases hr with
   | tree _ _ h=>exact h
 cases ht with
 | agg _ arr hs h1 hrep =>
   obtain ⟨inf,hi,hsz⟩:=tk_size g2
   have hlt:i'.toNat < arr.size:=by rw [hs]; exact (List.getElem?_eq_some_iff.1 hy').1
   have hp:=run_part (P:=P) (w:=w) g2 arr i'.toNat (fun _=>hlt)
   simp only [Bool.false_eq_true,if_false] at hp
   have hu:arr[i'.toNat]? = some arr[i'.toNat]:=Array.getElem?_eq_getElem hlt
   refine ⟨arr[i'.toNat],?_,(Rep.tree _ _ (hrep _ y' _ hy' hu)).dis,isOwn_dis _⟩
   simp [Instr.index,asIntOf,run_underlying g1,hc,run_sizeOf' hi,hsz,hp,Array.getD,hlt]
theorem afield_sound {k:Nat} {r:Nat → Nat × Nat} {F:Frz} {t:TypeId} {i:Nat} {x y:AVal} {v:Value} (hr:Rep k r F x v) (h:afield (tf P t i) x = some y) :
   ∃ u,(Instr.field t v i).run P w = .ok u w ∧ Rep k r F y u ∧ y.isOwn = false:=by
 unfold afield at h
 split at h
 case h_3=>cases h
 case h_2 =>
   rename_i cs
   cases hr with
   | tree _ _ ht=>cases ht
   | mix _ arr hs h1 hrep =>
     split at h
     · rename_i o sz hq
       obtain ⟨fs,f,inf,g1,g2,g3,g4,g5,g6⟩:=tf_spec hq
       split at h
       case isFalse=>cases h
       rename_i hc
       have hp:=run_part (P:=P) (w:=w) g6 arr f.offset (by simp)
       simp only [if_true] at hp
       have hcell:∀ (j:Nat) (c:AVal) (u:Value),((cs.drop o).take sz)[j]? = some c → (arr.extract f.offset (f.offset + sz))[j]? = some u → Rep k r F c u:=by
         intro j c u hj hu
         rw [g4] at hu
         simp only [List.getElem?_take,List.getElem?_drop] at hj
         split at hj
         case isFalse=>cases hj
         rw [Array.getElem?_extract] at hu
         split at hu
         case isFalse=>cases hu
         exact hrep _ _ _ hj hu
       have hsc:∀ c ∈ (cs.drop o).take sz,c.scalar = true:=fun c hc'=>h1 c (List.mem_of_mem_drop (List.mem_of_mem_take hc'))
       have hsz:(arr.extract f.offset (f.offset + sz)).size = ((cs.drop o).take sz).length:=by
         simp only [Array.size_extract,List.length_take,List.length_drop]; omega
       split at h
       · rename_i hall
         injection h with h
         subst h
         exact ⟨_,by simp [Instr.field,run_underlying g1,g2,asAgg,hp],.tree _ _ (.agg _ _ hsz hsc (fun j c u hj hu=>(hcell j c u hj hu).toTree (List.all_eq_true.1 hall c (List.mem_of_getElem? hj)))),rfl⟩
       · injection h with h
         subst h
         exact ⟨_,by simp [Instr.field,run_underlying g1,g2,asAgg,hp],.mix _ _ hsz hsc hcell,rfl⟩
     · rename_i o sz hq
       obtain ⟨fs,f,inf,g1,g2,g3,g4,g5,g6⟩:=tf_spec hq
       rw [Option.map_eq_some_iff] at h
       obtain ⟨y',hy',rfl⟩:=h
       have hlt:o < arr.size:=by rw [hs]; exact (List.getElem?_eq_some_iff.1 hy').1
       have hp:=run_part (P:=P) (w:=w) g6 arr f.offset (by rw [g4]; intro _; exact hlt)
       simp only [Bool.false_eq_true,if_false,g4] at hp
       have hu:arr[o]? = some arr[o]:=Array.getElem?_eq_getElem hlt
       refine ⟨arr[o],?_,(hrep o y' _ hy' hu).dis,isOwn_dis _⟩
       simp [Instr.field,run_underlying g1,g2,asAgg,g4,hp,Array.getD,hlt]
     · cases h
 rename_i cs
 have ht:RepT F (.agg cs) v:=by
   cases hr with
   | tree _ _ h=>exact h
 cases ht with
 | agg _ arr hs h1 hrep =>
   split at h
   · rename_i o sz hq
     obtain ⟨fs,f,inf,g1,g2,g3,g4,g5,g6⟩:=tf_spec hq
     split at h
     case isFalse=>cases h
     rename_i hc
     injection h with h
     subst h
     have hp:=run_part (P:=P) (w:=w) g6 arr f.offset (by simp)
     simp only [if_true] at hp
     refine ⟨_,by simp [Instr.field,run_underlying g1,g2,asAgg,hp]; rfl,.tree _ _ (.agg _ _ ?_ ?_ ?_),rfl⟩
     · simp only [Array.size_extract,List.length_take,List.length_drop]; omega
     · intro c hc'
       exact h1 c (List.mem_of_mem_drop (List.mem_of_mem_take hc'))
     · intro j c u hj hu
       rw [g4] at hu
       simp only [List.getElem?_take,List.getElem?_drop] at hj
       split at hj
       case isFalse=>cases hj
       rw [Array.getElem?_extract] at hu
       split at hu
       case isFalse=>cases hu
       exact hrep _ _ _ hj hu
   · rename_i o sz hq
     obtain ⟨fs,f,inf,g1,g2,g3,g4,g5,g6⟩:=tf_spec hq
     rw [Option.map_eq_some_iff] at h
     obtain ⟨y',hy',rfl⟩:=h
     have hlt:o < arr.size:=by rw [hs]; exact (List.getElem?_eq_some_iff.1 hy').1
     have hp:=run_part (P:=P) (w:=w) g6 arr f.offset (by rw [g4]; intro _; exact hlt)
     simp only [Bool.false_eq_true,if_false,g4] at hp
     have hu:arr[o]? = some arr[o]:=Array.getElem?_eq_getElem hlt
     refine ⟨arr[o],?_,.tree _ _ (hrep o y' _ hy' hu).dis,isOwn_dis _⟩
     simp [Instr.field,run_underlying g1,g2,asAgg,g4,hp,Array.getD,hlt]
   · cases h
theorem run_bytes_str {F:Frz} {w:World} {k:Nat} {xs:List AVal} {m:Mode} {v:Value} {bs:List Int} (hF:∀ b o u,F b o = some u → w.cell? ⟨b,o,none⟩ = some u) (hr:RepT F (.sl k xs m) v) (hb:abytes xs = some bs) :
   ∃ a l c,v = .slice a l c ∧ (Conv.bytesToString v).run P w = .ok (.string (strOf bs)) w:=by
 have e:=abytes_spec xs bs hb
 clear hb
 cases hr with
 | slnil =>
   refine ⟨none,0,0,rfl,?_⟩
   have:bs = []:=by cases bs with
     | nil=>rfl
     | cons x l=>simp at e
   subst this
   simp [Conv.bytesToString,strOf]
 | sl _ _ _ a len cap val hl hc ha hk hm hx h1 hcell h =>
   subst e
   refine ⟨some a,len,cap,rfl,?_⟩
   apply run_bytesToString
   have hbs:len = bs.length:=by simpa using hl
   by_cases hne:bs = []
   · subst hne
     simp only [List.length_nil] at hbs
     subst hbs
     simp [loadCells,loadCellsFrom]
   have ha':=ha (by simpa using hne)
   have hk':k = 1:=by
     cases bs with
     | nil=>exact (hne rfl).elim
     | cons x l=>have:=hx (.int .u8 x) (by simp); simpa [AVal.cells] using this.symm
   subst hk'
   have hadd:∀ j,a.add j = ⟨a.block,a.off + j,none⟩:=by
     intro j
     unfold Addr.add
     split
     · rename_i e; subst e; cases a; simp at ha'; simp [ha']
     · rfl
   have hval:∀ j,j < len → val j = .int .u8 (bs.getD j 0):=by
     intro j hj
     have hj':j < bs.length:=by omega
     have hh:=h j 0 (.int .u8 bs[j]) (.int .u8 bs[j]) (by simp [hj']) (by simp [AVal.cells])
     simp only [Nat.mul_one,Nat.add_zero] at hh
     cases hv:val j <;> rw [hv] at hh <;> cases hh
     simp [List.getD,hj']
   have:=run_loadCells (P:=P) w a len val (fun j hj=>by
     rw [hadd]
     exact hF _ _ _ (hcell j (by omega)))
   rw [this]
   congr 2
   apply List.ext_getElem
   · simp [hbs]
   · intro i h1 h2
     have hi:i < len:=by simpa using h1
     simp only [List.getElem_map,List.getElem_range]
     rw [hval i hi]
     simp [List.getD,show i < bs.length by omega]
theorem amin_sound {k:Nat} {r:Nat → Nat × Nat} {F:Frz}:∀ (l:List AVal) (x y:AVal) (v:Value) (vs:List Value),Rep k r F x v → vs.length = l.length → (∀ (i:Nat) (z:AVal) (u:Value),l[i]? = some z → vs[i]? = some u → Rep k r F z u) →
   amin x l = some y → ∃ u,(vs.foldlM Builtin.min2 v).run P w = .ok u w ∧ Rep k r F y u ∧ y.isOwn = false:=by
 intro l
 induction l with
 | nil =>
   intro x y v vs hr hl _ h
   have:vs = []:=List.eq_nil_of_length_eq_zero (by simpa using hl)
   subst this
   unfold amin at h
   split at h
   · injection h with h; subst h; exact ⟨v,rfl,hr,rfl⟩
   · cases h
 | cons z l ih =>
   intro x y v vs hr hl hz h
   cases vs with
   | nil=>simp at hl
   | cons u vs =>
     unfold amin at h
     split at h
     · rename_i e; cases e
     · rename_i kx a kz b l' e
       injection e with e1 e2
       subst e1 e2
       have e1:=hr.int_inv
       have e2:=(hz 0 _ u rfl rfl).int_inv
       subst e1 e2
       obtain ⟨u',h1,h2,h3⟩:=ih (.int kx (if b < a then b else a)) y (.int kx (if b < a then b else a)) vs (.tree _ _ (.int _ _)) (by simpa using hl) (fun i z u p q=>hz (i + 1) z u p q) h
       exact ⟨u',by simpa [List.foldlM_cons,Builtin.min2] using h1,h2,h3⟩
     · cases h
theorem amax_sound {k:Nat} {r:Nat → Nat × Nat} {F:Frz}:∀ (l:List AVal) (x y:AVal) (v:Value) (vs:List Value),Rep k r F x v → vs.length = l.length → (∀ (i:Nat) (z:AVal) (u:Value),l[i]? = some z → vs[i]? = some u → Rep k r F z u) →
   amax x l = some y → ∃ u,(vs.foldlM Builtin.max2 v).run P w = .ok u w ∧ Rep k r F y u ∧ y.isOwn = false:=by
 intro l
 induction l with
 | nil =>
   intro x y v vs hr hl _ h
   have:vs = []:=List.eq_nil_of_length_eq_zero (by simpa using hl)
   subst this
   unfold amax at h
   split at h
   · injection h with h; subst h; exact ⟨v,rfl,hr,rfl⟩
   · cases h
 | cons z l ih =>
   intro x y v vs hr hl hz h
   cases vs with
   | nil=>simp at hl
   | cons u vs =>
     unfold amax at h
     split at h
     · rename_i e; cases e
     · rename_i kx a kz b l' e
       injection e with e1 e2
       subst e1 e2
       have e1:=hr.int_inv
       have e2:=(hz 0 _ u rfl rfl).int_inv
       subst e1 e2
       obtain ⟨u',h1,h2,h3⟩:=ih (.int kx (if b > a then b else a)) y (.int kx (if b > a then b else a)) vs (.tree _ _ (.int _ _)) (by simpa using hl) (fun i z u p q=>hz (i + 1) z u p q) h
       exact ⟨u',by simpa [List.foldlM_cons,Builtin.max2] using h1,h2,h3⟩
     · cases h
theorem alen_sound {k:Nat} {r:Nat → Nat × Nat} {F:Frz} {t ty:TypeId} {x y:AVal} {v:Value} (hr:Rep k r F x v) (h:alen (te P t) x = some y) :
   ∃ u,(Builtin.len_ #[t] ty #[v]).run P w = .ok u w ∧ Rep k r F y u ∧ y.isOwn = false:=by
 unfold alen at h
 split at h
 · split at h
   case h_2=>cases h
   rename_i xs mm sz hq
   obtain ⟨e,inf,h1,h2,h3⟩:=te_spec hq
   simp only at h3
   injection h with h
   subst h
   have ht:=hr.toTree rfl
   cases ht with
   | slnil=>exact ⟨_,by simp [Builtin.len_,run_underlying h3,goInt] <;> rfl,.tree _ _ (.int _ _),rfl⟩
   | sl _ _ _ ad len cap val hl=>exact ⟨_,by simp [Builtin.len_,run_underlying h3,goInt] <;> rfl,by rw [hl]; exact .tree _ _ (.int _ _),rfl⟩
 · split at h
   case h_2=>cases h
   rename_i sz hq
   obtain ⟨e,inf,h1,h2,h3⟩:=te_spec hq
   simp only at h3
   injection h with h
   subst h
   cases hr with
   | osl _ _ _ _ _ _ hid hcap=>exact ⟨_,by simp [Builtin.len_,run_underlying h3,goInt] <;> rfl,.tree _ _ (.int _ _),rfl⟩
   | osl0=>exact ⟨_,by simp [Builtin.len_,run_underlying h3,goInt] <;> rfl,.tree _ _ (.int _ _),rfl⟩
   | tree _ _ ht=>cases ht
 · cases h
theorem acap_sound {k:Nat} {r:Nat → Nat × Nat} {F:Frz} {t ty:TypeId} {x y:AVal} {v:Value} (hr:Rep k r F x v) (h:acap (te P t) x = some y) :
   ∃ u,(Builtin.cap_ #[t] ty #[v]).run P w = .ok u w ∧ Rep k r F y u ∧ y.isOwn = false:=by
 unfold acap at h
 split at h
 · split at h
   case h_2=>cases h
   rename_i sz hq
   obtain ⟨e,inf,h1,h2,h3⟩:=te_spec hq
   simp only at h3
   injection h with h
   subst h
   cases hr with
   | osl _ _ _ _ _ c hid hc hcap=>have:=hcap _ rfl; subst this; exact ⟨_,by simp [Builtin.cap_,run_underlying h3,goInt] <;> rfl,.tree _ _ (.int _ _),rfl⟩
   | osl0 _ _ _ _ a hid hc =>
     have:some _ = some 0:=hc.resolve_left (by simp)
     injection this with this
     subst this
     exact ⟨_,by simp [Builtin.cap_,run_underlying h3,goInt] <;> rfl,.tree _ _ (.int _ _),rfl⟩
   | tree _ _ ht=>cases ht
 · split at h
   case h_2=>cases h
   rename_i sz hq
   obtain ⟨e,inf,h1,h2,h3⟩:=te_spec hq
   simp only at h3
   injection h with h
   subst h
   cases hr with
   | tree _ _ ht =>
     cases ht with
     | slnil=>exact ⟨_,by simp [Builtin.cap_,run_underlying h3,goInt] <;> rfl,.tree _ _ (.int _ _),rfl⟩
     | sl _ _ _ a len cap val hl hc ha hk hm =>
       have:=hm rfl
       subst this
       subst hl
       exact ⟨_,by simp [Builtin.cap_,run_underlying h3,goInt] <;> rfl,.tree _ _ (.int _ _),rfl⟩
 · cases h
theorem isNilSl_spec {y:Operand} (h:isNilSl y = true):y = .const (.slice none 0 0):=by
 unfold isNilSl at h
 split at h
 · rfl
 · cases h
theorem run_equalIn_nil (w:World) (n:Nat) (t e:TypeId) (a:Option Addr) (len cap:Nat) (hu:P.underlying t = some (.slice e)):(Op.equalIn (n + 1) t (.slice a len cap) (.slice none 0 0)).run P w = .ok a.isNone w:=by
 cases a <;> simp [Op.equalIn,run_underlying hu]
theorem anil_sound {k:Nat} {r:Nat → Nat × Nat} {F:Frz} {t:TypeId} {op:BinOp} {x y:AVal} {v:Value} (hr:Rep k r F x v) (h:anil op (te P t) x = some y) :
   (∃ u,(binOp op t v (.slice none 0 0)).run P w = .ok u w ∧ Rep k r F y u ∧ y.isOwn = false) ∧ ∀ p q,(eqGuard op t p q v (.slice none 0 0)).run P w = .ok () w:=by
 have main:∀ (e:TypeId) (a:Option Addr) (len cap:Nat) (b:Bool),P.underlying t = some (.slice e) → v = .slice a len cap → (b = false → a ≠ none) → nilb op b = some y →
     (∃ u,(binOp op t v (.slice none 0 0)).run P w = .ok u w ∧ Rep k r F y u ∧ y.isOwn = false) ∧ ∀ p q,(eqGuard op t p q v (.slice none 0 0)).run P w = .ok () w:=by
   intro e a len cap b hu hv hb hn
   subst hv
   refine ⟨?_,fun p q=>by cases op <;> simp [eqGuard]⟩
   unfold nilb at hn
   split at hn
   · injection hn with hn
     refine ⟨.bool a.isNone,by simp only [binOp]; simp [Op.equal,Op.maxDepth,run_equalIn_nil w 9999 t e a len cap hu],?_,?_⟩
     · subst hn
       split
       · exact .tree _ _ (.ubool _)
       · rename_i hb'
         cases a with
         | none=>exact (hb (by simpa using hb') rfl).elim
         | some a=>exact .tree _ _ (.bool _)
     · subst hn; split <;> rfl
   · injection hn with hn
     refine ⟨.bool (!a.isNone),by simp only [binOp]; simp [Op.equal,Op.maxDepth,run_equalIn_nil w 9999 t e a len cap hu],?_,?_⟩
     · subst hn
       split
       · exact .tree _ _ (.ubool _)
       · rename_i hb'
         cases a with
         | none=>exact (hb (by simpa using hb') rfl).elim
         | some a=>exact .tree _ _ (.bool _)
     · subst hn; split <;> rfl
   · cases hn
 unfold anil at h
 split at h
 · split at h
   case h_2=>cases h
   rename_i xs mm sz hq
   obtain ⟨e,inf,h1,h2,h3⟩:=te_spec hq
   simp only at h3
   have ht:=hr.toTree rfl
   cases ht with
   | slnil=>exact main e none 0 0 _ h3 rfl (by simp) h
   | sl _ _ _ ad len cap val hl=>exact main e (some ad) len cap _ h3 rfl (by simp) h
 · split at h
   case h_2=>cases h
   rename_i sz hq
   obtain ⟨e,inf,h1,h2,h3⟩:=te_spec hq
   simp only at h3
   cases hr with
   | osl _ _ _ _ _ c hid hc hcap=>exact main e _ _ c _ h3 rfl (by simp) h
   | osl0 _ _ _ _ a hid hc=>exact main e a 0 0 _ h3 rfl (by simp) h
   | tree _ _ ht=>cases ht
 · cases h
theorem map_get {α β γ:Type} {f:α → β} {g:α → γ} {l:List α} {i:Nat} {x:β} {v:γ} (hx:(l.map f)[i]? = some x) (hv:(l.map g)[i]? = some v):∃ o,l[i]? = some o ∧ x = f o ∧ v = g o:=by
 simp only [List.getElem?_map,Option.map_eq_some_iff] at hx hv
 obtain ⟨o,h1,h2⟩:=hx
 obtain ⟨o',h1',h2'⟩:=hv
 rw [h1] at h1'
 injection h1' with h1'
 subst h1'
 exact ⟨o,h1,h2.symm,h2'.symm⟩
theorem eqGuard_int (op:BinOp) (t:TypeId) (y z:Operand) (k k':IntKind) (p q:Int):(eqGuard op t y z (.int k p) (.int k' q)).run P w = .ok () w:=by
 cases op <;> simp [eqGuard]
theorem eqGuard_ptr (op:BinOp) (t:TypeId) (y z:Operand) (p q:Option Addr):(eqGuard op t y z (.pointer p) (.pointer q)).run P w = .ok () w:=by
 cases op <;> simp [eqGuard]
theorem _root_.Go.Am.Rep.ptr_inv0 {n':Nat} {r:Nat → Nat × Nat} {F:Frz} {i o:Nat} {v:Value} (h:Rep n' r F (.ptr i o) v):∃ p,v = .pointer (some p):=by
 cases h with
 | ptr=>exact ⟨_,rfl⟩
 | tree _ _ ht=>cases ht
theorem _root_.Go.Am.Rep.iptr_inv' {n':Nat} {r:Nat → Nat × Nat} {F:Frz} {cs:List AVal} {o:Nat} {v:Value} (h:Rep n' r F (.iptr cs o) v):∃ p,v = .pointer (some p):=by
 cases h with
 | iptr=>exact ⟨_,rfl⟩
 | tree _ _ ht=>cases ht
theorem _root_.Go.Am.Rep.nilp_inv {n':Nat} {r:Nat → Nat × Nat} {F:Frz} {v:Value} (h:Rep n' r F .nilp v):v = .pointer none:=by
 cases h with
 | tree _ _ ht=>cases ht; rfl
theorem run_equalIn_nilp (w:World) (d:Nat) (t:TypeId) (p:Option Addr) (h:tpt P t = true):(Op.equalIn (d + 1) t (.pointer p) (.pointer none)).run P w = .ok p.isNone w:=by
 unfold tpt at h
 split at h
 · rename_i e hu
   simp only [Op.equalIn,Sem.run_bind,run_underlying hu,Result.andThen_ok]
   cases p <;> rfl
 · cases h
theorem apn_sound {n':Nat} {r:Nat → Nat × Nat} {F:Frz} {op:BinOp} {t:TypeId} {p:Option Addr} {x:AVal} (h:apn (tpt P t) p.isNone op = some x) :
   ∃ u,(binOp op t (.pointer p) (.pointer none)).run P w = .ok u w ∧ Rep n' r F x u ∧ x.isOwn = false:=by
 unfold apn at h
 split at h
 · split at h
   · rename_i hp
     injection h with h
     subst h
     refine ⟨.bool p.isNone,?_,.tree _ _ (.bool _),rfl⟩
     simp [binOp,Op.equal,Op.maxDepth,run_equalIn_nilp w 9999 t p hp]
   · cases h
 · split at h
   · rename_i hp
     injection h with h
     subst h
     refine ⟨.bool (!p.isNone),?_,.tree _ _ (.bool _),rfl⟩
     simp [binOp,Op.equal,Op.maxDepth,run_equalIn_nilp w 9999 t p hp]
   · cases h
 · cases h
theorem eqGuard_bool (op:BinOp) (t:TypeId) (y z:Operand) (p q:Bool):(eqGuard op t y z (.bool p) (.bool q)).run P w = .ok () w:=by
 cases op <;> simp [eqGuard]
theorem aval_sound (h:R n m G0 w0 s G a w) {o:Oper} {x:AVal} (hx:aval P s o.op = some x) :
   ∃ v,(execOp a.eval o).run P w = .ok (.value v) w ∧ Rep s.H.length G.r G.F x v ∧ x.isOwn = false:=by
 cases hop:o.op with
 | move y =>
   rw [hop] at hx
   injection hx with hx
   subst hx
   exact ⟨a.eval y,by simp [execOp,hop],(h.get y).dis,isOwn_dis _⟩
 | pick c p q =>
   rw [hop] at hx
   simp only [aval] at hx
   have hc:=h.get c
   split at hx
   case h_2=>cases hx
   rename_i v hv
   rw [hv] at hc
   have hcv:=hc.bool_inv
   injection hx with hx
   subst hx
   refine ⟨if v = true then a.eval p else a.eval q,by simp [execOp,hop,hcv,asBool],?_,by split <;> exact isOwn_dis _⟩
   split
   · exact (h.get p).dis
   · exact (h.get q).dis
 | build t parts =>
   rw [hop] at hx
   simp only [aval] at hx
   obtain ⟨v,h1,h2,h3⟩:=build_sound (P:=P) (n:=s.H.length) (r:=G.r) (F:=G.F) (w:=w) (vs:=parts.map fun p=>(p.1,a.eval p.2)) (by simp) (fun i p q hp hq=>by
     have hq':(parts.toList.map fun p=>(p.1,a.eval p.2))[i]? = some q:=by simpa using hq
     obtain ⟨o,_,e1,e2⟩:=map_get hp hq'
     subst e1 e2
     exact ⟨rfl,h.get o.2⟩) hx
   exact ⟨v,by simp [execOp,hop,h1],h2,h3⟩
 | load t y =>
   rw [hop] at hx
   obtain ⟨v,h1,h2,h3⟩:=load_sound (P:=P) h (t:=t) (h.get y) (x:=x) hx
   exact ⟨v,by simp [execOp,hop,h1],h2,h3⟩
 | nilCheck y =>
   rw [hop] at hx
   simp only [aval] at hx
   have hy:=h.get y
   have hrun:∀ (P':Value → Prop),a.eval y ≠ .pointer none → a.eval y ≠ .nilIface → a.eval y ≠ .nilFunc → (∀ nm fs cs,a.eval y ≠ .func (.method nm) fs cs) → (execOp a.eval o).run P w = .ok (.value (a.eval y)) w:=by
     intro _ n1 n2 n3 n4
     simp only [execOp,hop]
     generalize a.eval y = v at *
     first | rfl | (split <;> first | (exact absurd rfl n1) | (exact absurd rfl n2) | (exact absurd rfl n3) | (exact absurd rfl (n4 _ _ _)) | rfl)
   split at hx
   · rename_i e
     rw [e] at hy
     injection hx with hx
     subst hx
     have hy':=hy
     refine ⟨a.eval y,hrun (fun _=>True) ?_ ?_ ?_ ?_,hy',rfl⟩ <;> generalize a.eval y = v at hy <;> cases hy <;> first | (rename_i ht; cases ht; done) | (intros; simp)
   · rename_i e
     rw [e] at hy
     injection hx with hx
     subst hx
     have hy':=hy
     refine ⟨a.eval y,hrun (fun _=>True) ?_ ?_ ?_ ?_,hy',rfl⟩ <;> generalize a.eval y = v at hy <;> cases hy <;> first | (rename_i ht; cases ht; done) | (intros; simp)
   · rename_i e
     rw [e] at hy
     injection hx with hx
     subst hx
     have hy':=hy
     refine ⟨a.eval y,hrun (fun _=>True) ?_ ?_ ?_ ?_,hy',rfl⟩ <;> generalize a.eval y = v at hy <;> cases hy <;> first | (rename_i ht; cases ht; done) | (intros; simp)
   · cases hx
 | binOp op t y z yt =>
   rw [hop] at hx
   simp only [aval] at hx
   have hy:=h.get y
   have hz:=h.get z
   by_cases hnil:isNilSl z = true
   · rw [if_pos hnil] at hx
     have ez:=isNilSl_spec hnil
     subst ez
     obtain ⟨⟨u,h1,h2,h3⟩,h4⟩:=anil_sound (P:=P) (w:=w) hy hx
     refine ⟨u,?_,h2,h3⟩
     have:a.eval (.const (.slice none 0 0)) = .slice none 0 0:=rfl
     simp only [execOp,hop,this,Sem.run_bind,h4,Result.andThen_ok,h1,Sem.run_pure]
   rw [if_neg hnil] at hx
   have hx':=hx
   unfold abin at hx
   split at hx
   · rename_i k p k' q e1 e2
     rw [e1] at hy
     rw [e2] at hz
     have f1:=hy.int_inv
     have f2:=hz.int_inv
     rw [e1,e2] at hx'
     obtain ⟨u,h1,h2,h3⟩:=binInt_sound (P:=P) (n:=s.H.length) (r:=G.r) (F:=G.F) (w:=w) hx'
     refine ⟨u,?_,h2,h3⟩
     simp only [execOp,hop,f1,f2,Sem.run_bind,eqGuard_int,Result.andThen_ok,h1,Sem.run_pure]
   · rename_i p q e1 e2
     rw [e1] at hy
     rw [e2] at hz
     have f1:=hy.bool_inv
     have f2:=hz.bool_inv
     split at hx
     · rename_i hu
       injection hx with hx
       subst hx
       refine ⟨.bool (p == q),?_,.tree _ _ (.bool _),rfl⟩
       simp only [execOp,hop,f1,f2,Sem.run_bind,eqGuard_bool,Result.andThen_ok,binOp]
       simp [Op.equal,Op.maxDepth,run_equalIn_bool' w 9999 t p q hu]
     · rename_i hu
       injection hx with hx
       subst hx
       refine ⟨.bool (!(p == q)),?_,.tree _ _ (.bool _),rfl⟩
       simp only [execOp,hop,f1,f2,Sem.run_bind,eqGuard_bool,Result.andThen_ok,binOp]
       simp [Op.equal,Op.maxDepth,run_equalIn_bool' w 9999 t p q hu]
     · cases hx
   · rename_i xs ys e1 e2
     rw [e1] at hy
     rw [e2] at hz
     rw [e1,e2] at hx'
     have t1:RepT G.F (.agg xs) (a.eval y):=by generalize a.eval y = v at hy; cases hy; assumption
     have t2:RepT G.F (.agg ys) (a.eval z):=by generalize a.eval z = v at hz; cases hz; assumption
     obtain ⟨u,h1,h2,h3⟩:=binAgg_sound (P:=P) (n:=s.H.length) (r:=G.r) (w:=w) t1 t2 y z hx'
     refine ⟨u,?_,h2,h3⟩
     simp only [execOp,hop]
     simp only [Sem.run_bind] at h1 ⊢
     rw [h1]
     rfl
   · rename_i xs ys e1 e2
     rw [e1] at hy
     rw [e2] at hz
     have t1:a.eval y = .string (strOf xs):=by
       have:=hy.toTree rfl
       generalize a.eval y = v at this
       cases this
       rfl
     have t2:a.eval z = .string (strOf ys):=by
       have:=hz.toTree rfl
       generalize a.eval z = v at this
       cases this
       rfl
     split at hx
     case isFalse=>cases hx
     rename_i hb
     split at hx
     · injection hx with hx
       subst hx
       refine ⟨.bool (xs == ys),?_,.tree _ _ (.bool _),rfl⟩
       simp only [execOp,hop,t1,t2]
       simp [eqGuard,binOp_string_eql,strOf_beq xs ys hb.1 hb.2]
     · injection hx with hx
       subst hx
       refine ⟨.bool (!(xs == ys)),?_,.tree _ _ (.bool _),rfl⟩
       simp only [execOp,hop,t1,t2]
       simp [eqGuard,binOp_string_neq,strOf_beq xs ys hb.1 hb.2]
     · cases hx
   · rename_i i o e1 e2
     rw [e1] at hy
     rw [e2] at hz
     obtain ⟨p,f1⟩:=hy.ptr_inv0
     have f2:=hz.nilp_inv
     obtain ⟨u,h1,h2,h3⟩:=apn_sound (w:=w) (n':=s.H.length) (r:=G.r) (F:=G.F) (p:=some p) hx
     refine ⟨u,?_,h2,h3⟩
     simp only [execOp,hop,f1,f2,Sem.run_bind,eqGuard_ptr,Result.andThen_ok,h1,Sem.run_pure]
   · rename_i cs o e1 e2
     rw [e1] at hy
     rw [e2] at hz
     obtain ⟨p,f1⟩:=hy.iptr_inv'
     have f2:=hz.nilp_inv
     obtain ⟨u,h1,h2,h3⟩:=apn_sound (w:=w) (n':=s.H.length) (r:=G.r) (F:=G.F) (p:=some p) hx
     refine ⟨u,?_,h2,h3⟩
     simp only [execOp,hop,f1,f2,Sem.run_bind,eqGuard_ptr,Result.andThen_ok,h1,Sem.run_pure]
   · rename_i e1 e2
     rw [e1] at hy
     rw [e2] at hz
     have f1:=hy.nilp_inv
     have f2:=hz.nilp_inv
     obtain ⟨u,h1,h2,h3⟩:=apn_sound (w:=w) (n':=s.H.length) (r:=G.r) (F:=G.F) (p:=none) hx
     refine ⟨u,?_,h2,h3⟩
     simp only [execOp,hop,f1,f2,Sem.run_bind,eqGuard_ptr,Result.andThen_ok,h1,Sem.run_pure]
   · cases hx
 | unOp op t y =>
   rw [hop] at hx
   obtain ⟨u,h1,h2,h3⟩:=aun_sound (P:=P) (w:=w) (h.get y) hx
   exact ⟨u,by simp [execOp,hop,h1],h2,h3⟩
 | convert src dst y =>
   rw [hop] at hx
   simp only [aval] at hx
   have hy:=h.get y
   split at hx
   · rename_i kd p e1
     split at hx
     case h_2=>cases hx
     rename_i k e2 e3
     rw [e1] at hy
     have f1:=hy.int_inv
     injection hx with hx
     subst hx
     refine ⟨.int k (k.wrap p),?_,.tree _ _ (.int _ _),rfl⟩
     have hd:P.underlying dst = some (.int k):=by
       unfold tint at e2
       split at e2
       · rename_i hu; injection e2 with e2; subst e2; exact hu
       · cases e2
     obtain ⟨ds,hs⟩:=Option.isSome_iff_exists.1 (show (P.underlying src).isSome = true from e3)
     simp [execOp,hop,f1,convert,run_underlying hd,run_underlying hs,Conv.intToInt]
   · rename_i xs mm e1
     split at hx
     case isFalse=>cases hx
     rename_i ht
     rw [Option.map_eq_some_iff] at hx
     obtain ⟨bs,hb,rfl⟩:=hx
     rw [e1] at hy
     obtain ⟨sa,sl,sc,e,hrun⟩:=run_bytes_str (P:=P) (w:=w) h.sr.frz (hy.toTree rfl) hb
     refine ⟨.string (strOf bs),?_,.tree _ _ (.str _),rfl⟩
     unfold tstr at ht
     split at ht
     case h_2=>cases ht
     rename_i e' hs hd
     split at ht
     case h_2=>cases ht
     rename_i he
     have:=run_convert_bytes_string w src dst e' sa sl sc hs he hd
     rw [← e,hrun] at this
     simp [execOp,hop,this]
   · cases hx
 | makeFunc fn first captured =>
   rw [hop] at hx
   cases fn with
   | func f =>
     simp only [aval] at hx
     injection hx with hx
     subst hx
     refine ⟨.func (.func f) (first.map a.eval) (captured.map a.eval),by simp [execOp,hop,Instr.makeFunc],.fn f _ _ _ _ (by simp) (by simp) ?_ ?_,rfl⟩
     · intro i x v hxx hv
       obtain ⟨o',_,e1,e2⟩:=map_get (l:=first.toList) (g:=a.eval) hxx (by simpa using hv)
       subst e1 e2
       exact (h.get o').dis
     · intro i x v hxx hv
       obtain ⟨o',_,e1,e2⟩:=map_get (l:=captured.toList) (g:=a.eval) hxx (by simpa using hv)
       subst e1 e2
       exact (h.get o').dis
   | _=>simp [aval] at hx
 | slice t y lo hi mx =>
   rw [hop] at hx
   simp only [aval] at hx
   have e:∀ (z:Option Operand),z.map (av s.t) = none ↔ z.map a.eval = none:=by intro z; cases z <;> simp
   have g:∀ (z:Option Operand) (y:AVal) (v:Value),z.map (av s.t) = some y → z.map a.eval = some v → Rep s.H.length G.r G.F y v:=by
     intro z y v h1 h2
     cases z with
     | none=>cases h1
     | some z=>injection h1 with h1; injection h2 with h2; subst h1 h2; exact h.get z
   obtain ⟨u,h1,h2,h3⟩:=slice_sound (P:=P) (w:=w) (h.get y) (e lo) (e hi) (e mx) (g lo) (g hi) (g mx) hx
   exact ⟨u,by simp [execOp,hop,h1],h2,h3⟩
 | fieldAddr t y i =>
   rw [hop] at hx
   obtain ⟨u,h1,h2⟩:=fieldAddr_sound (P:=P) (w:=w) (h.get y) hx
   refine ⟨u,by simp [execOp,hop,h1],h2,?_⟩
   simp only [aval] at hx
   unfold afieldAddr at hx
   split at hx
   · split at hx
     · split at hx
       · cases hx
       · injection hx with hx; subst hx; rfl
     · cases hx
   · split at hx
     · split at hx
       · cases hx
       · injection hx with hx; subst hx; rfl
     · cases hx
   · cases hx
 | field t y i =>
   rw [hop] at hx
   obtain ⟨u,h1,h2,h3⟩:=afield_sound (P:=P) (w:=w) (h.get y) hx
   exact ⟨u,by simp [execOp,hop,h1],h2,h3⟩
 | index t y i =>
   rw [hop] at hx
   obtain ⟨u,h1,h2,h3⟩:=aindex_sound (P:=P) (w:=w) (h.get y) (h.get i) hx
   exact ⟨u,by simp [execOp,hop,h1],h2,h3⟩
 | indexAddr t y i =>
   rw [hop] at hx
   obtain ⟨u,h1,h2⟩:=indexAddr_sound (P:=P) (w:=w) (h.get y) (h.get i) hx
   refine ⟨u,by simp [execOp,hop,h1],h2,?_⟩
   cases h2 with
   | tree _ _ ht =>
     simp only [aval] at hx
     unfold aindexAddr at hx
     split at hx
     · split at hx
       · split at hx
         · rw [Option.map_eq_some_iff] at hx; obtain ⟨_,_,rfl⟩:=hx; rfl
         · cases hx
       · split at hx
         · injection hx with hx; subst hx; rfl
         · cases hx
       · cases hx
     · split at hx
       · split at hx
         · injection hx with hx; subst hx; rfl
         · cases hx
       · split at hx
         · injection hx with hx; subst hx; rfl
         · cases hx
       · cases hx
     · cases hx
   | _=>rfl
 | extract y i =>
   rw [hop] at hx
   simp only [aval] at hx
   have hy:=h.get y
   split at hx
   case h_2=>cases hx
   rename_i vs e
   rw [e] at hy
   rw [Option.map_eq_some_iff] at hx
   obtain ⟨z,hz,rfl⟩:=hx
   have ht:∃ arr,a.eval y = .tuple arr ∧ arr.size = vs.length ∧ ∀ (i:Nat) (x:AVal) (v:Value),vs[i]? = some x → arr[i]? = some v → Rep s.H.length G.r G.F x v:=by
     generalize a.eval y = v at hy
     cases hy with
     | tup _ arr hs hh=>exact ⟨arr,rfl,hs,hh⟩
     | tree _ _ ht=>cases ht
   obtain ⟨arr,e1,e2,e3⟩:=ht
   have hlt:i < arr.size:=by rw [e2]; exact (List.getElem?_eq_some_iff.1 hz).1
   have hu:arr[i]? = some arr[i]:=Array.getElem?_eq_getElem hlt
   exact ⟨arr[i],by simp [execOp,hop,e1,Instr.extract,hu],(e3 i z _ hz hu).dis,isOwn_dis _⟩
 | call c =>
   rw [hop] at hx
   simp only [aval] at hx
   split at hx
   · rename_i hc
     split at hx
     case h_2=>cases hx
     rename_i y t e1 e2
     obtain ⟨u,h1,h2,h3⟩:=alen_sound (P:=P) (w:=w) (t:=t) (ty:=o.type) (h.get y) hx
     have a1:c.args = #[y]:=by rw [← Array.toArray_toList (xs:=c.args),e1]
     have a2:c.argTypes = #[t]:=by rw [← Array.toArray_toList (xs:=c.argTypes),e2]
     exact ⟨u,by simp [execOp,hop,resolve,hc,invoke,builtin,a1,a2,h1],h2,h3⟩
   · rename_i hc
     split at hx
     case h_2=>cases hx
     rename_i y t e1 e2
     obtain ⟨u,h1,h2,h3⟩:=acap_sound (P:=P) (w:=w) (t:=t) (ty:=o.type) (h.get y) hx
     have a1:c.args = #[y]:=by rw [← Array.toArray_toList (xs:=c.args),e1]
     have a2:c.argTypes = #[t]:=by rw [← Array.toArray_toList (xs:=c.argTypes),e2]
     exact ⟨u,by simp [execOp,hop,resolve,hc,invoke,builtin,a1,a2,h1],h2,h3⟩
   · rename_i hc
     split at hx
     case h_2=>cases hx
     rename_i x0 l e1
     cases hl:c.args.toList with
     | nil=>rw [hl] at e1; cases e1
     | cons y ys =>
       rw [hl] at e1
       injection e1 with e1 e2
       subst e1 e2
       obtain ⟨u,h1,h2,h3⟩:=amin_sound (P:=P) (w:=w) (ys.map (av s.t)) (av s.t y) x (a.eval y) (ys.map a.eval) (h.get y) (by simp) (fun i z u p q=>by
         obtain ⟨o',_,e1,e2⟩:=map_get p q
         subst e1 e2
         exact h.get o') hx
       have a1:c.args = (y :: ys).toArray:=by rw [← Array.toArray_toList (xs:=c.args),hl]
       exact ⟨u,by simp [execOp,hop,resolve,hc,invoke,builtin,Builtin.min_,a1,h1],h2,h3⟩
   · rename_i hc
     split at hx
     case h_2=>cases hx
     rename_i x0 l e1
     cases hl:c.args.toList with
     | nil=>rw [hl] at e1; cases e1
     | cons y ys =>
       rw [hl] at e1
       injection e1 with e1 e2
       subst e1 e2
       obtain ⟨u,h1,h2,h3⟩:=amax_sound (P:=P) (w:=w) (ys.map (av s.t)) (av s.t y) x (a.eval y) (ys.map a.eval) (h.get y) (by simp) (fun i z u p q=>by
         obtain ⟨o',_,e1,e2⟩:=map_get p q
         subst e1 e2
         exact h.get o') hx
       have a1:c.args = (y :: ys).toArray:=by rw [← Array.toArray_toList (xs:=c.args),hl]
       exact ⟨u,by simp [execOp,hop,resolve,hc,invoke,builtin,Builtin.max_,a1,h1],h2,h3⟩
   · cases hx
 | _=>rw [hop] at hx; simp [aval] at hx
end
end Go.Am
