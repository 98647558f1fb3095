/- The abstract machine, part one: abstract values, what it means that a value in memory is one, and how that is kept. -/
import Derived.Orders
import Derived.Scope
import Derived.KernelRfl
import Derived.Laws.AppendOwn
namespace Go.Am
open Go
inductive Mode where
  | sh | full | own
  deriving DecidableEq,Inhabited
inductive AVal where
  | undef
  | bool (b:Bool)
  | ubool
  | int (k:IntKind) (n:Int)
  | nilp
  | ptr (id off:Nat)
  | osl (id off len:Nat) (cap:Option Nat) (k:Nat)
  | iptr (cs:List AVal) (off:Nat)
  | nilf
  | fn (f:FuncId) (first captured:List AVal)
  | agg (cs:List AVal)
  | mix (cs:List AVal)
  | tup (vs:List AVal)
  | sl (k:Nat) (xs:List AVal) (m:Mode)
  | str (bs:List Int)
  deriving Inhabited
def AVal.cells:AVal → List AVal
 | .agg cs=>cs
 | .mix cs=>cs
 | x=>[x]
def AVal.scalar:AVal → Bool
 | .agg _ | .mix _ | .tup _ | .undef=>false
 | _=>true
def AVal.isMix:AVal → Bool
 | .mix _=>true
 | _=>false
def AVal.dis:AVal → AVal
 | .sl k xs .own=>.sl k xs .sh
 | x=>x
class Globs where
  tab:Nat → List (IntKind × Int)
def Globs.at_ [Globs] (b o:Nat):Option Value:=((Globs.tab b)[o]?).map fun x=>.int x.1 x.2
variable [Globs]
structure Frz where
  f:Nat → Nat → Option Value
  gl:∀ b o v,Globs.at_ b o = some v → f b o = some v
instance:CoeFun Frz (fun _=>Nat → Nat → Option Value):=⟨Frz.f⟩
def isBytes (bs:List Int):Bool:=bs.all fun n=>decide (0 ≤ n) && decide (n ≤ 255)
def strOf (bs:List Int):ByteArray:=bs.foldl (fun r n=>r.push (UInt8.ofNat n.toNat)) ByteArray.empty
inductive RepT (F:Frz):AVal → Value → Prop where
  | bool (b:Bool):RepT F (.bool b) (.bool b)
  | ubool (b:Bool):RepT F .ubool (.bool b)
  | int (k:IntKind) (n:Int):RepT F (.int k n) (.int k n)
  | nilp:RepT F .nilp (.pointer none)
  | nilf:RepT F .nilf .nilFunc
  | str (bs:List Int):RepT F (.str bs) (.string (strOf bs))
  | agg (cs:List AVal) (arr:Array Value) (hs:arr.size = cs.length) (h1:∀ c ∈ cs,c.scalar = true)
      (h:∀ (i:Nat) (c:AVal) (v:Value),cs[i]? = some c → arr[i]? = some v → RepT F c v):RepT F (.agg cs) (.agg arr)
  | slnil (k:Nat) (m:Mode):RepT F (.sl k [] m) (.slice none 0 0)
  | sl (k:Nat) (xs:List AVal) (m:Mode) (a:Addr) (len cap:Nat) (val:Nat → Value) (hl:len = xs.length) (hc:len ≤ cap) (ha:xs ≠ [] → a.spot = none)
      (hk:xs ≠ [] → 0 < k) (hm:m = .full → cap = len) (hx:∀ x ∈ xs,x.cells.length = k) (h1:∀ x ∈ xs,∀ c ∈ x.cells,c.scalar = true)
      (hF:∀ j,j < len * k → F a.block (a.off + j) = some (val j))
      (h:∀ (i j:Nat) (x c:AVal),xs[i]? = some x → x.cells[j]? = some c → RepT F c (val (i * k + j))):RepT F (.sl k xs m) (.slice (some a) len cap)
inductive Rep (n:Nat) (r:Nat → Nat × Nat) (F:Frz):AVal → Value → Prop where
  | undef (v:Value):Rep n r F .undef v
  | tree (x:AVal) (v:Value) (h:RepT F x v):Rep n r F x v
  | ptr (id off:Nat) (h:id < n):Rep n r F (.ptr id off) (.pointer (some ⟨(r id).1,off,none⟩))
  | osl (id off len:Nat) (cap:Option Nat) (k c:Nat) (h:id < n) (hc:len ≤ c) (hcap:∀ c',cap = some c' → c = c') (hroom:off + c * k ≤ (r id).2):Rep n r F (.osl id off len cap k) (.slice (some ⟨(r id).1,off,none⟩) len c)
  | osl0 (id off:Nat) (cap:Option Nat) (k:Nat) (a:Option Addr) (h:id < n) (hc:cap = none ∨ cap = some 0):Rep n r F (.osl id off 0 cap k) (.slice a 0 0)
  | iptr (cs:List AVal) (off:Nat) (b o:Nat) (val:Nat → Value) (h1:∀ c ∈ cs,c.scalar = true) (hF:∀ j,j < cs.length → F b (o + j) = some (val j))
      (h:∀ (j:Nat) (c:AVal),cs[j]? = some c → RepT F c (val j)):Rep n r F (.iptr cs off) (.pointer (some ⟨b,o + off,none⟩))
  | fn (f:FuncId) (fs cs:List AVal) (fs' cs':Array Value) (hf:fs'.size = fs.length) (hc:cs'.size = cs.length)
      (h:∀ (i:Nat) (x:AVal) (v:Value),fs[i]? = some x → fs'[i]? = some v → Rep n r F x v) (h':∀ (i:Nat) (x:AVal) (v:Value),cs[i]? = some x → cs'[i]? = some v → Rep n r F x v) :
      Rep n r F (.fn f fs cs) (.func (.func f) fs' cs')
  | tup (vs:List AVal) (arr:Array Value) (hs:arr.size = vs.length) (h:∀ (i:Nat) (x:AVal) (v:Value),vs[i]? = some x → arr[i]? = some v → Rep n r F x v) :
      Rep n r F (.tup vs) (.tuple arr)
  | mix (cs:List AVal) (arr:Array Value) (hs:arr.size = cs.length) (h1:∀ c ∈ cs,c.scalar = true)
      (h:∀ (i:Nat) (x:AVal) (v:Value),cs[i]? = some x → arr[i]? = some v → Rep n r F x v):Rep n r F (.mix cs) (.agg arr)
def Frz.le (F F':Frz):Prop:=∀ b o v,F b o = some v → F' b o = some v
theorem Frz.le.refl (F:Frz):F.le F:=fun _ _ _ h=>h
theorem Frz.le.trans {A B C:Frz} (h:A.le B) (k:B.le C):A.le C:=fun b o v e=>k b o v (h b o v e)
theorem RepT.mono {F F':Frz} (hF:F.le F') {x:AVal} {v:Value} (h:RepT F x v):RepT F' x v:=by
 induction h with
 | bool b=>exact .bool b
 | ubool b=>exact .ubool b
 | int k n=>exact .int k n
 | nilp=>exact .nilp
 | nilf=>exact .nilf
 | str bs=>exact .str bs
 | agg cs arr hs h1 _ ih=>exact .agg cs arr hs h1 ih
 | slnil k m=>exact .slnil k m
 | sl k xs m a len cap val hl hc ha hk hm hx h1 hF' _ ih=>exact .sl k xs m a len cap val hl hc ha hk hm hx h1 (fun j hj=>hF _ _ _ (hF' j hj)) ih
theorem Rep.mono {n n':Nat} {r r':Nat → Nat × Nat} {F F':Frz} (hn:n ≤ n') (hr:∀ i,i < n → r' i = r i) (hF:F.le F') {x:AVal} {v:Value} (h:Rep n r F x v):Rep n' r' F' x v:=by
 induction h with
 | undef v=>exact .undef v
 | tree x v h=>exact .tree x v (h.mono hF)
 | ptr id off h=>rw [← hr id h]; exact .ptr id off (Nat.lt_of_lt_of_le h hn)
 | osl id off len cap k c h hc hcap hroom=>rw [← hr id h] at hroom ⊢; exact .osl id off len cap k c (Nat.lt_of_lt_of_le h hn) hc hcap hroom
 | osl0 id off cap k a h hc=>exact .osl0 id off cap k a (Nat.lt_of_lt_of_le h hn) hc
 | iptr cs off b o val h1 hF' h=>exact .iptr cs off b o val h1 (fun j hj=>hF _ _ _ (hF' j hj)) (fun j c e=>(h j c e).mono hF)
 | fn f fs cs fs' cs' hf hc _ _ ih ih'=>exact .fn f fs cs fs' cs' hf hc ih ih'
 | tup vs arr hs _ ih=>exact .tup vs arr hs ih
 | mix cs arr hs h1 _ ih=>exact .mix cs arr hs h1 ih
theorem RepT.dis {F:Frz} {x:AVal} {v:Value} (h:RepT F x v):RepT F x.dis v:=by
 cases h with
 | slnil k m=>cases m <;> exact .slnil k _
 | sl k xs m a len cap val hl hc ha hk hm hx h1 hF h =>
   cases m with
   | own=>exact .sl k xs .sh a len cap val hl hc ha hk (by simp) hx h1 hF h
   | sh=>exact .sl k xs .sh a len cap val hl hc ha hk hm hx h1 hF h
   | full=>exact .sl k xs .full a len cap val hl hc ha hk hm hx h1 hF h
 | bool b=>exact .bool b
 | ubool b=>exact .ubool b
 | int k n=>exact .int k n
 | nilp=>exact .nilp
 | nilf=>exact .nilf
 | str bs=>exact .str bs
 | agg cs arr hs h1 h=>exact .agg cs arr hs h1 h
theorem Rep.dis {n:Nat} {r:Nat → Nat × Nat} {F:Frz} {x:AVal} {v:Value} (h:Rep n r F x v):Rep n r F x.dis v:=by
 cases h with
 | undef v=>exact .undef v
 | tree x v h=>exact .tree _ _ h.dis
 | ptr id off h=>exact .ptr id off h
 | osl id off len cap k c h hc hcap hroom=>exact .osl id off len cap k c h hc hcap hroom
 | osl0 id off cap k a h hc=>exact .osl0 id off cap k a h hc
 | iptr cs off b o val h1 hF h=>exact .iptr cs off b o val h1 hF h
 | fn f fs cs fs' cs' hf hc h h'=>exact .fn f fs cs fs' cs' hf hc h h'
 | tup vs arr hs h=>exact .tup vs arr hs h
 | mix cs arr hs h1 h=>exact .mix cs arr hs h1 h
theorem RepT.scalar {F:Frz} {x:AVal} {v:Value} (h:RepT F x v) (hx:x.scalar = true):v.oneCell' = true:=by
 cases h <;> first | rfl | simp [AVal.scalar] at hx
theorem Rep.scalar {n:Nat} {r:Nat → Nat × Nat} {F:Frz} {x:AVal} {v:Value} (h:Rep n r F x v) (hx:x.scalar = true):v.oneCell' = true:=by
 cases h with
 | tree x v h=>exact h.scalar hx
 | undef v=>simp [AVal.scalar] at hx
 | tup=>simp [AVal.scalar] at hx
 | mix=>simp [AVal.scalar] at hx
 | _=>rfl
theorem RepT.cells {F:Frz} {x:AVal} {v:Value} (h:RepT F x v) (hx:x.scalar = true ∨ ∃ cs,x = .agg cs) :
   v.cells.size = x.cells.length ∧ (∀ c ∈ x.cells,c.scalar = true) ∧ ∀ (i:Nat) (c:AVal) (u:Value),x.cells[i]? = some c → v.cells[i]? = some u → RepT F c u:=by
 cases h with
 | agg cs arr hs h1 h=>exact ⟨hs,h1,h⟩
 | bool b=>exact ⟨rfl,by simp [AVal.cells,AVal.scalar],fun i c u h h'=>by cases i <;> simp [AVal.cells,Value.cells] at h h'; subst h h'; exact .bool b⟩
 | ubool b=>exact ⟨rfl,by simp [AVal.cells,AVal.scalar],fun i c u h h'=>by cases i <;> simp [AVal.cells,Value.cells] at h h'; subst h h'; exact .ubool b⟩
 | int k n=>exact ⟨rfl,by simp [AVal.cells,AVal.scalar],fun i c u h h'=>by cases i <;> simp [AVal.cells,Value.cells] at h h'; subst h h'; exact .int k n⟩
 | nilp=>exact ⟨rfl,by simp [AVal.cells,AVal.scalar],fun i c u h h'=>by cases i <;> simp [AVal.cells,Value.cells] at h h'; subst h h'; exact .nilp⟩
 | nilf=>exact ⟨rfl,by simp [AVal.cells,AVal.scalar],fun i c u h h'=>by cases i <;> simp [AVal.cells,Value.cells] at h h'; subst h h'; exact .nilf⟩
 | str bs=>exact ⟨rfl,by simp [AVal.cells,AVal.scalar],fun i c u h h'=>by cases i <;> simp [AVal.cells,Value.cells] at h h'; subst h h'; exact .str bs⟩
 | slnil k m=>exact ⟨rfl,by simp [AVal.cells,AVal.scalar],fun i c u h h'=>by cases i <;> simp [AVal.cells,Value.cells] at h h'; subst h h'; exact .slnil k m⟩
 | sl k xs m a len cap val hl hc ha hk hm hxx h1 hF h =>
   exact ⟨rfl,by simp [AVal.cells,AVal.scalar],fun i c u e e'=>by cases i <;> simp [AVal.cells,Value.cells] at e e'; subst e e'; exact .sl k xs m a len cap val hl hc ha hk hm hxx h1 hF h⟩
theorem Rep.cells {n:Nat} {r:Nat → Nat × Nat} {F:Frz} {x:AVal} {v:Value} (h:Rep n r F x v) (hx:x.scalar = true ∨ ∃ cs,x = .agg cs) :
   v.cells.size = x.cells.length ∧ (∀ c ∈ x.cells,c.scalar = true) ∧ ∀ (i:Nat) (c:AVal) (u:Value),x.cells[i]? = some c → v.cells[i]? = some u → Rep n r F c u:=by
 cases h with
 | tree x v h=>obtain ⟨a,b,c⟩:=h.cells hx; exact ⟨a,b,fun i y u e e'=>.tree _ _ (c i y u e e')⟩
 | undef v=>rcases hx with hx | ⟨cs,hx⟩ <;> simp [AVal.scalar] at hx
 | tup vs arr=>rcases hx with hx | ⟨cs,hx⟩ <;> simp [AVal.scalar] at hx
 | mix cs arr=>rcases hx with hx | ⟨cs,hx⟩ <;> simp [AVal.scalar] at hx
 | ptr id off h=>exact ⟨rfl,by simp [AVal.cells,AVal.scalar],fun i c u e e'=>by cases i <;> simp [AVal.cells,Value.cells] at e e'; subst e e'; exact .ptr id off h⟩
 | osl id off len cap k c h hc hcap hroom=>exact ⟨rfl,by simp [AVal.cells,AVal.scalar],fun i c u e e'=>by cases i <;> simp [AVal.cells,Value.cells] at e e'; subst e e'; exact .osl id off len cap k c h hc hcap hroom⟩
 | osl0 id off cap k a h hc=>exact ⟨rfl,by simp [AVal.cells,AVal.scalar],fun i c u e e'=>by cases i <;> simp [AVal.cells,Value.cells] at e e'; subst e e'; exact .osl0 id off cap k a h hc⟩
 | iptr cs off b o val h1 hF h=>exact ⟨rfl,by simp [AVal.cells,AVal.scalar],fun i c u e e'=>by cases i <;> simp [AVal.cells,Value.cells] at e e'; subst e e'; exact .iptr cs off b o val h1 hF h⟩
 | fn f fs cs fs' cs' hf hc h h'=>exact ⟨rfl,by simp [AVal.cells,AVal.scalar],fun i c u e e'=>by cases i <;> simp [AVal.cells,Value.cells] at e e'; subst e e'; exact .fn f fs cs fs' cs' hf hc h h'⟩
theorem Rep.mixCells {n:Nat} {r:Nat → Nat × Nat} {F:Frz} {cs:List AVal} {v:Value} (h:Rep n r F (.mix cs) v) :
   v.cells.size = cs.length ∧ (∀ c ∈ cs,c.scalar = true) ∧ ∀ (i:Nat) (c:AVal) (u:Value),cs[i]? = some c → v.cells[i]? = some u → Rep n r F c u:=by
 cases h with
 | mix _ arr hs h1 h=>exact ⟨hs,h1,h⟩
 | tree _ _ ht=>cases ht
end Go.Am
