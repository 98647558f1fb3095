/- The abstract machine, part ten and a half: rows that are written in place: copy, clear, append onto one. -/
import Derived.Test.YtapgoboiljjecaaGreatDoorAmJ
namespace Go.Am
open Go
set_option linter.unusedSectionVars false
variable [Globs]
def asrc (H:List (List AVal)):AVal → Option (Nat × Nat × List AVal)
 | .sl k xs _=>some (k,xs.length,xs.flatMap AVal.cells)
 | .osl id off len _ k=>if len = 0 then some (k,0,[]) else (H[id]?).bind fun cs=>if off + len * k ≤ cs.length ∧ 0 < k then some (k,len,(cs.drop off).take (len * k)) else none
 | _=>none
theorem flat_len {k:Nat}:∀ {xs:List AVal},(∀ x ∈ xs,x.cells.length = k) → (xs.flatMap AVal.cells).length = xs.length * k:=by
 intro xs
 induction xs with
 | nil=>intro _; simp
 | cons x xs ih =>
   intro h
   simp only [List.flatMap_cons,List.length_append,List.length_cons,Nat.succ_mul]
   rw [ih (fun y hy=>h y (by simp [hy])),h x (by simp)]
   omega
theorem flat_get {k:Nat}:∀ {xs:List AVal},(∀ x ∈ xs,x.cells.length = k) → ∀ (q:Nat) (c:AVal),(xs.flatMap AVal.cells)[q]? = some c → ∃ x,xs[q / k]? = some x ∧ x.cells[q % k]? = some c:=by
 intro xs
 induction xs with
 | nil=>intro _ q c h; simp at h
 | cons x xs ih =>
   intro h q c hc
   have hx:=h x (by simp)
   simp only [List.flatMap_cons] at hc
   by_cases hq:q < k
   · rw [List.getElem?_append_left (by omega)] at hc
     rw [Nat.div_eq_of_lt hq,Nat.mod_eq_of_lt hq]
     exact ⟨x,rfl,hc⟩
   · rw [List.getElem?_append_right (by omega),hx] at hc
     have hk:0 < k:=by
       cases k with
       | zero =>
         have:=flat_len (k:=0) (xs:=xs) (fun y hy=>h y (by simp [hy]))
         have:=(List.getElem?_eq_some_iff.1 hc).1
         omega
       | succ k=>omega
     obtain ⟨y,h1,h2⟩:=ih (fun y hy=>h y (by simp [hy])) (q - k) c hc
     have e1:q / k = (q - k) / k + 1:=by rw [← Nat.add_div_right _ hk]; congr 1; omega
     have e2:q % k = (q - k) % k:=by rw [Nat.mod_eq_sub_mod (by omega)]
     rw [e1,e2]
     exact ⟨y,h1,h2⟩
section
variable {P:Program} {n m:Nat} {G0:Gh} {w0:World} {s:ASt} {G:Gh} {a:Act} {w:World}
theorem asrc_sound (h:R n m G0 w0 s G a w) {x:AVal} {v:Value} (hr:Rep s.H.length G.r G.F x v) {k len:Nat} {cells:List AVal} (hx:asrc s.H x = some (k,len,cells)) :
   ∃ (base:Option Addr) (cap:Nat) (L:List Value),v = .slice base len cap ∧ len ≤ cap ∧ L.length = len * k ∧ cells.length = len * k ∧ (base = none → len = 0 ∧ cap = 0) ∧
     (∀ ad,base = some ad → ∀ (j:Nat) (u:Value),L[j]? = some u → w.cell? (ad.add j) = some u) ∧ ∀ (j:Nat) (c:AVal) (u:Value),cells[j]? = some c → L[j]? = some u → Rep s.H.length G.r G.F c u:=by
 unfold asrc at hx
 split at hx
 · rename_i k' xs mm
   simp only [Option.some.injEq,Prod.mk.injEq] at hx
   obtain ⟨rfl,rfl,rfl⟩:=hx
   have ht:=hr.toTree rfl
   obtain ⟨base,cap,L,e1,e2,e3,e4,e5,e6,e7,e8,e9,e10⟩:=ht.slcells
   refine ⟨base,cap,L,e1,e2,e3,flat_len e7,fun e=>?_,fun ad hb j u hu=>?_,fun j c u hc hu=>?_⟩
   · obtain ⟨q1,q2⟩:=e4 e; subst q1; exact ⟨rfl,q2⟩
   · obtain ⟨q1,q2⟩:=e6 ad hb
     have hne:xs ≠ []:=by
       rintro rfl
       have:=(List.getElem?_eq_some_iff.1 hu).1
       simp [e3] at this
     rw [add_spot' (q1 hne)]
     exact h.sr.frz _ _ _ (q2 j u hu)
   · obtain ⟨y,h1,h2⟩:=flat_get e7 j c hc
     obtain ⟨u',g1,g2⟩:=e10 _ _ _ _ h1 h2
     rw [Nat.mul_comm,Nat.div_add_mod,hu] at g1
     injection g1 with g1
     subst g1
     exact .tree _ _ g2
 · rename_i id off len' cap' k'
   split at hx
   · rename_i hl0
     simp only [Option.some.injEq,Prod.mk.injEq] at hx
     obtain ⟨rfl,rfl,rfl⟩:=hx
     subst hl0
     cases hr with
     | tree _ _ ht=>cases ht
     | osl _ _ _ _ _ c hid hc hcap hroom=>exact ⟨_,c,[],rfl,by omega,by simp,by simp,by simp,by simp,by simp⟩
     | osl0 _ _ _ _ ad hid hc=>exact ⟨ad,0,[],rfl,by omega,by simp,by simp,by simp,by simp,by simp⟩
   · rename_i hl0
     simp only [Option.bind_eq_some_iff] at hx
     obtain ⟨cs,hcs,hx⟩:=hx
     split at hx
     case isFalse=>cases hx
     rename_i hfit
     simp only [Option.some.injEq,Prod.mk.injEq] at hx
     obtain ⟨rfl,rfl,rfl⟩:=hx
     have hpos:0 < len' * k':=Nat.mul_pos (by omega) hfit.2
     cases hr with
     | tree _ _ ht=>cases ht
     | osl0=>omega
     | osl _ _ _ _ _ c hid hc hcap hroom =>
       have hne:cs ≠ []:=by rintro rfl; simp at hfit; omega
       obtain ⟨cc,T,h1,h2,h3⟩:=h.boxCells hcs hne
       refine ⟨_,c,(cc.toList.drop off).take (len' * k'),rfl,hc,by simp; omega,by simp; omega,by simp,?_,?_⟩
       · rintro ad e j u hu
         injection e with e
         subst e
         rw [add_spot,cell_of_row w (G.r id).1 (off + j) cc T (0,0) h1]
         simp only [List.getElem?_take,List.getElem?_drop,Array.getElem?_toList] at hu
         split at hu
         · exact hu
         · cases hu
       · intro j y u hy hu
         simp only [List.getElem?_take,List.getElem?_drop,Array.getElem?_toList] at hy hu
         split at hy
         · rename_i hj
           rw [if_pos hj] at hu
           obtain ⟨v',g1,g2,g3⟩:=h3 _ y hy
           rw [hu] at g1
           injection g1 with g1
           subst g1
           exact g3
         · cases hy
 · cases hx
theorem R.setPart (h:R n m G0 w0 s G a w) {id off:Nat} {cs ys:List AVal} {L:List Value} (hid:s.H[id]? = some cs) (hne:cs ≠ []) (hL:L.length = ys.length) (hfit:off + ys.length ≤ cs.length)
   (hrep:∀ (j:Nat) (x:AVal) (v:Value),ys[j]? = some x → L[j]? = some v → Rep s.H.length G.r G.F x v ∧ x.isOwn = false) :
   ∃ c T,w.heap[(G.r id).1]? = some (.cells c T (0,0)) ∧ off + L.length ≤ c.size ∧ R n m G0 w0 ⟨s.t,s.H.set id (setR cs off ys)⟩ G a (w.setRow (G.r id).1 (c.toList.take off ++ L ++ c.toList.drop (off + L.length)).toArray):=by
 obtain ⟨c,T,b1,b2,b3,b4,b5⟩:=h.sr.box id cs hid hne
 refine ⟨c,T,b1,by omega,h.setBox hid hne b1 ?_ (fun j z v hz hv=>?_)⟩
 · rw [setR_length]
   simp only [List.size_toArray,List.length_append,List.length_take,List.length_drop,Array.length_toList]
   omega
 · rw [setR_get _ _ _ _ hfit] at hz
   rw [setRow_get _ _ _ _ (by omega)] at hv
   split at hz
   · rename_i hj
     rw [if_pos (by omega)] at hv
     obtain ⟨q1,q2⟩:=hrep _ z v hz hv
     exact ⟨q1,OwnAt.of_not q2⟩
   · rename_i hj
     rw [if_neg (by omega)] at hv
     exact b5 j z v hz hv
theorem R.drew' (h:R n m G0 w0 s G a w):R n m G0 w0 s G a w.drew :=
 h.pure (w':=w.drew) ⟨rfl,rfl,rfl,Nat.le_refl _,fun _ _=>rfl,Frz.le.refl _,fun _ _ _=>⟨rfl,rfl,fun _=>rfl⟩⟩ h.sr.frz h.sr.new
theorem run_copy_cells {dT sT ty elem:TypeId} {i:TypeInfo} (hu:P.underlying dT = some (.slice elem)) (hi:P.info? elem = some i) (g o dLen dCap:Nat) (base:Option Addr) (sLen sCap:Nat) (cur:Array Value) (t:TypeId) (cs:List Value)
   (hg:w.heap[g]? = some (.cells cur t (0,0))) (hn:cs.length = Nat.min sLen dLen * i.size) (hb:base = none → cs = [])
   (hsrc:∀ ad,base = some ad → ∀ j v,cs[j]? = some v → w.cell? (ad.add j) = some v) (hfit:o + cs.length ≤ cur.size) (h1:∀ v ∈ cs,v.oneCell' = true) :
   (Builtin.copy_ #[dT,sT] ty #[.slice (some ⟨g,o,none⟩) dLen dCap,.slice base sLen sCap]).run P w =
     .ok (goInt (Nat.min sLen dLen)) (w.setRow g (cur.toList.take o ++ cs ++ cur.toList.drop (o + cs.length)).toArray):=by
 have hst:=run_storeCells_at P g o t cs 0 cur w hg (by simpa using hfit) h1
 have hf:(Builtin.firstCells i.size (Nat.min sLen dLen) (.slice base sLen sCap)).run P w = .ok cs.toArray w:=by
   cases base with
   | none=>rw [hb rfl]; simp [Builtin.firstCells]
   | some ad=>exact run_firstCells_some w i.size _ ad sLen sCap cs hn (hsrc ad rfl)
 simp [Builtin.copy_,run_underlying hu,Builtin.lenOf,sizeOf,typeInfo,hi,hf,hst]
theorem run_copy_zero {dT sT ty elem:TypeId} {i:TypeInfo} (hu:P.underlying dT = some (.slice elem)) (hi:P.info? elem = some i) (b1 b2:Option Addr) (dLen dCap sLen sCap:Nat) (h0:Nat.min sLen dLen = 0) :
   (Builtin.copy_ #[dT,sT] ty #[.slice b1 dLen dCap,.slice b2 sLen sCap]).run P w = .ok (goInt 0) w:=by
 have hf:(Builtin.firstCells i.size 0 (.slice b2 sLen sCap)).run P w = .ok #[] w:=by
   cases b2 <;> simp [Builtin.firstCells,loadCells,loadCellsFrom]
 cases b1 <;> simp [Builtin.copy_,run_underlying hu,Builtin.lenOf,sizeOf,typeInfo,hi,h0,hf,storeCells]
theorem run_clear_cells {t ty elem:TypeId} {z:Value} {i:TypeInfo} (hu:P.underlying t = some (.slice elem)) (hi:P.info? elem = some i) (hz:i.zero = some z) (g o len cap:Nat) (hl:0 < len) (cur:Array Value) (T:TypeId)
   (hg:w.heap[g]? = some (.cells cur T (0,0))) (hfit:o + len * z.cells.size ≤ cur.size) (h1:∀ v ∈ (Builtin.zeroCells z.cells len).toList,v.oneCell' = true) :
   (Builtin.clear_ #[t] ty #[.slice (some ⟨g,o,none⟩) len cap]).run P w =
     .ok (.tuple #[]) (w.setRow g (cur.toList.take o ++ (Builtin.zeroCells z.cells len).toList ++ cur.toList.drop (o + (Builtin.zeroCells z.cells len).toList.length)).toArray):=by
 have hst:=run_storeCells_at P g o T (Builtin.zeroCells z.cells len).toList 0 cur w hg (by simpa [size_zeroCells] using hfit) h1
 cases len with
 | zero=>omega
 | succ len=>simp [Builtin.clear_,run_underlying hu,zeroValue,typeInfo,hi,hz,hst]
theorem run_append_zeros (t u ty e:TypeId) (i:TypeInfo) (z:Value) (ht:P.underlying t = some (.slice e)) {kd:IntKind} (hu:P.underlying u = some (.int kd)) (hi:P.info? e = some i) (hz:i.zero = some z) (hzs:z.cells.size = i.size) (hsz:0 < i.size)
   (base:Option Addr) (sLen sCap:Nat) (olds:List Value) (hlo:olds.length = sLen * i.size) (hb:base = none → olds = []) (holds:∀ b,base = some b → ∀ j v,olds[j]? = some v → w.cell? (b.add j) = some v)
   (kk:IntKind) (n:Nat) (hn0:(n:Int) ≤ 9223372036854775807) (hnb:(n:Int) * i.bytes ≤ 281474976710656)
   (hsc:sLen ≤ sCap) (hg:sCap < sLen + n) (h63:((sLen + n:Nat):Int) ≤ 9223372036854775807) (hfit:Builtin.nextslicecap (sLen + n) sCap * i.bytes ≤ 281474976710656) :
   ∃ news:List Value,news.length = n * i.size ∧ (Builtin.append_ #[t,u] ty #[.slice base sLen sCap,.int kk n]).run P w =
     .ok (.slice (some ⟨w.heap.size,0,none⟩) (sLen + n) (grownCap w (sLen + n) sCap e))
       (w.drew.alloc (.cells (olds.toArray ++ news.toArray ++ Builtin.zeroCells z.cells (grownCap w (sLen + n) sCap e - (sLen + n))) e)):=by
 have hn:¬ (sLen + n ≤ sCap):=by omega
 have h63':¬ (9223372036854775807 < ((sLen:Int) + (n:Int))):=by omega
 have h48':¬ (281474976710656 < Builtin.nextslicecap (sLen + n) sCap * i.bytes):=by omega
 have w1:IntKind.i64.wrap (n:Int) = n:=by rw [IntKind.wrap_i64]; omega
 have w2:¬ ((n:Int) < 0):=by omega
 have w3:¬ (281474976710656 < (n:Int) * i.bytes):=by omega
 have hfo:(Builtin.firstCells i.size sLen (.slice base sLen sCap)).run P w.drew = .ok olds.toArray w.drew:=by
   cases base with
   | none=>rw [hb rfl]; simp [Builtin.firstCells]
   | some b=>exact run_firstCells_some w.drew i.size sLen b sLen sCap olds hlo (by simpa using holds b rfl)
 refine ⟨(Builtin.zeroCells z.cells n).toList,by simp [size_zeroCells,hzs],?_⟩
 have hn1:¬ (n = 0):=by omega
 have hns:¬ (n * i.size = 0):=by
   have:0 < n * i.size:=Nat.mul_pos (by omega) hsz
   omega
 simp [Builtin.append_,run_underlying ht,run_underlying hu,sizeOf,typeInfo,zeroValue,hi,hz,asInt,asIntOf,w1,w2,w3,hn,h63',h48',Question.forced,hfo,newRow,grownCap]
 exact fun hh=>absurd hh hns
def acapOf:AVal → Option Nat
 | .osl _ _ _ c _=>c
 | .sl _ [] .full=>some 0
 | _=>none
theorem acapOf_sound {nn:Nat} {r:Nat → Nat × Nat} {F:Frz} {x:AVal} {v:Value} {c:Nat} (hr:Rep nn r F x v) (hx:acapOf x = some c):∃ base len,v = .slice base len c:=by
 unfold acapOf at hx
 split at hx
 · subst hx
   cases hr with
   | tree _ _ ht=>cases ht
   | osl _ _ _ _ _ c' hid hc hcap hroom=>exact ⟨_,_,by rw [hcap c rfl]⟩
   | osl0 _ _ _ _ a hid hc =>
     have:some c = some 0:=hc.resolve_left (by simp)
     injection this with this
     subst this
     exact ⟨_,_,rfl⟩
 · injection hx with hx
   subst hx
   have ht:=hr.toTree rfl
   cases ht with
   | slnil=>exact ⟨_,_,rfl⟩
   | sl _ _ _ a len cap val hl hc ha hk hm=>have:=hm rfl; simp at hl; subst hl this; exact ⟨_,_,rfl⟩
 · cases hx
theorem full_of_acapOf {k:Nat} {m:Mode} {c:Nat} (h:acapOf (.sl k [] m) = some c):m = .full:=by
 cases m <;> first | rfl | cases h
def tcl (P:Program) (t:TypeId):Option Nat :=
 match P.underlying t with
 | some (.slice e)=>match P.info? e with
   | some i=>match i.zero with
     | some z=>if z.cells.size = i.size ∧ 0 < i.size ∧ (z.cells.toList.all fun v=>v.oneCell') = true then some i.size else none
     | none=>none
   | none=>none
 | _=>none
def amark (tr:List Nat) (d:Nat):Bool:=tr.contains (d + 100000)
def acopy (P:Program) (s:ASt) (dst:Option Nat) (t:TypeId) (x y:AVal):Option ASt :=
 match te P t,x,asrc s.H y with
 | some (_,none),.sl _ [] _,some (_,_,_)=>some (s.put dst (.int .i64 0))
 | some (sz,none),.osl id off len _ k,some (k2,len2,ys) =>
   if k = sz ∧ 0 < k ∧ (k2 = k ∨ len2 = 0) then
     if min len2 len = 0 then some (s.put dst (.int .i64 0))
     else match s.H[id]? with
       | some cs=>if off + min len2 len * k ≤ cs.length ∧ (ys.take (min len2 len * k)).all AVal.scalar = true then
           some ⟨(s.put dst (.int .i64 ((min len2 len:Nat):Int))).t,s.H.set id (setR cs off ((ys.take (min len2 len * k)).map AVal.dis))⟩ else none
       | none=>none
   else none
 | _,_,_=>none
def aclear (P:Program) (s:ASt) (dst:Option Nat) (t:TypeId) (x:AVal):Option ASt :=
 match tcl P t,x with
 | some k',.osl id off len _ k =>
   if k = k' then
     if len = 0 then some (s.put dst (.tup []))
     else match s.H[id]? with
       | some cs=>if off + len * k ≤ cs.length then some ⟨(s.put dst (.tup [])).t,s.H.set id (setR cs off (List.replicate (len * k) .undef))⟩ else none
       | none=>none
   else none
 | _,_=>none
def aappR (P:Program) (s:ASt) (d:Nat) (t u:TypeId) (x y:AVal):Option ASt :=
 match tap P t,asrc s.H x,acapOf x with
 | some (k,by_),some (k1,len1,xs),some cap =>
   if k1 = k ∨ len1 = 0 then
     if t = u then
       match asrc s.H y with
       | some (k2,len2,ys) =>
         if (k2 = k ∨ len2 = 0) ∧ (len1 + len2) * by_ ≤ 140737488355328 ∧ len1 + len2 ≤ 140737488355328 then
           if cap < len1 + len2 then some ⟨upd s.t d (.osl s.H.length 0 (len1 + len2) none k),s.H ++ [(xs ++ ys).map AVal.dis]⟩
           else match x with
             | .osl id off len c k3 =>
               if k3 = k then
                 if len2 = 0 then some ⟨upd s.t d (.osl id off len c k),s.H⟩
                 else match s.H[id]? with
                   | some cs=>if off + (len + len2) * k ≤ cs.length ∧ ys.all AVal.scalar = true then some ⟨upd s.t d (.osl id off (len + len2) c k),s.H.set id (setR cs (off + len * k) (ys.map AVal.dis))⟩ else none
                   | none=>none
               else none
             | .sl k3 [] _=>if len2 = 0 then some ⟨upd s.t d (.sl k3 [] .full),s.H⟩ else none
             | _=>none
         else none
       | none=>none
     else match tint P u,y with
       | some _,.int _ q =>
         if 0 ≤ q ∧ q * by_ ≤ 281474976710656 ∧ cap < len1 + q.toNat ∧ (len1 + q.toNat) * by_ ≤ 140737488355328 ∧ len1 + q.toNat ≤ 140737488355328 then
           some ⟨upd s.t d (.osl s.H.length 0 (len1 + q.toNat) none k),s.H ++ [xs.map AVal.dis ++ List.replicate (q.toNat * k) .undef]⟩
         else none
       | _,_=>none
   else none
 | _,_,_=>none
def aappM (P:Program) (s:ASt) (d:Nat) (t u:TypeId) (x y:AVal):Option ASt :=
 match tap P t,x,y with
 | some (k,by_),.osl id 0 len none k3,.sl k2 zs _ =>
   match s.H[id]? with
   | some cs=>if k3 = k ∧ t = u ∧ k2 = k ∧ cs ≠ [] ∧ 0 < zs.length ∧ len * k ≤ cs.length ∧ (len + zs.length) * by_ ≤ 140737488355328 ∧ len + zs.length ≤ 140737488355328 ∧ (cs.take (len * k)).all (fun c=>c.scalar && !c.isOwn) = true ∧ (zs.flatMap AVal.cells).all (fun c=>c.scalar && !c.isOwn) = true then
       some ⟨upd s.t d (.osl s.H.length 0 (len + zs.length) none k),s.H.set id [] ++ [cs.take (len * k) ++ zs.flatMap AVal.cells]⟩ else none
   | none=>none
 | _,_,_=>none
def aappA (P:Program) (s:ASt) (d:Nat) (t u:TypeId) (x y:AVal):Option ASt:=if (acapOf x).isNone = true then aappM P s d t u x y else aappR P s d t u x y
def abx (P:Program) (tr:List Nat) (s:ASt) (o:Oper):Option ASt :=
 match o.op with
 | .call c =>
   match c.callee,c.args.toList,c.argTypes.toList with
   | .builtin .copy,[x,y],t :: _=>acopy P s o.dst t (av s.t x) (av s.t y)
   | .builtin .clear,[x],[t]=>aclear P s o.dst t (av s.t x)
   | .builtin .append,[x,y],[t,u]=>match o.dst with
     | some d=>if amark tr d = true then aappA P s d t u (av s.t x) (av s.t y) else none
     | none=>none
   | _,_,_=>none
 | _=>none
abbrev StepTo (P:Program) (n m:Nat) (G0:Gh) (w0:World) (s':ASt) (a:Act) (w:World) (o:Oper):Prop :=
 ∃ v w' G',(execOp a.eval o).run P w = .ok (.value v) w' ∧ R n m G0 w0 s' G' (a.put o.dst v) w'
theorem tcl_spec {t:TypeId} {k:Nat} (h:tcl P t = some k):∃ e i z,P.underlying t = some (.slice e) ∧ P.info? e = some i ∧ i.zero = some z ∧ i.size = k ∧ z.cells.size = k ∧ 0 < k ∧ ∀ v ∈ z.cells.toList,v.oneCell' = true:=by
 unfold tcl at h
 split at h
 case h_2=>cases h
 rename_i e hu
 split at h
 case h_2=>cases h
 rename_i i hi
 split at h
 case h_2=>cases h
 rename_i z hz
 split at h
 case isFalse=>cases h
 rename_i hc
 injection h with h
 subst h
 exact ⟨e,i,z,hu,hi,hz,rfl,hc.1,hc.2.1,fun v hv=>List.all_eq_true.1 hc.2.2 v hv⟩
theorem acopy_sound (h:R n m G0 w0 s G a w) {dst:Option Nat} (hd:∀ i:Nat,dst = some i → i < n) {t u ty:TypeId} {x y:AVal} {vx vy:Value} (hx:Rep s.H.length G.r G.F x vx) (hy:Rep s.H.length G.r G.F y vy) {s':ASt} (hs:acopy P s dst t x y = some s') :
   ∃ v w' G',(Builtin.copy_ #[t,u] ty #[vx,vy]).run P w = .ok v w' ∧ R n m G0 w0 s' G' (a.put dst v) w':=by
 unfold acopy at hs
 split at hs
 case h_3=>cases hs
 case h_1 =>
   rename_i sz k m k2 len2 ys hq hsrc
   obtain ⟨e,inf,h1,h2,h3⟩:=te_spec hq
   simp only at h3
   obtain ⟨base2,cap2,L,e1,e2,e3,e4,e5,e6,e7⟩:=asrc_sound h hy hsrc
   subst e1
   injection hs with hs
   subst hs
   obtain ⟨b1,c1,ev⟩:∃ b c,vx = .slice b 0 c:=by
     cases hx with
     | tree _ _ ht =>
       cases ht with
       | slnil=>exact ⟨_,_,rfl⟩
       | sl _ _ _ _ _ _ _ hl=>simp at hl; subst hl; exact ⟨_,_,rfl⟩
   subst ev
   refine ⟨goInt 0,w,G,run_copy_zero h3 h1 b1 base2 0 c1 len2 cap2 (Nat.min_eq_right (Nat.zero_le _)),?_⟩
   exact h.put dst hd (.tree _ _ (.int .i64 0)) rfl
 rename_i sz id off len cap k k2 len2 ys hq hsrc
 obtain ⟨e,inf,h1,h2,h3⟩:=te_spec hq
 simp only at h3
 split at hs
 case isFalse=>cases hs
 rename_i hc
 obtain ⟨rfl,hk,hk2⟩:=hc
 obtain ⟨base2,cap2,L,e1,e2,e3,e4,e5,e6,e7⟩:=asrc_sound h hy hsrc
 subst e1
 split at hs
 · rename_i h0
   injection hs with hs
   subst hs
   obtain ⟨b1,c1,ev⟩:∃ b c,vx = .slice b len c:=by
     cases hx with
     | tree _ _ ht=>cases ht
     | osl=>exact ⟨_,_,rfl⟩
     | osl0=>exact ⟨_,_,rfl⟩
   subst ev
   refine ⟨goInt 0,w,G,run_copy_zero h3 h1 b1 base2 len c1 len2 cap2 h0,?_⟩
   exact h.put dst hd (.tree _ _ (.int .i64 0)) rfl
 · rename_i h0
   split at hs
   case h_2=>cases hs
   rename_i cs hcs
   split at hs
   case isFalse=>cases hs
   rename_i hc
   obtain ⟨hfit,hscal⟩:=hc
   injection hs with hs
   subst hs
   have hlen2:len2 ≠ 0:=by intro e; subst e; simp at h0
   have hkk:k2 = k:=hk2.resolve_right hlen2
   subst hkk
   have hle:min len2 len * k2 ≤ len2 * k2:=Nat.mul_le_mul_right _ (Nat.min_le_left _ _)
   have hpos:0 < min len2 len * k2:=Nat.mul_pos (by omega) hk
   have hne:cs ≠ []:=by rintro rfl; simp at hfit; omega
   have hvx:vx = .slice (some ⟨(G.r id).1,off,none⟩) len (match vx with | .slice _ _ c=>c | _=>0):=by
     cases hx with
     | tree _ _ ht=>cases ht
     | osl=>rfl
     | osl0=>simp at h0
   have hrepL:∀ (j:Nat) (z:AVal) (v:Value),((ys.take (min len2 len * k2)).map AVal.dis)[j]? = some z → (L.take (min len2 len * k2))[j]? = some v → Rep s.H.length G.r G.F z v ∧ z.isOwn = false:=by
     intro j z v hz hv
     simp only [List.getElem?_map,Option.map_eq_some_iff] at hz
     obtain ⟨z',hz',rfl⟩:=hz
     simp only [List.getElem?_take] at hz' hv
     split at hz'
     · rename_i hj
       rw [if_pos hj] at hv
       exact ⟨(e7 j z' v hz' hv).dis,isOwn_dis _⟩
     · cases hz'
   obtain ⟨c,T,b1,b2,b3⟩:=h.setPart (off:=off) (ys:=(ys.take (min len2 len * k2)).map AVal.dis) (L:=L.take (min len2 len * k2)) hcs hne (by simp; omega) (by simp; omega) hrepL
   have hone:∀ v ∈ L.take (min len2 len * k2),v.oneCell' = true:=by
     intro v hv
     obtain ⟨j,hj⟩:=List.getElem?_of_mem hv
     have hlt:j < (ys.take (min len2 len * k2)).length:=by
       have:=(List.getElem?_eq_some_iff.1 hj).1
       simp at this ⊢; omega
     have hz:(ys.take (min len2 len * k2))[j]? = some (ys.take (min len2 len * k2))[j]:=List.getElem?_eq_getElem hlt
     have hs:=List.all_eq_true.1 hscal _ (List.getElem_mem hlt)
     have:=(hrepL j (ys.take (min len2 len * k2))[j].dis v (by rw [List.getElem?_map,hz]; rfl) hj).1
     exact this.scalar (dis_scalar hs)
   have hlL:(L.take (min len2 len * k2)).length = min len2 len * k2:=by simp; omega
   have hrun:=run_copy_cells (P:=P) (w:=w) (dT:=t) (sT:=u) (ty:=ty) h3 h1 (G.r id).1 off len (match vx with | .slice _ _ c=>c | _=>0) base2 len2 cap2 c T (L.take (min len2 len * k2)) b1 (by rw [h2]; exact hlL) (fun e=>(hlen2 (e5 e).1).elim)
     (fun ad he j v hv=>e6 ad he j v (by
       simp only [List.getElem?_take] at hv
       split at hv
       · exact hv
       · cases hv)) b2 hone
   rw [hvx]
   refine ⟨_,_,G,hrun,?_⟩
   have:=b3.put dst hd (x:=.int .i64 ((min len2 len:Nat):Int)) (v:=goInt (Nat.min len2 len)) (.tree _ _ (.int _ _)) rfl
   cases dst <;> exact this
theorem aclear_sound (h:R n m G0 w0 s G a w) {dst:Option Nat} (hd:∀ i:Nat,dst = some i → i < n) {t ty:TypeId} {x:AVal} {vx:Value} (hx:Rep s.H.length G.r G.F x vx) {s':ASt} (hs:aclear P s dst t x = some s') :
   ∃ v w' G',(Builtin.clear_ #[t] ty #[vx]).run P w = .ok v w' ∧ R n m G0 w0 s' G' (a.put dst v) w':=by
 unfold aclear at hs
 split at hs
 case h_2=>cases hs
 rename_i k' id off len cap k hq
 obtain ⟨e,i,z,h1,h2,h3,h4,h5,h6,h7⟩:=tcl_spec hq
 split at hs
 case isFalse=>cases hs
 rename_i hk
 subst hk
 split at hs
 · rename_i h0
   subst h0
   injection hs with hs
   subst hs
   obtain ⟨b1,c1,ev⟩:∃ b c,vx = .slice b 0 c:=by
     cases hx with
     | tree _ _ ht=>cases ht
     | osl=>exact ⟨_,_,rfl⟩
     | osl0=>exact ⟨_,_,rfl⟩
   subst ev
   refine ⟨.tuple #[],w,G,by cases b1 <;> simp [Builtin.clear_,run_underlying h1],?_⟩
   exact h.put dst hd (.tup [] #[] rfl (by simp)) rfl
 · rename_i h0
   split at hs
   case h_2=>cases hs
   rename_i cs hcs
   split at hs
   case isFalse=>cases hs
   rename_i hfit
   injection hs with hs
   subst hs
   have hpos:0 < len * k:=Nat.mul_pos (by omega) h6
   have hne:cs ≠ []:=by rintro rfl; simp at hfit; omega
   obtain ⟨c1,ev⟩:∃ c,vx = .slice (some ⟨(G.r id).1,off,none⟩) len c:=by
     cases hx with
     | tree _ _ ht=>cases ht
     | osl=>exact ⟨_,rfl⟩
     | osl0=>exact (h0 rfl).elim
   subst ev
   have hlz:(Builtin.zeroCells z.cells len).toList.length = len * k:=by simp [size_zeroCells,h5]
   have hz1:∀ v ∈ (Builtin.zeroCells z.cells len).toList,v.oneCell' = true:=by
     intro v hv
     simp only [Builtin.zeroCells,Array.toList_map,List.mem_map] at hv
     obtain ⟨q,_,rfl⟩:=hv
     refine h7 _ ?_
     have hlt:q % z.cells.size < z.cells.size:=Nat.mod_lt _ (by omega)
     rw [getElem!_pos z.cells (q % z.cells.size) hlt]
     simp
   obtain ⟨c,T,b1,b2,b3⟩:=h.setPart (off:=off) (ys:=List.replicate (len * k) .undef) (L:=(Builtin.zeroCells z.cells len).toList) hcs hne (by rw [hlz]; simp) (by simpa using hfit) (fun j y v hy hv=>by
     simp only [List.getElem?_replicate] at hy
     split at hy
     · injection hy with hy; subst hy; exact ⟨.undef v,rfl⟩
     · cases hy)
   refine ⟨_,_,G,run_clear_cells (P:=P) (w:=w) (ty:=ty) h1 h2 h3 (G.r id).1 off len c1 (by omega) c T b1 (by rw [h5]; rw [hlz] at b2; exact b2) hz1,?_⟩
   have:=b3.put dst hd (x:=.tup []) (v:=.tuple #[]) (.tup [] #[] rfl (by simp)) rfl
   cases dst <;> exact this
theorem newRow_sound (h:R n m G0 w0 s G a w) {d:Nat} (hd:d < n) {k total:Nat} {cells:List AVal} {L:List Value} {Z:Array Value} {e:TypeId} {cap:Nat} (hL:L.length = total * k) (hcl:cells.length = L.length) (hcap:total ≤ cap)
   (hZ:Z.size = (cap - total) * k) (hrep:∀ (j:Nat) (c:AVal) (u:Value),cells[j]? = some c → L[j]? = some u → Rep s.H.length G.r G.F c u) :
   ∃ G',R n m G0 w0 ⟨upd s.t d (.osl s.H.length 0 total none k),s.H ++ [cells.map AVal.dis]⟩ G' (a.put (some d) (.slice (some ⟨w.heap.size,0,none⟩) total cap)) (w.drew.alloc (.cells (L.toArray ++ Z) e)):=by
 obtain ⟨G',r1,r2,r3⟩:=h.drew'.newBox (cells.map AVal.dis) (L.toArray ++ Z) e (by simp; omega) (fun j x v hx hv=>by
   simp only [List.getElem?_map,Option.map_eq_some_iff] at hx
   obtain ⟨y,hy,rfl⟩:=hx
   have hj:j < L.length:=by rw [← hcl]; exact (List.getElem?_eq_some_iff.1 hy).1
   rw [Array.getElem?_append_left (by simpa using hj)] at hv
   exact ⟨(hrep j y v hy (by simpa using hv)).dis,isOwn_dis _⟩)
 refine ⟨G',?_⟩
 have hsz:(L.toArray ++ Z).size = cap * k:=by
   simp only [Array.size_append,List.size_toArray,hL,hZ,← Nat.add_mul]
   congr 1; omega
 have r4:=r1.put (some d) (fun i e=>by injection e with e; subst e; exact hd) (x:=.osl s.H.length 0 total none k) (v:=.slice (some ⟨w.heap.size,0,none⟩) total cap) (by
   rw [show w.heap.size = (G'.r s.H.length).1 by rw [r2]; rfl]
   exact .osl _ _ _ _ _ _ (by simp) hcap (by simp) (by rw [r2,hsz]; simp)) rfl
 exact r4
theorem aappR_sound (h:R n m G0 w0 s G a w) {d:Nat} (hd:d < n) {t u ty:TypeId} {x y:AVal} {vx vy:Value} (hx:Rep s.H.length G.r G.F x vx) (hy:Rep s.H.length G.r G.F y vy) {s':ASt} (hs:aappR P s d t u x y = some s') :
   ∃ v w' G',(Builtin.append_ #[t,u] ty #[vx,vy]).run P w = .ok v w' ∧ R n m G0 w0 s' G' (a.put (some d) v) w':=by
 unfold aappR at hs
 split at hs
 case h_2=>cases hs
 rename_i k by_ k1 len1 xs cap ht hsx hcx
 obtain ⟨e,i,z,t1,t2,t3,t4,t5,t6,t7⟩:=tap_spec ht
 split at hs
 case isFalse=>cases hs
 rename_i hk1
 obtain ⟨base1,cap1,L1,e1,e2,e3,e4,e5,e6,e7⟩:=asrc_sound h hx hsx
 obtain ⟨b',l',hv'⟩:=acapOf_sound hx hcx
 have hcc:cap1 = cap:=by rw [e1] at hv'; injection hv' with q1 q2 q3
 subst hcc
 have hL1:L1.length = len1 * k:=by
   rcases hk1 with rfl | rfl
   · exact e3
   · simpa using e3
 have hxs:xs.length = len1 * k:=by
   rcases hk1 with rfl | rfl
   · exact e4
   · simpa using e4
 split at hs
 · rename_i htu
   subst htu
   split at hs
   case h_2=>cases hs
   rename_i k2 len2 ys hsy
   obtain ⟨base2,cap2,L2,f1,f2,f3,f4,f5,f6,f7⟩:=asrc_sound h hy hsy
   split at hs
   case isFalse=>cases hs
   rename_i hcond
   obtain ⟨hk2,hb,hb'⟩:=hcond
   have hL2:L2.length = len2 * k:=by
     rcases hk2 with rfl | rfl
     · exact f3
     · simpa using f3
   have hys:ys.length = len2 * k:=by
     rcases hk2 with rfl | rfl
     · exact f4
     · simpa using f4
   subst e1 f1
   split at hs
   · -- a new row
     rename_i hgrow
     injection hs with hs
     subst hs
     have hn2:0 < len2:=by omega
     obtain ⟨b2,rfl⟩:∃ b,base2 = some b:=by
       cases base2 with
       | none=>have:=(f5 rfl).1; omega
       | some b=>exact ⟨b,rfl⟩
     have hfit:Builtin.nextslicecap (len1 + len2) cap1 * i.bytes ≤ 281474976710656:=growslice_fits hgrow (by rw [t5]; exact hb)
     have h63:((len1 + len2:Nat):Int) ≤ 9223372036854775807:=by omega
     have hrun:(Builtin.append_ #[t,t] ty #[.slice base1 len1 cap1,.slice (some b2) len2 cap2]).run P w =
         .ok (.slice (some ⟨w.heap.size,0,none⟩) (len1 + len2) (grownCap w (len1 + len2) cap1 e)) (w.drew.alloc (.cells ((L1 ++ L2).toArray ++ Builtin.zeroCells z.cells (grownCap w (len1 + len2) cap1 e - (len1 + len2))) e)):=by
       have hj:(L1 ++ L2).toArray = L1.toArray ++ L2.toArray:=by simp
       rw [hj]
       cases base1 with
       | none =>
         obtain ⟨q1,q2⟩:=e5 rfl
         subst q1 q2
         have:L1 = []:=List.eq_nil_of_length_eq_zero (by simpa using hL1)
         subst this
         have:=run_append_nil (P:=P) w t ty e i z t1 t2 t3 b2 len2 cap2 L2 (by rw [t4]; exact hL2) (f6 b2 rfl) hn2 (by simpa using h63) (by rw [t5]; simp at hb; omega)
         simpa using this
       | some b1 =>
         exact run_append_grow (P:=P) w t ty e i z t1 t2 t3 b1 len1 cap1 L1 (by rw [t4]; exact hL1) (e6 b1 rfl) b2 len2 cap2 L2 (by rw [t4]; exact hL2) (f6 b2 rfl) hgrow h63 hfit
     obtain ⟨G',hR⟩:=newRow_sound h hd (k:=k) (total:=len1 + len2) (cells:=xs ++ ys) (L:=L1 ++ L2) (Z:=Builtin.zeroCells z.cells (grownCap w (len1 + len2) cap1 e - (len1 + len2))) (e:=e) (cap:=grownCap w (len1 + len2) cap1 e)
       (by simp [hL1,hL2,Nat.add_mul]) (by simp [hL1,hL2,hxs,hys]) (grownCap_ge _ _ _ _) (by rw [size_zeroCells,t6]) (fun j c u hc hu=>by
         by_cases hj:j < xs.length
         · rw [List.getElem?_append_left hj] at hc
           rw [List.getElem?_append_left (by omega)] at hu
           exact e7 j c u hc hu
         · rw [List.getElem?_append_right (by omega)] at hc
           rw [List.getElem?_append_right (by omega)] at hu
           rw [hL1,← hxs] at hu
           exact f7 _ c u hc hu)
     exact ⟨_,_,G',hrun,hR⟩
   · rename_i hroom
     split at hs
     · rename_i id off len c k3
       split at hs
       case isFalse=>cases hs
       rename_i hk3
       subst hk3
       have hlen:len1 = len ∧ k1 = k3 ∨ len1 = 0 ∧ len = 0:=by
         simp only [asrc] at hsx
         split at hsx
         · rename_i h0
           simp only [Option.some.injEq,Prod.mk.injEq] at hsx
           right; exact ⟨hsx.2.1.symm,h0⟩
         · simp only [Option.bind_eq_some_iff] at hsx
           obtain ⟨cs,_,hsx⟩:=hsx
           split at hsx
           · simp only [Option.some.injEq,Prod.mk.injEq] at hsx
             left; exact ⟨hsx.2.1.symm,hsx.1.symm⟩
           · cases hsx
       have hll:len1 = len:=by omega
       subst hll
       split at hs
       · rename_i h0
         subst h0
         injection hs with hs
         subst hs
         refine ⟨_,w,G,run_append_none t1 t2 base1 base2 len1 cap1 cap2 e2,?_⟩
         exact h.put (some d) (fun i e=>by injection e with e; subst e; exact hd) hx rfl
       · rename_i h0
         split at hs
         case h_2=>cases hs
         rename_i cs hcs
         split at hs
         case isFalse=>cases hs
         rename_i hc
         obtain ⟨hfit,hscal⟩:=hc
         injection hs with hs
         subst hs
         have hpos:0 < len2 * k3:=Nat.mul_pos (by omega) t7
         have hfit':off + len1 * k3 + len2 * k3 ≤ cs.length:=by rw [Nat.add_mul] at hfit; omega
         have hne:cs ≠ []:=by rintro rfl; simp at hfit'; omega
         obtain ⟨b2,rfl⟩:∃ b,base2 = some b:=by
           cases base2 with
           | none=>have:=(f5 rfl).1; omega
           | some b=>exact ⟨b,rfl⟩
         have hbase:base1 = some ⟨(G.r id).1,off,none⟩ ∧ off + cap1 * k3 ≤ (G.r id).2 ∧ id < s.H.length ∧ ∀ c',c = some c' → cap1 = c':=by
           cases hx with
           | tree _ _ ht=>cases ht
           | osl _ _ _ _ _ c hid hc hcap hroom=>exact ⟨rfl,hroom,hid,hcap⟩
           | osl0=>omega
         obtain ⟨hb1,hroomz,hid,hcapc⟩:=hbase
         subst hb1
         have hrepL:∀ (j:Nat) (z:AVal) (v:Value),(ys.map AVal.dis)[j]? = some z → L2[j]? = some v → Rep s.H.length G.r G.F z v ∧ z.isOwn = false:=by
           intro j z v hz hv
           simp only [List.getElem?_map,Option.map_eq_some_iff] at hz
           obtain ⟨z',hz',rfl⟩:=hz
           exact ⟨(f7 j z' v hz' hv).dis,isOwn_dis _⟩
         obtain ⟨cc,T,p1,p2,p3⟩:=h.setPart (off:=off + len1 * k3) (ys:=ys.map AVal.dis) (L:=L2) hcs hne (by simp [hL2,hys]) (by simp [hys]; omega) hrepL
         have hone:∀ v ∈ L2,v.oneCell' = true:=by
           intro v hv
           obtain ⟨j,hj⟩:=List.getElem?_of_mem hv
           have hlt:j < ys.length:=by
             have:=(List.getElem?_eq_some_iff.1 hj).1
             omega
           have hs:=List.all_eq_true.1 hscal _ (List.getElem_mem hlt)
           have:=(hrepL j ys[j].dis v (by rw [List.getElem?_map,List.getElem?_eq_getElem hlt]; rfl) hj).1
           exact this.scalar (dis_scalar hs)
         have hst:=run_storeCells_at P (G.r id).1 (off + len1 * k3) T L2 0 cc w p1 (by simpa using p2) hone
         simp only [Nat.add_zero] at hst
         have hf:=run_firstCells_some (P:=P) w i.size len2 b2 len2 cap2 L2 (by rw [t4]; exact hL2) (f6 b2 rfl)
         refine ⟨.slice (some ⟨(G.r id).1,off,none⟩) (len1 + len2) cap1,w.setRow (G.r id).1 (cc.toList.take (off + len1 * k3) ++ L2 ++ cc.toList.drop (off + len1 * k3 + L2.length)).toArray,G,?_,?_⟩
         · have hroom':len1 + len2 ≤ cap1:=by omega
           rw [← t4] at hst ⊢
           simp [Builtin.append_,run_underlying t1,sizeOf,typeInfo,t2,Builtin.lenOf,hroom',hf,add_spot,hst]
         · have:=p3.put (some d) (fun i e=>by injection e with e; subst e; exact hd) (x:=.osl id off (len1 + len2) c k3) (v:=.slice (some ⟨(G.r id).1,off,none⟩) (len1 + len2) cap1)
             (.osl id off _ c k3 cap1 (by simpa using hid) (by omega) hcapc hroomz) rfl
           exact this
     · rename_i kk mm
       split at hs
       case isFalse=>cases hs
       rename_i h0
       subst h0
       injection hs with hs
       subst hs
       have hz:len1 = 0:=by
         simp only [asrc,List.length_nil,Option.some.injEq,Prod.mk.injEq] at hsx
         exact hsx.2.1.symm
       subst hz
       have hcap0:cap1 = 0:=by
         have:=hcx
         simp only [acapOf] at this
         split at this
         · rename_i e; cases e
         · injection this with this; exact this.symm
         · cases this
       subst hcap0
       have hfull:=full_of_acapOf hcx
       subst hfull
       have:=h.put (some d) (fun i e=>by injection e with e; subst e; exact hd) hx rfl
       exact ⟨_,w,G,run_append_none t1 t2 base1 base2 0 0 cap2 (Nat.le_refl _),this⟩
     · cases hs
 · split at hs
   case h_2=>cases hs
   rename_i kd kk q hkd
   split at hs
   case isFalse=>cases hs
   rename_i hcond
   obtain ⟨hq0,hqb,hgrow,hb,hb'⟩:=hcond
   injection hs with hs
   subst hs
   have hvy:=hy.int_inv
   subst hvy e1
   have hu:P.underlying u = some (.int kd):=by
     unfold tint at hkd
     split at hkd
     · injection hkd with hkd; subst hkd; assumption
     · cases hkd
   obtain ⟨nq,rfl⟩:∃ nq:Nat,q = nq:=⟨q.toNat,by omega⟩
   simp only [Int.toNat_natCast] at hgrow hb hb' ⊢
   obtain ⟨news,hnl,hrun⟩:=run_append_zeros (P:=P) (w:=w) t u ty e i z t1 hu t2 t3 (by rw [t6,t4]) (by rw [t4]; exact t7) base1 len1 cap1 L1 (by rw [t4]; exact hL1) (fun e=>List.eq_nil_of_length_eq_zero (by rw [hL1,(e5 e).1]; simp)) e6 kk nq (by omega) (by rw [t5]; exact hqb) e2 hgrow (by omega) (growslice_fits hgrow (by rw [t5]; exact hb))
   rw [t4] at hnl
   obtain ⟨G',hR⟩:=newRow_sound h hd (k:=k) (total:=len1 + nq) (cells:=xs ++ List.replicate (nq * k) .undef) (L:=L1 ++ news) (Z:=Builtin.zeroCells z.cells (grownCap w (len1 + nq) cap1 e - (len1 + nq))) (e:=e) (cap:=grownCap w (len1 + nq) cap1 e)
     (by simp [hL1,hnl,Nat.add_mul]) (by simp [hL1,hnl,hxs]) (grownCap_ge _ _ _ _) (by rw [size_zeroCells,t6]) (fun j c u hc hu=>by
       by_cases hj:j < xs.length
       · rw [List.getElem?_append_left hj] at hc
         rw [List.getElem?_append_left (by omega)] at hu
         exact e7 j c u hc hu
       · rw [List.getElem?_append_right (by omega)] at hc
         simp only [List.getElem?_replicate] at hc
         split at hc
         · injection hc with hc; subst hc; exact .undef u
         · cases hc)
   refine ⟨_,_,G',hrun,?_⟩
   · have e:(xs ++ List.replicate (nq * k) AVal.undef).map AVal.dis = xs.map AVal.dis ++ List.replicate (nq * k) .undef:=by simp [AVal.dis]
     rw [e] at hR
     simpa using hR
end
def mv (p q i:Nat):Nat:=if i = p then q else i
noncomputable def Gh.adopt (G:Gh) (p q:Nat):Gh:=⟨G.F,fun i=>if i = q then G.r p else G.r i,fun b=>match G.K b with
 | some (.box id)=>some (.box (mv p q id))
 | some (.cell id j)=>some (.cell (mv p q id) j)
 | x=>x⟩
theorem adopt_tch (G:Gh) (p q b:Nat):(G.adopt p q).Tch b ↔ G.Tch b:=by
 unfold Gh.Tch Gh.adopt
 cases h:G.K b with
 | none=>simp [h]
 | some k=>cases k <;> simp [h]
theorem SR.adopt {G:Gh} {H:List (List AVal)} {w:World} (h:SR G H w) {p:Nat} {cs:List AVal} (hp:H[p]? = some cs):SR (G.adopt p H.length) (H.set p [] ++ [cs]) w:=by
 have hpl:p < H.length:=(List.getElem?_eq_some_iff.1 hp).1
 have hlen:(H.set p [] ++ [cs]).length = H.length + 1:=by simp
 have hr:∀ i,i < H.length → (G.adopt p H.length).r i = G.r i:=fun i hi=>by simp only [Gh.adopt]; rw [if_neg (by omega)]
 have own:∀ id j x v,id < H.length → OwnAt G w (.cell id j) x v → OwnAt (G.adopt p H.length) w (.cell (mv p H.length id) j) x v:=by
   intro id j x v _ ho k xs a len cap e1 e2 e3
   obtain ⟨g1,g2,g3,g4,g5⟩:=ho k xs a len cap e1 e2 e3
   refine ⟨?_,g2,g3,g4,g5⟩
   simp only [Gh.adopt,g1]
 refine ⟨h.frz,fun id ds hid hne=>?_,fun b hb=>?_⟩
 · by_cases hl:id < H.length
   · have hne2:id ≠ p:=by
       rintro rfl
       rw [List.getElem?_append_left (by simpa using hl),List.getElem?_set_self hl] at hid
       injection hid with hid
       exact hne hid.symm
     rw [List.getElem?_append_left (by simpa using hl),List.getElem?_set_ne (fun e=>hne2 e.symm)] at hid
     obtain ⟨c,T,h1,h2,h3,h4,h5⟩:=h.box id ds hid hne
     rw [hlen]
     refine ⟨c,T,by rw [hr id hl]; exact h1,by rw [hr id hl]; exact h2,?_,fun o=>by rw [hr id hl]; exact h4 o,fun j x v hx hv=>?_⟩
     · rw [hr id hl]
       simp only [Gh.adopt,h3,mv,if_neg hne2]
     · obtain ⟨k1,k2⟩:=h5 j x v hx hv
       refine ⟨k1.mono (by omega) hr (Frz.le.refl _),?_⟩
       have:=own id j x v hl k2
       rwa [show mv p H.length id = id from if_neg hne2] at this
   · have hidl:id < (H.set p [] ++ [cs]).length:=(List.getElem?_eq_some_iff.1 hid).1
     have hid2:id = H.length:=by rw [hlen] at hidl; omega
     subst hid2
     rw [List.getElem?_append_right (by simp)] at hid
     simp at hid
     subst hid
     obtain ⟨c,T,h1,h2,h3,h4,h5⟩:=h.box p cs hp hne
     have er:(G.adopt p H.length).r H.length = G.r p:=by simp only [Gh.adopt,if_true]
     rw [hlen,er]
     refine ⟨c,T,h1,h2,by simp only [Gh.adopt,h3,mv,if_true],h4,fun j x v hx hv=>?_⟩
     obtain ⟨k1,k2⟩:=h5 j x v hx hv
     refine ⟨k1.mono (by omega) hr (Frz.le.refl _),?_⟩
     have:=own p j x v hpl k2
     rwa [show mv p H.length p = H.length from if_pos rfl] at this
 · simp only [Gh.adopt,h.new b hb]
section
variable {P:Program} {n m:Nat} {G0:Gh} {w0:World} {s:ASt} {G:Gh} {a:Act} {w:World}
theorem SR.kill {H:List (List AVal)} (h:SR G H w) (id:Nat):SR G (H.set id []) w:=by
 refine ⟨h.frz,fun i cs hi hne=>?_,h.new⟩
 rw [List.getElem?_set] at hi
 split at hi
 · split at hi
   · injection hi with hi; exact (hne hi.symm).elim
   · cases hi
 · obtain ⟨c,T,b1,b2,b3,b4,b5⟩:=h.box i cs hi hne
   exact ⟨c,T,b1,b2,b3,b4,fun j x v hx hv=>by simpa using b5 j x v hx hv⟩
theorem SR.short {H:List (List AVal)} (h:SR G H w) {id:Nat} {cs ds:List AVal} (hid:H[id]? = some cs) (hp:∀ (j:Nat) (x:AVal),ds[j]? = some x → cs[j]? = some x) (hl:ds.length ≤ cs.length) (hne:cs ≠ []):SR G (H.set id ds) w:=by
 refine ⟨h.frz,fun i es hi hnes=>?_,h.new⟩
 rw [List.getElem?_set] at hi
 split at hi
 · rename_i e
   subst e
   split at hi
   · injection hi with hi
     subst hi
     obtain ⟨c,T,b1,b2,b3,b4,b5⟩:=h.box _ cs hid hne
     exact ⟨c,T,b1,⟨by omega,b2.2⟩,b3,b4,fun j x v hx hv=>by simpa using b5 j x v (hp j x hx) hv⟩
   · cases hi
 · obtain ⟨c,T,b1,b2,b3,b4,b5⟩:=h.box i es hi hnes
   exact ⟨c,T,b1,b2,b3,b4,fun j x v hx hv=>by simpa using b5 j x v hx hv⟩
theorem SR.room {H:List (List AVal)} (h:SR G H w) {id:Nat} {cs:List AVal} (hid:H[id]? = some cs) (hne:cs ≠ []) (k:Nat) (hk:k = 0 ∨ cs.length + k ≤ (G.r id).2):SR G (H.set id (cs ++ List.replicate k .undef)) w:=by
 obtain ⟨c,T,b1,b2,b3,b4,b5⟩:=h.box id cs hid hne
 refine ⟨h.frz,fun id' cs' hid2 hne2=>?_,h.new⟩
 rw [List.getElem?_set] at hid2
 split at hid2
 · rename_i e
   subst e
   split at hid2
   · injection hid2 with hid2
     subst hid2
     refine ⟨c,T,b1,⟨by simp only [List.length_append,List.length_replicate]; omega,b2.2⟩,b3,b4,fun j y u hy hu=>?_⟩
     by_cases hj:j < cs.length
     · rw [List.getElem?_append_left hj] at hy
       simpa using b5 j y u hy hu
     · rw [List.getElem?_append_right (by omega)] at hy
       simp only [List.getElem?_replicate] at hy
       split at hy
       · injection hy with hy; subst hy; exact ⟨.undef u,OwnAt.of_not rfl⟩
       · cases hy
   · cases hid2
 · obtain ⟨c',T',d1,d2,d3,d4,d5⟩:=h.box id' cs' hid2 hne2
   exact ⟨c',T',d1,d2,d3,d4,fun j x v hx hv=>by simpa using d5 j x v hx hv⟩
theorem R.reH (h:R n m G0 w0 s G a w) {H:List (List AVal)} (hl:H.length = s.H.length) (hs:SR G H w):R n m G0 w0 ⟨s.t,H⟩ G a w :=
 ⟨h.sz,h.out,h.dfr,h.clean,h.ext,by rw [hl]; exact h.hm,hs,fun i v hv=>by rw [hl]; exact h.tmp i v hv⟩
theorem R.adopt (h:R n m G0 w0 s G a w) {p:Nat} {cs:List AVal} (hp:s.H[p]? = some cs):R n m G0 w0 ⟨s.t,s.H.set p [] ++ [cs]⟩ (G.adopt p s.H.length) a w:=by
 have hpl:p < s.H.length:=(List.getElem?_eq_some_iff.1 hp).1
 have hr:∀ i,i < s.H.length → (G.adopt p s.H.length).r i = G.r i:=fun i hi=>by simp only [Gh.adopt]; rw [if_neg (by omega)]
 refine ⟨h.sz,h.out,h.dfr,h.clean,?_,by simp; have:=h.hm; omega,h.sr.adopt hp,fun i v hv=>?_⟩
 · refine ⟨h.ext.os,h.ext.tape,h.ext.output,h.ext.size,fun i hi=>?_,h.ext.mono,fun b hb ht=>?_⟩
   · rw [hr i (Nat.lt_of_lt_of_le hi h.hm)]
     exact h.ext.rho i hi
   · obtain ⟨q1,q2,q3⟩:=h.ext.old b hb ht
     refine ⟨q1,?_,q3⟩
     simp only [Gh.adopt]
     cases e:G.K b with
     | none=>rw [← q2,e]
     | some k =>
       cases k with
       | box id=>exact (ht (.inl ⟨id,by rw [← q2]; exact e⟩)).elim
       | cell id j=>exact (ht (.inr ⟨id,j,by rw [← q2]; exact e⟩)).elim
       | _=>rw [← q2,e]
 · obtain ⟨t1,t2⟩:=h.tmp i v hv
   refine ⟨t1.mono (by simp) hr (Frz.le.refl _),?_⟩
   intro k xs ad len cap e1 e2 e3
   obtain ⟨g1,g2,g3,g4,g5⟩:=t2 k xs ad len cap e1 e2 e3
   refine ⟨?_,g2,g3,g4,g5⟩
   simp only [Gh.adopt,g1]
theorem R.reslot (h:R n m G0 w0 s G a w) {d:Nat} (hd:d < n) {y:AVal} (hy:∀ v,Rep s.H.length G.r G.F (s.t d) v → Rep s.H.length G.r G.F y v) (ho:y.isOwn = false):R n m G0 w0 ⟨upd s.t d y,s.H⟩ G a w :=
 ⟨h.sz,fun i hi=>by simp only [upd]; rw [if_neg (by omega)]; exact h.out i hi,h.dfr,h.clean,h.ext,h.hm,h.sr,fun i v hv=>by
   by_cases e:i = d
   · subst e
     simp only [upd,if_true]
     exact ⟨hy v (h.tmp i v hv).1,OwnAt.of_not ho⟩
   · simp only [upd,if_neg e]
     exact h.tmp i v hv⟩
theorem dis_self {c:AVal} (h:(c.scalar && !c.isOwn) = true):c.dis = c:=by
 cases c with
 | sl k xs md=>cases md <;> simp [AVal.isOwn,AVal.scalar,AVal.dis] at h ⊢
 | _=>rfl
theorem dis_all {cs:List AVal} (h:cs.all (fun c=>c.scalar && !c.isOwn) = true):cs.map AVal.dis = cs :=
 (List.map_congr_left (g:=id) fun y hy=>dis_self (List.all_eq_true.1 h y hy)).trans (List.map_id cs)
theorem aappM_sound (h:R n m G0 w0 s G a w) {d:Nat} (hd:d < n) {t u ty:TypeId} {x y:AVal} {vx vy:Value} (hx:Rep s.H.length G.r G.F x vx) (hy:Rep s.H.length G.r G.F y vy) {s':ASt} (hs:aappM P s d t u x y = some s') :
   ∃ v w' G',(Builtin.append_ #[t,u] ty #[vx,vy]).run P w = .ok v w' ∧ R n m G0 w0 s' G' (a.put (some d) v) w':=by
 unfold aappM at hs
 split at hs
 case h_2=>cases hs
 rename_i k by_ id len k3 k2 zs md ht
 split at hs
 case h_2=>cases hs
 rename_i cs hid
 split at hs
 case isFalse=>cases hs
 rename_i hc
 obtain ⟨q1,q2,q3,hne,h2,hfit,hb,hb',hta,htb⟩:=hc
 subst q2
 subst q1
 subst q3
 injection hs with hs
 subst hs
 have hk:0 < k2:=by
   obtain ⟨_,_,_,_,_,_,_,_,_,t7⟩:=tap_spec ht
   exact t7
 have hidl:id < s.H.length:=(List.getElem?_eq_some_iff.1 hid).1
 have hsrc:∀ (H:List (List AVal)) (ds:List AVal) (c:Option Nat),H[id]? = some ds → len * k2 ≤ ds.length → asrc H (.osl id 0 len c k2) = some (k2,len,ds.take (len * k2)):=by
   intro H ds c e1 e2
   simp only [asrc,e1,Option.bind_some,Nat.zero_add,List.drop_zero]
   split
   · rename_i e; subst e; simp
   · rw [if_pos ⟨e2,hk⟩]
 cases hx with
 | tree _ _ ht=>cases ht
 | osl0 _ _ _ _ a hid' hc' =>
   have hx2:Rep s.H.length G.r G.F (.sl k2 [] .full) (.slice a 0 0):=by
     cases a with
     | none=>exact .tree _ _ (.slnil k2 .full)
     | some a=>exact .tree _ _ (.sl k2 [] .full a 0 0 (fun _=>undef) rfl (Nat.le_refl _) (fun e=>(e rfl).elim) (fun e=>(e rfl).elim) (by simp) (by simp) (by simp) (by simp) (by simp))
   have e:aappR P s d t t (.sl k2 [] .full) (.sl k2 zs md) = some ⟨upd s.t d (.osl s.H.length 0 (0 + zs.length) none k2),s.H ++ [cs.take (0 * k2) ++ zs.flatMap AVal.cells]⟩:=by
     simp only [aappR,ht,asrc,acapOf,List.length_nil,List.flatMap_nil]
     simp only [true_or,if_true]
     rw [if_pos ⟨trivial,hb,hb'⟩,if_pos (by omega)]
     simp [dis_all htb]
   obtain ⟨v,w',G',r1,r2⟩:=aappR_sound (P:=P) h hd (t:=t) (u:=t) (ty:=ty) hx2 hy e
   refine ⟨v,w',G',r1,?_⟩
   have:=r2.reH (H:=(s.H ++ [cs.take (0 * k2) ++ zs.flatMap AVal.cells]).set id []) (by simp) (r2.sr.kill id)
   rw [List.set_append_left _ _ hidl] at this
   exact this
 | osl _ _ _ _ _ C hid' hlc hcap hroom =>
   have hx2:∀ N,id < N → Rep N G.r G.F (.osl id 0 len (some C) k2) (.slice (some ⟨(G.r id).1,0,none⟩) len C):=fun N hN=>.osl id 0 len (some C) k2 C hN hlc (by simp) hroom
   by_cases hC:C < len + zs.length
   · -- a new row
     have e:aappR P s d t t (.osl id 0 len (some C) k2) (.sl k2 zs md) = some ⟨upd s.t d (.osl s.H.length 0 (len + zs.length) none k2),s.H ++ [cs.take (len * k2) ++ zs.flatMap AVal.cells]⟩:=by
       simp only [aappR,ht,hsrc _ _ _ hid hfit,acapOf]
       simp only [asrc,true_or,if_true]
       rw [if_pos ⟨trivial,hb,hb'⟩,if_pos hC,List.map_append,dis_all hta,dis_all htb]
     obtain ⟨v,w',G',r1,r2⟩:=aappR_sound (P:=P) h hd (t:=t) (u:=t) (ty:=ty) (hx2 _ hidl) hy e
     refine ⟨v,w',G',r1,?_⟩
     have:=r2.reH (H:=(s.H ++ [cs.take (len * k2) ++ zs.flatMap AVal.cells]).set id []) (by simp) (r2.sr.kill id)
     rw [List.set_append_left _ _ hidl] at this
     exact this
   · -- the room is enough
     have hck:C * k2 ≤ (G.r id).2:=by simpa using hroom
     obtain ⟨j,hj⟩:∃ j,C * k2 - cs.length = j:=⟨_,rfl⟩
     obtain ⟨cs',hcs'⟩:∃ cs',cs ++ List.replicate j AVal.undef = cs':=⟨_,rfl⟩
     have hl':cs'.length = cs.length + j:=by rw [← hcs']; simp
     have h1:=h.reH (H:=s.H.set id cs') (by simp) (by rw [← hcs']; exact h.sr.room hid hne j (by omega))
     have hid1:(s.H.set id cs')[id]? = some cs':=by simp [hidl]
     have htk:cs'.take (len * k2) = cs.take (len * k2):=by rw [← hcs',List.take_append_of_le_length hfit]
     have hmul:(len + zs.length) * k2 ≤ C * k2:=Nat.mul_le_mul_right _ (by omega)
     have hfit1:len * k2 ≤ cs'.length:=by omega
     have hfit2:(len + zs.length) * k2 ≤ cs'.length:=by omega
     have hsc:(zs.flatMap AVal.cells).all AVal.scalar = true:=List.all_eq_true.2 fun y hy=>by
       have:=List.all_eq_true.1 htb y hy
       simp only [Bool.and_eq_true] at this
       exact this.1
     obtain ⟨ds,hds⟩:∃ ds,setR cs' (len * k2) (zs.flatMap AVal.cells) = ds:=⟨_,rfl⟩
     have e:aappR P ⟨s.t,s.H.set id cs'⟩ d t t (.osl id 0 len (some C) k2) (.sl k2 zs md) = some ⟨upd s.t d (.osl id 0 (len + zs.length) (some C) k2),(s.H.set id cs').set id ds⟩:=by
       have hz0:¬ zs.length = 0:=by omega
       simp only [aappR,ht,hsrc _ _ _ hid1 hfit1,acapOf,hid1]
       simp only [asrc,true_or,if_true,Nat.zero_add]
       rw [if_pos ⟨trivial,hb,hb'⟩,if_neg hC,if_neg hz0,if_pos ⟨hfit2,hsc⟩,dis_all htb,hds]
     obtain ⟨v,w',G',r1,r2⟩:=aappR_sound (P:=P) h1 hd (t:=t) (u:=t) (ty:=ty) (hx2 _ (by simpa using hidl)) (by simpa using hy) e
     have hlenH:((s.H.set id cs').set id ds).length = s.H.length:=by simp
     have r3:=r2.adopt (p:=id) (cs:=ds) (by simp [hidl])
     simp only [hlenH] at r3
     have fl:(zs.flatMap AVal.cells).length = zs.length * k2:=by
       obtain ⟨_,_,_,_,_,_,f4,_⟩:=asrc_sound h hy (show asrc s.H (.sl k2 zs md) = some (k2,zs.length,zs.flatMap AVal.cells) from rfl)
       exact f4
     have hsum:len * k2 + zs.length * k2 ≤ cs'.length:=by rw [← Nat.add_mul]; exact hfit2
     have hdl:(cs.take (len * k2) ++ zs.flatMap AVal.cells).length ≤ ds.length ∧ ∀ (q:Nat) (x:AVal),(cs.take (len * k2) ++ zs.flatMap AVal.cells)[q]? = some x → ds[q]? = some x:=by
       rw [← hds]
       refine ⟨by rw [setR_length,List.length_append,fl,List.length_take]; omega,fun q x hq=>?_⟩
       rw [setR_get _ _ _ _ (by rw [fl]; exact hsum),fl]
       have htl:(cs.take (len * k2)).length = len * k2:=by rw [List.length_take]; omega
       by_cases hq1:q < len * k2
       · rw [List.getElem?_append_left (by omega),← htk,List.getElem?_take_of_lt hq1] at hq
         rw [if_neg (by omega)]
         exact hq
       · rw [List.getElem?_append_right (by omega),htl] at hq
         have:=(List.getElem?_eq_some_iff.1 hq).1
         rw [if_pos ⟨by omega,by omega⟩]
         exact hq
     have hlast:((((s.H.set id cs').set id ds).set id [] ++ [ds]))[s.H.length]? = some ds:=by
       rw [List.getElem?_append_right (by simp)]
       simp
     have r4:=r3.reH (H:=((((s.H.set id cs').set id ds).set id [] ++ [ds])).set s.H.length (cs.take (len * k2) ++ zs.flatMap AVal.cells)) (by simp) (r3.sr.short hlast hdl.2 hdl.1 (by
       intro e0
       have:=hdl.1
       have hzp:0 < zs.length * k2:=Nat.mul_pos h2 hk
       rw [e0,List.length_append,List.length_take,fl] at this
       simp only [List.length_nil] at this
       omega))
     have r5:=r4.reslot hd (y:=.osl s.H.length 0 (len + zs.length) none k2) (fun v hv=>?_) rfl
     · refine ⟨v,w',G'.adopt id s.H.length,r1,?_⟩
       have eH:((((s.H.set id cs').set id ds).set id [] ++ [ds])).set s.H.length (cs.take (len * k2) ++ zs.flatMap AVal.cells) = s.H.set id [] ++ [cs.take (len * k2) ++ zs.flatMap AVal.cells]:=by
         rw [List.set_append_right _ _ (by simp)]
         simp
       have et:upd (upd s.t d (.osl id 0 (len + zs.length) (some C) k2)) d (.osl s.H.length 0 (len + zs.length) none k2) = upd s.t d (.osl s.H.length 0 (len + zs.length) none k2):=by
         funext i
         simp only [upd]
         split <;> rfl
       rw [eH] at r5
       simp only [et] at r5
       exact r5
     · simp only [upd,if_true] at hv
       obtain ⟨L,hL⟩:∃ L,len + zs.length = L:=⟨_,rfl⟩
       rw [hL] at hv ⊢
       have hL0:L ≠ 0:=by omega
       cases hv with
       | osl0=>exact (hL0 rfl).elim
       | tree _ _ ht=>cases ht
       | osl _ _ _ _ _ c g1 g2 g3 g4 =>
         have er:(G'.adopt id s.H.length).r s.H.length = (G'.adopt id s.H.length).r id:=by
           simp only [Gh.adopt,if_true]
           rw [if_neg (by omega)]
         rw [← er] at g4 ⊢
         exact .osl _ _ _ _ _ c (by simp) g2 (by simp) g4
theorem aappA_sound (h:R n m G0 w0 s G a w) {d:Nat} (hd:d < n) {t u ty:TypeId} {x y:AVal} {vx vy:Value} (hx:Rep s.H.length G.r G.F x vx) (hy:Rep s.H.length G.r G.F y vy) {s':ASt} (hs:aappA P s d t u x y = some s') :
   ∃ v w' G',(Builtin.append_ #[t,u] ty #[vx,vy]).run P w = .ok v w' ∧ R n m G0 w0 s' G' (a.put (some d) v) w':=by
 unfold aappA at hs
 split at hs
 · exact aappM_sound h hd hx hy hs
 · exact aappR_sound h hd hx hy hs
end
section
variable {P:Program} {n m:Nat} {G0:Gh} {w0:World} {s:ASt} {G:Gh} {a:Act} {w:World}
theorem abx_sound (h:R n m G0 w0 s G a w) {tr:List Nat} {o:Oper} (hd:∀ i:Nat,o.dst = some i → i < n) {s':ASt} (hx:abx P tr s o = some s'):StepTo P n m G0 w0 s' a w o:=by
 unfold abx at hx
 cases hop:o.op with
 | call c =>
   simp only [hop] at hx
   split at hx
   · rename_i x y t l hc e1 e2
     have a1:c.args = #[x,y]:=by rw [← Array.toArray_toList (xs:=c.args),e1]
     obtain ⟨v,w',G',h1,h2⟩:=acopy_sound (P:=P) h hd (t:=t) (u:=t) (ty:=o.type) (h.get x) (h.get y) hx
     have a2:c.argTypes[0]? = some t:=by rw [← Array.getElem?_toList,e2]; rfl
     refine ⟨v,w',G',?_,h2⟩
     have:Builtin.copy_ c.argTypes o.type #[a.eval x,a.eval y] = Builtin.copy_ #[t,t] o.type #[a.eval x,a.eval y]:=by
       unfold Builtin.copy_
       rw [a2]
       rfl
     simp [execOp,hop,resolve,hc,invoke,builtin,a1,this,h1]
   · rename_i x t hc e1 e2
     have a1:c.args = #[x]:=by rw [← Array.toArray_toList (xs:=c.args),e1]
     have a2:c.argTypes = #[t]:=by rw [← Array.toArray_toList (xs:=c.argTypes),e2]
     obtain ⟨v,w',G',h1,h2⟩:=aclear_sound (P:=P) h hd (t:=t) (ty:=o.type) (h.get x) hx
     exact ⟨v,w',G',by simp [execOp,hop,resolve,hc,invoke,builtin,a1,a2,h1],h2⟩
   · rename_i x y t u hc e1 e2
     have a1:c.args = #[x,y]:=by rw [← Array.toArray_toList (xs:=c.args),e1]
     have a2:c.argTypes = #[t,u]:=by rw [← Array.toArray_toList (xs:=c.argTypes),e2]
     split at hx
     case h_2=>cases hx
     rename_i d hdd
     split at hx
     case isFalse=>cases hx
     obtain ⟨v,w',G',h1,h2⟩:=aappA_sound (P:=P) h (hd d hdd) (t:=t) (u:=u) (ty:=o.type) (h.get x) (h.get y) hx
     exact ⟨v,w',G',by simp [execOp,hop,resolve,hc,invoke,builtin,a1,a2,h1],by rw [hdd]; exact h2⟩
   · cases hx
 | _=>simp only [hop] at hx; cases hx
end
end Go.Am
