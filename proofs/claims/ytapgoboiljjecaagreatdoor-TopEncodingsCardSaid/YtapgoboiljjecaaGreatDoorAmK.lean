/- The abstract machine, part eleven: one operation, whichever it is, but for calls of Go functions. -/
import Derived.Test.YtapgoboiljjecaaGreatDoorAmW
namespace Go.Am
open Go
set_option linter.unusedSectionVars false
variable [Globs]
def absl (P:Program) (s:ASt) (o:Oper):Option ASt :=
 match o.op,o.dst with
 | .buildSlice t len parts,some d =>
   match tap P t with
   | some (k,_) =>
     if parts.toList.map (·.1) = List.range len ∧ len * k ≤ 16777216 ∧ (parts.toList.all fun p=>(av s.t p.2).part && (av s.t p.2).cells.length == k) = true then
       some ⟨upd s.t d (.sl k (parts.toList.map fun p=>(av s.t p.2).dis) .full),s.H⟩ else none
   | none=>none
 | _,_=>none
def abslR (P:Program) (s:ASt) (d:Nat) (t:TypeId) (len:Nat) (parts:List (Nat × Operand)):Option ASt :=
 match tap P t with
 | some (k,_) =>
   if parts.map (·.1) = List.range len ∧ len * k ≤ 16777216 ∧ (parts.all fun p=>((av s.t p.2).scalar || (av s.t p.2).part) && (av s.t p.2).cells.length == k) = true then
     some ⟨upd s.t d (.osl s.H.length 0 len (some len) k),s.H ++ [((parts.map fun p=>av s.t p.2).flatMap AVal.cells).map AVal.dis]⟩ else none
 | none=>none
def abslO (P:Program) (s:ASt) (o:Oper):Option ASt :=
 match o.op,o.dst with
 | .buildSlice t len parts,some d=>abslR P s d t len parts.toList
 | _,_=>none
def amk (P:Program) (s:ASt) (o:Oper):Option ASt :=
 match o.op,o.dst with
 | .makeSlice t l c,some d =>
   match tap P t,av s.t l,av s.t c with
   | some (k,by_),.int _ l,.int _ c=>if l = 0 ∧ 0 ≤ c ∧ by_ * c.toNat ≤ 281474976710656 ∧ c ≤ 9223372036854775807 then some ⟨upd s.t d (.sl k [] .own),s.H⟩ else none
   | _,_,_=>none
 | _,_=>none
def tze (P:Program) (t:TypeId):Option (List AVal) :=
 match P.underlying t with
 | some (.slice e)=>tz P e
 | _=>none
def amkR (P:Program) (s:ASt) (d:Nat) (t:TypeId) (l c:AVal):Option ASt :=
 match tap P t,tze P t,l,c with
 | some (k,by_),some zs,.int _ l,.int _ c=>if 0 < l ∧ l = c ∧ by_ * c.toNat ≤ 281474976710656 ∧ c ≤ 9223372036854775807 then
     some ⟨upd s.t d (.osl s.H.length 0 l.toNat (some l.toNat) k),s.H ++ [(List.replicate l.toNat zs).flatten]⟩ else if l = 0 ∧ c = 0 then some ⟨upd s.t d (.sl k [] .full),s.H⟩ else
     if l = 0 ∧ 0 < c ∧ by_ * c.toNat ≤ 281474976710656 ∧ c ≤ 9223372036854775807 then some ⟨upd s.t d (.osl s.H.length 0 0 (some c.toNat) k),s.H ++ [(List.replicate c.toNat zs).flatten]⟩ else
     if 0 < l ∧ l < c ∧ by_ * c.toNat ≤ 281474976710656 ∧ c ≤ 9223372036854775807 then some ⟨upd s.t d (.osl s.H.length 0 l.toNat (some c.toNat) k),s.H ++ [(List.replicate c.toNat zs).flatten]⟩ else none
 | _,_,_,_=>none
def amkO (P:Program) (s:ASt) (o:Oper):Option ASt :=
 match o.op,o.dst with
 | .makeSlice t l c,some d=>amkR P s d t (av s.t l) (av s.t c)
 | _,_=>none
def rowOp (tr:List Nat) (o:Oper):Bool :=
 match o.dst with
 | some d=>amark tr d
 | none=>false
def astep (P:Program) (tr:List Nat) (s:ASt) (o:Oper):Option ASt :=
 match o.op with
 | .call c=>match c.callee with
   | .builtin .append=>if rowOp tr o = true then abx P tr s o else aapp P s o
   | .builtin .copy=>abx P tr s o
   | .builtin .clear=>abx P tr s o
   | .builtin _=>(aval P s o.op).map (s.put o.dst ·)
   | _=>none
 | .buildSlice ..=>if rowOp tr o = true then abslO P s o else absl P s o
 | .makeSlice ..=>if rowOp tr o = true then amkO P s o else amk P s o
 | .alloc _ | .box .. | .store .. | .assign _=>aeff P tr s o
 | .move _ | .load ..=>match aeff P tr s o with
   | some s'=>some s'
   | none=>(aval P s o.op).map (s.put o.dst ·)
 | _=>(aval P s o.op).map (s.put o.dst ·)
section
variable {P:Program} {n m:Nat} {G0:Gh} {w0:World} {s:ASt} {G:Gh} {a:Act} {w:World}
abbrev StepOk (P:Program) (n m:Nat) (G0:Gh) (w0:World) (s':ASt) (a:Act) (w:World) (o:Oper):Prop :=
 ∃ nx w' G',(execOp a.eval o).run P w = .ok nx w' ∧ ((∃ v,nx = .value v ∧ R n m G0 w0 s' G' (a.put o.dst v) w') ∨ (nx = .skip ∧ R n m G0 w0 s' G' (a.put o.dst undef) w'))
theorem aval_step (h:R n m G0 w0 s G a w) {o:Oper} (hd:∀ i:Nat,o.dst = some i → i < n) {s':ASt} (hx:(aval P s o.op).map (s.put o.dst ·) = some s'):StepOk P n m G0 w0 s' a w o:=by
 rw [Option.map_eq_some_iff] at hx
 obtain ⟨x,hx,rfl⟩:=hx
 obtain ⟨v,h1,h2,h3⟩:=aval_sound (P:=P) h hx
 exact ⟨_,w,G,h1,.inl ⟨v,rfl,h.put o.dst hd h2 h3⟩⟩
theorem aapp_sound (h:R n m G0 w0 s G a w) {o:Oper} (hd:∀ i:Nat,o.dst = some i → i < n) {s':ASt} (hx:aapp P s o = some s'):StepOk P n m G0 w0 s' a w o:=by
 unfold aapp at hx
 split at hx
 case h_2=>cases hx
 rename_i c d hop hdd
 split at hx
 case h_2=>cases hx
 rename_i x y t u hc e1 e2
 split at hx
 · cases hx
 rename_i htu
 have htu':t = u:=by
   by_cases e:t = u
   · exact e
   · exact (htu e).elim
 subst htu'
 split at hx
 case h_2=>cases hx
 rename_i k by_ k1 xs mm k2 ys m2 hk ex ey
 split at hx
 case isFalse=>cases hx
 rename_i hcond
 obtain ⟨q1,q2,q3,q4⟩:=hcond
 have hdn:=hd d hdd
 have a1:c.args = #[x,y]:=by rw [← Array.toArray_toList (xs:=c.args),e1]
 have a2:c.argTypes = #[t,t]:=by rw [← Array.toArray_toList (xs:=c.argTypes),e2]
 have hrun:∀ v w',(Builtin.append_ #[t,t] o.type #[a.eval x,a.eval y]).run P w = .ok v w' → (execOp a.eval o).run P w = .ok (.value v) w':=by
   intro v w' hr
   simp [execOp,hop,resolve,hc,invoke,builtin,a1,a2,hr]
 have p1:mm = .own ∧ k1 = k ∨ mm = .full ∧ (k1 = k ∨ xs = []):=by
   rcases q1 with e | ⟨e,f⟩
   · exact .inl e
   · exact .inr ⟨e,f.imp id (fun g=>List.isEmpty_iff.1 g)⟩
 have p2:k2 = k ∨ ys = []:=q2.imp id (fun g=>List.isEmpty_iff.1 g)
 have main:∀ (s1:ASt) (G1:Gh),R n m G0 w0 s1 G1 a w → RepT G1.F (.sl k1 xs mm) (a.eval x) → (∃ m3,RepT G1.F (.sl k2 ys m3) (a.eval y)) → OwnAt G1 w (.tmp d) (.sl k1 xs mm) (a.eval x) →
     s' = ⟨upd s1.t d (.sl k (xs ++ ys) .own),s1.H⟩ → StepOk P n m G0 w0 s' a w o:=by
   intro s1 G1 hR hx1 hy1 ho1 es
   obtain ⟨m3,hy1⟩:=hy1
   obtain ⟨v,w',G',r1,r2⟩:=aapp_core hR (ty:=o.type) hk d hdn hx1 hy1 p1 p2 q3 q4 ho1
   exact ⟨_,w',G',hrun v w' r1,.inl ⟨v,rfl,by rw [hdd,es]; exact r2⟩⟩
 have gx:=h.get x
 have gy:=h.get y
 rw [ex] at gx
 rw [ey] at gy
 have gx':=gx.toTree (x:=.sl k1 xs mm) rfl
 have gy':=gy.toTree (x:=.sl k2 ys m2) rfl
 split at hx
 · rename_i src hsrc
   split at hx
   · cases hx
   rename_i hne
   injection hx with hx
   have hxt:x = .tmp src:=by
     unfold isTmp at hsrc
     split at hsrc
     · injection hsrc with hsrc; subst hsrc; rfl
     · cases hsrc
   subst hxt
   have ex':s.t src = .sl k1 xs mm:=ex
   rcases q1 with ⟨e,_⟩ | ⟨e,_⟩
   · subst e
     rw [if_pos rfl] at hx
     obtain ⟨G1,r1,r2,r3⟩:=h.limbo src (.tmp d)
     rw [ex'] at r1 r2 r3
     refine main ⟨upd s.t src (.sl k1 xs .sh),s.H⟩ G1 r1 (r3.toTree rfl) ?_ r2 hx.symm
     have:=r1.get y
     have hy2:∃ m3,av (upd s.t src (.sl k1 xs .sh)) y = .sl k2 ys m3:=by
       cases y with
       | tmp j =>
         simp only [av,upd] at ey ⊢
         split
         · rename_i ej
           subst ej
           rw [ex'] at ey
           injection ey with f1 f2 f3
           subst f1 f2
           exact ⟨_,rfl⟩
         · exact ⟨m2,ey⟩
       | const v=>exact ⟨m2,ey⟩
       | global=>exact ⟨m2,ey⟩
       | func=>exact ⟨m2,ey⟩
     obtain ⟨m3,hy2⟩:=hy2
     simp only [AVal.dis] at this
     rw [hy2] at this
     exact ⟨m3,this.toTree rfl⟩
   · subst e
     rw [if_neg (by simp)] at hx
     exact main s G h gx' ⟨m2,gy'⟩ (OwnAt.of_not rfl) hx.symm
 · rename_i hsrc
   injection hx with hx
   have hfull:mm = .full:=by
     rcases q1 with ⟨e,_⟩ | ⟨e,_⟩
     · exfalso
       subst e
       cases x with
       | tmp j=>simp [isTmp] at hsrc
       | const v =>
         have:=ofC_isOwn v
         simp only [av] at ex
         rw [ex] at this
         simp [AVal.isOwn] at this
       | global=>simp [av] at ex
       | func=>simp [av] at ex
     · exact e
   subst hfull
   exact main s G h gx' ⟨m2,gy'⟩ (OwnAt.of_not rfl) hx.symm
theorem amk_sound (h:R n m G0 w0 s G a w) {o:Oper} (hd:∀ i:Nat,o.dst = some i → i < n) {s':ASt} (hx:amk P s o = some s'):StepOk P n m G0 w0 s' a w o:=by
 unfold amk at hx
 split at hx
 case h_2=>cases hx
 rename_i t l c d hop hdd
 split at hx
 case h_2=>cases hx
 rename_i k by_ kl l' kc c' hk el ec
 split at hx
 case isFalse=>cases hx
 rename_i hc
 obtain ⟨c1,c2,c3,c4⟩:=hc
 injection hx with hx
 subst hx
 obtain ⟨e,i,z,t1,t2,t3,t4,t5,t6,t7⟩:=tap_spec hk
 have gl:=h.get l
 have gc:=h.get c
 rw [el] at gl
 rw [ec] at gc
 have vl:=gl.int_inv
 have vc:=gc.int_inv
 subst c1
 have hby:(i.bytes:Int) * c' ≤ 281474976710656:=by
   have:((by_ * c'.toNat:Nat):Int) ≤ 281474976710656:=by omega
   rw [Int.natCast_mul,Int.toNat_of_nonneg c2] at this
   rw [t5]; exact this
 have hr:=run_make (P:=P) w t e i z t1 t2 t3 kl kc 0 c' (Int.le_refl 0) c2 hby c4
 obtain ⟨G',hR⟩:=h.newOwn d (hd d hdd) w (.inl rfl) (k:=k) (zs:=[]) [] (madeCells z.cells (c'.toNat * i.size)) e c'.toNat t7 (by simp) (by simp) (by rw [size_madeCells,t4]; exact Nat.le_refl _) (by simp) (by simp) (by simp) .own (by simp) (by simp)
 refine ⟨_,_,G',?_,.inl ⟨_,rfl,by rw [hdd]; exact hR⟩⟩
 simp only [execOp,hop,vl,vc]
 simp [hr]
theorem flat_rep_get {zs:List AVal} {k:Nat} (hk:zs.length = k):∀ (n j:Nat),j < n * k → (List.replicate n zs).flatten[j]? = zs[j % k]?:=by
 intro n
 induction n with
 | zero=>intro j h; omega
 | succ n ih =>
   intro j h
   rw [List.replicate_succ,List.flatten_cons]
   by_cases hj:j < k
   · rw [List.getElem?_append_left (by omega),Nat.mod_eq_of_lt hj]
   · have e:j % k = (j - k) % k:=Nat.mod_eq_sub_mod (by omega)
     rw [List.getElem?_append_right (by omega),hk,ih (j - k) (by rw [Nat.add_mul,Nat.one_mul] at h; omega),e]
theorem flat_rep_len {zs:List AVal} {k:Nat} (hk:zs.length = k) (n:Nat):(List.replicate n zs).flatten.length = n * k:=by
 induction n with
 | zero=>simp
 | succ n ih=>rw [List.replicate_succ,List.flatten_cons,List.length_append,ih,hk,Nat.succ_mul]; omega
theorem mkRow_sound (h:R n m G0 w0 s G a w) {o:Oper} (hd:∀ i:Nat,o.dst = some i → i < n) {t:TypeId} {l c:Operand} {d:Nat} (hop:o.op = .makeSlice t l c) (hdd:o.dst = some d) {k by_:Nat} {zs:List AVal} {kl kc:IntKind} {l' c':Int}
   (hk:tap P t = some (k,by_)) (hz:tze P t = some zs) (el:av s.t l = .int kl l') (ec:av s.t c = .int kc c') (c1:0 ≤ l') (c2:l' ≤ c') (c3:by_ * c'.toNat ≤ 281474976710656) (c4:c' ≤ 9223372036854775807) :
   StepOk P n m G0 w0 ⟨upd s.t d (.osl s.H.length 0 l'.toNat (some c'.toNat) k),s.H ++ [(List.replicate c'.toNat zs).flatten]⟩ a w o:=by
 obtain ⟨e,i,z,t1,t2,t3,t4,t5,t6,t7⟩:=tap_spec hk
 unfold tze at hz
 rw [t1] at hz
 simp only [tz,t2,t3] at hz
 injection hz with hz
 subst hz
 have gl:=h.get l
 have gc:=h.get c
 rw [el] at gl
 rw [ec] at gc
 have vl:=gl.int_inv
 have vc:=gc.int_inv
 have hby:(i.bytes:Int) * c' ≤ 281474976710656:=by
   have:((by_ * c'.toNat:Nat):Int) ≤ 281474976710656:=by omega
   rw [Int.natCast_mul,Int.toNat_of_nonneg (by omega)] at this
   rw [t5]; exact this
 have hr:=run_make (P:=P) w t e i z t1 t2 t3 kl kc l' c' (by omega) c2 hby c4
 have hzl:(z.cells.toList.map ofS).length = k:=by simp [t6]
 obtain ⟨G',r1,r2,r3⟩:=h.newBox (List.replicate c'.toNat (z.cells.toList.map ofS)).flatten (madeCells z.cells (c'.toNat * i.size)) e (by rw [flat_rep_len hzl,size_madeCells,t4]; exact Nat.le_refl _) (fun j x v hx hv=>by
   have hj:j < c'.toNat * k:=by
     have:=(List.getElem?_eq_some_iff.1 hx).1
     rwa [flat_rep_len hzl] at this
   rw [flat_rep_get hzl _ _ hj] at hx
   simp only [List.getElem?_map,Option.map_eq_some_iff] at hx
   obtain ⟨u,hu,rfl⟩:=hx
   have hm:j % k < z.cells.size:=by rw [t6]; exact Nat.mod_lt _ t7
   have hv2:v = u:=by
     unfold madeCells at hv
     rw [Array.getElem?_map,Array.getElem?_range] at hv
     rw [if_pos (by rw [t4]; exact hj)] at hv
     simp only [Option.map_some,Option.some.injEq] at hv
     rw [t6] at hv
     rw [Array.getElem?_toList,Array.getElem?_eq_getElem hm] at hu
     injection hu with hu
     rw [← hv,← hu,getElem!_pos z.cells (j % k) hm]
   subst hv2
   exact ⟨Rep_ofS _ _ _ v,by unfold ofS; split <;> rfl⟩)
 have r4:=r1.put (some d) (fun q e=>by injection e with e; subst e; exact hd _ hdd) (x:=.osl s.H.length 0 l'.toNat (some c'.toNat) k) (v:=.slice (some ⟨w.heap.size,0,none⟩) l'.toNat c'.toNat) (by
   rw [show w.heap.size = (G'.r s.H.length).1 by rw [r2]]
   exact .osl _ _ _ _ _ _ (by simp) (by omega) (by simp) (by rw [r2,size_madeCells,t4]; simp)) rfl
 refine ⟨_,_,G',?_,.inl ⟨_,rfl,by rw [hdd]; exact r4⟩⟩
 simp only [execOp,hop,vl,vc]
 simp [hr]
theorem amkO_sound (h:R n m G0 w0 s G a w) {o:Oper} (hd:∀ i:Nat,o.dst = some i → i < n) {s':ASt} (hx:amkO P s o = some s'):StepOk P n m G0 w0 s' a w o:=by
 unfold amkO at hx
 split at hx
 case h_2=>cases hx
 rename_i t l c d hop hdd
 unfold amkR at hx
 split at hx
 case h_2=>cases hx
 rename_i k by_ zs kl l' kc c' hk hz el ec
 split at hx
 case isFalse =>
   split at hx
   case isFalse =>
     split at hx
     case isFalse =>
       split at hx
       case isFalse=>cases hx
       rename_i hc
       obtain ⟨c1,c2,c3,c4⟩:=hc
       injection hx with hx
       subst hx
       exact mkRow_sound h hd hop hdd hk hz el ec (by omega) (by omega) c3 c4
     rename_i hc
     obtain ⟨c1,c2,c3,c4⟩:=hc
     injection hx with hx
     subst hx
     subst c1
     exact mkRow_sound h hd hop hdd hk hz el ec (Int.le_refl 0) (by omega) c3 c4
   rename_i hc
   obtain ⟨c1,c2⟩:=hc
   injection hx with hx
   subst hx
   obtain ⟨e,i,z,t1,t2,t3,t4,t5,t6,t7⟩:=tap_spec hk
   have gl:=h.get l
   have gc:=h.get c
   rw [el] at gl
   rw [ec] at gc
   have vl:=gl.int_inv
   have vc:=gc.int_inv
   subst c1
   subst c2
   have hr:=run_make (P:=P) w t e i z t1 t2 t3 kl kc 0 0 (Int.le_refl 0) (Int.le_refl 0) (by omega) (by omega)
   obtain ⟨G',hR⟩:=h.newOwn d (hd d hdd) w (.inl rfl) (k:=k) (zs:=[]) [] (madeCells z.cells ((0:Int).toNat * i.size)) e (0:Int).toNat t7 (by simp) (by simp) (by rw [size_madeCells,t4]; exact Nat.le_refl _) (by simp) (by simp) (by simp) .full (by simp) (by simp)
   refine ⟨_,_,G',?_,.inl ⟨_,rfl,by rw [hdd]; exact hR⟩⟩
   simp only [execOp,hop,vl,vc]
   simp [hr]
 rename_i hc
 obtain ⟨c1,c2,c3,c4⟩:=hc
 injection hx with hx
 subst hx
 obtain ⟨e,i,z,t1,t2,t3,t4,t5,t6,t7⟩:=tap_spec hk
 unfold tze at hz
 rw [t1] at hz
 simp only [tz,t2,t3] at hz
 injection hz with hz
 subst hz
 have gl:=h.get l
 have gc:=h.get c
 rw [el] at gl
 rw [ec] at gc
 have vl:=gl.int_inv
 have vc:=gc.int_inv
 subst c2
 have hby:(i.bytes:Int) * l' ≤ 281474976710656:=by
   have:((by_ * l'.toNat:Nat):Int) ≤ 281474976710656:=by omega
   rw [Int.natCast_mul,Int.toNat_of_nonneg (by omega)] at this
   rw [t5]; exact this
 have hr:=run_make (P:=P) w t e i z t1 t2 t3 kl kc l' l' (by omega) (Int.le_refl _) hby c4
 have hzl:(z.cells.toList.map ofS).length = k:=by simp [t6]
 obtain ⟨G',r1,r2,r3⟩:=h.newBox (List.replicate l'.toNat (z.cells.toList.map ofS)).flatten (madeCells z.cells (l'.toNat * i.size)) e (by rw [flat_rep_len hzl,size_madeCells,t4]; exact Nat.le_refl _) (fun j x v hx hv=>by
   have hj:j < l'.toNat * k:=by
     have:=(List.getElem?_eq_some_iff.1 hx).1
     rwa [flat_rep_len hzl] at this
   rw [flat_rep_get hzl _ _ hj] at hx
   simp only [List.getElem?_map,Option.map_eq_some_iff] at hx
   obtain ⟨u,hu,rfl⟩:=hx
   have hm:j % k < z.cells.size:=by rw [t6]; exact Nat.mod_lt _ t7
   have hv2:v = u:=by
     unfold madeCells at hv
     rw [Array.getElem?_map,Array.getElem?_range] at hv
     rw [if_pos (by rw [t4]; exact hj)] at hv
     simp only [Option.map_some,Option.some.injEq] at hv
     rw [t6] at hv
     rw [Array.getElem?_toList,Array.getElem?_eq_getElem hm] at hu
     injection hu with hu
     rw [← hv,← hu,getElem!_pos z.cells (j % k) hm]
   subst hv2
   exact ⟨Rep_ofS _ _ _ v,by unfold ofS; split <;> rfl⟩)
 have r4:=r1.put (some d) (fun q e=>by injection e with e; subst e; exact hd _ hdd) (x:=.osl s.H.length 0 l'.toNat (some l'.toNat) k) (v:=.slice (some ⟨w.heap.size,0,none⟩) l'.toNat l'.toNat) (by
   rw [show w.heap.size = (G'.r s.H.length).1 by rw [r2]]
   exact .osl _ _ _ _ _ _ (by simp) (Nat.le_refl _) (by simp) (by rw [r2,size_madeCells,t4]; simp)) rfl
 refine ⟨_,_,G',?_,.inl ⟨_,rfl,by rw [hdd]; exact r4⟩⟩
 simp only [execOp,hop,vl,vc]
 simp [hr]
theorem fill_seq (size:Nat):∀ (vs:List Value) (i0:Nat) (cells:Array Value),(∀ v ∈ vs,v.cells.size = size) → (i0 + vs.length) * size ≤ cells.size →
   ∃ cells',Instr.fill (fun i=>some (i * size,size)) cells ((vs.zipIdx i0).map fun p=>(p.2,p.1)) = some cells' ∧ cells'.size = cells.size ∧ (∀ j,j < i0 * size → cells'[j]? = cells[j]?) ∧
     ∀ (i j:Nat) (v u:Value),vs[i]? = some v → v.cells[j]? = some u → cells'[(i0 + i) * size + j]? = some u:=by
 intro vs
 induction vs with
 | nil=>intro i0 cells _ _; exact ⟨cells,rfl,rfl,fun _ _=>rfl,by simp⟩
 | cons v vs ih =>
   intro i0 cells hs hfit
   have hv:v.cells.size = size:=hs v (by simp)
   simp only [List.length_cons] at hfit
   have e0:(i0 + 1) * size = i0 * size + size:=by rw [Nat.add_mul,Nat.one_mul]
   have hfit1:(i0 + 1) * size ≤ cells.size:=Nat.le_trans (Nat.mul_le_mul_right _ (by omega)) hfit
   obtain ⟨c1,hc1⟩:∃ c1,c1 = v.cells.zipIdx.foldl (fun cs p=>cs.setIfInBounds (i0 * size + p.2) p.1) cells:=⟨_,rfl⟩
   have hfold:∀ (l:List Value) (k:Nat) (cs:Array Value),i0 * size + k + l.length ≤ cs.size → ((l.zipIdx k).foldl (fun cs p=>cs.setIfInBounds (i0 * size + p.2) p.1) cs).size = cs.size ∧
       ∀ j,((l.zipIdx k).foldl (fun cs p=>cs.setIfInBounds (i0 * size + p.2) p.1) cs)[j]? = if i0 * size + k ≤ j ∧ j < i0 * size + k + l.length then l[j - (i0 * size + k)]? else cs[j]?:=by
     intro l
     induction l with
     | nil=>intro k cs _; exact ⟨rfl,fun j=>by simp only [List.zipIdx_nil,List.foldl_nil,List.length_nil,Nat.add_zero]; rw [if_neg (by omega)]⟩
     | cons x l ihl =>
       intro k cs hl
       simp only [List.length_cons] at hl
       obtain ⟨s1,s2⟩:=ihl (k + 1) (cs.setIfInBounds (i0 * size + k) x) (by simp; omega)
       refine ⟨by simpa [List.zipIdx_cons] using s1,fun j=>?_⟩
       simp only [List.zipIdx_cons,List.foldl_cons]
       rw [s2 j]
       by_cases h1:j = i0 * size + k
       · subst h1
         rw [if_neg (by omega),if_pos (by simp),Nat.sub_self,Array.getElem?_setIfInBounds,if_pos rfl,if_pos (by omega)]
         simp
       · by_cases h2:i0 * size + (k + 1) ≤ j ∧ j < i0 * size + (k + 1) + l.length
         · rw [if_pos h2,if_pos (by simp; omega),show j - (i0 * size + k) = (j - (i0 * size + (k + 1))) + 1 by omega]
           rfl
         · rw [if_neg h2,if_neg (by simp; omega),Array.getElem?_setIfInBounds,if_neg (fun e=>h1 e.symm)]
   have hc1':c1 = (v.cells.toList.zipIdx 0).foldl (fun cs p=>cs.setIfInBounds (i0 * size + p.2) p.1) cells:=by
     rw [hc1,← Array.foldl_toList,Array.toList_zipIdx]
   obtain ⟨f1,f2⟩:=hfold v.cells.toList 0 cells (by simp [hv]; omega)
   rw [← hc1'] at f1 f2
   obtain ⟨cells',g1,g2,g3,g4⟩:=ih (i0 + 1) c1 (fun x hx=>hs x (by simp [hx])) (by rw [f1,show i0 + 1 + vs.length = i0 + (vs.length + 1) by omega]; exact hfit)
   refine ⟨cells',?_,by rw [g2,f1],fun j hj=>?_,fun i j u u' hi hj=>?_⟩
   · simp only [List.zipIdx_cons,List.map_cons]
     have hcond:(decide (v.cells.size ≠ size) || decide (i0 * size + v.cells.size > cells.size)) = false:=by simp [hv]; omega
     unfold Instr.fill
     simp only [hcond,Bool.false_eq_true,if_false]
     rw [← hc1]
     exact g1
   · rw [g3 j (by omega),f2 j,if_neg (by omega)]
   · cases i with
     | zero =>
       simp only [List.getElem?_cons_zero,Option.some.injEq] at hi
       subst hi
       have hj':j < size:=by rw [← hv]; exact (Array.getElem?_eq_some_iff.1 hj).1
       rw [Nat.add_zero,g3 _ (by omega),f2,if_pos (by simp [hv]; omega)]
       simpa using hj
     | succ i =>
       simp only [List.getElem?_cons_succ] at hi
       have:=g4 i j u u' hi hj
       rwa [show i0 + 1 + i = i0 + (i + 1) by omega] at this
theorem absl_sound (h:R n m G0 w0 s G a w) {o:Oper} (hd:∀ i:Nat,o.dst = some i → i < n) {s':ASt} (hx:absl P s o = some s'):StepOk P n m G0 w0 s' a w o:=by
 unfold absl at hx
 split at hx
 case h_2=>cases hx
 rename_i t len parts d hop hdd
 split at hx
 case h_2=>cases hx
 rename_i k by_ hk
 split at hx
 case isFalse=>cases hx
 rename_i hc
 obtain ⟨c1,c2,c3⟩:=hc
 injection hx with hx
 subst hx
 obtain ⟨e,i,z,t1,t2,t3,t4,t5,t6,t7⟩:=tap_spec hk
 have hall:∀ p ∈ parts.toList,(av s.t p.2).part = true ∧ (av s.t p.2).cells.length = k:=by
   intro p hp
   have:=List.all_eq_true.1 c3 p hp
   simpa using this
 have hrepp:∀ p ∈ parts.toList,RepT G.F (av s.t p.2) (a.eval p.2):=fun p hp=>part_toTree (h.get p.2) (hall p hp).1
 have hcells:∀ p ∈ parts.toList,(a.eval p.2).cells.size = k:=by
   intro p hp
   rw [(part_cells (hrepp p hp) (hall p hp).1).1]
   exact (hall p hp).2
 have hlen:parts.toList.length = len:=by
   have:=congrArg List.length c1
   simpa using this
 obtain ⟨vs,hvs⟩:∃ vs,vs = parts.toList.map fun p=>a.eval p.2:=⟨_,rfl⟩
 have hvl:vs.length = len:=by rw [hvs]; simpa using hlen
 have hzip:(vs.zipIdx 0).map (fun p=>(p.2,p.1)) = parts.toList.map fun p=>(p.1,a.eval p.2):=by
   apply List.ext_getElem?
   intro j
   have hj1:(parts.toList.map (·.1))[j]? = (List.range len)[j]?:=by rw [c1]
   simp only [List.getElem?_map,List.getElem?_zipIdx,hvs,Nat.zero_add]
   simp only [List.getElem?_map] at hj1
   cases hp:parts.toList[j]? with
   | none=>rfl
   | some p =>
     rw [hp] at hj1
     have hj:j < len:=by rw [← hlen]; exact (List.getElem?_eq_some_iff.1 hp).1
     rw [List.getElem?_range hj] at hj1
     simp at hj1
     simp [hj1]
 obtain ⟨row,hrow⟩:∃ row:Array Value,row = (Array.range (len * i.size)).map ((if len * i.size = 0 then (#[]:Array Value) else z.cells)[· % (if len * i.size = 0 then (#[]:Array Value) else z.cells).size]!):=⟨_,rfl⟩
 have hrows:row.size = len * k:=by rw [hrow,← t4]; simp
 obtain ⟨cells',g1,g2,g3,g4⟩:=fill_seq k vs 0 row (fun v hv=>by
   rw [hvs] at hv
   obtain ⟨p,hp,rfl⟩:=List.mem_map.1 hv
   exact hcells p hp) (by rw [Nat.zero_add,hvl,hrows]; exact Nat.le_refl _)
 rw [hzip] at g1
 have hrun:(Instr.buildSlice t len (parts.map fun p=>(p.1,a.eval p.2))).run P w = .ok (.slice (some ⟨w.heap.size,0,none⟩) len len) (w.alloc (.cells cells' e)):=by
   have h2:¬ (len * i.size > 16777216):=by rw [t4]; omega
   have g1':Instr.fill (fun i_1=>some (i_1 * i.size,i.size)) row (parts.toList.map fun p=>(p.1,a.eval p.2)) = some cells':=by rw [t4]; exact g1
   by_cases h0:len * i.size = 0
   · simp only [h0,if_true] at hrow
     simp [Instr.buildSlice,run_underlying t1,sizeOf,typeInfo,t2,h0,newRow]
     have e1:row = #[]:=by rw [hrow]; exact Array.eq_empty_of_size_eq_zero (by simp)
     have e2:(Array.map (fun _=>default) (Array.range 0):Array Value) = #[]:=Array.eq_empty_of_size_eq_zero (by simp)
     rw [e1] at g1'
     rw [e2,g1']
     simp
   · simp only [h0,if_false] at hrow
     simp [Instr.buildSlice,run_underlying t1,sizeOf,typeInfo,t2,h0,newRow,zeroValue,t3,h2]
     rw [← hrow,g1']
     simp
 have zlen:(parts.toList.map fun p=>(av s.t p.2).dis).length = len:=by simpa using hlen
 have dcell:∀ x:AVal,x.part = true → x.dis.cells.length = x.cells.length:=by
   intro x hx
   cases x <;> first | rfl | (rename_i mm; cases mm <;> rfl)
 obtain ⟨G',hR⟩:=h.newOwn d (hd d hdd) w (.inl rfl) (k:=k) (zs:=parts.toList.map fun p=>(av s.t p.2).dis) cells'.toList cells' e len t7 (by simp [g2,hrows,hlen]) (by rw [zlen]; exact Nat.le_refl _) (by rw [g2,hrows]; exact Nat.le_refl _) (by simp)
   (fun x hx=>by
     obtain ⟨p,hp,rfl⟩:=List.mem_map.1 hx
     rw [dcell _ (hall p hp).1]
     exact (hall p hp).2)
   (fun x hx c hc=>by
     obtain ⟨p,hp,rfl⟩:=List.mem_map.1 hx
     have hp1:=(hall p hp).1
     have hdp:(av s.t p.2).dis.part = true:=by
       generalize av s.t p.2 = q at hp1
       cases q <;> first | exact hp1 | (rename_i mm; cases mm <;> rfl)
     exact (part_cells (hrepp p hp).dis hdp).2.1 c hc) .full (fun _=>zlen.symm)
   (fun i' j x c hi hj=>by
     simp only [List.getElem?_map,Option.map_eq_some_iff] at hi
     obtain ⟨p,hp,rfl⟩:=hi
     have hpm:=List.mem_of_getElem? hp
     have hp1:=(hall p hpm).1
     have hdp:(av s.t p.2).dis.part = true:=by
       generalize av s.t p.2 = q at hp1
       cases q <;> first | exact hp1 | (rename_i mm; cases mm <;> rfl)
     obtain ⟨pc1,pc2,pc3⟩:=part_cells (hrepp p hpm).dis hdp
     have hjl:j < (a.eval p.2).cells.size:=by rw [pc1]; exact (List.getElem?_eq_some_iff.1 hj).1
     have hu:(a.eval p.2).cells[j]? = some (a.eval p.2).cells[j]:=Array.getElem?_eq_getElem hjl
     refine ⟨_,?_,pc3 j c _ hj hu⟩
     have hvi:vs[i']? = some (a.eval p.2):=by rw [hvs]; simp [hp]
     have:=g4 i' j _ _ hvi hu
     rw [Nat.zero_add] at this
     simpa using this)
 refine ⟨_,_,G',?_,.inl ⟨_,rfl,by rw [hdd]; exact hR⟩⟩
 rw [zlen]
 simp only [execOp,hop]
 simp [hrun]
theorem abslO_sound (h:R n m G0 w0 s G a w) {o:Oper} (hd:∀ i:Nat,o.dst = some i → i < n) {s':ASt} (hx:abslO P s o = some s'):StepOk P n m G0 w0 s' a w o:=by
 unfold abslO at hx
 split at hx
 case h_2=>cases hx
 rename_i t len parts d hop hdd
 unfold abslR at hx
 split at hx
 case h_2=>cases hx
 rename_i k by_ hk
 split at hx
 case isFalse=>cases hx
 rename_i hc
 obtain ⟨c1,c2,c3⟩:=hc
 injection hx with hx
 subst hx
 obtain ⟨e,i,z,t1,t2,t3,t4,t5,t6,t7⟩:=tap_spec hk
 have hall:∀ p ∈ parts.toList,((av s.t p.2).scalar = true ∨ (av s.t p.2).part = true) ∧ (av s.t p.2).cells.length = k:=by
   intro p hp
   have:=List.all_eq_true.1 c3 p hp
   simpa using this
 have hcr:∀ p ∈ parts.toList,(a.eval p.2).cells.size = k ∧ ∀ (j:Nat) (c:AVal) (u:Value),(av s.t p.2).cells[j]? = some c → (a.eval p.2).cells[j]? = some u → Rep s.H.length G.r G.F c u:=by
   intro p hp
   obtain ⟨h1,h2⟩:=hall p hp
   rcases h1 with h1 | h1
   · obtain ⟨q1,q2,q3⟩:=(h.get p.2).cells (.inl h1)
     exact ⟨by rw [q1,h2],q3⟩
   · obtain ⟨q1,q2,q3⟩:=part_cells (part_toTree (h.get p.2) h1) h1
     exact ⟨by rw [q1,h2],fun j c u e1 e2=>.tree _ _ (q3 j c u e1 e2)⟩
 have hcells:∀ p ∈ parts.toList,(a.eval p.2).cells.size = k:=fun p hp=>(hcr p hp).1
 have hlen:parts.toList.length = len:=by
   have:=congrArg List.length c1
   simpa using this
 obtain ⟨vs,hvs⟩:∃ vs,vs = parts.toList.map fun p=>a.eval p.2:=⟨_,rfl⟩
 have hvl:vs.length = len:=by rw [hvs]; simpa using hlen
 have hzip:(vs.zipIdx 0).map (fun p=>(p.2,p.1)) = parts.toList.map fun p=>(p.1,a.eval p.2):=by
   apply List.ext_getElem?
   intro j
   have hj1:(parts.toList.map (·.1))[j]? = (List.range len)[j]?:=by rw [c1]
   simp only [List.getElem?_map,List.getElem?_zipIdx,hvs,Nat.zero_add]
   simp only [List.getElem?_map] at hj1
   cases hp:parts.toList[j]? with
   | none=>rfl
   | some p =>
     rw [hp] at hj1
     have hj:j < len:=by rw [← hlen]; exact (List.getElem?_eq_some_iff.1 hp).1
     rw [List.getElem?_range hj] at hj1
     simp at hj1
     simp [hj1]
 obtain ⟨row,hrow⟩:∃ row:Array Value,row = (Array.range (len * i.size)).map ((if len * i.size = 0 then (#[]:Array Value) else z.cells)[· % (if len * i.size = 0 then (#[]:Array Value) else z.cells).size]!):=⟨_,rfl⟩
 have hrows:row.size = len * k:=by rw [hrow,← t4]; simp
 obtain ⟨cells',g1,g2,g3,g4⟩:=fill_seq k vs 0 row (fun v hv=>by
   rw [hvs] at hv
   obtain ⟨p,hp,rfl⟩:=List.mem_map.1 hv
   exact hcells p hp) (by rw [Nat.zero_add,hvl,hrows]; exact Nat.le_refl _)
 rw [hzip] at g1
 have hrun:(Instr.buildSlice t len (parts.map fun p=>(p.1,a.eval p.2))).run P w = .ok (.slice (some ⟨w.heap.size,0,none⟩) len len) (w.alloc (.cells cells' e)):=by
   have h2:¬ (len * i.size > 16777216):=by rw [t4]; omega
   have g1':Instr.fill (fun i_1=>some (i_1 * i.size,i.size)) row (parts.toList.map fun p=>(p.1,a.eval p.2)) = some cells':=by rw [t4]; exact g1
   by_cases h0:len * i.size = 0
   · simp only [h0,if_true] at hrow
     simp [Instr.buildSlice,run_underlying t1,sizeOf,typeInfo,t2,h0,newRow]
     have e1:row = #[]:=by rw [hrow]; exact Array.eq_empty_of_size_eq_zero (by simp)
     have e2:(Array.map (fun _=>default) (Array.range 0):Array Value) = #[]:=Array.eq_empty_of_size_eq_zero (by simp)
     rw [e1] at g1'
     rw [e2,g1']
     simp
   · simp only [h0,if_false] at hrow
     simp [Instr.buildSlice,run_underlying t1,sizeOf,typeInfo,t2,h0,newRow,zeroValue,t3,h2]
     rw [← hrow,g1']
     simp
 have hxs:∀ x ∈ parts.toList.map (fun p=>av s.t p.2),x.cells.length = k:=by
   intro x hx
   obtain ⟨p,hp,rfl⟩:=List.mem_map.1 hx
   exact (hall p hp).2
 have hfl:=flat_len hxs
 rw [List.length_map,hlen] at hfl
 obtain ⟨G',r1,r2,r3⟩:=h.newBox (((parts.toList.map fun p=>av s.t p.2).flatMap AVal.cells).map AVal.dis) cells' e (by rw [List.length_map,hfl,g2,hrows]; exact Nat.le_refl _) (fun j x v hx hv=>by
   simp only [List.getElem?_map,Option.map_eq_some_iff] at hx
   obtain ⟨y,hy,rfl⟩:=hx
   obtain ⟨x0,hx0,hy0⟩:=flat_get hxs j y hy
   simp only [List.getElem?_map,Option.map_eq_some_iff] at hx0
   obtain ⟨p,hp,rfl⟩:=hx0
   have hpm:=List.mem_of_getElem? hp
   have hjl:j % k < (a.eval p.2).cells.size:=by rw [hcells p hpm]; exact Nat.mod_lt _ t7
   have hu:(a.eval p.2).cells[j % k]? = some (a.eval p.2).cells[j % k]:=Array.getElem?_eq_getElem hjl
   have hvi:vs[j / k]? = some (a.eval p.2):=by rw [hvs]; simp [hp]
   have:=g4 (j / k) (j % k) _ _ hvi hu
   rw [Nat.zero_add,Nat.mul_comm,Nat.div_add_mod] at this
   rw [this] at hv
   injection hv with hv
   subst hv
   exact ⟨((hcr p hpm).2 _ _ _ hy0 hu).dis,isOwn_dis _⟩)
 have r4:=r1.put (some d) (fun q e=>by injection e with e; subst e; exact hd _ hdd) (x:=.osl s.H.length 0 len (some len) k) (v:=.slice (some ⟨w.heap.size,0,none⟩) len len) (by
   rw [show w.heap.size = (G'.r s.H.length).1 by rw [r2]]
   exact .osl _ _ _ _ _ _ (by simp) (Nat.le_refl _) (by simp) (by rw [r2,g2,hrows]; simp)) rfl
 refine ⟨_,_,G',?_,.inl ⟨_,rfl,by rw [hdd]; exact r4⟩⟩
 simp only [execOp,hop]
 simp [hrun]
theorem astep_sound (h:R n m G0 w0 s G a w) {tr:List Nat} {o:Oper} (hd:∀ i:Nat,o.dst = some i → i < n) {s':ASt} (hx:astep P tr s o = some s'):StepOk P n m G0 w0 s' a w o:=by
 unfold astep at hx
 split at hx
 · have row:abx P tr s o = some s' → StepOk P n m G0 w0 s' a w o:=fun hx=>by
     obtain ⟨v,w',G',h1,h2⟩:=abx_sound h hd hx
     exact ⟨_,w',G',h1,.inl ⟨v,rfl,h2⟩⟩
   split at hx
   · split at hx
     · exact row hx
     · exact aapp_sound h hd hx
   · exact row hx
   · exact row hx
   · exact aval_step h hd hx
   · cases hx
 · split at hx
   · exact abslO_sound h hd hx
   · exact absl_sound h hd hx
 · split at hx
   · exact amkO_sound h hd hx
   · exact amk_sound h hd hx
 · exact aeff_sound h hd hx
 · exact aeff_sound h hd hx
 · exact aeff_sound h hd hx
 · exact aeff_sound h hd hx
 · split at hx
   · rename_i s'' he
     injection hx with hx
     subst hx
     exact aeff_sound h hd he
   · exact aval_step h hd hx
 · split at hx
   · rename_i s'' he
     injection hx with hx
     subst hx
     exact aeff_sound h hd he
   · exact aval_step h hd hx
 · exact aval_step h hd hx
end
end Go.Am
