/- The abstract machine, part thirteen: regions, in the text's order and in any order. -/
import Derived.Test.YtapgoboiljjecaaGreatDoorAmL
namespace Go.Am
open Go
set_option linter.unusedSectionVars false
variable [Globs]
abbrev Vw:=Nat × List Nat × List Nat
def wild (tr:List Nat) (o:Oper):Bool :=
 match o.dst with
 | some d=>tr.contains (d + 200000)
 | none=>false
def kd (tr:List Nat) (dst:Option Nat) (d:Option Vw):Option Vw :=
 match dst with
 | some i=>if tr.contains (i + 200000) = true then none else d
 | none=>d
def giftB (tr:List Nat) (dst:Option Nat) (d:Option Vw):Bool :=
 match dst,d with
 | some i,none=>tr.contains (i + 400000)
 | some i,some v=>tr.contains (i + 400000) && (tr.contains (i + 200000) && !(v.2.2.contains 900000))
 | none,_=>false
def mild (tr:List Nat) (o:Oper):Bool :=
 match o.op with
 | .alloc _ | .box .. | .store ..=>false
 | .load ..=>match o.dst with
   | some d=>!(tr.contains d)
   | none=>true
 | .call c=>match c.callee with
   | .builtin .append=>!(rowOp tr o)
   | .builtin .copy=>false
   | .builtin .clear=>false
   | .value _=>!(wild tr o)
   | _=>true
 | .makeSlice ..=>!(rowOp tr o)
 | .buildSlice ..=>!(rowOp tr o)
 | _=>true
def vcall (o:Oper):Bool :=
 match o.op with
 | .call c=>match c.callee with
   | .value _=>true
   | _=>false
 | _=>false
def codes:List Nat → Nat → Array Oper → List Nat
 | [],_,_=>[]
 | c :: l,lo,all=>if c < 1000000 ∨ 1000000000000 ≤ c then codes l lo all else
   if (decide (lo ≤ c % 1000000) && decide (c % 1000000 < lo + 500000) && (all.toList.any fun o=>o.dst == some (c % 1000000 - lo))) = true then (c / 1000000 - 1) :: codes l lo all else codes l lo all
def hasCode:List Nat → Nat → Bool
 | [],_=>false
 | c :: l,d=>if c < 1000000 then hasCode l d else c % 1000000 == d || hasCode l d
def vw (tr:List Nat) (all:Array Oper) (h:Nat):Vw:=(h,codes tr 500000 all,codes tr 0 all)
def hmask (E:List Nat):Nat → List (List AVal) → List (List AVal)
 | _,[]=>[]
 | i,cs :: H=>(if E.contains i = true then [] else cs) :: hmask E (i + 1) H
def vis (v:Vw) (H:List (List AVal)):List (List AVal) :=
 match v.2.1 ++ v.2.2 with
 | []=>H.take v.1
 | e :: E=>hmask (e :: E) 0 (H.take v.1)
def oload (tr:List Nat) (o:Oper):Bool :=
 match o.op,o.dst,o.guard with
 | .load _ _,some d,none=>tr.contains d && hasCode tr d
 | _,_,_=>false
def stOk (v:Vw) (s:ASt) (o:Oper):Bool :=
 match o.op with
 | .store _ x _=>!(v.2.2.contains 900001) || (match av s.t x with
   | .ptr id _=>v.2.1.contains id
   | _=>false)
 | _=>true
def seenOk (v:Vw) (tr:List Nat) (s:ASt) (o:Oper):Bool :=
 stOk v s o && (!(oload tr o) || match o.op with
 | .load _ x=>match av s.t x with
   | .ptr id _=>v.2.2.contains id
   | _=>false
 | _=>false)
def astepD (P:Program) (tr:List Nat) (d:Option Vw) (s:ASt) (o:Oper):Option ASt :=
 match d with
 | none=>astep P tr s o
 | some v=>if mild tr o = true then (astep P tr ⟨s.t,vis v s.H⟩ o).map fun s'=>⟨s'.t,s.H⟩ else if seenOk v tr s o = true then astep P tr s o else none
def Keep:Option Vw → List (List AVal) → List (List AVal) → Prop
 | none,_,_=>True
 | some v,H,H'=>vis v H' = vis v H ∧ H.length ≤ H'.length
def hideD:Option Vw → List (List AVal) → List (List AVal)
 | none,H=>H
 | some v,H=>hideL v.2.2 H
def showD:Option Vw → List (List AVal) → List (List AVal) → List (List AVal)
 | none,_,H'=>H'
 | some v,H,H'=>showL v.2.2 H H'
def Sub (H H':List (List AVal)):Prop:=∀ (id:Nat) (cs:List AVal),H[id]? = some cs → cs ≠ [] → H'[id]? = some cs
theorem Sub.refl (H:List (List AVal)):Sub H H:=fun _ _ h _=>h
theorem Sub.take (H:List (List AVal)) (h:Nat):Sub (H.take h) H:=by
 intro id cs e _
 rw [List.getElem?_take] at e
 split at e
 · exact e
 · cases e
theorem hmask_sub (E:List Nat):∀ (H:List (List AVal)) (i:Nat),Sub (hmask E i H) H
 | [],_=>Sub.refl _
 | c :: H,i=>by
   intro id cs e hne
   cases id with
   | zero =>
     simp only [hmask,List.getElem?_cons_zero] at e ⊢
     split at e
     · injection e with e; exact (hne e.symm).elim
     · exact e
   | succ id =>
     simp only [hmask,List.getElem?_cons_succ] at e ⊢
     exact hmask_sub E H (i + 1) id cs e hne
theorem vis_sub (v:Vw) (H:List (List AVal)):Sub (vis v H) H:=by
 unfold vis
 split
 · exact Sub.take _ _
 · exact fun id cs e hne=>Sub.take _ _ id cs (hmask_sub _ _ _ id cs e hne) hne
theorem hmask_set (E:List Nat):∀ (H:List (List AVal)) (i j:Nat) (cs:List AVal),E.contains (i + j) = true → hmask E i (H.set j cs) = hmask E i H
 | [],_,_,_,_=>rfl
 | c :: H,i,0,cs,h=>by
   simp only [List.set_cons_zero,hmask]
   rw [if_pos (by simpa using h),if_pos (by simpa using h)]
 | c :: H,i,j + 1,cs,h=>by
   simp only [List.set_cons_succ,hmask]
   rw [hmask_set E H (i + 1) j cs (by rw [show i + 1 + j = i + (j + 1) by omega]; exact h)]
theorem vis_set (v:Vw) (H:List (List AVal)) (id:Nat) (cs:List AVal) (h:id ∈ v.2.1 ++ v.2.2):vis v (H.set id cs) = vis v H:=by
 unfold vis
 split
 · rename_i e; rw [e] at h; cases h
 · rename_i e E he
   rw [List.take_set,hmask_set]
   rw [he] at h
   rw [Nat.zero_add]
   simpa using h
theorem showL_len:∀ (E:List Nat) (H H':List (List AVal)),(showL E H H').length = H'.length
 | [],_,_=>rfl
 | i :: E,H,H'=>by
   simp only [showL]
   split
   · rw [List.length_set]; exact showL_len E _ H'
   · exact showL_len E _ H'
theorem vis_showL (v:Vw):∀ (E:List Nat) (H H':List (List AVal)),(∀ i ∈ E,i ∈ v.2.1 ++ v.2.2) → vis v (showL E H H') = vis v H'
 | [],_,_,_=>rfl
 | i :: E,H,H',h=>by
   simp only [showL]
   split
   · rw [vis_set v _ _ _ (h i (by simp))]; exact vis_showL v E _ H' fun j hj=>h j (by simp [hj])
   · exact vis_showL v E _ H' fun j hj=>h j (by simp [hj])
theorem hideL_set:∀ (E:List Nat) (H:List (List AVal)) (id:Nat) (cs:List AVal),id ∈ E → hideL E (H.set id cs) = hideL E H
 | [],_,_,_,h=>by cases h
 | i :: E,H,id,cs,h=>by
   simp only [hideL]
   by_cases e:i = id
   · subst e; rw [List.set_set]
   · rcases List.mem_cons.1 h with h | h
     · exact (e h.symm).elim
     · rw [List.set_comm _ _ (fun q=>e q.symm)]
       exact hideL_set E (H.set i []) id cs h
theorem showL_get:∀ (E:List Nat) (H H':List (List AVal)) (id:Nat) (cs:List AVal),id ∈ E → H[id]? = some cs → H.length ≤ H'.length → (showL E H H')[id]? = some cs
 | [],_,_,_,_,h,_,_=>by cases h
 | i :: E,H,H',id,cs,h,hid,hl=>by
   have hlt:id < H.length:=(List.getElem?_eq_some_iff.1 hid).1
   have hl2:id < (showL E (H.set i []) H').length:=by rw [showL_len]; omega
   simp only [showL]
   by_cases e:i = id
   · subst e
     rw [hid]
     simp only [List.getElem?_set_self hl2]
   · rcases List.mem_cons.1 h with h | h
     · exact (e h.symm).elim
     · have ih:=showL_get E (H.set i []) H' id cs h (by rw [List.getElem?_set_ne e]; exact hid) (by rw [List.length_set]; exact hl)
       cases hi:H[i]? with
       | none=>exact ih
       | some c=>simp only [List.getElem?_set_ne e]; exact ih
theorem showL_set:∀ (E:List Nat) (H H':List (List AVal)) (id:Nat) (cs c:List AVal),id ∈ E → H[id]? = some c → H.length ≤ H'.length → showL E (H.set id cs) H' = (showL E H H').set id cs
 | [],_,_,_,_,_,h,_,_=>by cases h
 | i :: E,H,H',id,cs,c,h,hid,hl=>by
   have hlt:id < H.length:=(List.getElem?_eq_some_iff.1 hid).1
   simp only [showL]
   by_cases e:i = id
   · subst e
     rw [hid,List.getElem?_set_self hlt,List.set_set]
     simp only
     rw [List.set_set]
   · rcases List.mem_cons.1 h with h | h
     · exact (e h.symm).elim
     · have ih:=showL_set E (H.set i []) H' id cs c h (by rw [List.getElem?_set_ne e]; exact hid) (by rw [List.length_set]; exact hl)
       rw [List.getElem?_set_ne (fun q=>e q.symm),List.set_comm _ _ (fun q=>e q.symm),ih]
       cases hi:H[i]? with
       | none=>rfl
       | some c'=>simp only; rw [List.set_comm _ _ (fun q=>e q.symm)]
def floB:Option Vw → Bool
 | none=>false
 | some v=>v.2.2.contains 900000
def floC:Option Vw → Bool
 | none=>false
 | some v=>v.2.2.contains 900003
def AExec (P:Program) (tr:List Nat) (d:Option Vw) (o:Oper) (s s':ASt):Prop :=
 astepD P tr d s o = some s' ∨ (∃ c fo f fs cs x H',((floB d = false ∧ floC d = false) ∧ o.op = .call c) ∧ c.callee = .value fo ∧ av s.t fo = .fn f fs cs ∧ CAny P f (cargs s fs c.args.toList cs) (hideD (kd tr o.dst d) s.H) x H' ∧ Keep (kd tr o.dst d) s.H H' ∧ s' = ⟨(s.put o.dst x).t,showD (kd tr o.dst d) s.H H'⟩) ∨
   ((d = none ∨ (wild tr o = true ∧ floB d = false)) ∧ ∃ c fo f t rest x H',o.op = .call c ∧ c.callee = .value fo ∧ c.args.toList = .tmp t :: rest ∧ av s.t fo = .fn f [] [] ∧ CFunO P f (s.t t :: rest.map fun y=>(av s.t y).dis) s.H x H' ∧
     s' = ⟨((ASt.mk (upd s.t t (s.t t).dis) s.H).put o.dst x).t,H'⟩) ∨
   (floB d = true ∧ ∃ c fo f fs cs x,o.op = .call c ∧ c.callee = .value fo ∧ av s.t fo = .fn f fs cs ∧ CFun P f (cargs s fs c.args.toList cs) [] x [] ∧ (cargs s fs c.args.toList cs).all noid = true ∧ noid x = true ∧ s' = s.put o.dst x) ∨
   floC d = true ∧ ∃ c fo f fs cs x H',(floB d = false ∧ o.op = .call c) ∧ c.callee = .value fo ∧ av s.t fo = .fn f fs cs ∧ (H'.length = s.H.length ∧ ∀ Z,CFun P f (cargs s fs c.args.toList cs) (s.H ++ Z) x (H' ++ Z)) ∧ Keep (kd tr o.dst d) s.H H' ∧ s' = ⟨(s.put o.dst x).t,H'⟩
def AStep1 (P:Program) (tr:List Nat) (d:Option Vw) (all:Array Oper) (o:Oper) (s s':ASt):Prop :=
 match o.guard with
 | none=>AExec P tr d o s s'
 | some (j,want)=>∃ q,(all[j]?).bind (·.dst) = some q ∧ ((∃ b,s.t q = .bool b ∧ if b = want then AExec P tr d o s s' else s' = s.put o.dst (.tup [])) ∨ (s.t q = .tup [] ∧ s' = s.put o.dst (.tup [])))
def ARun (P:Program) (tr:List Nat) (d:Option Vw) (all:Array Oper):List Oper → ASt → ASt → Prop
 | [],s,s'=>s = s'
 | o :: os,s,s''=>∃ s',AStep1 P tr d all o s s' ∧ ARun P tr d all os s' s''
def okK:Option ASt → (ASt → Prop) → Prop
 | some s,K=>K s
 | none,_=>False
def CallK (P:Program) (d:Option Vw) (f:FuncId) (args:List AVal) (dst:Option Nat) (K:ASt → Prop) (s:ASt):Prop :=
 ∃ x H',CAny P f args (hideD d s.H) x H' ∧ Keep d s.H H' ∧ K ⟨(s.put dst x).t,showD d s.H H'⟩
def FloK (P:Program) (f:FuncId) (args:List AVal) (dst:Option Nat) (K:ASt → Prop) (s:ASt):Prop :=
 ∃ x,CFun P f args [] x [] ∧ (args.all noid = true ∧ noid x = true) ∧ K (s.put dst x)
def FloCK (P:Program) (d:Option Vw) (f:FuncId) (args:List AVal) (dst:Option Nat) (K:ASt → Prop) (s:ASt):Prop :=
 ∃ x H',(H'.length = s.H.length ∧ ∀ Z,CFun P f args (s.H ++ Z) x (H' ++ Z)) ∧ Keep d s.H H' ∧ K ⟨(s.put dst x).t,H'⟩
def execK (P:Program) (tr:List Nat) (d:Option Vw) (o:Oper) (K:ASt → Prop) (s:ASt):Prop :=
 match o.op with
 | .call c=>match c.callee with
   | .value fo=>match av s.t fo with
     | .fn f fs cs=>if giftB tr o.dst d = true then GiftK P f fs c.args.toList cs o.dst K s else if floB d = true then FloK P f (cargs s fs c.args.toList cs) o.dst K s else if floC d = true then FloCK P (kd tr o.dst d) f (cargs s fs c.args.toList cs) o.dst K s else CallK P (kd tr o.dst d) f (cargs s fs c.args.toList cs) o.dst K s
     | _=>False
   | _=>okK (astepD P tr d s o) K
 | _=>okK (astepD P tr d s o) K
def skipK (o:Oper) (K:ASt → Prop) (s:ASt):Prop:=K (s.put o.dst (.tup []))
def boolK (q:Nat) (want:Bool) (K1 K0:ASt → Prop) (s:ASt):AVal → Prop
 | .bool b=>if b = true then (if want = true then K1 else K0) ⟨upd s.t q (.bool true),s.H⟩ else (if want = true then K0 else K1) ⟨upd s.t q (.bool false),s.H⟩
 | _=>False
def gboolK (q:Nat) (want:Bool) (K1 K0:ASt → Prop) (s:ASt):AVal → Prop
 | .tup []=>K0 s
 | x=>boolK q want K1 K0 s x
def guardK (all:Array Oper) (o:Oper) (K1 K0:ASt → Prop) (s:ASt):Prop :=
 match o.guard with
 | none=>K1 s
 | some (j,want)=>match (all[j]?).bind (·.dst) with
   | some q=>gboolK q want K1 K0 s (s.t q)
   | none=>False
def awpOps (P:Program) (tr:List Nat) (d:Option Vw) (all:Array Oper):List Oper → (ASt → Prop) → ASt → Prop
 | [],K,s=>K s
 | o :: os,K,s=>guardK all o (execK P tr d o (awpOps P tr d all os K)) (skipK o (awpOps P tr d all os K)) s
section
variable {P:Program} {tr:List Nat} {d:Option Vw} {all:Array Oper}
theorem execK_run {o:Oper} {K:ASt → Prop} {s:ASt} (h:execK P tr d o K s):∃ s',AExec P tr d o s s' ∧ K s':=by
 unfold execK at h
 have ok:okK (astepD P tr d s o) K → ∃ s',AExec P tr d o s s' ∧ K s':=by
   intro h
   cases e:astepD P tr d s o with
   | none=>rw [e] at h; exact h.elim
   | some s'=>rw [e] at h; exact ⟨s',.inl e,h⟩
 split at h
 · rename_i c hop
   split at h
   · rename_i fo hc
     split at h
     · rename_i f fs cs hf
       split at h
       · rename_i hgift
         have hdn:d = none ∨ (wild tr o = true ∧ floB d = false):=by
           unfold giftB at hgift
           split at hgift
           · exact .inl rfl
           · rename_i i v hi
             simp only [Bool.and_eq_true,Bool.not_eq_true'] at hgift
             refine .inr ⟨?_,hgift.2.2⟩
             unfold wild
             rw [hi]
             exact hgift.2.1
           · cases hgift
         unfold GiftK at h
         split at h
         · rename_i t rest has
           obtain ⟨x,H',h1,h2⟩:=h
           exact ⟨_,.inr (.inr (.inl ⟨hdn,c,fo,f,t,rest,x,H',hop,hc,has,hf,h1,rfl⟩)),h2⟩
         · exact h.elim
       split at h
       · rename_i hfl
         obtain ⟨x,h1,h2,h3⟩:=h
         exact ⟨_,.inr (.inr (.inr (.inl ⟨hfl,c,fo,f,fs,cs,x,hop,hc,hf,h1,h2.1,h2.2,rfl⟩))),h3⟩
       rename_i hfl
       split at h
       · rename_i hfc
         obtain ⟨x,H',h1,h2,h3⟩:=h
         exact ⟨_,.inr (.inr (.inr (.inr ⟨hfc,c,fo,f,fs,cs,x,H',⟨by simpa using hfl,hop⟩,hc,hf,h1,h2,rfl⟩))),h3⟩
       · rename_i hfc
         obtain ⟨x,H',h1,h2,h3⟩:=h
         exact ⟨_,.inr (.inl ⟨c,fo,f,fs,cs,x,H',⟨⟨by simpa using hfl,by simpa using hfc⟩,hop⟩,hc,hf,h1,h2,rfl⟩),h3⟩
     · exact h.elim
   · exact ok h
 · exact ok h
theorem upd_same (s:ASt) (q:Nat) (x:AVal) (h:s.t q = x):(⟨upd s.t q x,s.H⟩:ASt) = s:=by
 rw [upd_self _ _ _ h]
theorem awpOps_run:∀ (os:List Oper) (K:ASt → Prop) (s:ASt),awpOps P tr d all os K s → ∃ s',ARun P tr d all os s s' ∧ K s':=by
 intro os
 induction os with
 | nil=>intro K s h; exact ⟨s,rfl,h⟩
 | cons o os ih =>
   intro K s h
   have go:∀ s1,AStep1 P tr d all o s s1 → awpOps P tr d all os K s1 → ∃ s',ARun P tr d all (o :: os) s s' ∧ K s':=by
     intro s1 h1 h2
     obtain ⟨s',h3,h4⟩:=ih K s1 h2
     exact ⟨s',⟨s1,h1,h3⟩,h4⟩
   unfold awpOps guardK at h
   split at h
   · rename_i hg
     obtain ⟨s1,h1,h2⟩:=execK_run h
     exact go s1 (by unfold AStep1; rw [hg]; exact h1) h2
   · rename_i j want hg
     split at h
     case h_2=>exact h.elim
     rename_i q hq
     have tupcase:s.t q = .tup [] → skipK o (awpOps P tr d all os K) s → ∃ s',ARun P tr d all (o :: os) s s' ∧ K s':=fun e h' =>
       go (s.put o.dst (.tup [])) (by unfold AStep1; rw [hg]; exact ⟨q,hq,.inr ⟨e,rfl⟩⟩) h'
     cases hb:s.t q with
     | tup vs =>
       rw [hb] at h
       cases vs with
       | nil=>exact tupcase hb h
       | cons=>exact h.elim
     | bool b =>
       rw [hb] at h
       unfold gboolK boolK at h
       have hs:∀ b',b = b' → (⟨upd s.t q (.bool b'),s.H⟩:ASt) = s:=fun b' e=>upd_same s q _ (by rw [hb,e])
       have ex:b = want → execK P tr d o (awpOps P tr d all os K) s → ∃ s',ARun P tr d all (o :: os) s s' ∧ K s':=by
         intro e h'
         obtain ⟨s1,h1,h2⟩:=execK_run h'
         exact go s1 (by unfold AStep1; rw [hg]; exact ⟨q,hq,.inl ⟨b,hb,by rw [if_pos e]; exact h1⟩⟩) h2
       have sk:b ≠ want → skipK o (awpOps P tr d all os K) s → ∃ s',ARun P tr d all (o :: os) s s' ∧ K s':=by
         intro e h'
         exact go (s.put o.dst (.tup [])) (by unfold AStep1; rw [hg]; exact ⟨q,hq,.inl ⟨b,hb,by rw [if_neg e]⟩⟩) h'
       cases b <;> cases want <;> simp only [Bool.false_eq_true,if_true,if_false] at h
       · rw [hs false rfl] at h; exact ex rfl h
       · rw [hs false rfl] at h; exact sk (by simp) h
       · rw [hs true rfl] at h; exact sk (by simp) h
       · rw [hs true rfl] at h; exact ex rfl h
     | _=>rw [hb] at h; exact h.elim
variable {n m:Nat} {G0:Gh} {w0:World} {s:ASt} {G:Gh} {a:Act} {w:World}
theorem exec_sound (hD:∀ (s s':ASt) (o:Oper),astepD P tr d s o = some s' → astep P tr s o = some s') (h:R n m G0 w0 s G a w) {o:Oper} (hd:∀ i:Nat,o.dst = some i → i < n) {s':ASt} (hs:AExec P tr d o s s') {K:Act → World → Prop} {Q:Exit → Act → World → Prop}
   (hK:∀ a' w' G',R n m G0 w0 s' G' a' w' → K a' w'):o.wp P a w K Q:=by
 rcases hs with hs | ⟨c,fo,f,fs,cs,x,H',⟨_,h1⟩,h2,h3,h4,_,h6⟩ | ⟨_,c,fo,f,t,rest,x,H',h1,h2,h3,h4,h5,h6⟩ | ⟨_,c,fo,f,fs,cs,x,h1,h2,h3,h4,h5,h6,h7⟩ | ⟨_,c,fo,f,fs,cs,x,H',⟨_,h1⟩,h2,h3,⟨_,h4⟩,_,h6⟩
 · obtain ⟨nx,w',G',hr,hR⟩:=astep_sound h hd (hD _ _ _ hs)
   unfold Oper.wp
   rw [hr]
   rcases hR with ⟨v,rfl,hR⟩ | ⟨rfl,hR⟩
   · exact hK _ _ _ hR
   · exact hK _ _ _ hR
 · subst h6
   refine call_sound h hd h1 h2 h3 ?_ hK
   cases hk:kd tr o.dst d with
   | none=>rw [hk] at h4; exact h4
   | some v=>rw [hk] at h4; exact h4.hide
 · subst h6
   exact gift_sound h hd h1 h2 h3 h4 h5 hK
 · subst h7
   exact call_sound h hd h1 h2 h3 (.inl (h4.closed h5 h6 s.H)) (fun a' w' G' hR=>hK a' w' G' (by cases hdd:o.dst <;> rw [hdd] at hR <;> exact hR))
 · subst h6
   have h4':=h4 []
   rw [List.append_nil,List.append_nil] at h4'
   exact call_sound h hd h1 h2 h3 (.inl h4') hK
theorem step1_sound (hD:∀ (s s':ASt) (o:Oper),astepD P tr d s o = some s' → astep P tr s o = some s') (h:R n m G0 w0 s G a w) {i:Nat} {o:Oper} (ho:all[i]? = some o) (hd:∀ i:Nat,o.dst = some i → i < n) {s':ASt} (hs:AStep1 P tr d all o s s') {K:Act → World → Prop} {Q:Exit → Act → World → Prop}
   (hK:∀ a' w' G',R n m G0 w0 s' G' a' w' → K a' w'):wpOp P all Q i K a w:=by
 unfold wpOp
 rw [ho]
 simp only
 unfold AStep1 at hs
 split at hs
 · rename_i hg
   have hw:Region.wanted o (yielded all a.tmps) = true:=by simp [Region.wanted,hg]
   rw [if_pos hw]
   exact .inl (exec_sound hD h hd hs hK)
 · rename_i j want hg
   obtain ⟨q,hq,hs⟩:=hs
   rcases hs with ⟨b,hb,hs⟩ | ⟨hb,hs⟩
   case inr =>
     have hqn:q < n:=by
       by_cases e:q < n
       · exact e
       · rw [h.out q (Nat.le_of_not_lt e)] at hb; cases hb
     have hlt:q < a.tmps.size:=by rw [h.sz]; exact hqn
     have hv:a.tmps[q]? = some a.tmps[q]:=Array.getElem?_eq_getElem hlt
     have hr:=(h.tmp q _ hv).1
     rw [hb] at hr
     have hu:∃ arr,a.tmps[q] = .tuple arr:=by
       generalize a.tmps[q] = v at hr
       cases hr with
       | tree _ _ ht=>cases ht
       | tup _ arr _ _=>exact ⟨arr,rfl⟩
     obtain ⟨arr,hu⟩:=hu
     have hy:yielded all a.tmps j = none:=by
       unfold yielded
       rw [hq]
       simp [hv,hu]
     have hw:Region.wanted o (yielded all a.tmps) = false:=by simp [Region.wanted,hg,hy]
     subst hs
     rw [hw,if_neg (by simp)]
     exact hK _ _ _ (h.put o.dst hd (.tup [] #[] rfl (by simp)) rfl)
   have hqn:q < n:=by
     by_cases e:q < n
     · exact e
     · rw [h.out q (Nat.le_of_not_lt e)] at hb; cases hb
   have hv:a.tmps[q]? = some (.bool b):=by
     have hg:=h.get (.tmp q)
     simp only [av,hb] at hg
     have:=hg.bool_inv
     have hsz:=h.sz
     have hlt:q < a.tmps.size:=by rw [hsz]; exact hqn
     rw [Array.getElem?_eq_getElem hlt]
     simp [Act.eval,Array.getD,hlt] at this
     rw [this]
   have hy:yielded all a.tmps j = some b:=by
     unfold yielded
     rw [hq]
     simp [hv]
   have hw:Region.wanted o (yielded all a.tmps) = (some b == some want):=by simp [Region.wanted,hg,hy]
   rw [hw]
   by_cases e:b = want
   · rw [if_pos e] at hs
     subst e
     rw [if_pos (by simp)]
     exact .inl (exec_sound hD h hd hs hK)
   · rw [if_neg e] at hs
     subst hs
     rw [if_neg (by simp; exact e)]
     exact hK _ _ _ (h.put o.dst hd (.tup [] #[] rfl (by simp)) rfl)
def dstsOk (n:Nat) (os:List Oper):Bool:=os.all fun o=>match o.dst with
 | some d=>decide (d < n)
 | none=>true
theorem dstsOk_get {n:Nat} {os:List Oper} (h:dstsOk n os = true) {o:Oper} (ho:o ∈ os):∀ i:Nat,o.dst = some i → i < n:=by
 intro i hi
 have:=List.all_eq_true.1 h o ho
 rw [hi] at this
 simpa using this
theorem run_sound (hD:∀ (s s':ASt) (o:Oper),astepD P tr d s o = some s' → astep P tr s o = some s') {Q:Exit → Act → World → Prop} {sn:ASt}:∀ (os:List Oper) (i0:Nat) (s:ASt) (G:Gh) (a:Act) (w:World),all.toList.drop i0 = os → dstsOk n os = true → ARun P tr d all os s sn → R n m G0 w0 s G a w →
   (∀ a' w' G',R n m G0 w0 sn G' a' w' → Q .normal a' w') → wpOps P all Q (List.range' i0 os.length) a w:=by
 intro os
 induction os with
 | nil=>intro i0 s G a w _ _ hr h hQ; subst hr; exact hQ _ _ _ h
 | cons o os ih =>
   intro i0 s G a w he hd hr h hQ
   obtain ⟨s1,h1,h2⟩:=hr
   have ho:all[i0]? = some o:=by
     have:(all.toList.drop i0)[0]? = some o:=by rw [he]; rfl
     simpa using this
   have he':all.toList.drop (i0 + 1) = os:=by
     rw [← List.drop_drop,he]; rfl
   simp only [List.length_cons,List.range'_succ]
   rw [wpOps_cons]
   simp only [dstsOk,List.all_cons,Bool.and_eq_true] at hd
   refine step1_sound hD h ho (dstsOk_get (os:=o :: os) (by simp only [dstsOk,List.all_cons,Bool.and_eq_true]; exact hd) (by simp)) h1 (fun a' w' G' hR=>ih (i0 + 1) s1 G' a' w' he' hd.2 h2 hR hQ)
theorem region_sound {id:Nat} {K:ASt → Prop} {Q:Exit → Act → World → Prop} (hd:dstsOk n all.toList = true) (h:R n m G0 w0 s G a w) (hw:awpOps P tr none all all.toList K s)
   (hQ:∀ s' G' a' w',K s' → R n m G0 w0 s' G' a' w' → Q .normal a' w'):(Code.region id all false).wp P Q a w:=by
 obtain ⟨sn,hr,hk⟩:=awpOps_run _ _ _ hw
 refine wp_region ?_
 have:=run_sound (d:=none) (fun _ _ _ h=>h) (Q:=Q) all.toList 0 s G a w (by simp) hd hr h (fun a' w' G' hR=>hQ sn G' a' w' hk hR)
 rw [List.range_eq_range']
 simpa using this
end
end Go.Am
