/- The abstract machine, part twenty-five: rows of elements, all of one number of cells. -/
import Derived.Test.YtapgoboiljjecaaGreatDoorAmX
namespace Go.Am
open Go
set_option linter.unusedSectionVars false
variable [Globs]
theorem LeC_refl (x:AVal):LeC x x:=by
 cases x with
 | sl k xs m=>exact ⟨rfl,.inl ⟨rfl,rfl⟩⟩
 | _=>rfl
theorem All2_refl {α:Type} {r:α → α → Prop} (h:∀ x,r x x):∀ l:List α,All2 r l l
 | []=>trivial
 | x :: l=>⟨h x,All2_refl h l⟩
theorem LeS_refl (x:AVal):LeS x x:=by
 cases x with
 | undef=>trivial
 | agg cs=>exact All2_refl LeC_refl cs
 | mix cs=>exact All2_refl LeC_refl cs
 | sl k xs m=>exact ⟨rfl,.inl ⟨rfl,rfl⟩⟩
 | _=>rfl
theorem LeV_refl (x:AVal):LeV x x:=by
 cases x with
 | tup vs=>exact All2_refl LeS_refl vs
 | _=>unfold LeV; exact LeS_refl _
theorem tree_low {n:Nat} {x:AVal} (h:x.tree = true):low n x = true:=by
 cases x <;> first | rfl | simp [AVal.tree] at h
theorem treeCells_le (n:Nat):∀ {cs:List AVal},cs.all AVal.tree = true → LeCells n cs cs:=by
 intro cs
 induction cs with
 | nil=>intro _; trivial
 | cons c cs ih =>
   intro h
   simp only [List.all_cons,Bool.and_eq_true] at h
   exact ⟨LeV_refl c,tree_low h.1,ih h.2⟩
structure Enc {α:Type} (ce:α → List AVal) (k:Nat):Prop where
  pos:0 < k
  len:∀ x,(ce x).length = k
  dis:∀ x,(ce x).map AVal.dis = ce x
  tree:∀ x,(ce x).all AVal.tree = true
section
variable {α:Type} {ce:α → List AVal} {k:Nat}
def rowC (ce:α → List AVal) (l:List α):List AVal:=l.flatMap ce
theorem rowC_cons (x:α) (l:List α):rowC ce (x :: l) = ce x ++ rowC ce l:=rfl
theorem Enc.rowLen (E:Enc ce k) (l:List α):(rowC ce l).length = l.length * k:=by
 induction l with
 | nil=>simp [rowC]
 | cons x l ih=>rw [rowC_cons,List.length_append,ih,E.len,List.length_cons,Nat.succ_mul]; omega
theorem Enc.rowDrop (E:Enc ce k) (l:List α) (i:Nat):(rowC ce l).drop (i * k) = rowC ce (l.drop i):=by
 induction i generalizing l with
 | zero=>simp
 | succ i ih =>
   cases l with
   | nil=>simp [rowC]
   | cons b l =>
     have e:(i + 1) * k = (ce b).length + i * k:=by rw [E.len,Nat.succ_mul]; omega
     rw [e,← List.drop_drop,rowC_cons,List.drop_left,ih]
     rfl
theorem Enc.rowAt (E:Enc ce k) {l:List α} {i:Nat} {x:α} (h:l[i]? = some x) (rest:List AVal):((rowC ce l ++ rest).drop (i * k)).take k = ce x ∧ i * k + k ≤ (rowC ce l ++ rest).length:=by
 have hi:i < l.length:=(List.getElem?_eq_some_iff.1 h).1
 have hd:l.drop i = x :: l.drop (i + 1):=by
   rw [List.drop_eq_getElem_cons hi]
   congr 1
   rw [List.getElem?_eq_getElem hi] at h
   injection h
 have hl:i * k + k ≤ (rowC ce l).length:=by rw [E.rowLen,← Nat.succ_mul]; exact Nat.mul_le_mul_right _ hi
 refine ⟨?_,by rw [List.length_append]; omega⟩
 rw [List.drop_append_of_le_length (by omega),E.rowDrop,hd,rowC_cons,List.append_assoc,List.take_append_of_le_length (by rw [E.len]; exact Nat.le_refl _),List.take_of_length_le (by rw [E.len]; exact Nat.le_refl _)]
theorem Enc.load (E:Enc ce k) {l:List α} {i:Nat} {x:α} (h:l[i]? = some x) (rest:List AVal):aload (some (true,k)) (rowC ce l ++ rest) (i * k) = some (.agg (ce x)):=by
 obtain ⟨e,hl⟩:=E.rowAt h rest
 simp only [aload]
 rw [e,if_pos ⟨E.pos,hl,E.tree x⟩,E.dis]
theorem setR_mid (pre rest ys:List AVal) (h:ys.length ≤ rest.length) (off:Nat) (ho:off = pre.length):setR (pre ++ rest) off ys = pre ++ (ys ++ rest.drop ys.length):=by
 subst ho
 induction ys generalizing pre rest with
 | nil=>simp [setR]
 | cons y ys ih =>
   cases rest with
   | nil=>simp at h
   | cons r rest =>
     simp only [setR]
     have e1:(pre ++ r :: rest).set pre.length y = (pre ++ [y]) ++ rest:=by simp
     have e2:pre.length + 1 = (pre ++ [y]).length:=by simp
     rw [e1,e2,ih (pre ++ [y]) rest (by simpa using h)]
     simp
end
theorem get_drop {α:Type} {l:List α} {i:Nat} (hi:i < l.length):∃ x,l[i]? = some x ∧ l.drop i = x :: l.drop (i + 1) :=
 ⟨l[i],List.getElem?_eq_getElem hi,List.drop_eq_getElem_cons hi⟩
end Go.Am
