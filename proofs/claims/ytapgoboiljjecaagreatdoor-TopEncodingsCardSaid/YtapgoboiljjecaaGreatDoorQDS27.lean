import Derived.Test.YtapgoboiljjecaaGreatDoorQDS18
set_option linter.unusedSimpArgs false
set_option linter.unusedVariables false
namespace Go.Proofs.YtapgoboiljjecaaGreatDoor
open Go Go.Am
end Go.Proofs.YtapgoboiljjecaaGreatDoor

namespace Go.Proofs.YtapgoboiljjecaaGreatDoor
open Go Go.Am
@[simp] def encP (p:Int × Int):AVal:=.agg [.int .u32 p.1,.int .i64 p.2]
end Go.Proofs.YtapgoboiljjecaaGreatDoor

namespace Go.Proofs.YtapgoboiljjecaaGreatDoor
open Go Go.Am
end Go.Proofs.YtapgoboiljjecaaGreatDoor

namespace Go.Proofs.YtapgoboiljjecaaGreatDoor
open Go Go.Am
end Go.Proofs.YtapgoboiljjecaaGreatDoor

namespace Go.Proofs.YtapgoboiljjecaaGreatDoor
open Go Go.Am
set_option linter.unusedSimpArgs false
end Go.Proofs.YtapgoboiljjecaaGreatDoor

namespace Go.Proofs.YtapgoboiljjecaaGreatDoor
open Go Go.Am
set_option linter.unusedSimpArgs false
theorem chunk8 (b:List Int) (n:Nat) (h:b.length = n):chunk false (b.map enc8) 0 1 n = b.map enc8:=by
 subst h
 apply List.ext_getElem?
 intro q
 simp only [chunk,List.getElem?_map]
 by_cases hq:q < b.length
 · have hx:b[q]? = some b[q]:=List.getElem?_eq_getElem hq
   rw [List.getElem?_range hq,hx]
   simp [hq,List.getD]
 · rw [List.getElem?_eq_none (by simpa using hq),List.getElem?_eq_none (by simpa using hq)]
   rfl
end Go.Proofs.YtapgoboiljjecaaGreatDoor

namespace Go.Proofs.YtapgoboiljjecaaGreatDoor
open Go Go.Am
set_option linter.unusedSimpArgs false
def isB (b:List Int):Prop:=∀ x ∈ b,0 ≤ x ∧ x ≤ 255
theorem wrap_i (x:Int) (h1:-9223372036854775808 ≤ x) (h2:x ≤ 9223372036854775807):IntKind.i64.wrap x = x:=wrap_in ⟨h1,h2⟩
end Go.Proofs.YtapgoboiljjecaaGreatDoor

namespace Go.Proofs.YtapgoboiljjecaaGreatDoor
open Go Go.Am
set_option linter.unusedSimpArgs false
end Go.Proofs.YtapgoboiljjecaaGreatDoor

namespace Go.Proofs.YtapgoboiljjecaaGreatDoor
open Go Go.Am
set_option linter.unusedSimpArgs false
@[simp] theorem tstr_39_9:tstr Tryz.prog 22 9 = true:=by kernel_rfl
theorem bt_in (x:Int) (i:Nat):0 ≤ bt x i ∧ bt x i ≤ 255:=by
 have:bt x i = (x.fdiv (2 ^ (8 * i))) % 256:=rfl
 omega
theorem isB_numB (n:Nat) (x:Int):isB (numB n x):=by
 induction n with
 | zero=>intro y hy; simp [numB] at hy
 | succ n ih =>
   intro y hy
   simp only [numB,List.mem_cons] at hy
   rcases hy with rfl | hy
   · exact bt_in x n
   · exact ih y hy
theorem isB_app {a b:List Int} (ha:isB a) (hb:isB b):isB (a ++ b):=by
 intro y hy
 rcases List.mem_append.1 hy with h | h
 · exact ha y h
 · exact hb y h
theorem isB_flat {α:Type} (f:α → List Int) (l:List α) (h:∀ x,isB (f x)):isB ((l.map f).flatten):=by
 intro y hy
 obtain ⟨z,hz,hy⟩:=List.mem_flatten.1 hy
 obtain ⟨x,_,rfl⟩:=List.mem_map.1 hz
 exact h x y hy
theorem isB_nil:isB []:=by intro x hx; simp at hx
theorem isB_hdrB (h:Hdr):isB (hdrB h):=by
 unfold hdrB
 repeat' apply isB_app
 all_goals exact isB_numB _ _
theorem isB_bodyB (l:Lsa):isB (bodyB l):=by
 unfold bodyB
 repeat' split
 · exact isB_app (isB_app (isB_numB _ _) (isB_numB _ _)) (isB_flat _ _ fun x=>by unfold linkB; exact isB_app (isB_app (isB_app (isB_numB _ _) (isB_numB _ _)) (isB_numB _ _)) (isB_numB _ _))
 · exact isB_app (isB_numB _ _) (isB_flat _ _ fun x=>isB_numB _ _)
 · exact isB_numB _ _
 · exact isB_app (isB_app (isB_app (isB_numB _ _) (isB_numB _ _)) (isB_numB _ _)) (isB_numB _ _)
 · exact isB_nil
theorem isB_bytesA (l:Lsa):isB (bytesA l):=isB_app (isB_app (isB_hdrB _) (isB_numB _ _)) (isB_bodyB _)
theorem isB_drop {b:List Int} (h:isB b) (n:Nat):isB (b.drop n):=fun x hx=>h x (List.mem_of_mem_drop hx)
theorem isB_take {b:List Int} (h:isB b) (n:Nat):isB (b.take n):=fun x hx=>h x (List.mem_of_mem_take hx)
theorem hdr_ext (a b:Hdr):a = b ↔ a.Ty = b.Ty ∧ a.ID = b.ID ∧ a.Len = b.Len ∧ a.Router = b.Router ∧ a.Seq = b.Seq ∧ a.Age = b.Age ∧ a.Sum = b.Sum:=by
 cases a; cases b; simp
end Go.Proofs.YtapgoboiljjecaaGreatDoor
