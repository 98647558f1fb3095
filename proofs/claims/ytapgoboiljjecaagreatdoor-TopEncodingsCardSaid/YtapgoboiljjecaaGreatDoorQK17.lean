import Derived.Test.YtapgoboiljjecaaGreatDoorQK8
set_option linter.unusedSimpArgs false
set_option linter.unusedVariables false
namespace Go.Proofs.YtapgoboiljjecaaGreatDoor
open Go Go.Am
end Go.Proofs.YtapgoboiljjecaaGreatDoor

namespace Go.Proofs.YtapgoboiljjecaaGreatDoor
open Go Go.Am
def bitP (b:Bool) (x:Int):Int:=if b = true then x else 0
theorem f113 (b:Bool) (x:Int):CFun Tryz.prog 74 [.bool b,.int .u64 x] [] (.int .u64 (bitP b x)) []:=by
 refine CFun.intro (tr:=[]) (fz:=[]) (n:=7) (rs:=[.tmp 4]) Tryz.func74 rfl (by kernel_rfl) rfl rfl mixed (by kernel_rfl) (by simp) (by simp) ?_
 cases b <;> simp [bitP]
def wsum:Bool → List Int → Int
 | _,[]=>0
 | true,x :: xs=>x * 256 + wsum false xs
 | false,x :: xs=>x + wsum true xs
def inet (b:List Int):Int:=if wsum true b = 0 then 65535 else 65534 - (wsum true b - 1) % 65535
end Go.Proofs.YtapgoboiljjecaaGreatDoor

namespace Go.Proofs.YtapgoboiljjecaaGreatDoor
open Go Go.Am
end Go.Proofs.YtapgoboiljjecaaGreatDoor

namespace Go.Proofs.YtapgoboiljjecaaGreatDoor
open Go Go.Am
theorem wu {x:Int} (h:0 ≤ x ∧ x < 18446744073709551616):IntKind.u64.wrap x = x:=by rw [wrap_u64]; omega
set_option maxHeartbeats 2000000 in
set_option maxRecDepth 10000 in
theorem f71 (b:List Int) (n:Nat) (hn:b.length = n) (hlen:n < 140737488355328) (hb:isB b):CFun Tryz.prog 22 [encBs b] [] (.int .i64 (inet b)) []:=by
 refine CFun.intro (tr:=[]) (fz:=[]) (n:=37) (rs:=[.tmp 2]) Tryz.func22 rfl (by kernel_rfl) rfl rfl mixed (by kernel_rfl) (by simp) (by simp) ?_
 have h1:∀ (i:Nat) H,i < 281474976710656 → CFun Tryz.prog 31 [encBs b,.int .i64 i,.int .i64 2] H (.tup [.int .u64 (if i + 2 ≤ n then numAt b i 2 else 0),.bool (decide (i + 2 ≤ n))]) H:=fun i H hi=>by
   have h:=(c93 b hb (by omega) i 2 hi (by omega)).up' H rfl rfl
   rw [hn] at h
   exact h
 simp
 refine LoopK.intro (tr:=[]) mixed (by kernel_rfl) (fun i:Nat=>[(0,encBs b),(3,.int .u64 (wsum true b - wsum true (b.drop (2 * i)))),(4,.int .i64 (2 * i:Nat))]) (fun _=>[]) (fun i=>2 * i ≤ n + 1 ∧ 0 ≤ wsum true b - wsum true (b.drop (2 * i)) ∧ wsum true b - wsum true (b.drop (2 * i)) ≤ 65535 * i) (fun i=>n + 1 - 2 * i) 0 ?_ ?_ ?_
 · simp
 · simp
 · rintro i ⟨g1,g2,g3⟩
   by_cases hi:2 * i < n
   · obtain ⟨x,hx,hd⟩:=get_drop (l:=b) (i:=2 * i) (by omega)
     have hx0:=hb x (List.mem_of_getElem? hx)
     have w1:IntKind.i64.wrap (2 * (i:Int) + 2) = 2 * i + 2:=wrap_in (by omega)
     have hi':2 * (i:Int) < n:=by omega
     have h2:=fun H=>h1 (2 * i) H (by omega)
     rw [hd] at g2 g3
     by_cases he:2 * i + 2 ≤ n
     · obtain ⟨y,hy,hd2⟩:=get_drop (l:=b) (i:=2 * i + 1) (by omega)
       have hy0:=hb y (List.mem_of_getElem? hy)
       have na:numAt b (2 * i) 2 = x * 256 + y:=by simp [numAt,List.getD,hx,hy]
       simp [hn,hi,hi',hx,w1]
       refine ⟨_,_,.inl (by simpa [he,na] using h2 _),by simp,?_⟩
       simp
       have eb:wsum true (x :: b.drop (2 * i + 1)) = x * 256 + (y + wsum true (b.drop (2 * (i + 1)))):=by rw [hd2]; simp [wsum]; rfl
       rw [eb] at g2 g3
       refine ⟨i + 1,⟨by omega,by omega,by omega⟩,by omega,?_,by rw [w1]; omega⟩
       rw [hd,eb]
       rw [show wsum true b - (x * 256 + (y + wsum true (b.drop (2 * (i + 1))))) + (x * 256 + y) = wsum true b - wsum true (b.drop (2 * (i + 1))) by omega]
       exact wu (by omega)
     · have hd2:b.drop (2 * i + 1) = []:=List.drop_of_length_le (by omega)
       have hd3:b.drop (2 * (i + 1)) = []:=List.drop_of_length_le (by omega)
       have w3:IntKind.u64.wrap x = x:=wu (by omega)
       have w4:x.toNat <<< 8 = (x * 256).toNat:=by rw [Nat.shiftLeft_eq]; omega
       have w5:IntKind.u64.wrap (x * 256) = x * 256:=wu (by omega)
       simp [hn,hi,hi',hx,w1]
       refine ⟨_,_,.inl (by simpa [he] using h2 _),by simp,?_⟩
       have t1:(2 * (i:Int)).toNat = 2 * i:=by omega
       have t2:(0:Int) ≤ 2 * (i:Int):=by omega
       simp [hn,hi,hi',hx,gE hx,w3,t1,t2,w4]
       have eb:wsum true (x :: b.drop (2 * i + 1)) = x * 256:=by rw [hd2]; simp [wsum]
       have ez:wsum true (b.drop (2 * (i + 1))) = 0:=by rw [hd3]; rfl
       rw [eb] at g2 g3
       refine ⟨i + 1,⟨by omega,by omega,by omega⟩,by omega,?_,by rw [w1]; omega⟩
       rw [hd,eb,ez,show x * 2 ^ min 8 IntKind.u64.bits = x * 256 from rfl,w5]
       rw [show wsum true b - x * 256 + x * 256 = wsum true b - 0 by omega]
       exact wu (by omega)
   · have e:b.drop (2 * i) = []:=List.drop_of_length_le (by omega)
     rw [e] at g2 g3 ⊢
     have hz:wsum true b - wsum true [] = wsum true b:=by simp [wsum]
     rw [hz] at g2 g3 ⊢
     unfold inet
     generalize wsum true b = u at *
     have hi':¬ 2 * (i:Int) < n:=by omega
     by_cases h0:u = 0
     · simp [hn,hi',h0]
     · have w1:IntKind.u64.wrap (u - 1) = u - 1:=wu (by omega)
       have e1:(u - 1).tmod 65535 = (u - 1) % 65535:=Int.tmod_eq_emod_of_nonneg (by omega)
       have w2:IntKind.i64.wrap (65534 - (u - 1) % 65535) = 65534 - (u - 1) % 65535:=wrap_in (by omega)
       have w4:IntKind.i64.wrap ((u - 1) % 65535) = (u - 1) % 65535:=wrap_in (by omega)
       have w5:IntKind.u64.wrap ((u - 1) % 65535) = (u - 1) % 65535:=wu (by omega)
       simp [hn,hi',h0,w1,e1,w2,w4,w5]
end Go.Proofs.YtapgoboiljjecaaGreatDoor

namespace Go.Proofs.YtapgoboiljjecaaGreatDoor
open Go Go.Am
end Go.Proofs.YtapgoboiljjecaaGreatDoor

namespace Go.Proofs.YtapgoboiljjecaaGreatDoor
open Go Go.Am
end Go.Proofs.YtapgoboiljjecaaGreatDoor

namespace Go.Proofs.YtapgoboiljjecaaGreatDoor
open Go Go.Am
end Go.Proofs.YtapgoboiljjecaaGreatDoor

namespace Go.Proofs.YtapgoboiljjecaaGreatDoor
open Go Go.Am
end Go.Proofs.YtapgoboiljjecaaGreatDoor

namespace Go.Proofs.YtapgoboiljjecaaGreatDoor
open Go Go.Am
end Go.Proofs.YtapgoboiljjecaaGreatDoor
