import Derived.Test.YtfngaildaoahpaaXK13
import Derived.Test.YtfngaildaoahpaaXDS3
set_option linter.unusedSimpArgs false
set_option linter.unusedVariables false
namespace Go.Proofs.Ytfngaildaoahpaa
open Go Go.Am
def sameL (a b : Lsa) : Bool := decide (a.H = b.H) && sameB a b
def sameP (a b : Pkt) : Bool :=
 decide (a.Kind = b.Kind) && (decide (a.Router = b.Router) && (decide (a.Area = b.Area) && (decide (a.Addr = b.Addr) && (decide (a.E = b.E) && (decide (a.Seq = b.Seq) && (decide (a.Init = b.Init) && (decide (a.More = b.More) && (decide (a.Master = b.Master) &&
   (decide (a.Heads = b.Heads) && (decide (a.Keys = b.Keys) && eqW sameL a.Lsas b.Lsas))))))))))
structure okS (p : Pkt) : Prop where
  seen : p.E.Seen.length < 140737488355328
  keys : p.Keys.length < 8796093022208
  lsas : p.Lsas.length < 1099511627776
  heads : p.Heads.length < 8796093022208
  oka : ∀ x ∈ p.Lsas, okA x
end Go.Proofs.Ytfngaildaoahpaa

namespace Go.Proofs.Ytfngaildaoahpaa
open Go Go.Am
set_option maxHeartbeats 8000000 in
set_option maxRecDepth 10000 in
theorem f23 (a b : Pkt) (ok : okS a) : CFun Try.prog 13 [encPk a, encPk b] [] (.bool (sameP a b)) [] := by
 refine CFun.intro (tr := []) (fz := []) (n := 130) (rs := [.tmp 4]) Try.func13 rfl (by kernel_rfl) rfl rfl mixed (by kernel_rfl) (by simp) (by simp) ?_
 have h1 := fun H => (f79 a.E b.E ok.seen).up' H rfl rfl
 have h2 := fun H => (f42 a.Heads b.Heads _ _ rfl rfl ok.heads).up' H rfl rfl
 have h4 : ∀ x ∈ a.Lsas, ∀ y H, CFun Try.prog 40 [encA x, encA y] H (.bool (sameL x y)) H := fun x hx y H => (c20 x y (ok.oka x hx).2.2.2.2.2.2.1 (ok.oka x hx).2.2.2.2.2.2.2).up' H rfl rfl
 have ok3 := ok.keys
 have ok4 := ok.lsas
 unfold sameP
 generalize decide (a.E = b.E) = vE at h1 ⊢
 generalize decide (a.Heads = b.Heads) = vH at h2 ⊢
 by_cases b1 : a.Kind = b.Kind
 case neg => simp [b1]
 by_cases b2 : a.Router = b.Router
 case neg => simp [b1, b2]
 by_cases b3 : a.Area = b.Area
 case neg => simp [b1, b2, b3]
 by_cases b4 : a.Addr = b.Addr
 case neg => simp [b1, b2, b3, b4]
 simp [b1, b2, b3, b4]
 refine ⟨_, _, .inl (by simpa [b1, b2, b3, b4] using h1 _), by simp, ?_⟩
 cases vE
 case false => simp
 by_cases b5 : a.Seq = b.Seq
 case neg => simp [b1, b2, b3, b4, b5]
 by_cases b6 : a.Init = b.Init
 case neg => simp [b1, b2, b3, b4, b5, b6]
 by_cases b7 : a.More = b.More
 case neg => simp [b1, b2, b3, b4, b5, b6, b7]
 by_cases b8 : a.Master = b.Master
 case neg => simp [b1, b2, b3, b4, b5, b6, b7, b8]
 simp [b1, b2, b3, b4, b5, b6, b7, b8]
 refine ⟨_, _, .inl (by simpa [b1, b2, b3, b4, b5, b6, b7, b8] using h2 _), by simp, ?_⟩
 cases vH
 case false => simp
 generalize hk : a.Keys.length = nk at ok3
 generalize hk' : b.Keys.length = mk
 generalize hl : a.Lsas.length = nl at ok4
 generalize hl' : b.Lsas.length = ml
 by_cases e1 : nk = mk
 case neg =>
   have e1' : ¬ (nk : Int) = mk := by omega
   have : a.Keys ≠ b.Keys := fun h => e1 (by rw [← hk, ← hk', h])
   simp [hk, hk', e1', this]
 by_cases e2 : nl = ml
 case neg =>
   have e2' : ¬ (nl : Int) = ml := by omega
   have := eqW_len (r := sameL) (show a.Lsas.length ≠ b.Lsas.length by omega)
   simp [hk, hk', hl, hl', e1, e2', this]
 subst e1
 subst e2
 simp [hk, hk', hl, hl']
 refine LoopK.intro (tr := []) mixed (by kernel_rfl) (fun i : Nat => [(2, .ptr 0 0), (3, .ptr 1 0), (5, .int .i64 i)]) (fun _ => [cellsPk a, cellsPk b]) (fun i => i ≤ nk ∧ (a.Keys = b.Keys ↔ a.Keys.drop i = b.Keys.drop i)) (fun i => nk - i) 0 ?_ ?_ ?_
 · simp
 · simp [b1, b2, b3, b4, b5, b6, b7, b8]
 · rintro i ⟨g1, g2⟩
   by_cases hi : i < nk
   · obtain ⟨r, hx, hd⟩ := get_drop (l := a.Keys) (i := i) (by omega)
     obtain ⟨t, hy, he⟩ := get_drop (l := b.Keys) (i := i) (by omega)
     rw [hd, he, List.cons.injEq] at g2
     have w1 : IntKind.i64.wrap ((i : Int) + 1) = i + 1 := wrap_in (by omega)
     have hext : r = t ↔ r.Ty = t.Ty ∧ r.ID = t.ID ∧ r.Len = t.Len ∧ r.Router = t.Router := by
       cases r; cases t; simp
     clear hd he
     by_cases hrt : r = t
     · subst hrt
       simp [hk, hk', hi, hx, hy, gE hx, gE hy, w1]
       exact ⟨i + 1, ⟨by omega, by simpa using g2⟩, by omega, by simp⟩
     · have hne : ¬ (a.Keys = b.Keys) := by rw [g2]; simp [hrt]
       rw [hext] at hrt
       by_cases c1 : r.Ty = t.Ty <;> by_cases c2 : r.ID = t.ID <;> by_cases c3 : r.Len = t.Len <;> by_cases c4 : r.Router = t.Router <;> simp [c1, c2, c3, c4] at hrt <;>
         simp [hk, hk', hi, hx, hy, gE hx, gE hy, c1, c2, c3, c4, hne]
   · have e : a.Keys.drop i = [] := List.drop_of_length_le (by omega)
     have e' : b.Keys.drop i = [] := List.drop_of_length_le (by omega)
     rw [e, e'] at g2
     have hke : a.Keys = b.Keys := by simpa using g2
     have hi' : ¬ (i : Int) < nk := by omega
     have hke' : (a.Keys = b.Keys) = True := eq_true hke
     have hi0 : i = nk := by omega
     subst hi0
     simp [hk, hke']
     refine LoopK.intro (tr := []) mixed (by kernel_rfl) (fun i : Nat => [(2, .ptr 0 0), (3, .ptr 1 0), (6, .int .i64 i)]) (fun _ => [cellsPk a, cellsPk b]) (fun i => i ≤ nl ∧ eqW sameL a.Lsas b.Lsas = eqW sameL (a.Lsas.drop i) (b.Lsas.drop i)) (fun i => nl - i) 0 ?_ ?_ ?_
     · simp
     · simp
     · rintro j ⟨g3, g4⟩
       by_cases hj : j < nl
       · obtain ⟨r, hx, hd⟩ := get_drop (l := a.Lsas) (i := j) (by omega)
         obtain ⟨t, hy, he⟩ := get_drop (l := b.Lsas) (i := j) (by omega)
         rw [hd, he, eqW] at g4
         have w1 : IntKind.i64.wrap ((j : Int) + 1) = j + 1 := wrap_in (by omega)
         have h5 := h4 r (List.mem_of_getElem? hx) t
         clear hd he
         simp [hl, hl', hj, hx, hy, gE hx, gE hy]
         refine ⟨_, _, .inl (by simpa using h5 _), by simp, ?_⟩
         cases hs : sameL r t
         · simp [hs] at g4
           simp [g4]
         · simp [hs] at g4
           simp [w1]
           exact ⟨j + 1, ⟨by omega, g4⟩, by omega, by simp⟩
       · have e : a.Lsas.drop j = [] := List.drop_of_length_le (by omega)
         have e' : b.Lsas.drop j = [] := List.drop_of_length_le (by omega)
         rw [e, e', eqW] at g4
         have hj' : ¬ (j : Int) < nl := by omega
         simp [hl, hj', hj, g4]
end Go.Proofs.Ytfngaildaoahpaa

/- The exchange of databases: what its functions answer. -/
namespace Go.Proofs.Ytfngaildaoahpaa
open Go Go.Am
structure Nbr where
  Router : Int
  Addr : Int
  Pri : Int
  DR : Int
  BDR : Int
  State : Int
  Til : Int
  Master : Bool
  Seq : Int
  Lst : List Hdr
  Sent : List Hdr
  More : Bool
  Req : List Hdr
  Una : List Hdr
  Rsd : Int
  deriving DecidableEq
@[simp] def cellsNx (n : Nbr) (x : AVal) : List AVal := [.int .u32 n.Router, .int .u32 n.Addr, .int .i64 n.Pri, .int .u32 n.DR, .int .u32 n.BDR, .int .i64 n.State, .int .i64 n.Til, .bool n.Master, .int .i64 n.Seq,
  .sl 7 (n.Lst.map encH) .sh, .sl 7 (n.Sent.map encH) .sh, .bool n.More, x, .sl 7 (n.Una.map encH) .sh, .int .i64 n.Rsd]
@[simp] def cellsN (n : Nbr) : List AVal := cellsNx n (.sl 7 (n.Req.map encH) .sh)
@[simp] def encN (n : Nbr) : AVal := .agg (cellsN n)
end Go.Proofs.Ytfngaildaoahpaa

/- The start of an exchange. -/
namespace Go.Proofs.Ytfngaildaoahpaa
open Go Go.Am
end Go.Proofs.Ytfngaildaoahpaa
