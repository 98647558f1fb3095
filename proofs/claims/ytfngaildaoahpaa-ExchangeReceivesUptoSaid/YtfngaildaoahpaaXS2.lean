import Derived.Test.YtfngaildaoahpaaXK5
import Derived.Test.YtfngaildaoahpaaXDS6
import Derived.Test.YtfngaildaoahpaaXE13
set_option linter.unusedSimpArgs false
set_option linter.unusedVariables false
namespace Go.Proofs.Ytfngaildaoahpaa
open Go Go.Am
set_option maxHeartbeats 2000000 in
set_option maxRecDepth 10000 in
theorem f124 (a b : List Int) (n m : Nat) (hn : a.length = n) (hm : b.length = m) (hlen : n < 140737488355328) : CFun Try.prog 71 [.sl 1 (a.map enc32) .sh, .sl 1 (b.map enc32) .sh] [] (.bool (decide (a = b))) [] := by
 refine CFun.intro (tr := []) (fz := []) (n := 26) (rs := [.tmp 4]) Try.func71 rfl (by kernel_rfl) rfl rfl mixed (by kernel_rfl) (by simp) (by simp) ?_
 by_cases hnm : n = m
 case neg =>
   have : a ≠ b := by rintro rfl; exact hnm (hn.symm.trans hm)
   have hnm' : ¬ (n : Int) = m := by omega
   simp [hn, hm, hnm', this]
 subst hnm
 simp [hn, hm]
 refine LoopK.intro (tr := []) mixed (by kernel_rfl) (fun i : Nat => [(0, .sl 1 (a.map enc32) .sh), (1, .sl 1 (b.map enc32) .sh), (5, .int .i64 i)]) (fun _ => []) (fun i => i ≤ n ∧ (a = b ↔ a.drop i = b.drop i)) (fun i => n - i) 0 ?_ ?_ ?_
 · simp
 · simp
 · rintro i ⟨h1, h2⟩
   by_cases hi : i < n
   · obtain ⟨r, hx, hd⟩ := get_drop (l := a) (i := i) (by omega)
     obtain ⟨t, hy, he⟩ := get_drop (l := b) (i := i) (by omega)
     rw [hd, he, List.cons.injEq] at h2
     have w1 : IntKind.i64.wrap ((i : Int) + 1) = i + 1 := wrap_in (by omega)
     clear hd he
     by_cases hrt : r = t
     · subst hrt
       simp [hn, hm, hi, hx, hy, gE hx, gE hy, w1]
       exact ⟨i + 1, ⟨by omega, by simpa using h2⟩, by omega, by simp⟩
     · have hne : ¬ (a = b) := by rw [h2]; simp [hrt]
       simp [hn, hm, hi, hx, hy, gE hx, gE hy, hrt, hne]
   · have e : a.drop i = [] := List.drop_of_length_le (by omega)
     have e' : b.drop i = [] := List.drop_of_length_le (by omega)
     rw [e, e'] at h2
     have : i = n := by omega
     subst this
     simp [hn, h2]
theorem hel_eq (a b : Hel) : decide (a = b) = (decide (a.Len = b.Len) && decide (a.Hello = b.Hello) && decide (a.Dead = b.Dead) && decide (a.Pri = b.Pri) && decide (a.DR = b.DR) && decide (a.BDR = b.BDR) && decide (a.Seen = b.Seen)) := by
 rw [Bool.eq_iff_iff]
 cases a; cases b
 simp [and_assoc]
set_option maxHeartbeats 2000000 in
set_option maxRecDepth 10000 in
theorem f79 (a b : Hel) (hlen : a.Seen.length < 140737488355328) : CFun Try.prog 39 [encE a, encE b] [] (.bool (decide (a = b))) [] := by
 refine CFun.intro (tr := []) (fz := []) (n := 52) (rs := [.tmp 4]) Try.func39 rfl (by kernel_rfl) rfl rfl mixed (by kernel_rfl) (by simp) (by simp) ?_
 have h1 := fun H => (f124 a.Seen b.Seen _ _ rfl rfl hlen).up' H rfl rfl
 rw [hel_eq]
 generalize decide (a.Seen = b.Seen) = w at h1 ⊢
 by_cases e1 : a.Len = b.Len
 case neg => simp [e1]
 by_cases e2 : a.Hello = b.Hello
 case neg => simp [e1, e2]
 by_cases e3 : a.Dead = b.Dead
 case neg => simp [e1, e2, e3]
 by_cases e4 : a.Pri = b.Pri
 case neg => simp [e1, e2, e3, e4]
 by_cases e5 : a.DR = b.DR
 case neg => simp [e1, e2, e3, e4, e5]
 by_cases e6 : a.BDR = b.BDR
 case neg => simp [e1, e2, e3, e4, e5, e6]
 simp [e1, e2, e3, e4, e5, e6]
 refine ⟨_, _, .inl (by simpa using h1 _), by simp, ?_⟩
 simp
end Go.Proofs.Ytfngaildaoahpaa

namespace Go.Proofs.Ytfngaildaoahpaa
open Go Go.Am
end Go.Proofs.Ytfngaildaoahpaa

namespace Go.Proofs.Ytfngaildaoahpaa
open Go Go.Am
def sameL (a b : Lsa) : Bool := decide (a.H = b.H) && sameB a b
def sameP (a b : Pkt) : Bool :=
 decide (a.Kind = b.Kind) && (decide (a.Router = b.Router) && (decide (a.Area = b.Area) && (decide (a.Addr = b.Addr) && (decide (a.E = b.E) && (decide (a.Seq = b.Seq) && (decide (a.Init = b.Init) && (decide (a.More = b.More) && (decide (a.Master = b.Master) &&
   (decide (a.Heads = b.Heads) && (decide (a.Keys = b.Keys) && eqW sameL a.Lsas b.Lsas))))))))))
structure okS (p : Pkt) : Prop where
  seen : p.E.Seen.length < 140737488355328
  keys : p.Keys.length < 8796093022208
  lsas : p.Lsas.length < 1099511627776
  heads : p.Heads.length < 8796093022208
  oka : ∀ x ∈ p.Lsas, okA x
end Go.Proofs.Ytfngaildaoahpaa

namespace Go.Proofs.Ytfngaildaoahpaa
open Go Go.Am
set_option maxHeartbeats 8000000 in
set_option maxRecDepth 10000 in
theorem f23 (a b : Pkt) (ok : okS a) : CFun Try.prog 13 [encPk a, encPk b] [] (.bool (sameP a b)) [] := by
 refine CFun.intro (tr := []) (fz := []) (n := 130) (rs := [.tmp 4]) Try.func13 rfl (by kernel_rfl) rfl rfl mixed (by kernel_rfl) (by simp) (by simp) ?_
 have h1 := fun H => (f79 a.E b.E ok.seen).up' H rfl rfl
 have h2 := fun H => (f42 a.Heads b.Heads _ _ rfl rfl ok.heads).up' H rfl rfl
 have h4 : ∀ x ∈ a.Lsas, ∀ y H, CFun Try.prog 40 [encA x, encA y] H (.bool (sameL x y)) H := fun x hx y H => (c20 x y (ok.oka x hx).2.2.2.2.2.2.1 (ok.oka x hx).2.2.2.2.2.2.2).up' H rfl rfl
 have ok3 := ok.keys
 have ok4 := ok.lsas
 unfold sameP
 generalize decide (a.E = b.E) = vE at h1 ⊢
 generalize decide (a.Heads = b.Heads) = vH at h2 ⊢
 by_cases b1 : a.Kind = b.Kind
 case neg => simp [b1]
 by_cases b2 : a.Router = b.Router
 case neg => simp [b1, b2]
 by_cases b3 : a.Area = b.Area
 case neg => simp [b1, b2, b3]
 by_cases b4 : a.Addr = b.Addr
 case neg => simp [b1, b2, b3, b4]
 simp [b1, b2, b3, b4]
 refine ⟨_, _, .inl (by simpa [b1, b2, b3, b4] using h1 _), by simp, ?_⟩
 cases vE
 case false => simp
 by_cases b5 : a.Seq = b.Seq
 case neg => simp [b1, b2, b3, b4, b5]
 by_cases b6 : a.Init = b.Init
 case neg => simp [b1, b2, b3, b4, b5, b6]
 by_cases b7 : a.More = b.More
 case neg => simp [b1, b2, b3, b4, b5, b6, b7]
 by_cases b8 : a.Master = b.Master
 case neg => simp [b1, b2, b3, b4, b5, b6, b7, b8]
 simp [b1, b2, b3, b4, b5, b6, b7, b8]
 refine ⟨_, _, .inl (by simpa [b1, b2, b3, b4, b5, b6, b7, b8] using h2 _), by simp, ?_⟩
 cases vH
 case false => simp
 generalize hk : a.Keys.length = nk at ok3
 generalize hk' : b.Keys.length = mk
 generalize hl : a.Lsas.length = nl at ok4
 generalize hl' : b.Lsas.length = ml
 by_cases e1 : nk = mk
 case neg =>
   have e1' : ¬ (nk : Int) = mk := by omega
   have : a.Keys ≠ b.Keys := fun h => e1 (by rw [← hk, ← hk', h])
   simp [hk, hk', e1', this]
 by_cases e2 : nl = ml
 case neg =>
   have e2' : ¬ (nl : Int) = ml := by omega
   have := eqW_len (r := sameL) (show a.Lsas.length ≠ b.Lsas.length by omega)
   simp [hk, hk', hl, hl', e1, e2', this]
 subst e1
 subst e2
 simp [hk, hk', hl, hl']
 refine LoopK.intro (tr := []) mixed (by kernel_rfl) (fun i : Nat => [(2, .ptr 0 0), (3, .ptr 1 0), (5, .int .i64 i)]) (fun _ => [cellsPk a, cellsPk b]) (fun i => i ≤ nk ∧ (a.Keys = b.Keys ↔ a.Keys.drop i = b.Keys.drop i)) (fun i => nk - i) 0 ?_ ?_ ?_
 · simp
 · simp [b1, b2, b3, b4, b5, b6, b7, b8]
 · rintro i ⟨g1, g2⟩
   by_cases hi : i < nk
   · obtain ⟨r, hx, hd⟩ := get_drop (l := a.Keys) (i := i) (by omega)
     obtain ⟨t, hy, he⟩ := get_drop (l := b.Keys) (i := i) (by omega)
     rw [hd, he, List.cons.injEq] at g2
     have w1 : IntKind.i64.wrap ((i : Int) + 1) = i + 1 := wrap_in (by omega)
     have hext : r = t ↔ r.Ty = t.Ty ∧ r.ID = t.ID ∧ r.Len = t.Len ∧ r.Router = t.Router := by
       cases r; cases t; simp
     clear hd he
     by_cases hrt : r = t
     · subst hrt
       simp [hk, hk', hi, hx, hy, gE hx, gE hy, w1]
       exact ⟨i + 1, ⟨by omega, by simpa using g2⟩, by omega, by simp⟩
     · have hne : ¬ (a.Keys = b.Keys) := by rw [g2]; simp [hrt]
       rw [hext] at hrt
       by_cases c1 : r.Ty = t.Ty <;> by_cases c2 : r.ID = t.ID <;> by_cases c3 : r.Len = t.Len <;> by_cases c4 : r.Router = t.Router <;> simp [c1, c2, c3, c4] at hrt <;>
         simp [hk, hk', hi, hx, hy, gE hx, gE hy, c1, c2, c3, c4, hne]
   · have e : a.Keys.drop i = [] := List.drop_of_length_le (by omega)
     have e' : b.Keys.drop i = [] := List.drop_of_length_le (by omega)
     rw [e, e'] at g2
     have hke : a.Keys = b.Keys := by simpa using g2
     have hi' : ¬ (i : Int) < nk := by omega
     have hke' : (a.Keys = b.Keys) = True := eq_true hke
     have hi0 : i = nk := by omega
     subst hi0
     simp [hk, hke']
     refine LoopK.intro (tr := []) mixed (by kernel_rfl) (fun i : Nat => [(2, .ptr 0 0), (3, .ptr 1 0), (6, .int .i64 i)]) (fun _ => [cellsPk a, cellsPk b]) (fun i => i ≤ nl ∧ eqW sameL a.Lsas b.Lsas = eqW sameL (a.Lsas.drop i) (b.Lsas.drop i)) (fun i => nl - i) 0 ?_ ?_ ?_
     · simp
     · simp
     · rintro j ⟨g3, g4⟩
       by_cases hj : j < nl
       · obtain ⟨r, hx, hd⟩ := get_drop (l := a.Lsas) (i := j) (by omega)
         obtain ⟨t, hy, he⟩ := get_drop (l := b.Lsas) (i := j) (by omega)
         rw [hd, he, eqW] at g4
         have w1 : IntKind.i64.wrap ((j : Int) + 1) = j + 1 := wrap_in (by omega)
         have h5 := h4 r (List.mem_of_getElem? hx) t
         clear hd he
         simp [hl, hl', hj, hx, hy, gE hx, gE hy]
         refine ⟨_, _, .inl (by simpa using h5 _), by simp, ?_⟩
         cases hs : sameL r t
         · simp [hs] at g4
           simp [g4]
         · simp [hs] at g4
           simp [w1]
           exact ⟨j + 1, ⟨by omega, g4⟩, by omega, by simp⟩
       · have e : a.Lsas.drop j = [] := List.drop_of_length_le (by omega)
         have e' : b.Lsas.drop j = [] := List.drop_of_length_le (by omega)
         rw [e, e', eqW] at g4
         have hj' : ¬ (j : Int) < nl := by omega
         simp [hl, hj', hj, g4]
end Go.Proofs.Ytfngaildaoahpaa

/- The exchange of databases: what its functions answer. -/
namespace Go.Proofs.Ytfngaildaoahpaa
open Go Go.Am
structure Nbr where
  Router : Int
  Addr : Int
  Pri : Int
  DR : Int
  BDR : Int
  State : Int
  Til : Int
  Master : Bool
  Seq : Int
  Lst : List Hdr
  Sent : List Hdr
  More : Bool
  Req : List Hdr
  Una : List Hdr
  Rsd : Int
  deriving DecidableEq
@[simp] def cellsNx (n : Nbr) (x : AVal) : List AVal := [.int .u32 n.Router, .int .u32 n.Addr, .int .i64 n.Pri, .int .u32 n.DR, .int .u32 n.BDR, .int .i64 n.State, .int .i64 n.Til, .bool n.Master, .int .i64 n.Seq,
  .sl 7 (n.Lst.map encH) .sh, .sl 7 (n.Sent.map encH) .sh, .bool n.More, x, .sl 7 (n.Una.map encH) .sh, .int .i64 n.Rsd]
@[simp] def cellsN (n : Nbr) : List AVal := cellsNx n (.sl 7 (n.Req.map encH) .sh)
@[simp] def encN (n : Nbr) : AVal := .agg (cellsN n)
def nbr0 : Nbr := ⟨0, 0, 0, 0, 0, 0, 0, false, 0, [], [], false, [], [], 0⟩
def plainN (n : Nbr) : Nbr := { nbr0 with Router := n.Router, Addr := n.Addr, Pri := n.Pri, DR := n.DR, BDR := n.BDR, State := n.State, Til := n.Til }
def waitsN (n : Nbr) : Bool := decide (n.State = 3) || (decide (n.State = 4) && n.Master) || decide (n.State = 5)
def settleN (n : Nbr) (now : Int) : Nbr := if waitsN n = true then { n with Rsd := now + 5 } else if n.Una = [] then { n with Rsd := 0 } else n
def pendN (n : Nbr) (self : Int) : Pkt :=
 if n.State = 3 then { pkt0 with Kind := 2, Router := self, Seq := n.Seq, Init := true, More := true, Master := true }
 else { pkt0 with Kind := 2, Router := self, Seq := n.Seq, Heads := n.Sent, More := decide (0 < n.Lst.length), Master := n.Master }
def reqN (n : Nbr) (self : Int) : Pkt := { pkt0 with Kind := 3, Router := self, Keys := (n.Req.take 16).map keyH }
def startN (n : Nbr) (now : Int) : Nbr := { plainN n with State := 3, Master := true, Seq := (if 0 < now then now else 0) % 1073741824, Rsd := now + 5 }
def batchN (n : Nbr) : Nbr := { n with Sent := n.Lst.take 16, Lst := n.Lst.drop 16 }
end Go.Proofs.Ytfngaildaoahpaa

/- The start of an exchange. -/
namespace Go.Proofs.Ytfngaildaoahpaa
open Go Go.Am
def firstN (n : Nbr) (self : Int) : Pkt := { pkt0 with Kind := 2, Router := self, Seq := n.Seq, Init := true, More := true, Master := true }
set_option maxHeartbeats 2000000 in
set_option maxRecDepth 10000 in
theorem x35s (r a p d bd til seq rsd self : Int) : CFun Try.prog 35 [.agg [.int .u32 r, .int .u32 a, .int .i64 p, .int .u32 d, .int .u32 bd, .int .i64 3, .int .i64 til, .bool true, .int .i64 seq, .sl 0 [] .full, .sl 0 [] .full, .bool false, .sl 0 [] .full, .sl 0 [] .full, .int .i64 rsd], .int .u32 self] []
   (encPk { pkt0 with Kind := 2, Router := self, Seq := seq, Init := true, More := true, Master := true }) [] := by
 refine CFun.intro (tr := [900001000017, 900002000017, 3500017]) (fz := []) (n := 30) (rs := [.cell 4 34]) Try.func35 rfl (by kernel_rfl) rfl rfl mixed (by kernel_rfl) (by simp) (by simp) ?_
 simp [pkt0, hel0]
set_option maxHeartbeats 2000000 in
set_option maxRecDepth 10000 in
theorem x37s (n : Nbr) (h3 : n.State = 3) (self : Int) : CFun Try.prog 37 [encN n, .int .u32 self] [] (encPk (firstN n self)) [] := by
 refine CFun.intro (tr := []) (fz := []) (n := 30) (rs := [.cell 4 34]) Try.func37 rfl (by kernel_rfl) rfl rfl mixed (by kernel_rfl) (by simp) (by simp) ?_
 simp [h3, firstN, pkt0, hel0]
theorem startN_seq (now : Int) : (if now < 0 then 0 else now).tmod 1073741824 = (if 0 < now then now else 0) % 1073741824 := by
 rw [Int.tmod_eq_emod_of_nonneg (by split <;> omega)]
 congr 1
 split <;> split <;> omega
theorem startN_seq1 (now : Int) (h : 0 < now) : now.tmod 1073741824 = (if 0 < now then now else 0) % 1073741824 := by
 rw [Int.tmod_eq_emod_of_nonneg (by omega), if_pos h]
set_option maxHeartbeats 4000000 in
set_option maxRecDepth 10000 in
theorem x10 (n : Nbr) (self now : Int) (hw : inI (now + 5)) : CFun Try.prog 10 [encN n, .int .u32 self, .int .i64 now] [] (.tup [encN (startN n now), encPk (firstN (startN n now) self)]) [] := by
 refine CFun.intro (tr := []) (fz := []) (n := 34) (rs := [.cell 6 26, .cell 7 34]) Try.func10 rfl (by kernel_rfl) rfl rfl mixed (by kernel_rfl) (by simp) (by simp) ?_
 have w1 : IntKind.i64.wrap (now + 5) = now + 5 := wrap_in hw
 have e2 := startN_seq now
 have h1 := fun r a p d bd til seq rsd H => (x35s r a p d bd til seq rsd self).up' H rfl rfl
 simp [w1, e2]
 refine ⟨_, _, .inl (by simpa using h1 _ _ _ _ _ _ _ _ _), by simp, ?_⟩
 simp [startN, plainN, nbr0, firstN, pkt0, hel0]
set_option maxHeartbeats 1000000 in
set_option maxRecDepth 10000 in
theorem x36 (n : Nbr) : CFun Try.prog 36 [encN n] [] (encN (plainN n)) [] := by
 refine CFun.intro (tr := []) (fz := []) (n := 18) (rs := [.cell 2 26]) Try.func36 rfl (by kernel_rfl) rfl rfl mixed (by kernel_rfl) (by simp) (by simp) ?_
 simp [plainN, nbr0]
set_option maxHeartbeats 4000000 in
set_option maxRecDepth 10000 in
theorem x11 (n : Nbr) (self now : Int) (hw : inI (now + 5)) : CFun Try.prog 11 [encN n, .int .u32 self, .int .i64 now] [] (.tup [encN (startN n now), encPk (firstN (startN n now) self)]) [] := by
 refine CFun.intro (tr := []) (fz := []) (n := 24) (rs := [.cell 6 26, .cell 7 34]) Try.func11 rfl (by kernel_rfl) rfl rfl mixed (by kernel_rfl) (by simp) (by simp) ?_
 have w1 : IntKind.i64.wrap (now + 5) = now + 5 := wrap_in hw
 have h1 := fun H => (x36 n).up' H rfl rfl
 have h2 := fun (m : Nbr) (h3 : m.State = 3) H => (x37s m h3 self).up' H rfl rfl
 have hs : (plainN n).Seq = 0 := rfl
 unfold startN
 generalize plainN n = m at *
 simp
 refine ⟨_, _, .inl (by simpa using h1 _), by simp, ?_⟩
 by_cases h0 : 0 < now
 · have e2 := startN_seq1 now h0
   simp [h0, w1, e2]
   refine ⟨_, _, .inl (by simpa using h2 { m with State := 3, Master := true, Seq := now % 1073741824, Rsd := now + 5 } rfl _), by simp, ?_⟩
   simp [firstN]
 · simp [h0, w1, hs]
   refine ⟨_, _, .inl (by simpa using h2 { m with State := 3, Master := true, Seq := 0, Rsd := now + 5 } rfl _), by simp, ?_⟩
   simp [firstN]
end Go.Proofs.Ytfngaildaoahpaa

namespace Go.Proofs.Ytfngaildaoahpaa
open Go Go.Am
set_option maxHeartbeats 8000000 in
set_option maxRecDepth 10000 in
theorem x12 (n : Nbr) (s1 : n.Lst.length < 8796093022208) (s2 : n.Sent.length < 8796093022208) (s3 : n.Req.length < 8796093022208) (s4 : n.Una.length < 8796093022208) : CFun Try.prog 12 [encN n, encN n] [] (.bool true) [] := by
 refine CFun.intro (tr := []) (fz := []) (n := 106) (rs := [.tmp 4]) Try.func12 rfl (by kernel_rfl) rfl rfl mixed (by kernel_rfl) (by simp) (by simp) ?_
 have h1 := fun H => (f42 n.Lst n.Lst _ _ rfl rfl s1).up' H rfl rfl
 have h2 := fun H => (f42 n.Sent n.Sent _ _ rfl rfl s2).up' H rfl rfl
 have h3 := fun H => (f42 n.Req n.Req _ _ rfl rfl s3).up' H rfl rfl
 have h4 := fun H => (f42 n.Una n.Una _ _ rfl rfl s4).up' H rfl rfl
 simp only [decide_true] at h1 h2 h3 h4
 simp
 refine ⟨_, _, .inl (h1 _), by simp, ?_⟩
 simp
 refine ⟨_, _, .inl (h2 _), by simp, ?_⟩
 simp
 refine ⟨_, _, .inl (h3 _), by simp, ?_⟩
 simp
 refine ⟨_, _, .inl (h4 _), by simp, ?_⟩
 simp
end Go.Proofs.Ytfngaildaoahpaa
