import Derived.Test.YtfngaildaoahpaaXK13
import Derived.Test.YtfngaildaoahpaaXDS5
import Derived.Test.YtfngaildaoahpaaXE17
import Derived.Test.YtfngaildaoahpaaXK1
set_option linter.unusedSimpArgs false
set_option linter.unusedVariables false
namespace Go.Proofs.Ytfngaildaoahpaa
open Go Go.Am

def sameL (a b : Lsa) : Bool := decide (a.H = b.H) && sameB a b
/-- What Same means. -/
def sameP (a b : Pkt) : Bool :=
  decide (a.Kind = b.Kind) && (decide (a.Router = b.Router) && (decide (a.Area = b.Area) && (decide (a.Addr = b.Addr) && (decide (a.E = b.E) && (decide (a.Seq = b.Seq) && (decide (a.Init = b.Init) && (decide (a.More = b.More) && (decide (a.Master = b.Master) &&
    (decide (a.Heads = b.Heads) && (decide (a.Keys = b.Keys) && eqW sameL a.Lsas b.Lsas))))))))))
structure okS (p : Pkt) : Prop where
  seen : p.E.Seen.length < 140737488355328
  keys : p.Keys.length < 8796093022208
  lsas : p.Lsas.length < 1099511627776
  heads : p.Heads.length < 8796093022208
  oka : ∀ x ∈ p.Lsas, okA x
-- lspacket.Same
end Go.Proofs.Ytfngaildaoahpaa

namespace Go.Proofs.Ytfngaildaoahpaa
open Go Go.Am

-- routingref24.Same
set_option maxHeartbeats 8000000 in
set_option maxRecDepth 10000 in
theorem f23 (a b : Pkt) (ok : okS a) : CFun Try.prog 13 [encPk a, encPk b] [] (.bool (sameP a b)) [] := by
  refine CFun.intro (tr := []) (fz := []) (n := 130) (rs := [.tmp 4]) Try.func13 rfl (by kernel_rfl) rfl rfl mixed (by kernel_rfl) (by simp) (by simp) ?_
  have h1 := fun H => (f79 a.E b.E ok.seen).up' H rfl rfl
  have h2 := fun H => (f42 a.Heads b.Heads _ _ rfl rfl ok.heads).up' H rfl rfl
  have h4 : ∀ x ∈ a.Lsas, ∀ y H, CFun Try.prog 40 [encA x, encA y] H (.bool (sameL x y)) H := fun x hx y H => (c20 x y (ok.oka x hx).2.2.2.2.2.2.1 (ok.oka x hx).2.2.2.2.2.2.2).up' H rfl rfl
  have ok3 := ok.keys
  have ok4 := ok.lsas
  unfold sameP
  generalize decide (a.E = b.E) = vE at h1 ⊢
  generalize decide (a.Heads = b.Heads) = vH at h2 ⊢
  by_cases b1 : a.Kind = b.Kind
  case neg => simp [b1]
  by_cases b2 : a.Router = b.Router
  case neg => simp [b1, b2]
  by_cases b3 : a.Area = b.Area
  case neg => simp [b1, b2, b3]
  by_cases b4 : a.Addr = b.Addr
  case neg => simp [b1, b2, b3, b4]
  simp [b1, b2, b3, b4]
  refine ⟨_, _, .inl (by simpa [b1, b2, b3, b4] using h1 _), by simp, ?_⟩
  cases vE
  case false => simp
  by_cases b5 : a.Seq = b.Seq
  case neg => simp [b1, b2, b3, b4, b5]
  by_cases b6 : a.Init = b.Init
  case neg => simp [b1, b2, b3, b4, b5, b6]
  by_cases b7 : a.More = b.More
  case neg => simp [b1, b2, b3, b4, b5, b6, b7]
  by_cases b8 : a.Master = b.Master
  case neg => simp [b1, b2, b3, b4, b5, b6, b7, b8]
  simp [b1, b2, b3, b4, b5, b6, b7, b8]
  refine ⟨_, _, .inl (by simpa [b1, b2, b3, b4, b5, b6, b7, b8] using h2 _), by simp, ?_⟩
  cases vH
  case false => simp
  generalize hk : a.Keys.length = nk at ok3
  generalize hk' : b.Keys.length = mk
  generalize hl : a.Lsas.length = nl at ok4
  generalize hl' : b.Lsas.length = ml
  by_cases e1 : nk = mk
  case neg =>
    have e1' : ¬ (nk : Int) = mk := by omega
    have : a.Keys ≠ b.Keys := fun h => e1 (by rw [← hk, ← hk', h])
    simp [hk, hk', e1', this]
  by_cases e2 : nl = ml
  case neg =>
    have e2' : ¬ (nl : Int) = ml := by omega
    have := eqW_len (r := sameL) (show a.Lsas.length ≠ b.Lsas.length by omega)
    simp [hk, hk', hl, hl', e1, e2', this]
  subst e1
  subst e2
  simp [hk, hk', hl, hl']
  refine LoopK.intro (tr := []) mixed (by kernel_rfl) (fun i : Nat => [(2, .ptr 0 0), (3, .ptr 1 0), (5, .int .i64 i)]) (fun _ => [cellsPk a, cellsPk b]) (fun i => i ≤ nk ∧ (a.Keys = b.Keys ↔ a.Keys.drop i = b.Keys.drop i)) (fun i => nk - i) 0 ?_ ?_ ?_
  · simp
  · simp [b1, b2, b3, b4, b5, b6, b7, b8]
  · rintro i ⟨g1, g2⟩
    by_cases hi : i < nk
    · obtain ⟨r, hx, hd⟩ := get_drop (l := a.Keys) (i := i) (by omega)
      obtain ⟨t, hy, he⟩ := get_drop (l := b.Keys) (i := i) (by omega)
      rw [hd, he, List.cons.injEq] at g2
      have w1 : IntKind.i64.wrap ((i : Int) + 1) = i + 1 := wrap_in (by omega)
      have hext : r = t ↔ r.Ty = t.Ty ∧ r.ID = t.ID ∧ r.Len = t.Len ∧ r.Router = t.Router := by
        cases r; cases t; simp
      clear hd he
      by_cases hrt : r = t
      · subst hrt
        simp [hk, hk', hi, hx, hy, gE hx, gE hy, w1]
        exact ⟨i + 1, ⟨by omega, by simpa using g2⟩, by omega, by simp⟩
      · have hne : ¬ (a.Keys = b.Keys) := by rw [g2]; simp [hrt]
        rw [hext] at hrt
        by_cases c1 : r.Ty = t.Ty <;> by_cases c2 : r.ID = t.ID <;> by_cases c3 : r.Len = t.Len <;> by_cases c4 : r.Router = t.Router <;> simp [c1, c2, c3, c4] at hrt <;>
          simp [hk, hk', hi, hx, hy, gE hx, gE hy, c1, c2, c3, c4, hne]
    · have e : a.Keys.drop i = [] := List.drop_of_length_le (by omega)
      have e' : b.Keys.drop i = [] := List.drop_of_length_le (by omega)
      rw [e, e'] at g2
      have hke : a.Keys = b.Keys := by simpa using g2
      have hi' : ¬ (i : Int) < nk := by omega
      have hke' : (a.Keys = b.Keys) = True := eq_true hke
      have hi0 : i = nk := by omega
      subst hi0
      simp [hk, hke']
      refine LoopK.intro (tr := []) mixed (by kernel_rfl) (fun i : Nat => [(2, .ptr 0 0), (3, .ptr 1 0), (6, .int .i64 i)]) (fun _ => [cellsPk a, cellsPk b]) (fun i => i ≤ nl ∧ eqW sameL a.Lsas b.Lsas = eqW sameL (a.Lsas.drop i) (b.Lsas.drop i)) (fun i => nl - i) 0 ?_ ?_ ?_
      · simp
      · simp
      · rintro j ⟨g3, g4⟩
        by_cases hj : j < nl
        · obtain ⟨r, hx, hd⟩ := get_drop (l := a.Lsas) (i := j) (by omega)
          obtain ⟨t, hy, he⟩ := get_drop (l := b.Lsas) (i := j) (by omega)
          rw [hd, he, eqW] at g4
          have w1 : IntKind.i64.wrap ((j : Int) + 1) = j + 1 := wrap_in (by omega)
          have h5 := h4 r (List.mem_of_getElem? hx) t
          clear hd he
          simp [hl, hl', hj, hx, hy, gE hx, gE hy]
          refine ⟨_, _, .inl (by simpa using h5 _), by simp, ?_⟩
          cases hs : sameL r t
          · simp [hs] at g4
            simp [g4]
          · simp [hs] at g4
            simp [w1]
            exact ⟨j + 1, ⟨by omega, g4⟩, by omega, by simp⟩
        · have e : a.Lsas.drop j = [] := List.drop_of_length_le (by omega)
          have e' : b.Lsas.drop j = [] := List.drop_of_length_le (by omega)
          rw [e, e', eqW] at g4
          have hj' : ¬ (j : Int) < nl := by omega
          simp [hl, hj', hj, g4]
end Go.Proofs.Ytfngaildaoahpaa

/- The exchange of databases: what its functions answer. -/
namespace Go.Proofs.Ytfngaildaoahpaa
open Go Go.Am

structure Nbr where
  Router : Int
  Addr : Int
  Pri : Int
  DR : Int
  BDR : Int
  State : Int
  Til : Int
  Master : Bool
  Seq : Int
  Lst : List Hdr
  Sent : List Hdr
  More : Bool
  Req : List Hdr
  Una : List Hdr
  Rsd : Int
  deriving DecidableEq
/-- The cells of a neighbor, its requests as x. -/
@[simp] def cellsNx (n : Nbr) (x : AVal) : List AVal := [.int .u32 n.Router, .int .u32 n.Addr, .int .i64 n.Pri, .int .u32 n.DR, .int .u32 n.BDR, .int .i64 n.State, .int .i64 n.Til, .bool n.Master, .int .i64 n.Seq,
  .sl 7 (n.Lst.map encH) .sh, .sl 7 (n.Sent.map encH) .sh, .bool n.More, x, .sl 7 (n.Una.map encH) .sh, .int .i64 n.Rsd]
@[simp] def cellsN (n : Nbr) : List AVal := cellsNx n (.sl 7 (n.Req.map encH) .sh)
@[simp] def encN (n : Nbr) : AVal := .agg (cellsN n)
def nbr0 : Nbr := ⟨0, 0, 0, 0, 0, 0, 0, false, 0, [], [], false, [], [], 0⟩
def plainN (n : Nbr) : Nbr := { nbr0 with Router := n.Router, Addr := n.Addr, Pri := n.Pri, DR := n.DR, BDR := n.BDR, State := n.State, Til := n.Til }
def waitsN (n : Nbr) : Bool := decide (n.State = 3) || (decide (n.State = 4) && n.Master) || decide (n.State = 5)
def settleN (n : Nbr) (now : Int) : Nbr := if waitsN n = true then { n with Rsd := now + 5 } else if n.Una = [] then { n with Rsd := 0 } else n
def pendN (n : Nbr) (self : Int) : Pkt :=
  if n.State = 3 then { pkt0 with Kind := 2, Router := self, Seq := n.Seq, Init := true, More := true, Master := true }
  else { pkt0 with Kind := 2, Router := self, Seq := n.Seq, Heads := n.Sent, More := decide (0 < n.Lst.length), Master := n.Master }
def reqN (n : Nbr) (self : Int) : Pkt := { pkt0 with Kind := 3, Router := self, Keys := (n.Req.take 16).map keyH }
def startN (n : Nbr) (now : Int) : Nbr := { plainN n with State := 3, Master := true, Seq := (if 0 < now then now else 0) % 1073741824, Rsd := now + 5 }
def batchN (n : Nbr) : Nbr := { n with Sent := n.Lst.take 16, Lst := n.Lst.drop 16 }

end Go.Proofs.Ytfngaildaoahpaa

/- The start of an exchange. -/
namespace Go.Proofs.Ytfngaildaoahpaa
open Go Go.Am

/-- The packet that a start sends. -/
def firstN (n : Nbr) (self : Int) : Pkt := { pkt0 with Kind := 2, Router := self, Seq := n.Seq, Init := true, More := true, Master := true }
-- exchange.pending of a plain neighbor
set_option maxHeartbeats 2000000 in
set_option maxRecDepth 10000 in
theorem x35s (r a p d bd til seq rsd self : Int) : CFun Try.prog 35 [.agg [.int .u32 r, .int .u32 a, .int .i64 p, .int .u32 d, .int .u32 bd, .int .i64 3, .int .i64 til, .bool true, .int .i64 seq, .sl 0 [] .full, .sl 0 [] .full, .bool false, .sl 0 [] .full, .sl 0 [] .full, .int .i64 rsd], .int .u32 self] []
    (encPk { pkt0 with Kind := 2, Router := self, Seq := seq, Init := true, More := true, Master := true }) [] := by
  refine CFun.intro (tr := [900001000017, 900002000017, 3500017]) (fz := []) (n := 30) (rs := [.cell 4 34]) Try.func35 rfl (by kernel_rfl) rfl rfl mixed (by kernel_rfl) (by simp) (by simp) ?_
  simp [pkt0, hel0]
-- routingref28.Pending of a neighbor that starts
set_option maxHeartbeats 2000000 in
set_option maxRecDepth 10000 in
theorem x37s (n : Nbr) (h3 : n.State = 3) (self : Int) : CFun Try.prog 37 [encN n, .int .u32 self] [] (encPk (firstN n self)) [] := by
  refine CFun.intro (tr := []) (fz := []) (n := 30) (rs := [.cell 4 34]) Try.func37 rfl (by kernel_rfl) rfl rfl mixed (by kernel_rfl) (by simp) (by simp) ?_
  simp [h3, firstN, pkt0, hel0]
theorem startN_seq (now : Int) : (if now < 0 then 0 else now).tmod 1073741824 = (if 0 < now then now else 0) % 1073741824 := by
  rw [Int.tmod_eq_emod_of_nonneg (by split <;> omega)]
  congr 1
  split <;> split <;> omega
theorem startN_seq1 (now : Int) (h : 0 < now) : now.tmod 1073741824 = (if 0 < now then now else 0) % 1073741824 := by
  rw [Int.tmod_eq_emod_of_nonneg (by omega), if_pos h]
-- exchange.Start
set_option maxHeartbeats 4000000 in
set_option maxRecDepth 10000 in
theorem x10 (n : Nbr) (self now : Int) (hw : inI (now + 5)) : CFun Try.prog 10 [encN n, .int .u32 self, .int .i64 now] [] (.tup [encN (startN n now), encPk (firstN (startN n now) self)]) [] := by
  refine CFun.intro (tr := []) (fz := []) (n := 34) (rs := [.cell 6 26, .cell 7 34]) Try.func10 rfl (by kernel_rfl) rfl rfl mixed (by kernel_rfl) (by simp) (by simp) ?_
  have w1 : IntKind.i64.wrap (now + 5) = now + 5 := wrap_in hw
  have e2 := startN_seq now
  have h1 := fun r a p d bd til seq rsd H => (x35s r a p d bd til seq rsd self).up' H rfl rfl
  simp [w1, e2]
  refine ⟨_, _, .inl (by simpa using h1 _ _ _ _ _ _ _ _ _), by simp, ?_⟩
  simp [startN, plainN, nbr0, firstN, pkt0, hel0]
-- routingref26.Plain
set_option maxHeartbeats 1000000 in
set_option maxRecDepth 10000 in
theorem x36 (n : Nbr) : CFun Try.prog 36 [encN n] [] (encN (plainN n)) [] := by
  refine CFun.intro (tr := []) (fz := []) (n := 18) (rs := [.cell 2 26]) Try.func36 rfl (by kernel_rfl) rfl rfl mixed (by kernel_rfl) (by simp) (by simp) ?_
  simp [plainN, nbr0]
-- routingref28.Start
set_option maxHeartbeats 4000000 in
set_option maxRecDepth 10000 in
theorem x11 (n : Nbr) (self now : Int) (hw : inI (now + 5)) : CFun Try.prog 11 [encN n, .int .u32 self, .int .i64 now] [] (.tup [encN (startN n now), encPk (firstN (startN n now) self)]) [] := by
  refine CFun.intro (tr := []) (fz := []) (n := 24) (rs := [.cell 6 26, .cell 7 34]) Try.func11 rfl (by kernel_rfl) rfl rfl mixed (by kernel_rfl) (by simp) (by simp) ?_
  have w1 : IntKind.i64.wrap (now + 5) = now + 5 := wrap_in hw
  have h1 := fun H => (x36 n).up' H rfl rfl
  have h2 := fun (m : Nbr) (h3 : m.State = 3) H => (x37s m h3 self).up' H rfl rfl
  have hs : (plainN n).Seq = 0 := rfl
  unfold startN
  generalize plainN n = m at *
  simp
  refine ⟨_, _, .inl (by simpa using h1 _), by simp, ?_⟩
  by_cases h0 : 0 < now
  · have e2 := startN_seq1 now h0
    simp [h0, w1, e2]
    refine ⟨_, _, .inl (by simpa using h2 { m with State := 3, Master := true, Seq := now % 1073741824, Rsd := now + 5 } rfl _), by simp, ?_⟩
    simp [firstN]
  · simp [h0, w1, hs]
    refine ⟨_, _, .inl (by simpa using h2 { m with State := 3, Master := true, Seq := 0, Rsd := now + 5 } rfl _), by simp, ?_⟩
    simp [firstN]
end Go.Proofs.Ytfngaildaoahpaa

namespace Go.Proofs.Ytfngaildaoahpaa
open Go Go.Am
-- routingref26.SameNeighbor of the same
set_option maxHeartbeats 8000000 in
set_option maxRecDepth 10000 in
theorem x12 (n : Nbr) (s1 : n.Lst.length < 8796093022208) (s2 : n.Sent.length < 8796093022208) (s3 : n.Req.length < 8796093022208) (s4 : n.Una.length < 8796093022208) : CFun Try.prog 12 [encN n, encN n] [] (.bool true) [] := by
  refine CFun.intro (tr := []) (fz := []) (n := 106) (rs := [.tmp 4]) Try.func12 rfl (by kernel_rfl) rfl rfl mixed (by kernel_rfl) (by simp) (by simp) ?_
  have h1 := fun H => (f42 n.Lst n.Lst _ _ rfl rfl s1).up' H rfl rfl
  have h2 := fun H => (f42 n.Sent n.Sent _ _ rfl rfl s2).up' H rfl rfl
  have h3 := fun H => (f42 n.Req n.Req _ _ rfl rfl s3).up' H rfl rfl
  have h4 := fun H => (f42 n.Una n.Una _ _ rfl rfl s4).up' H rfl rfl
  simp only [decide_true] at h1 h2 h3 h4
  simp
  refine ⟨_, _, .inl (h1 _), by simp, ?_⟩
  simp
  refine ⟨_, _, .inl (h2 _), by simp, ?_⟩
  simp
  refine ⟨_, _, .inl (h3 _), by simp, ?_⟩
  simp
  refine ⟨_, _, .inl (h4 _), by simp, ?_⟩
  simp
end Go.Proofs.Ytfngaildaoahpaa

/- What a neighbor brings as an argument; the law ExchangeStarts. -/
namespace Go.Proofs.Ytfngaildaoahpaa
open Go Go.Am

def csN : List CTy := [.int .u32, .int .u32, .int .i64, .int .u32, .int .u32, .int .i64, .int .i64, .bool, .int .i64, .sl true 56 csH, .sl true 56 csH, .bool, .sl true 56 csH, .sl true 56 csH, .int .i64]
def tyN : Bool × List CTy := (true, csN)
theorem rds_h {ts : List CTy} {cs : List AVal} (h : Rds (.sl true 56 csH :: ts) cs) : ∃ (l : List Hdr) (r : List AVal), cs = .sl 7 (l.map encH) .sh :: r ∧ Rds ts r ∧ l.length * 56 ≤ 140737488351232 ∧ ∀ x ∈ l, okH x := by
  obtain ⟨l, r, e, h2, z⟩ := Rds_sl (enc := fun x : { x : Hdr // okH x } => encH x.1) h (fun y cs e h => by
    obtain ⟨a, ha, ok⟩ := rd_H (x := y) ⟨cs, e, h⟩
    exact ⟨⟨a, ok⟩, ha⟩)
  refine ⟨l.map (·.1), r, by rw [e]; simp [Function.comp_def, csH], h2, by simpa [reachBytes] using z, fun x hx => ?_⟩
  obtain ⟨y, _, rfl⟩ := List.mem_map.1 hx
  exact y.2
/-- What rows and words of a neighbor are. -/
structure okN (n : Nbr) : Prop where
  router : inW n.Router
  seq : inI n.Seq
  lst : n.Lst.length * 56 ≤ 140737488351232
  sent : n.Sent.length * 56 ≤ 140737488351232
  req : n.Req.length * 56 ≤ 140737488351232
  una : n.Una.length * 56 ≤ 140737488351232
  hlst : ∀ h ∈ n.Lst, okH h
  hsent : ∀ h ∈ n.Sent, okH h
  hreq : ∀ h ∈ n.Req, okH h
  huna : ∀ h ∈ n.Una, okH h
theorem rd_N {x : AVal} (h : RdA tyN x) : ∃ n : Nbr, x = encN n ∧ okN n := by
  obtain ⟨cs, h1, h⟩ := h
  obtain ⟨a1, r, rfl, h, w1⟩ := Rds_int h
  obtain ⟨a2, r, rfl, h, _⟩ := Rds_int h
  obtain ⟨a3, r, rfl, h, _⟩ := Rds_int h
  obtain ⟨a4, r, rfl, h, _⟩ := Rds_int h
  obtain ⟨a5, r, rfl, h, _⟩ := Rds_int h
  obtain ⟨a6, r, rfl, h, _⟩ := Rds_int h
  obtain ⟨a7, r, rfl, h, _⟩ := Rds_int h
  obtain ⟨a8, r, rfl, k1⟩ := Rds_bool h
  obtain ⟨a9, r, rfl, h, w2⟩ := Rds_int k1
  obtain ⟨b1, r, rfl, h, z1, y1⟩ := rds_h h
  obtain ⟨b2, r, rfl, h, z2, y2⟩ := rds_h h
  obtain ⟨b3, r, rfl, k2⟩ := Rds_bool h
  obtain ⟨b4, r, rfl, h, z3, y3⟩ := rds_h k2
  obtain ⟨b5, r, rfl, h, z4, y4⟩ := rds_h h
  obtain ⟨b6, r, rfl, h, _⟩ := Rds_int h
  obtain rfl := Rds_nil h
  exact ⟨⟨a1, a2, a3, a4, a5, a6, a7, a8, a9, b1, b2, b3, b4, b5, b6⟩, by rw [if_pos (show tyN.1 = true from rfl)] at h1; exact h1, wf_u32 w1, wf_i64 w2, z1, z2, z3, z4, y1, y2, y3, y4⟩
theorem start_sizes (n : Nbr) (now self : Int) : okS (firstN (startN n now) self) :=
  ⟨by simp [firstN, pkt0, hel0], by simp [firstN, pkt0, hel0], by simp [firstN, pkt0, hel0], by simp [firstN, pkt0, hel0], by simp [firstN, pkt0, hel0]⟩
theorem sameP_first (n : Nbr) (self : Int) : sameP (firstN n self) (firstN n self) = true := by
  simp [sameP, firstN, pkt0, hel0, eqW]
-- routinglaw28.ExchangeStarts
set_option maxHeartbeats 8000000 in
set_option maxRecDepth 10000 in
theorem x3 (n : Nbr) (self now : Int) (hn : inI now) : CFun Try.prog 3 [encN n, .int .u32 self, .int .i64 now] [] (.bool true) [] := by
  refine CFun.intro (tr := []) (fz := []) (n := 43) (rs := [.tmp 6]) Try.func3 rfl (by kernel_rfl) rfl rfl mixed (by kernel_rfl) (by simp) (by simp) ?_
  have h9 := fun H => x9.up' H rfl rfl
  by_cases g : 1099511627776 < now
  · simp [g]
    refine ⟨_, _, .inl (h9 _), by simp, ?_⟩
    simp
  have hs : ∀ m : Int, inI (m + 5) → ∀ H, CFun Try.prog 10 [encN n, .int .u32 self, .int .i64 m] H (.tup [encN (startN n m), encPk (firstN (startN n m) self)]) H := fun m hm H => (x10 n self m hm).up' H rfl rfl
  have hr : ∀ m : Int, inI (m + 5) → ∀ H, CFun Try.prog 11 [encN n, .int .u32 self, .int .i64 m] H (.tup [encN (startN n m), encPk (firstN (startN n m) self)]) H := fun m hm H => (x11 n self m hm).up' H rfl rfl
  have h12 : ∀ m H, CFun Try.prog 12 [encN (startN n m), encN (startN n m)] H (.bool true) H := fun m H => (x12 (startN n m) (by simp [startN, plainN, nbr0]) (by simp [startN, plainN, nbr0]) (by simp [startN, plainN, nbr0]) (by simp [startN, plainN, nbr0])).up' H rfl rfl
  have h13 : ∀ m H, CFun Try.prog 13 [encPk (firstN (startN n m) self), encPk (firstN (startN n m) self)] H (.bool true) H := fun m H => by
    have := (f23 _ (firstN (startN n m) self) (start_sizes n m self)).up' H rfl rfl
    rwa [sameP_first] at this
  generalize hS : startN n = S at *
  generalize hF : (fun m => firstN (S m) self) = F at *
  have hF' : ∀ m, firstN (S m) self = F m := fun m => by rw [← hF]
  simp only [hF'] at hs hr h13
  by_cases g2 : now < 0
  · have w : inI (now.tmod 1099511627776 + 5) := by
      have e : now.tmod 1099511627776 = - ((-now) % 1099511627776) := by
        rw [← Int.tmod_eq_emod_of_nonneg (by omega), Int.neg_tmod]; omega
      unfold inI
      rw [e]
      omega
    simp [g, g2]
    refine ⟨_, _, .inl (by simpa using hs (now.tmod 1099511627776) w _), by simp, ?_⟩
    simp
    refine ⟨_, _, .inl (by simpa using hr (now.tmod 1099511627776) w _), by simp, ?_⟩
    simp
    refine ⟨_, _, .inl (by simpa using h12 (now.tmod 1099511627776) _), by simp, ?_⟩
    simp
    refine ⟨_, _, .inl (by simpa using h13 (now.tmod 1099511627776) _), by simp, ?_⟩
    simp
    refine ⟨_, _, .inl (h9 _), by simp, ?_⟩
    simp
  · have w : inI (now + 5) := by unfold inI; omega
    simp [g, g2]
    refine ⟨_, _, .inl (by simpa using hs now w _), by simp, ?_⟩
    simp
    refine ⟨_, _, .inl (by simpa using hr now w _), by simp, ?_⟩
    simp
    refine ⟨_, _, .inl (by simpa using h12 now _), by simp, ?_⟩
    simp
    refine ⟨_, _, .inl (by simpa using h13 now _), by simp, ?_⟩
    simp
    refine ⟨_, _, .inl (h9 _), by simp, ?_⟩
    simp
end Go.Proofs.Ytfngaildaoahpaa
