import Derived.Test.YtmgkemffbmfmpaaK8
set_option linter.unusedSimpArgs false
set_option linter.unusedVariables false
namespace Go.Proofs.Ytmgkemffbmfmpaa
open Go Go.Am

/-! What a packet brings as an argument. -/
def csP : List CTy := [.int .i64, .int .u32, .int .u32, .int .u32, .int .i64, .int .i64, .int .i64, .int .i64, .int .u32, .int .u32, .sl false 4 [.int .u32], .int .i64, .bool, .bool, .bool, .sl true 56 csH, .sl true 32 tyY.2, .sl true 136 csA]
def tyP : Bool × List CTy := (true, csP)
structure okPw (p : Pkt) : Prop where
  ok : okPk p
  kind : inI p.Kind
  router : inW p.Router
  area : inW p.Area
  addr : inW p.Addr
  elen : inI p.E.Len
  ehello : inI p.E.Hello
  edead : inI p.E.Dead
  epri : inI p.E.Pri
  edr : inW p.E.DR
  ebdr : inW p.E.BDR
  eseen : ∀ x ∈ p.E.Seen, inW x
  seq : inI p.Seq
  hs : ∀ x ∈ p.Heads, okH x
  ls : ∀ x ∈ p.Lsas, okD x
  sz1 : p.E.Seen.length * 4 ≤ 140737488351232
  sz2 : p.Heads.length * 56 ≤ 140737488351232
  sz3 : p.Keys.length * 32 ≤ 140737488351232
  sz4 : p.Lsas.length * 136 ≤ 140737488351232
theorem rd_Pk {x : AVal} (h : RdA tyP x) : ∃ p : Pkt, x = encPk p ∧ okPw p := by
  obtain ⟨cs, h1, h⟩ := h
  obtain ⟨a1, r, rfl, h, w1⟩ := Rds_int h
  obtain ⟨a2, r, rfl, h, w2⟩ := Rds_int h
  obtain ⟨a3, r, rfl, h, w3⟩ := Rds_int h
  obtain ⟨a4, r, rfl, h, w4⟩ := Rds_int h
  obtain ⟨e1, r, rfl, h, v1⟩ := Rds_int h
  obtain ⟨e2, r, rfl, h, v2⟩ := Rds_int h
  obtain ⟨e3, r, rfl, h, v3⟩ := Rds_int h
  obtain ⟨e4, r, rfl, h, v4⟩ := Rds_int h
  obtain ⟨e5, r, rfl, h, v5⟩ := Rds_int h
  obtain ⟨e6, r, rfl, h, v6⟩ := Rds_int h
  obtain ⟨e7, r, rfl, h, z7⟩ := Rds_sl (enc := fun x : { x : Int // inW x } => enc32 x.1) h (fun y cs e h => by
    obtain ⟨a, r, rfl, h3, w⟩ := Rds_int h
    obtain rfl := Rds_nil h3
    simp at e
    exact ⟨⟨a, wf_u32 w⟩, e.symm⟩)
  obtain ⟨f1, r, rfl, h, w5⟩ := Rds_int h
  obtain ⟨f2, r, rfl, k1⟩ := Rds_bool h
  obtain ⟨f3, r, rfl, k2⟩ := Rds_bool k1
  obtain ⟨f4, r, rfl, k3⟩ := Rds_bool k2
  obtain ⟨g1, r, rfl, h, z1⟩ := Rds_sl (enc := fun x : { x : Hdr // okH x } => encH x.1) k3 (fun y cs e h => by
    obtain ⟨a, ha, ok⟩ := rd_H (x := y) ⟨cs, e, h⟩
    exact ⟨⟨a, ok⟩, ha⟩)
  obtain ⟨g2, r, rfl, h, z2⟩ := Rds_sl (enc := encY) h (fun y cs e h => rd_Y (x := y) ⟨cs, e, h⟩)
  obtain ⟨g3, r, rfl, h, z3⟩ := Rds_sl (enc := fun x : { x : Lsa // okD x } => encA x.1) h (fun y cs e h => by
    obtain ⟨a, ha, ok⟩ := rd_AD (x := y) ⟨cs, e, h⟩
    exact ⟨⟨a, ok⟩, ha⟩)
  obtain rfl := Rds_nil h
  simp only [reachBytes] at z7 z1 z2 z3
  have q1 : ∀ x ∈ e7.map (·.1), inW x := fun x hx => by
    obtain ⟨y, _, rfl⟩ := List.mem_map.1 hx
    exact y.2
  have q2 : ∀ x ∈ g1.map (·.1), okH x := fun x hx => by
    obtain ⟨y, _, rfl⟩ := List.mem_map.1 hx
    exact y.2
  have q3 : ∀ x ∈ g3.map (·.1), okD x := fun x hx => by
    obtain ⟨y, _, rfl⟩ := List.mem_map.1 hx
    exact y.2
  refine ⟨⟨a1, a2, a3, a4, ⟨e1, e2, e3, e4, e5, e6, e7.map (·.1)⟩, f1, f2, f3, f4, g1.map (·.1), g2, g3.map (·.1)⟩, ?_, ?_⟩
  · rw [if_pos (show tyP.1 = true from rfl)] at h1
    rw [h1]
    simp [Function.comp_def, csH, csA, tyY]
  · exact ⟨⟨by simp; omega, by simp; omega, by simp; omega, by simp; omega, fun x hx => (q1 x hx).1, fun x hx => (q2 x hx).2.1, fun x hx => (q3 x hx).1⟩,
      wf_i64 w1, wf_u32 w2, wf_u32 w3, wf_u32 w4, wf_i64 v1, wf_i64 v2, wf_i64 v3, wf_i64 v4, wf_u32 v5, wf_u32 v6, q1, wf_i64 w5, q2, q3, by simp; omega, by simp; omega, by simp; omega, by simp; omega⟩
end Go.Proofs.Ytmgkemffbmfmpaa

namespace Go.Proofs.Ytmgkemffbmfmpaa
open Go Go.Am

def bitP (b : Bool) (x : Int) : Int := if b = true then x else 0
-- lspacket.flag
theorem f113 (b : Bool) (x : Int) : CFun Try.prog 113 [.bool b, .int .u64 x] [] (.int .u64 (bitP b x)) [] := by
  refine CFun.intro (tr := []) (fz := []) (n := 7) (rs := [.tmp 4]) Try.func113 rfl (by kernel_rfl) rfl rfl mixed (by kernel_rfl) (by simp) (by simp) ?_
  cases b <;> simp [bitP]
-- routingref24.bit
theorem f121 (b : Bool) (x : Int) : CFun Try.prog 121 [.bool b, .int .u64 x] [] (.int .u64 (bitP b x)) [] := by
  refine CFun.intro (tr := []) (fz := []) (n := 7) (rs := [.tmp 4]) Try.func121 rfl (by kernel_rfl) rfl rfl mixed (by kernel_rfl) (by simp) (by simp) ?_
  cases b <;> simp [bitP]
/-- The sum of a row's words of 16 bits. -/
def wsum : Bool → List Int → Int
  | _, [] => 0
  | true, x :: xs => x * 256 + wsum false xs
  | false, x :: xs => x + wsum true xs
def inet (b : List Int) : Int := if wsum true b = 0 then 65535 else 65534 - (wsum true b - 1) % 65535
end Go.Proofs.Ytmgkemffbmfmpaa

namespace Go.Proofs.Ytmgkemffbmfmpaa
open Go Go.Am

-- routingref04.Internet
set_option maxHeartbeats 2000000 in
set_option maxRecDepth 10000 in
theorem f119 (b : List Int) (n : Nat) (hn : b.length = n) (hlen : n < 140737488355328) (hb : isB b) : CFun Try.prog 119 [encBs b] [] (.int .i64 (inet b)) [] := by
  refine CFun.intro (tr := []) (fz := []) (n := 36) (rs := [.tmp 2]) Try.func119 rfl (by kernel_rfl) rfl rfl mixed (by kernel_rfl) (by simp) (by simp) ?_
  simp
  refine LoopK.intro (tr := []) mixed (by kernel_rfl) (fun i : Nat => [(0, encBs b), (3, .int .i64 (wsum true b - wsum (decide (i % 2 = 0)) (b.drop i))), (4, .int .i64 i)]) (fun _ => []) (fun i => i ≤ n ∧ 0 ≤ wsum true b - wsum (decide (i % 2 = 0)) (b.drop i) ∧ wsum true b - wsum (decide (i % 2 = 0)) (b.drop i) ≤ 65280 * i) (fun i => n - i) 0 ?_ ?_ ?_
  · simp
  · simp
  · rintro i ⟨h1, h2, h3⟩
    by_cases hi : i < n
    · obtain ⟨x, hx, hd⟩ := get_drop (l := b) (i := i) (by omega)
      have hx0 := hb x (List.mem_of_getElem? hx)
      have w1 : IntKind.i64.wrap ((i : Int) + 1) = i + 1 := wrap_in (by omega)
      have hi' : (i : Int) < n := by omega
      have w2 : IntKind.i64.wrap x = x := wrap_in (by omega)
      have w3 : IntKind.i64.wrap (x * 256) = x * 256 := wrap_in (by omega)
      have hm : (i : Int).tmod 2 = 0 ↔ i % 2 = 0 := by rw [Int.tmod_eq_emod_of_nonneg (by omega)]; omega
      rw [hd] at h2 h3
      by_cases he : i % 2 = 0
      · have ho : ¬ (i + 1) % 2 = 0 := by omega
        have eb : wsum (decide (i % 2 = 0)) (x :: b.drop (i + 1)) = x * 256 + wsum (decide ((i + 1) % 2 = 0)) (b.drop (i + 1)) := by simp [he, ho, wsum]
        rw [eb] at h2 h3
        have hm' := hm.2 he
        have w4 : IntKind.i64.wrap (wsum true b - (x * 256 + wsum (decide ((i + 1) % 2 = 0)) (b.drop (i + 1))) + x * 256) = wsum true b - wsum (decide ((i + 1) % 2 = 0)) (b.drop (i + 1)) := by
          rw [show wsum true b - (x * 256 + wsum (decide ((i + 1) % 2 = 0)) (b.drop (i + 1))) + x * 256 = wsum true b - wsum (decide ((i + 1) % 2 = 0)) (b.drop (i + 1)) by omega]
          exact wrap_in (by omega)
        simp [hn, hi, hi', hx, w1, gE hx, w2, w3, hm']
        refine ⟨i + 1, ⟨by omega, by omega, by omega⟩, by omega, ?_, by simp⟩
        rw [hd, eb]
        exact w4
      · have ho : (i + 1) % 2 = 0 := by omega
        have eb : wsum (decide (i % 2 = 0)) (x :: b.drop (i + 1)) = x + wsum (decide ((i + 1) % 2 = 0)) (b.drop (i + 1)) := by simp [he, ho, wsum]
        rw [eb] at h2 h3
        have hm' : ¬ (i : Int).tmod 2 = 0 := fun h => he (hm.1 h)
        have w4 : IntKind.i64.wrap (wsum true b - (x + wsum (decide ((i + 1) % 2 = 0)) (b.drop (i + 1))) + x) = wsum true b - wsum (decide ((i + 1) % 2 = 0)) (b.drop (i + 1)) := by
          rw [show wsum true b - (x + wsum (decide ((i + 1) % 2 = 0)) (b.drop (i + 1))) + x = wsum true b - wsum (decide ((i + 1) % 2 = 0)) (b.drop (i + 1)) by omega]
          exact wrap_in (by omega)
        simp [hn, hi, hi', hx, w1, gE hx, w2, hm']
        refine ⟨i + 1, ⟨by omega, by omega, by omega⟩, by omega, ?_, by simp⟩
        rw [hd, eb]
        exact w4
    · have : i = n := by omega
      subst this
      have e : b.drop i = [] := List.drop_of_length_le (by omega)
      rw [e] at h2 h3 ⊢
      have hz : wsum true b - wsum (decide (i % 2 = 0)) [] = wsum true b := by cases decide (i % 2 = 0) <;> simp [wsum]
      rw [hz] at h2 h3 ⊢
      unfold inet
      generalize wsum true b = u at *
      by_cases h0 : u = 0
      · simp [hn, h0]
      · have w1 : IntKind.i64.wrap (u - 1) = u - 1 := wrap_in (by omega)
        have e1 : (u - 1).tmod 65535 = (u - 1) % 65535 := Int.tmod_eq_emod_of_nonneg (by omega)
        have w2 : IntKind.i64.wrap (65535 - (u - 1) % 65535) = 65535 - (u - 1) % 65535 := wrap_in (by omega)
        have w3 : IntKind.i64.wrap (65535 - (u - 1) % 65535 - 1) = 65534 - (u - 1) % 65535 := by rw [wrap_in (by omega)]; omega
        have w4 : IntKind.i64.wrap ((u - 1) % 65535) = (u - 1) % 65535 := wrap_in (by omega)
        simp [hn, h0, w1, e1, w2, w3, w4]
end Go.Proofs.Ytmgkemffbmfmpaa

namespace Go.Proofs.Ytmgkemffbmfmpaa
open Go Go.Am

theorem wu {x : Int} (h : 0 ≤ x ∧ x < 18446744073709551616) : IntKind.u64.wrap x = x := by rw [wrap_u64]; omega
-- checksum.Internet
set_option maxHeartbeats 2000000 in
set_option maxRecDepth 10000 in
theorem f71 (b : List Int) (n : Nat) (hn : b.length = n) (hlen : n < 140737488355328) (hb : isB b) : CFun Try.prog 71 [encBs b] [] (.int .i64 (inet b)) [] := by
  refine CFun.intro (tr := []) (fz := []) (n := 37) (rs := [.tmp 2]) Try.func71 rfl (by kernel_rfl) rfl rfl mixed (by kernel_rfl) (by simp) (by simp) ?_
  have h1 : ∀ (i : Nat) H, i < 281474976710656 → CFun Try.prog 116 [encBs b, .int .i64 i, .int .i64 2] H (.tup [.int .u64 (if i + 2 ≤ n then numAt b i 2 else 0), .bool (decide (i + 2 ≤ n))]) H := fun i H hi => by
    have h := (c93 b hb (by omega) i 2 hi (by omega)).up' H rfl rfl
    rw [hn] at h
    exact h
  simp
  refine LoopK.intro (tr := []) mixed (by kernel_rfl) (fun i : Nat => [(0, encBs b), (3, .int .u64 (wsum true b - wsum true (b.drop (2 * i)))), (4, .int .i64 (2 * i : Nat))]) (fun _ => []) (fun i => 2 * i ≤ n + 1 ∧ 0 ≤ wsum true b - wsum true (b.drop (2 * i)) ∧ wsum true b - wsum true (b.drop (2 * i)) ≤ 65535 * i) (fun i => n + 1 - 2 * i) 0 ?_ ?_ ?_
  · simp
  · simp
  · rintro i ⟨g1, g2, g3⟩
    by_cases hi : 2 * i < n
    · obtain ⟨x, hx, hd⟩ := get_drop (l := b) (i := 2 * i) (by omega)
      have hx0 := hb x (List.mem_of_getElem? hx)
      have w1 : IntKind.i64.wrap (2 * (i : Int) + 2) = 2 * i + 2 := wrap_in (by omega)
      have hi' : 2 * (i : Int) < n := by omega
      have h2 := fun H => h1 (2 * i) H (by omega)
      rw [hd] at g2 g3
      by_cases he : 2 * i + 2 ≤ n
      · obtain ⟨y, hy, hd2⟩ := get_drop (l := b) (i := 2 * i + 1) (by omega)
        have hy0 := hb y (List.mem_of_getElem? hy)
        have na : numAt b (2 * i) 2 = x * 256 + y := by simp [numAt, List.getD, hx, hy]
        simp [hn, hi, hi', hx, w1]
        refine ⟨_, _, .inl (by simpa [he, na] using h2 _), by simp, ?_⟩
        simp
        have eb : wsum true (x :: b.drop (2 * i + 1)) = x * 256 + (y + wsum true (b.drop (2 * (i + 1)))) := by rw [hd2]; simp [wsum]; rfl
        rw [eb] at g2 g3
        refine ⟨i + 1, ⟨by omega, by omega, by omega⟩, by omega, ?_, by rw [w1]; omega⟩
        rw [hd, eb]
        rw [show wsum true b - (x * 256 + (y + wsum true (b.drop (2 * (i + 1))))) + (x * 256 + y) = wsum true b - wsum true (b.drop (2 * (i + 1))) by omega]
        exact wu (by omega)
      · have hd2 : b.drop (2 * i + 1) = [] := List.drop_of_length_le (by omega)
        have hd3 : b.drop (2 * (i + 1)) = [] := List.drop_of_length_le (by omega)
        have w3 : IntKind.u64.wrap x = x := wu (by omega)
        have w4 : x.toNat <<< 8 = (x * 256).toNat := by rw [Nat.shiftLeft_eq]; omega
        have w5 : IntKind.u64.wrap (x * 256) = x * 256 := wu (by omega)
        simp [hn, hi, hi', hx, w1]
        refine ⟨_, _, .inl (by simpa [he] using h2 _), by simp, ?_⟩
        have t1 : (2 * (i : Int)).toNat = 2 * i := by omega
        have t2 : (0 : Int) ≤ 2 * (i : Int) := by omega
        simp [hn, hi, hi', hx, gE hx, w3, t1, t2, w4]
        have eb : wsum true (x :: b.drop (2 * i + 1)) = x * 256 := by rw [hd2]; simp [wsum]
        have ez : wsum true (b.drop (2 * (i + 1))) = 0 := by rw [hd3]; rfl
        rw [eb] at g2 g3
        refine ⟨i + 1, ⟨by omega, by omega, by omega⟩, by omega, ?_, by rw [w1]; omega⟩
        rw [hd, eb, ez, show x * 2 ^ min 8 IntKind.u64.bits = x * 256 from rfl, w5]
        rw [show wsum true b - x * 256 + x * 256 = wsum true b - 0 by omega]
        exact wu (by omega)
    · have e : b.drop (2 * i) = [] := List.drop_of_length_le (by omega)
      rw [e] at g2 g3 ⊢
      have hz : wsum true b - wsum true [] = wsum true b := by simp [wsum]
      rw [hz] at g2 g3 ⊢
      unfold inet
      generalize wsum true b = u at *
      have hi' : ¬ 2 * (i : Int) < n := by omega
      by_cases h0 : u = 0
      · simp [hn, hi', h0]
      · have w1 : IntKind.u64.wrap (u - 1) = u - 1 := wu (by omega)
        have e1 : (u - 1).tmod 65535 = (u - 1) % 65535 := Int.tmod_eq_emod_of_nonneg (by omega)
        have w2 : IntKind.i64.wrap (65534 - (u - 1) % 65535) = 65534 - (u - 1) % 65535 := wrap_in (by omega)
        have w4 : IntKind.i64.wrap ((u - 1) % 65535) = (u - 1) % 65535 := wrap_in (by omega)
        have w5 : IntKind.u64.wrap ((u - 1) % 65535) = (u - 1) % 65535 := wu (by omega)
        simp [hn, hi', h0, w1, e1, w2, w4, w5]
end Go.Proofs.Ytmgkemffbmfmpaa

namespace Go.Proofs.Ytmgkemffbmfmpaa
open Go Go.Am

-- lspacket.sameHello
set_option maxHeartbeats 2000000 in
set_option maxRecDepth 10000 in
theorem f74 (a b : Hel) (hlen : a.Seen.length < 140737488355328) : CFun Try.prog 74 [encE a, encE b] [] (.bool (decide (a = b))) [] := by
  refine CFun.intro (tr := []) (fz := []) (n := 52) (rs := [.tmp 4]) Try.func74 rfl (by kernel_rfl) rfl rfl mixed (by kernel_rfl) (by simp) (by simp) ?_
  have h1 := fun H => (c65 a.Seen b.Seen _ rfl _ rfl hlen).up' H rfl rfl
  rw [hel_eq]
  generalize decide (a.Seen = b.Seen) = w at h1 ⊢
  by_cases e1 : a.Len = b.Len
  case neg => simp [e1]
  by_cases e2 : a.Hello = b.Hello
  case neg => simp [e1, e2]
  by_cases e3 : a.Dead = b.Dead
  case neg => simp [e1, e2, e3]
  by_cases e4 : a.Pri = b.Pri
  case neg => simp [e1, e2, e3, e4]
  by_cases e5 : a.DR = b.DR
  case neg => simp [e1, e2, e3, e4, e5]
  by_cases e6 : a.BDR = b.BDR
  case neg => simp [e1, e2, e3, e4, e5, e6]
  simp [e1, e2, e3, e4, e5, e6]
  refine ⟨_, _, .inl (by simpa using h1 _), by simp, ?_⟩
  simp
end Go.Proofs.Ytmgkemffbmfmpaa

namespace Go.Proofs.Ytmgkemffbmfmpaa
open Go Go.Am

set_option maxHeartbeats 2000000 in
set_option maxRecDepth 10000 in
theorem f76 (l q : List LKey) (n : Nat) (hn : l.length = n) (m : Nat) (hm : q.length = m) (hlen : n < 8796093022208) : CFun Try.prog 76 [.sl 4 (l.map encY) .sh, .sl 4 (q.map encY) .sh] [] (.bool (decide (l = q))) [] := by
  refine CFun.intro (tr := []) (fz := []) (n := 26) (rs := [.tmp 4]) Try.func76 rfl (by kernel_rfl) rfl rfl mixed (by kernel_rfl) (by simp) (by simp) ?_
  by_cases hnm : n = m
  case neg =>
    have : l ≠ q := by rintro rfl; exact hnm (hn.symm.trans hm)
    have hnm' : ¬ (n : Int) = m := by omega
    simp [hn, hm, hnm', this]
  subst hnm
  simp [hn, hm]
  refine LoopK.intro (tr := []) mixed (by kernel_rfl) (fun i : Nat => [(0, .sl 4 (l.map encY) .sh), (1, .sl 4 (q.map encY) .sh), (12, .int .i64 n), (13, .int .i64 i)]) (fun _ => []) (fun i => i ≤ n ∧ (l = q ↔ l.drop i = q.drop i)) (fun i => n - i) 0 ?_ ?_ ?_
  · simp
  · simp
  · rintro i ⟨h1, h2⟩
    by_cases hi : i < n
    · obtain ⟨r, hx, hd⟩ := get_drop (l := l) (i := i) (by omega)
      obtain ⟨t, hy, he⟩ := get_drop (l := q) (i := i) (by omega)
      rw [hd, he, List.cons.injEq] at h2
      have w1 : IntKind.i64.wrap ((i : Int) + 1) = i + 1 := wrap_in (by omega)
      have hext : r = t ↔ r.Ty = t.Ty ∧ r.ID = t.ID ∧ r.Len = t.Len ∧ r.Router = t.Router := by
        cases r; cases t; simp
      clear hn hm hd he
      by_cases hrt : r = t
      · subst hrt
        simp [hi, hx, hy, w1]
        exact ⟨i + 1, ⟨by omega, by simpa using h2⟩, by omega, by simp⟩
      · have hne : ¬ (l = q) := by rw [h2]; simp [hrt]
        rw [hext] at hrt
        by_cases b1 : r.Ty = t.Ty <;> by_cases b2 : r.ID = t.ID <;> by_cases b3 : r.Len = t.Len <;> by_cases b4 : r.Router = t.Router <;> simp [b1, b2, b3, b4] at hrt <;>
          simp [hi, hx, hy, b1, b2, b3, b4, hne]
    · have e : l.drop i = [] := List.drop_of_length_le (by omega)
      have e' : q.drop i = [] := List.drop_of_length_le (by omega)
      rw [e, e'] at h2
      simp [hi, h2]
end Go.Proofs.Ytmgkemffbmfmpaa
