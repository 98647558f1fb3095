import Derived.Test.YticijodoelphcaaH1
set_option linter.unusedSimpArgs false
set_option linter.unusedVariables false
namespace Go.Proofs.Yticijodoelphcaa
open Go Go.Am

/-! What arguments bring. -/
def csN : List CTy := [.int .u32, .int .u32, .int .i64, .int .u32, .int .u32, .int .i64, .int .i64, .bool, .int .i64, .sl true 56 csH, .sl true 56 csH, .bool, .sl true 56 csH, .sl true 56 csH, .int .i64]
def csI : List CTy := [.int .i64, .int .u32, .int .i64, .int .u32, .int .u32, .int .i64, .int .i64, .int .i64, .int .i64]
def csS : List CTy := [.int .i64, .int .u32, .int .i64, .int .u32, .int .u32, .int .i64, .int .i64, .int .i64, .int .i64, .bool, .int .u32, .int .u32, .int .i64, .int .i64, .sl true 168 csN]
def csP : List CTy := [.int .i64, .int .u32, .int .u32, .int .u32, .int .i64, .int .i64, .int .i64, .int .i64, .int .u32, .int .u32, .sl false 4 [.int .u32], .int .i64, .bool, .bool, .bool, .sl true 56 csH, .sl true 32 tyY.2, .sl true 136 csA]
def tyN : Bool × List CTy := (true, csN)
def tyF : Bool × List CTy := (true, csI)
def tyS : Bool × List CTy := (true, csS)
def tyP : Bool × List CTy := (true, csP)
def tyW : Bool × List CTy := (false, [.int .u32])
theorem rd_A {x : AVal} (h : RdA tyA x) : ∃ l : Lsa, x = encA l ∧ okA l := by
  obtain ⟨cs, h1, h2⟩ := h
  obtain ⟨hd, r, rfl, okh, k0⟩ := dec_H h2
  obtain ⟨b1, r, rfl, k1⟩ := Rds_bool k0
  obtain ⟨b2, r, rfl, k2⟩ := Rds_bool k1
  obtain ⟨ls, r, rfl, k3, z1⟩ := Rds_sl (enc := fun x : { x : Lnk // okK x } => encK x.1) k2 (fun y cs e h => by
    obtain ⟨x, hx⟩ := dec_K h
    exact ⟨x, e.trans hx⟩)
  obtain ⟨at_, r, rfl, k4, z2⟩ := Rds_sl (enc := fun x : { x : Int // inW x } => enc32 x.1) k3 (fun y cs e h => by
    obtain ⟨a, r, rfl, h3, w⟩ := Rds_int h
    obtain rfl := Rds_nil h3
    simp at e
    exact ⟨⟨a, wf_u32 w⟩, e.symm⟩)
  obtain ⟨co, r, rfl, k5, w1⟩ := Rds_int k4
  obtain ⟨se, r, rfl, k6⟩ := Rds_bool k5
  obtain ⟨fw, r, rfl, k7, w2⟩ := Rds_int k6
  obtain ⟨tg, r, rfl, k8, w3⟩ := Rds_int k7
  obtain rfl := Rds_nil k8
  refine ⟨⟨hd, b1, b2, ls.map (·.1), at_.map (·.1), co, se, fw, tg⟩, ?_, okh, fun x hx => ?_, fun x hx => ?_, wf_i64 w1, wf_u32 w2, wf_i64 w3, by simp only [reachBytes] at z1; simp; omega, by simp only [reachBytes] at z2; simp; omega⟩
  · rw [if_pos (show tyA.1 = true from rfl)] at h1
    rw [h1]
    simp [csL]
  · obtain ⟨y, _, rfl⟩ := List.mem_map.1 hx
    exact y.2
  · obtain ⟨y, _, rfl⟩ := List.mem_map.1 hx
    exact y.2
theorem rds_h {ts : List CTy} {cs : List AVal} (h : Rds (.sl true 56 csH :: ts) cs) : ∃ (l : List Hdr) (r : List AVal), cs = .sl 7 (l.map encH) .sh :: r ∧ Rds ts r ∧ l.length * 56 ≤ 140737488351232 := by
  obtain ⟨l, r, e, h2, z⟩ := Rds_sl (enc := encH) h (fun y cs e h => by
    obtain ⟨a, ha, _⟩ := rd_H (x := y) ⟨cs, e, h⟩
    exact ⟨a, ha⟩)
  exact ⟨l, r, e, h2, z⟩
def okN2 (n : Nbr) : Prop := n.Lst.length * 56 ≤ 140737488351232 ∧ n.Sent.length * 56 ≤ 140737488351232 ∧ n.Req.length * 56 ≤ 140737488351232 ∧ n.Una.length * 56 ≤ 140737488351232
theorem rd_N {x : AVal} (h : RdA tyN x) : ∃ n : Nbr, x = encN n ∧ okN2 n := by
  obtain ⟨cs, h1, h⟩ := h
  obtain ⟨a1, r, rfl, h, _⟩ := Rds_int h
  obtain ⟨a2, r, rfl, h, _⟩ := Rds_int h
  obtain ⟨a3, r, rfl, h, _⟩ := Rds_int h
  obtain ⟨a4, r, rfl, h, _⟩ := Rds_int h
  obtain ⟨a5, r, rfl, h, _⟩ := Rds_int h
  obtain ⟨a6, r, rfl, h, _⟩ := Rds_int h
  obtain ⟨a7, r, rfl, h, _⟩ := Rds_int h
  obtain ⟨a8, r, rfl, k1⟩ := Rds_bool h
  obtain ⟨a9, r, rfl, h, _⟩ := Rds_int k1
  obtain ⟨b1, r, rfl, h, z1⟩ := rds_h h
  obtain ⟨b2, r, rfl, h, z2⟩ := rds_h h
  obtain ⟨b3, r, rfl, k2⟩ := Rds_bool h
  obtain ⟨b4, r, rfl, h, z3⟩ := rds_h k2
  obtain ⟨b5, r, rfl, h, z4⟩ := rds_h h
  obtain ⟨b6, r, rfl, h, _⟩ := Rds_int h
  obtain rfl := Rds_nil h
  exact ⟨⟨a1, a2, a3, a4, a5, a6, a7, a8, a9, b1, b2, b3, b4, b5, b6⟩, by rw [if_pos (show tyN.1 = true from rfl)] at h1; exact h1, z1, z2, z3, z4⟩
def okI2 (c : Ifc) : Prop := inI c.Kind ∧ inW c.PA ∧ inI c.PL ∧ inW c.Addr ∧ inW c.Area ∧ inI c.Cost ∧ inI c.Pri ∧ inI c.Hello ∧ inI c.Dead
theorem rd_F {x : AVal} (h : RdA tyF x) : ∃ c : Ifc, x = encI' c ∧ okI2 c := by
  obtain ⟨cs, h1, h⟩ := h
  obtain ⟨a1, r, rfl, h, w1⟩ := Rds_int h
  obtain ⟨a2, r, rfl, h, w2⟩ := Rds_int h
  obtain ⟨a3, r, rfl, h, w3⟩ := Rds_int h
  obtain ⟨a4, r, rfl, h, w4⟩ := Rds_int h
  obtain ⟨a5, r, rfl, h, w5⟩ := Rds_int h
  obtain ⟨a6, r, rfl, h, w6⟩ := Rds_int h
  obtain ⟨a7, r, rfl, h, w7⟩ := Rds_int h
  obtain ⟨a8, r, rfl, h, w8⟩ := Rds_int h
  obtain ⟨a9, r, rfl, h, w9⟩ := Rds_int h
  obtain rfl := Rds_nil h
  exact ⟨⟨a1, a2, a3, a4, a5, a6, a7, a8, a9⟩, by rw [if_pos (show tyF.1 = true from rfl)] at h1; exact h1, wf_i64 w1, wf_u32 w2, wf_i64 w3, wf_u32 w4, wf_u32 w5, wf_i64 w6, wf_i64 w7, wf_i64 w8, wf_i64 w9⟩
theorem rd_S {x : AVal} (h : RdA tyS x) : ∃ s : Ifs, x = encS s ∧ okI2 s.C ∧ (∀ n ∈ s.N, okN2 n) ∧ s.N.length * 168 ≤ 140737488351232 := by
  obtain ⟨cs, h1, h⟩ := h
  obtain ⟨a1, r, rfl, h, w1⟩ := Rds_int h
  obtain ⟨a2, r, rfl, h, w2⟩ := Rds_int h
  obtain ⟨a3, r, rfl, h, w3⟩ := Rds_int h
  obtain ⟨a4, r, rfl, h, w4⟩ := Rds_int h
  obtain ⟨a5, r, rfl, h, w5⟩ := Rds_int h
  obtain ⟨a6, r, rfl, h, w6⟩ := Rds_int h
  obtain ⟨a7, r, rfl, h, w7⟩ := Rds_int h
  obtain ⟨a8, r, rfl, h, w8⟩ := Rds_int h
  obtain ⟨a9, r, rfl, h, w9⟩ := Rds_int h
  obtain ⟨b1, r, rfl, k1⟩ := Rds_bool h
  obtain ⟨b2, r, rfl, h, _⟩ := Rds_int k1
  obtain ⟨b3, r, rfl, h, _⟩ := Rds_int h
  obtain ⟨b4, r, rfl, h, _⟩ := Rds_int h
  obtain ⟨b5, r, rfl, h, _⟩ := Rds_int h
  obtain ⟨l, r, rfl, h, z⟩ := Rds_sl (enc := fun x : { x : Nbr // okN2 x } => encN x.1) h (fun y cs e h => by
    obtain ⟨a, ha, ok⟩ := rd_N (x := y) ⟨cs, e, h⟩
    exact ⟨⟨a, ok⟩, ha⟩)
  obtain rfl := Rds_nil h
  refine ⟨⟨⟨a1, a2, a3, a4, a5, a6, a7, a8, a9⟩, b1, b2, b3, b4, b5, l.map (·.1)⟩, ?_, ⟨wf_i64 w1, wf_u32 w2, wf_i64 w3, wf_u32 w4, wf_u32 w5, wf_i64 w6, wf_i64 w7, wf_i64 w8, wf_i64 w9⟩, fun n hn => ?_, by simpa [reachBytes] using z⟩
  · rw [if_pos (show tyS.1 = true from rfl)] at h1
    rw [h1]
    simp [csN, Function.comp_def]
  · obtain ⟨y, _, rfl⟩ := List.mem_map.1 hn
    exact y.2
theorem rd_P {x : AVal} (h : RdA tyP x) : ∃ p : Pkt, x = encP p ∧ inW p.Addr ∧ p.E.Seen.length * 4 ≤ 140737488351232 := by
  obtain ⟨cs, h1, h⟩ := h
  obtain ⟨a1, r, rfl, h, _⟩ := Rds_int h
  obtain ⟨a2, r, rfl, h, _⟩ := Rds_int h
  obtain ⟨a3, r, rfl, h, _⟩ := Rds_int h
  obtain ⟨a4, r, rfl, h, w4⟩ := Rds_int h
  obtain ⟨e1, r, rfl, h, _⟩ := Rds_int h
  obtain ⟨e2, r, rfl, h, _⟩ := Rds_int h
  obtain ⟨e3, r, rfl, h, _⟩ := Rds_int h
  obtain ⟨e4, r, rfl, h, _⟩ := Rds_int h
  obtain ⟨e5, r, rfl, h, _⟩ := Rds_int h
  obtain ⟨e6, r, rfl, h, _⟩ := Rds_int h
  obtain ⟨e7, r, rfl, h, z7⟩ := Rds_sl (enc := enc32) h (fun y cs e h => by
    obtain ⟨a, r, rfl, h3, w⟩ := Rds_int h
    obtain rfl := Rds_nil h3
    simp at e
    exact ⟨a, e.symm⟩)
  obtain ⟨f1, r, rfl, h, _⟩ := Rds_int h
  obtain ⟨f2, r, rfl, k1⟩ := Rds_bool h
  obtain ⟨f3, r, rfl, k2⟩ := Rds_bool k1
  obtain ⟨f4, r, rfl, k3⟩ := Rds_bool k2
  obtain ⟨g1, r, rfl, h, _⟩ := rds_h k3
  obtain ⟨g2, r, rfl, h, _⟩ := Rds_sl (enc := encY) h (fun y cs e h => rd_Y (x := y) ⟨cs, e, h⟩)
  obtain ⟨g3, r, rfl, h, _⟩ := Rds_sl (enc := encA) h (fun y cs e h => by
    obtain ⟨a, ha, _⟩ := rd_A (x := y) ⟨cs, e, h⟩
    exact ⟨a, ha⟩)
  obtain rfl := Rds_nil h
  refine ⟨⟨a1, a2, a3, a4, ⟨e1, e2, e3, e4, e5, e6, e7⟩, f1, f2, f3, f4, g1, g2, g3⟩, ?_, wf_u32 w4, by simpa [reachBytes] using z7⟩
  rw [if_pos (show tyP.1 = true from rfl)] at h1
  exact h1
theorem rd_w {x : AVal} (h : RdA tyW x) : ∃ n : Int, x = .int .u32 n ∧ inW n := by
  obtain ⟨cs, h1, h⟩ := h
  obtain ⟨a1, r, rfl, h, w1⟩ := Rds_int h
  obtain rfl := Rds_nil h
  simp [tyW] at h1
  exact ⟨a1, h1.symm, wf_u32 w1⟩
end Go.Proofs.Yticijodoelphcaa
