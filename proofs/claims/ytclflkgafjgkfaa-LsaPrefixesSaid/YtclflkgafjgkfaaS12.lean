import Derived.Test.YtclflkgafjgkfaaS11
import Derived.Test.YtclflkgafjgkfaaAmU
import Derived.JoinedOf
import Derived.Test.YtclflkgafjgkfaaRows
set_option linter.unusedSimpArgs false
set_option linter.unusedVariables false
namespace Go.Proofs.Ytclflkgafjgkfaa
open Go Go.Am

theorem Rds_int {k : IntKind} {ts : List CTy} {cs : List AVal} (h : Rds (.int k :: ts) cs) : ∃ n r, cs = .int k n :: r ∧ Rds ts r ∧ (Lit.int k n).wf = true := by
  simp only [Rds, Rd] at h
  obtain ⟨x, r, rfl, ⟨n, rfl, hn⟩, h2⟩ := h
  exact ⟨n, r, rfl, h2, hn⟩
theorem Rds_bool {ts : List CTy} {cs : List AVal} (h : Rds (.bool :: ts) cs) : ∃ b r, cs = .bool b :: r ∧ Rds ts r := by
  simp only [Rds, Rd] at h
  obtain ⟨x, r, rfl, ⟨n, rfl⟩, h2⟩ := h
  exact ⟨n, r, rfl, h2⟩
theorem Rds_nil {cs : List AVal} (h : Rds [] cs) : cs = [] := h

/-- A list of values, each of which encodes something. -/
theorem decAll {α : Type} {enc : α → AVal} : ∀ (xs : List AVal), (∀ y ∈ xs, ∃ a, y = enc a) → ∃ l : List α, xs = l.map enc := by
  intro xs
  induction xs with
  | nil => intro _; exact ⟨[], rfl⟩
  | cons x xs ih =>
    intro h
    obtain ⟨a, rfl⟩ := h x (by simp)
    obtain ⟨l, rfl⟩ := ih fun y hy => h y (by simp [hy])
    exact ⟨a :: l, rfl⟩
theorem Rds_sl {α : Type} {enc : α → AVal} {ag : Bool} {by_ : Nat} {e ts : List CTy} {cs : List AVal} (h : Rds (.sl ag by_ e :: ts) cs) (hd : ∀ y cs, (if ag = true then y = .agg cs else cs = [y]) → Rds e cs → ∃ a, y = enc a) :
    ∃ (l : List α) (r : List AVal), cs = .sl e.length (l.map enc) .sh :: r ∧ Rds ts r ∧ l.length * by_ ≤ reachBytes := by
  simp only [Rds, Rd] at h
  obtain ⟨x, r, rfl, ⟨xs, rfl, hl, hx⟩, h2⟩ := h
  obtain ⟨l, rfl⟩ := decAll (enc := enc) xs fun y hy => by
    obtain ⟨cs, h1, h2⟩ := hx y hy
    exact hd y cs h1 h2
  exact ⟨l, r, rfl, h2, by simpa using hl⟩

def inW (x : Int) : Prop := 0 ≤ x ∧ x ≤ 4294967295
theorem wf_i64 {n : Int} (h : (Lit.int .i64 n).wf = true) : inI n := by
  simpa [Lit.wf, IntKind.min, IntKind.max, IntKind.signed, IntKind.bits, inI] using h
theorem wf_u32 {n : Int} (h : (Lit.int .u32 n).wf = true) : inW n := by
  simpa [Lit.wf, IntKind.min, IntKind.max, IntKind.signed, IntKind.bits, inW] using h

def okH (h : Hdr) : Prop := inI h.Ty ∧ inW h.ID ∧ inI h.Len ∧ inW h.Router ∧ inI h.Seq ∧ inI h.Age ∧ inI h.Sum
def csH : List CTy := [.int .i64, .int .u32, .int .i64, .int .u32, .int .i64, .int .i64, .int .i64]
def tyH : Bool × List CTy := (true, csH)
theorem dec_H {ts : List CTy} {cs : List AVal} (h : Rds (csH ++ ts) cs) : ∃ (x : Hdr) (r : List AVal), cs = cellsH x ++ r ∧ okH x ∧ Rds ts r := by
  obtain ⟨a1, r, rfl, h, w1⟩ := Rds_int h
  obtain ⟨a2, r, rfl, h, w2⟩ := Rds_int h
  obtain ⟨a3, r, rfl, h, w3⟩ := Rds_int h
  obtain ⟨a4, r, rfl, h, w4⟩ := Rds_int h
  obtain ⟨a5, r, rfl, h, w5⟩ := Rds_int h
  obtain ⟨a6, r, rfl, h, w6⟩ := Rds_int h
  obtain ⟨a7, r, rfl, h, w7⟩ := Rds_int h
  exact ⟨⟨a1, a2, a3, a4, a5, a6, a7⟩, r, rfl, ⟨wf_i64 w1, wf_u32 w2, wf_i64 w3, wf_u32 w4, wf_i64 w5, wf_i64 w6, wf_i64 w7⟩, h⟩
theorem rd_H {x : AVal} (h : RdA tyH x) : ∃ a : Hdr, x = encH a ∧ okH a := by
  obtain ⟨cs, h1, h2⟩ := h
  obtain ⟨a, r, rfl, h3, h4⟩ := dec_H (ts := []) h2
  obtain rfl := Rds_nil h4
  exact ⟨a, by simpa [tyH] using h1, h3⟩
theorem own : ownKnob Try.prog.godebug = none := by kernel_rfl
end Go.Proofs.Ytclflkgafjgkfaa
