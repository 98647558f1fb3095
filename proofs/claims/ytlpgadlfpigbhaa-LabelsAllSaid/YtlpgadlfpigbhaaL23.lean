import Derived.Test.YtlpgadlfpigbhaaL22
import Derived.Test.YtlpgadlfpigbhaaAmU
import Derived.JoinedOf
import Derived.Test.YtlpgadlfpigbhaaRows
set_option linter.unusedSimpArgs false
set_option linter.unusedVariables false
namespace Go.Proofs.Ytlpgadlfpigbhaa
open Go Go.Am

theorem Rds_int {k : IntKind} {ts : List CTy} {cs : List AVal} (h : Rds (.int k :: ts) cs) : ∃ n r, cs = .int k n :: r ∧ Rds ts r ∧ (Lit.int k n).wf = true := by
  simp only [Rds, Rd] at h
  obtain ⟨x, r, rfl, ⟨n, rfl, hn⟩, h2⟩ := h
  exact ⟨n, r, rfl, h2, hn⟩
theorem Rds_nil {cs : List AVal} (h : Rds [] cs) : cs = [] := h

/-- A list of values, each of which encodes something. -/
theorem decAll {α : Type} {enc : α → AVal} : ∀ (xs : List AVal), (∀ y ∈ xs, ∃ a, y = enc a) → ∃ l : List α, xs = l.map enc := by
  intro xs
  induction xs with
  | nil => intro _; exact ⟨[], rfl⟩
  | cons x xs ih =>
    intro h
    obtain ⟨a, rfl⟩ := h x (by simp)
    obtain ⟨l, rfl⟩ := ih fun y hy => h y (by simp [hy])
    exact ⟨a :: l, rfl⟩

/-- An argument that is a list. -/
theorem rd_list {α : Type} {enc : α → AVal} {ag : Bool} {by_ : Nat} {e : List CTy} {x : AVal} (h : RdA (false, [.sl ag by_ e]) x) (hd : ∀ y cs, (if ag = true then y = .agg cs else cs = [y]) → Rds e cs → ∃ a, y = enc a) :
    ∃ l : List α, x = .sl e.length (l.map enc) .sh ∧ l.length * by_ ≤ reachBytes := by
  obtain ⟨cs, h1, h2⟩ := h
  simp only [Rds, Rd] at h2
  obtain ⟨y, r, rfl, ⟨xs, rfl, hl, hx⟩, rfl⟩ := h2
  simp at h1
  subst h1
  obtain ⟨l, rfl⟩ := decAll (enc := enc) xs fun y hy => by
    obtain ⟨cs, h1, h2⟩ := hx y hy
    exact hd y cs h1 h2
  exact ⟨l, rfl, by simpa using hl⟩
theorem rd_i64 {k : IntKind} {x : AVal} (h : RdA (false, [.int k]) x) : ∃ n, x = .int k n ∧ (Lit.int k n).wf = true := by
  obtain ⟨cs, h1, h2⟩ := h
  obtain ⟨n, r, rfl, h3, h4⟩ := Rds_int h2
  simp at h1
  exact ⟨n, h1.1.symm, h4⟩

def tyLR : Bool × List CTy := (false, [.sl true 16 [.int .i64, .int .i64]])
def tyB : Bool × List CTy := (true, [.int .u32, .int .i64, .int .u32, .int .i64])
def tyBs : Bool × List CTy := (false, [.sl true 32 [.int .u32, .int .i64, .int .u32, .int .i64]])

theorem rd_LR {x : AVal} (h : RdA tyLR x) : ∃ l : List LR, x = .sl 2 (l.map encLR) .sh ∧ l.length * 16 ≤ reachBytes :=
  rd_list h fun y cs h1 h2 => by
    obtain ⟨a, r, rfl, h3, _⟩ := Rds_int h2
    obtain ⟨b, r, rfl, h4, _⟩ := Rds_int h3
    obtain rfl := Rds_nil h4
    exact ⟨⟨a, b⟩, h1⟩
theorem dec_B {cs : List AVal} (h2 : Rds [.int .u32, .int .i64, .int .u32, .int .i64] cs) : ∃ b : Bnd, AVal.agg cs = encB b := by
  obtain ⟨a, r, rfl, h3, _⟩ := Rds_int h2
  obtain ⟨b, r, rfl, h4, _⟩ := Rds_int h3
  obtain ⟨c, r, rfl, h5, _⟩ := Rds_int h4
  obtain ⟨d, r, rfl, h6, _⟩ := Rds_int h5
  obtain rfl := Rds_nil h6
  exact ⟨⟨⟨a, b⟩, c, d⟩, rfl⟩
theorem rd_Bs {x : AVal} (h : RdA tyBs x) : ∃ l : List Bnd, x = .sl 4 (l.map encB) .sh ∧ l.length * 32 ≤ reachBytes :=
  rd_list h fun y cs h1 h2 => by
    obtain ⟨b, hb⟩ := dec_B h2
    exact ⟨b, h1.trans hb⟩
theorem rd_B {x : AVal} (h : RdA tyB x) : ∃ b : Bnd, x = encB b := by
  obtain ⟨cs, h1, h2⟩ := h
  obtain ⟨b, hb⟩ := dec_B h2
  exact ⟨b, h1.trans hb⟩

theorem own : ownKnob Try.prog.godebug = none := by kernel_rfl

end Go.Proofs.Ytlpgadlfpigbhaa
