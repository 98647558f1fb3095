import Derived.Test.YtmgkemffbmfmpaaGreatZE18
import Derived.Test.YtmgkemffbmfmpaaGreatZE2
set_option linter.unusedSimpArgs false
set_option linter.unusedVariables false
namespace Go.Proofs.YtmgkemffbmfmpaaGreat
open Go Go.Am

end Go.Proofs.YtmgkemffbmfmpaaGreat

namespace Go.Proofs.YtmgkemffbmfmpaaGreat
open Go Go.Am

end Go.Proofs.YtmgkemffbmfmpaaGreat

namespace Go.Proofs.YtmgkemffbmfmpaaGreat
open Go Go.Am

/-! What arguments bring. -/
end Go.Proofs.YtmgkemffbmfmpaaGreat

namespace Go.Proofs.YtmgkemffbmfmpaaGreat
end Go.Proofs.YtmgkemffbmfmpaaGreat

namespace Go.Proofs.YtmgkemffbmfmpaaGreat
open Go Go.Am

/-! Packets. -/
structure Hel where
  Len : Int
  Hello : Int
  Dead : Int
  Pri : Int
  DR : Int
  BDR : Int
  Seen : List Int
  deriving DecidableEq
@[simp] def cellsE (h : Hel) : List AVal := [.int .i64 h.Len, .int .i64 h.Hello, .int .i64 h.Dead, .int .i64 h.Pri, .int .u32 h.DR, .int .u32 h.BDR, .sl 1 (h.Seen.map enc32) .sh]
@[simp] def encE (h : Hel) : AVal := .agg (cellsE h)
structure Pkt where
  Kind : Int
  Router : Int
  Area : Int
  Addr : Int
  E : Hel
  Seq : Int
  Init : Bool
  More : Bool
  Master : Bool
  Heads : List Hdr
  Keys : List LKey
  Lsas : List Lsa
  deriving DecidableEq
@[simp] def cellsPk (p : Pkt) : List AVal := [.int .i64 p.Kind, .int .u32 p.Router, .int .u32 p.Area, .int .u32 p.Addr,
  .int .i64 p.E.Len, .int .i64 p.E.Hello, .int .i64 p.E.Dead, .int .i64 p.E.Pri, .int .u32 p.E.DR, .int .u32 p.E.BDR, .sl 1 (p.E.Seen.map enc32) .sh,
  .int .i64 p.Seq, .bool p.Init, .bool p.More, .bool p.Master, .sl 7 (p.Heads.map encH) .sh, .sl 4 (p.Keys.map encY) .sh, .sl 15 (p.Lsas.map encA) .sh]
@[simp] def encPk (p : Pkt) : AVal := .agg (cellsPk p)
def hel0 : Hel := ⟨0, 0, 0, 0, 0, 0, []⟩
def pkt0 : Pkt := ⟨0, 0, 0, 0, hel0, 0, false, false, false, [], [], []⟩
/-- The first error of rows of any kind. -/
def rowsG {α : Type} (chk : α → Int) (key : α → LKey) : Option α → List α → Int
  | _, [] => 0
  | p, x :: xs => if chk x ≠ 0 then chk x else if (match p with | some y => decide (0 ≤ cmpY (key y) (key x)) | none => false) = true then 16 else rowsG chk key (some x) xs
def listG {α : Type} (chk : α → Int) (key : α → LKey) (l : List α) : Int := if 64 < l.length then 4 else rowsG chk key none l
def prevG {α : Type} (l : List α) : Nat → Option α
  | 0 => none
  | i + 1 => l[i]?
theorem rowsG_E : ∀ (l : List Lsa) (p : Option Lsa), rowsG sealE keyA p l = rowsE p l
  | [], p => by cases p <;> rfl
  | x :: xs, p => by
    cases p <;> simp only [rowsG, rowsE, rowsG_E xs (some x)]
def chkY (k : LKey) : Int := if inR k.Ty 1 5 = false then 15 else if k.Router = 0 ∨ inR k.Len 0 32 = false then 5 else 0
def seenE : Int → List Int → Int
  | _, [] => 0
  | z, x :: xs => if x ≤ z then 16 else seenE x xs
def chkE (h : Hel) : Int := if inR h.Len 0 32 = false ∨ inR h.Hello 1 65535 = false ∨ inR h.Dead 1 65535 = false ∨ inR h.Pri 0 255 = false then 5 else if 64 < h.Seen.length then 4 else seenE 0 h.Seen
def forP (p : Pkt) : Bool :=
  (decide (p.Kind ≠ 1) && !decide (p.E = hel0)) || (decide (p.Kind ≠ 2) && (decide (p.Seq ≠ 0) || p.Init || p.More || p.Master)) || (decide (p.Kind ≠ 3) && !decide (p.Keys = [])) || (decide (p.Kind ≠ 4) && !decide (p.Lsas = [])) ||
  (decide (p.Kind ≠ 2) && decide (p.Kind ≠ 5) && !decide (p.Heads = []))
def chkP (p : Pkt) : Int :=
  if inR p.Kind 1 5 = false then 15 else if p.Router = 0 then 5 else if forP p = true then 1
  else if p.Kind = 1 then chkE p.E else if p.Kind = 3 then listG chkY id p.Keys else if p.Kind = 4 then listG sealE keyA p.Lsas
  else if p.Kind = 2 ∧ inR p.Seq 0 2147483647 = false then 5 else listG chkH keyH p.Heads
end Go.Proofs.YtmgkemffbmfmpaaGreat

namespace Go.Proofs.YtmgkemffbmfmpaaGreat
open Go Go.Am

theorem ehL_snd (h : Hdr) : (ehL h).2 = chkH h := by
  unfold ehL
  split
  · rfl
  · rename_i h1
    exact (Decidable.not_not.1 h1).symm
theorem f51 (n lo hi : Int) : CFun Tryz.prog 25 [.int .i64 n, .int .i64 lo, .int .i64 hi] [] (.bool (inR n lo hi)) [] := by
  refine CFun.intro (tr := []) (fz := []) (n := 15) (rs := [.tmp 6]) Tryz.func25 rfl (by kernel_rfl) rfl rfl mixed (by kernel_rfl) (by simp) (by simp) ?_
  by_cases h : lo ≤ n <;> simp [h, inR]
theorem f63 (n lo hi : Int) : CFun Tryz.prog 15 [.int .i64 n, .int .i64 lo, .int .i64 hi] [] (.bool (inR n lo hi)) [] := by
  refine CFun.intro (tr := []) (fz := []) (n := 15) (rs := [.tmp 6]) Tryz.func15 rfl (by kernel_rfl) rfl rfl mixed (by kernel_rfl) (by simp) (by simp) ?_
  by_cases h : lo ≤ n <;> simp [h, inR]
set_option maxHeartbeats 1000000 in
set_option maxRecDepth 10000 in
theorem f55 (k : LKey) : CFun Tryz.prog 37 [encY k] [] (.int .i64 (chkY k)) [] := by
  refine CFun.intro (tr := []) (fz := []) (n := 18) (rs := [.tmp 2]) Tryz.func37 rfl (by kernel_rfl) rfl rfl mixed (by kernel_rfl) (by simp) (by simp) ?_
  have h1 := fun H => (f51 k.Ty 1 5).up' H rfl rfl
  have h2 := fun H => (f51 k.Len 0 32).up' H rfl rfl
  simp only [chkY]
  simp
  refine ⟨_, _, .inl (by simpa using h1 _), by simp, ?_⟩
  cases inR k.Ty 1 5
  · simp
  by_cases e : k.Router = 0
  · simp [e]
  simp [e]
  refine ⟨_, _, .inl (by simpa using h2 _), by simp, ?_⟩
  cases inR k.Len 0 32 <;> simp
theorem f56 (k : LKey) : CFun Tryz.prog 38 [encY k] [] (encY (id k)) [] := by
  refine CFun.intro (tr := []) (fz := []) (n := 4) (rs := [.cell 2 59]) Tryz.func38 rfl (by kernel_rfl) rfl rfl mixed (by kernel_rfl) (by simp) (by simp) ?_
  simp
set_option maxHeartbeats 1000000 in
set_option maxRecDepth 10000 in
theorem f58 (l : Lsa) : CFun Tryz.prog 40 [encA l] [] (.int .i64 (sealE l)) [] := by
  refine CFun.intro (tr := []) (fz := []) (n := 11) (rs := [.tmp 2]) Tryz.func40 rfl (by kernel_rfl) rfl rfl mixed (by kernel_rfl) (by simp) (by simp) ?_
  have h1 := fun H => (c21 l).up' H rfl rfl
  simp
  refine ⟨_, _, .inl (h1 _), by simp, ?_⟩
  simp [encL_snd]
set_option maxHeartbeats 1000000 in
set_option maxRecDepth 10000 in
theorem f59 (l : Lsa) : CFun Tryz.prog 41 [encA l] [] (encY (keyA l)) [] := by
  refine CFun.intro (tr := []) (fz := []) (n := 6) (rs := [.cell 2 59]) Tryz.func41 rfl (by kernel_rfl) rfl rfl mixed (by kernel_rfl) (by simp) (by simp) ?_
  have h1 := fun H => (c25 l.H).up' H rfl rfl
  have e : keyH l.H = keyA l := rfl
  rw [e] at h1
  generalize keyA l = k at h1 ⊢
  simp
  refine ⟨_, _, .inl (by simpa using h1 _), by simp, ?_⟩
  simp
set_option maxHeartbeats 1000000 in
set_option maxRecDepth 10000 in
theorem f61 (h : Hdr) : CFun Tryz.prog 43 [encH h] [] (.int .i64 (chkH h)) [] := by
  refine CFun.intro (tr := []) (fz := []) (n := 11) (rs := [.tmp 2]) Tryz.func43 rfl (by kernel_rfl) rfl rfl mixed (by kernel_rfl) (by simp) (by simp) ?_
  have h1 := fun H => (c33 h).up' H rfl rfl
  simp
  refine ⟨_, _, .inl (h1 _), by simp, ?_⟩
  simp [ehL_snd]

set_option maxHeartbeats 2000000 in
set_option maxRecDepth 10000 in
theorem f54 (l : List LKey) (n : Nat) (hn : l.length = n) (hlen : n < 1099511627776000) : CFun Tryz.prog 36 [.sl 4 (l.map encY) .sh, .fn 37 [] [], .fn 38 [] []] [] (.int .i64 (listG chkY id l)) [] := by
  refine CFun.intro (tr := []) (fz := []) (n := 43) (rs := [.tmp 6]) Tryz.func36 rfl (by kernel_rfl) rfl rfl mixed (by kernel_rfl) (by simp) (by simp) ?_
  unfold listG
  by_cases h64 : 64 < n
  · have h64' : (64 : Int) < n := by omega
    simp [hn, h64, h64']
  have h64' : ¬ (64 : Int) < n := by omega
  simp [hn, h64, h64']
  refine LoopK.intro (tr := []) mixed (by kernel_rfl) (fun i : Nat => [(0, .sl 4 (l.map encY) .sh), (1, .fn 37 [] []), (2, .fn 38 [] []), (13, .sl 4 (l.map encY) .sh), (14, .int .i64 n), (15, .int .i64 i)]) (fun _ => []) (fun i => i ≤ n ∧ rowsG chkY id none l = rowsG chkY id (prevG l i) (l.drop i)) (fun i => n - i) 0 ?_ ?_ ?_
  · simp [prevG]
  · simp [low]
  · rintro i ⟨h1, h2⟩
    by_cases hi : i < n
    · obtain ⟨x, hx, hd⟩ := get_drop (l := l) (i := i) (by omega)
      rw [hd] at h2
      have w1 : IntKind.i64.wrap ((i : Int) + 1) = i + 1 := wrap_in (by omega)
      have hc := fun H => (f55 x).up' H rfl rfl
      have hK := fun H => (f56 x).up' H rfl rfl
      simp only [rowsG] at h2
      clear hd
      simp [hi, hn, hx, gE hx]
      refine ⟨_, _, .inl (by simpa [cargs] using hc _), by simp, ?_⟩
      by_cases e0 : chkY x = 0
      case neg =>
        rw [if_pos e0] at h2
        simp [e0, h2]
      rw [if_neg (by simpa using e0)] at h2
      cases i with
      | zero =>
        have w0 : IntKind.i64.wrap 1 = 1 := by decide
        simp only [prevG] at h2
        simp [e0, w0]
        exact ⟨1, ⟨by omega, by simpa [prevG, hx] using h2⟩, by omega, by simp [low]⟩
      | succ j =>
        obtain ⟨q, hq, _⟩ := get_drop (l := l) (i := j) (by omega)
        simp only [prevG, hq] at h2
        have w2 : IntKind.i64.wrap (j : Int) = j := wrap_in (by omega)
        have h0 : (0 : Int) < ((j + 1 : Nat) : Int) := by omega
        have hjn : j < n := by omega
        have hKq := fun H => (f56 q).up' H rfl rfl
        have hC := fun H => (c27 (id q) (id x)).up' H rfl rfl
        generalize ekq : id q = kq at hKq hC h2
        generalize ekx : id x = kx at hK hC h2
        simp only [Int.natCast_add, Int.natCast_one] at w1 h0
        simp [e0, w2, h0, hn, hq, gE hq, hjn, hx, gE hx, hi]
        refine ⟨_, _, .inl (by simpa [cargs] using hKq _), by simp, ?_⟩
        simp
        refine ⟨_, _, .inl (by simpa [cargs] using hK _), by simp, ?_⟩
        simp
        refine ⟨_, _, .inl (by simpa using hC _), by simp, ?_⟩
        by_cases ho : 0 ≤ cmpY kq kx
        · simp [ho] at h2
          simp [ho, h2]
        · simp [ho] at h2
          have w3 : IntKind.i64.wrap ((j : Int) + 2) = j + 2 := wrap_in (by omega)
          simp [ho, w1, w3]
          exact ⟨j + 1 + 1, ⟨by omega, by simpa [prevG, hx] using h2⟩, by omega, by simp [low]⟩
    · have e : l.drop i = [] := List.drop_of_length_le (by omega)
      rw [e] at h2
      simp [rowsG] at h2
      simp [hi, hn, h2]


set_option maxHeartbeats 2000000 in
set_option maxRecDepth 10000 in
theorem f57 (l : List Lsa) (n : Nat) (hn : l.length = n) (hlen : n < 1099511627776000) : CFun Tryz.prog 39 [.sl 15 (l.map encA) .sh, .fn 40 [] [], .fn 41 [] []] [] (.int .i64 (listG sealE keyA l)) [] := by
  refine CFun.intro (tr := []) (fz := []) (n := 43) (rs := [.tmp 6]) Tryz.func39 rfl (by kernel_rfl) rfl rfl mixed (by kernel_rfl) (by simp) (by simp) ?_
  unfold listG
  by_cases h64 : 64 < n
  · have h64' : (64 : Int) < n := by omega
    simp [hn, h64, h64']
  have h64' : ¬ (64 : Int) < n := by omega
  simp [hn, h64, h64']
  refine LoopK.intro (tr := []) mixed (by kernel_rfl) (fun i : Nat => [(0, .sl 15 (l.map encA) .sh), (1, .fn 40 [] []), (2, .fn 41 [] []), (13, .sl 15 (l.map encA) .sh), (14, .int .i64 n), (15, .int .i64 i)]) (fun _ => []) (fun i => i ≤ n ∧ rowsG sealE keyA none l = rowsG sealE keyA (prevG l i) (l.drop i)) (fun i => n - i) 0 ?_ ?_ ?_
  · simp [prevG]
  · simp [low]
  · rintro i ⟨h1, h2⟩
    by_cases hi : i < n
    · obtain ⟨x, hx, hd⟩ := get_drop (l := l) (i := i) (by omega)
      rw [hd] at h2
      have w1 : IntKind.i64.wrap ((i : Int) + 1) = i + 1 := wrap_in (by omega)
      have hc := fun H => (f58 x).up' H rfl rfl
      have hK := fun H => (f59 x).up' H rfl rfl
      simp only [rowsG] at h2
      clear hd
      simp [hi, hn, hx, gE hx]
      refine ⟨_, _, .inl (by simpa [cargs] using hc _), by simp, ?_⟩
      by_cases e0 : sealE x = 0
      case neg =>
        rw [if_pos e0] at h2
        simp [e0, h2]
      rw [if_neg (by simpa using e0)] at h2
      cases i with
      | zero =>
        have w0 : IntKind.i64.wrap 1 = 1 := by decide
        simp only [prevG] at h2
        simp [e0, w0]
        exact ⟨1, ⟨by omega, by simpa [prevG, hx] using h2⟩, by omega, by simp [low]⟩
      | succ j =>
        obtain ⟨q, hq, _⟩ := get_drop (l := l) (i := j) (by omega)
        simp only [prevG, hq] at h2
        have w2 : IntKind.i64.wrap (j : Int) = j := wrap_in (by omega)
        have h0 : (0 : Int) < ((j + 1 : Nat) : Int) := by omega
        have hjn : j < n := by omega
        have hKq := fun H => (f59 q).up' H rfl rfl
        have hC := fun H => (c27 (keyA q) (keyA x)).up' H rfl rfl
        generalize ekq : keyA q = kq at hKq hC h2
        generalize ekx : keyA x = kx at hK hC h2
        simp only [Int.natCast_add, Int.natCast_one] at w1 h0
        simp [e0, w2, h0, hn, hq, gE hq, hjn, hx, gE hx, hi]
        refine ⟨_, _, .inl (by simpa [cargs] using hKq _), by simp, ?_⟩
        simp
        refine ⟨_, _, .inl (by simpa [cargs] using hK _), by simp, ?_⟩
        simp
        refine ⟨_, _, .inl (by simpa using hC _), by simp, ?_⟩
        by_cases ho : 0 ≤ cmpY kq kx
        · simp [ho] at h2
          simp [ho, h2]
        · simp [ho] at h2
          have w3 : IntKind.i64.wrap ((j : Int) + 2) = j + 2 := wrap_in (by omega)
          simp [ho, w1, w3]
          exact ⟨j + 1 + 1, ⟨by omega, by simpa [prevG, hx] using h2⟩, by omega, by simp [low]⟩
    · have e : l.drop i = [] := List.drop_of_length_le (by omega)
      rw [e] at h2
      simp [rowsG] at h2
      simp [hi, hn, h2]


set_option maxHeartbeats 2000000 in
set_option maxRecDepth 10000 in
theorem f60 (l : List Hdr) (n : Nat) (hn : l.length = n) (hlen : n < 1099511627776000) : CFun Tryz.prog 42 [.sl 7 (l.map encH) .sh, .fn 43 [] [], .fn 44 [] []] [] (.int .i64 (listG chkH keyH l)) [] := by
  refine CFun.intro (tr := []) (fz := []) (n := 43) (rs := [.tmp 6]) Tryz.func42 rfl (by kernel_rfl) rfl rfl mixed (by kernel_rfl) (by simp) (by simp) ?_
  unfold listG
  by_cases h64 : 64 < n
  · have h64' : (64 : Int) < n := by omega
    simp [hn, h64, h64']
  have h64' : ¬ (64 : Int) < n := by omega
  simp [hn, h64, h64']
  refine LoopK.intro (tr := []) mixed (by kernel_rfl) (fun i : Nat => [(0, .sl 7 (l.map encH) .sh), (1, .fn 43 [] []), (2, .fn 44 [] []), (13, .sl 7 (l.map encH) .sh), (14, .int .i64 n), (15, .int .i64 i)]) (fun _ => []) (fun i => i ≤ n ∧ rowsG chkH keyH none l = rowsG chkH keyH (prevG l i) (l.drop i)) (fun i => n - i) 0 ?_ ?_ ?_
  · simp [prevG]
  · simp [low]
  · rintro i ⟨h1, h2⟩
    by_cases hi : i < n
    · obtain ⟨x, hx, hd⟩ := get_drop (l := l) (i := i) (by omega)
      rw [hd] at h2
      have w1 : IntKind.i64.wrap ((i : Int) + 1) = i + 1 := wrap_in (by omega)
      have hc := fun H => (f61 x).up' H rfl rfl
      have hK := fun H => (c25 x).up' H rfl rfl
      simp only [rowsG] at h2
      clear hd
      simp [hi, hn, hx, gE hx]
      refine ⟨_, _, .inl (by simpa [cargs] using hc _), by simp, ?_⟩
      by_cases e0 : chkH x = 0
      case neg =>
        rw [if_pos e0] at h2
        simp [e0, h2]
      rw [if_neg (by simpa using e0)] at h2
      cases i with
      | zero =>
        have w0 : IntKind.i64.wrap 1 = 1 := by decide
        simp only [prevG] at h2
        simp [e0, w0]
        exact ⟨1, ⟨by omega, by simpa [prevG, hx] using h2⟩, by omega, by simp [low]⟩
      | succ j =>
        obtain ⟨q, hq, _⟩ := get_drop (l := l) (i := j) (by omega)
        simp only [prevG, hq] at h2
        have w2 : IntKind.i64.wrap (j : Int) = j := wrap_in (by omega)
        have h0 : (0 : Int) < ((j + 1 : Nat) : Int) := by omega
        have hjn : j < n := by omega
        have hKq := fun H => (c25 q).up' H rfl rfl
        have hC := fun H => (c27 (keyH q) (keyH x)).up' H rfl rfl
        generalize ekq : keyH q = kq at hKq hC h2
        generalize ekx : keyH x = kx at hK hC h2
        simp only [Int.natCast_add, Int.natCast_one] at w1 h0
        simp [e0, w2, h0, hn, hq, gE hq, hjn, hx, gE hx, hi]
        refine ⟨_, _, .inl (by simpa [cargs] using hKq _), by simp, ?_⟩
        simp
        refine ⟨_, _, .inl (by simpa [cargs] using hK _), by simp, ?_⟩
        simp
        refine ⟨_, _, .inl (by simpa using hC _), by simp, ?_⟩
        by_cases ho : 0 ≤ cmpY kq kx
        · simp [ho] at h2
          simp [ho, h2]
        · simp [ho] at h2
          have w3 : IntKind.i64.wrap ((j : Int) + 2) = j + 2 := wrap_in (by omega)
          simp [ho, w1, w3]
          exact ⟨j + 1 + 1, ⟨by omega, by simpa [prevG, hx] using h2⟩, by omega, by simp [low]⟩
    · have e : l.drop i = [] := List.drop_of_length_le (by omega)
      rw [e] at h2
      simp [rowsG] at h2
      simp [hi, hn, h2]

end Go.Proofs.YtmgkemffbmfmpaaGreat
