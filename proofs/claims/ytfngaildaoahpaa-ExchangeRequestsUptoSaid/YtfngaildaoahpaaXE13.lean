import Derived.Test.YtfngaildaoahpaaXE6
set_option linter.unusedSimpArgs false
set_option linter.unusedVariables false
namespace Go.Proofs.Ytfngaildaoahpaa
open Go Go.Am
def prevA (l : List Lsa) : Nat → Option Lsa
 | 0 => none
 | i + 1 => l[i]?
theorem encL_cases (x : Lsa) : sealE x = if chkA x ≠ 0 then chkA x else if x.H.Sum = sumA x then 0 else 13 := by
 unfold sealE
 split
 · rfl
 · split <;> simp_all
set_option maxHeartbeats 8000000 in
set_option maxRecDepth 10000 in
theorem f67 (l : List Lsa) (n : Nat) (hn : l.length = n) (hlen : n < 1099511627776) (ok : ∀ x ∈ l, okA x) : CFun Try.prog 41 [.sl 15 (l.map encA) .sh] [] (.int .i64 (rowsE none l)) [] := by
 refine CFun.intro (tr := []) (fz := []) (n := 44) (rs := [.tmp 2]) Try.func41 rfl (by kernel_rfl) rfl rfl mixed (by kernel_rfl) (by simp) (by simp) ?_
 simp
 refine LoopK.intro (tr := []) mixed (by kernel_rfl) (fun i : Nat => [(0, .sl 15 (l.map encA) .sh), (3, .int .i64 i)]) (fun _ => []) (fun i => i ≤ n ∧ rowsE none l = rowsE (prevA l i) (l.drop i)) (fun i => n - i) 0 ?_ ?_ ?_
 · simp [prevA]
 · simp
 · rintro i ⟨h1, h2⟩
   by_cases hi : i < n
   · obtain ⟨x, hx, hd⟩ := get_drop (l := l) (i := i) (by omega)
     rw [hd] at h2
     have w1 : IntKind.i64.wrap ((i : Int) + 1) = i + 1 := wrap_in (by omega)
     have okx := ok x (List.mem_of_getElem? hx)
     have h33 := fun H => (c14 x okx).up' H rfl rfl
     have hK := fun H => (c26 x.H).up' H rfl rfl
     simp only [rowsE] at h2
     simp [hi, hn, hx, gE hx]
     refine ⟨_, _, .inl (by simpa using h33 _), by simp, ?_⟩
     have hse := encL_cases x
     by_cases e0 : chkA x = 0
     case neg =>
       rw [if_pos e0] at hse
       rw [hse, if_pos e0] at h2
       simp [e0, h2]
     have hl := chkA_len e0
     have h34 := fun H => (c22 x hl.1 hl.2).up' H rfl rfl
     rw [if_neg (by simpa using e0)] at hse
     clear hd
     simp [e0, hi, hn, hx, gE hx]
     refine ⟨_, _, .inl (by simpa using h34 _), by simp, ?_⟩
     by_cases e1 : x.H.Sum = sumA x
     case neg =>
       rw [if_neg e1] at hse
       rw [hse] at h2
       simp at h2
       simp [e1, h2]
     rw [if_pos e1] at hse
     rw [hse] at h2
     simp only [ne_eq, not_true, if_false] at h2
     cases i with
     | zero =>
       have w0 : IntKind.i64.wrap 1 = 1 := by decide
       simp only [prevA] at h2
       simp [e1, w0]
       exact ⟨1, ⟨by omega, by simpa [prevA, hx] using h2⟩, by omega, by simp⟩
     | succ j =>
       obtain ⟨q, hq, _⟩ := get_drop (l := l) (i := j) (by omega)
       simp only [prevA, hq] at h2
       have w2 : IntKind.i64.wrap (j : Int) = j := wrap_in (by omega)
       have h0 : (0 : Int) < ((j + 1 : Nat) : Int) := by omega
       have hjn : j < n := by omega
       have hKq := fun H => (c26 q.H).up' H rfl rfl
       have hC := fun H => (c28 (keyH q.H) (keyH x.H)).up' H rfl rfl
       have hkk : cmpY (keyA q) (keyA x) = cmpY (keyH q.H) (keyH x.H) := rfl
       rw [hkk] at h2
       generalize keyH q.H = kq at hKq hC h2
       generalize keyH x.H = kx at hK hC h2
       simp only [Int.natCast_add, Int.natCast_one] at w1 h0
       have hj0 : (0 : Int) ≤ (j : Int) + 1 := by omega
       simp [e1, w2, h0, hn, hq, gE hq, hjn, hx, gE hx, hi]
       refine ⟨_, _, .inl (by simpa using hKq _), by simp, ?_⟩
       simp [hn, hx, gE hx, hi, hj0]
       refine ⟨_, _, .inl (by simpa using hK _), by simp, ?_⟩
       simp
       refine ⟨_, _, .inl (by simpa using hC _), by simp, ?_⟩
       by_cases ho : 0 ≤ cmpY kq kx
       · simp [ho] at h2
         simp [ho, h2]
       · simp [ho] at h2
         have w3 : IntKind.i64.wrap ((j : Int) + 2) = j + 2 := wrap_in (by omega)
         simp [ho, w1, w3]
         exact ⟨j + 1 + 1, ⟨by omega, by simpa [prevA, hx] using h2⟩, by omega, by simp⟩
   · have e : l.drop i = [] := List.drop_of_length_le (by omega)
     rw [e] at h2
     simp [rowsE] at h2
     simp [hi, hn, h2]
set_option maxHeartbeats 4000000 in
set_option maxRecDepth 10000 in
theorem f24 (l : List Lsa) (n : Nat) (hn : l.length = n) (hlen : n < 1099511627776) (ok : ∀ x ∈ l, okA x) : CFun Try.prog 15 [.sl 15 (l.map encA) .sh] [] (.int .i64 (chkD l)) [] := by
 refine CFun.intro (tr := []) (fz := []) (n := 8) (rs := [.tmp 2]) Try.func15 rfl (by kernel_rfl) rfl rfl mixed (by kernel_rfl) (by simp) (by simp) ?_
 have h := f67 l n hn hlen ok
 unfold chkD
 by_cases h64 : 2000 < n
 · have h64' : (2000 : Int) < n := by omega
   simp [hn, h64, h64']
 · have h64' : ¬ (2000 : Int) < n := by omega
   simp [hn, h64, h64']
   refine ⟨_, _, .inl (by simpa using h), by simp, ?_⟩
   simp
end Go.Proofs.Ytfngaildaoahpaa

namespace Go.Proofs.Ytfngaildaoahpaa
open Go Go.Am
end Go.Proofs.Ytfngaildaoahpaa

namespace Go.Proofs.Ytfngaildaoahpaa
open Go Go.Am
end Go.Proofs.Ytfngaildaoahpaa

namespace Go.Proofs.Ytfngaildaoahpaa
open Go Go.Am
end Go.Proofs.Ytfngaildaoahpaa

namespace Go.Proofs.Ytfngaildaoahpaa
open Go Go.Am
end Go.Proofs.Ytfngaildaoahpaa

namespace Go.Proofs.Ytfngaildaoahpaa
open Go Go.Am
end Go.Proofs.Ytfngaildaoahpaa

namespace Go.Proofs.Ytfngaildaoahpaa
open Go Go.Am
end Go.Proofs.Ytfngaildaoahpaa
