import Derived.Test.YtlpgadlfpigbhaaL15
set_option linter.unusedSimpArgs false
set_option linter.unusedVariables false
namespace Go.Proofs.Ytlpgadlfpigbhaa
open Go Go.Am

set_option maxHeartbeats 4000000 in
set_option maxRecDepth 10000 in
theorem c24 (l : List Bnd) (n : Nat) (hn : (l.length : Int) = n) (hlen : n < 1099511627776) (p : Pfx) (peer : Int) : CFun Try.prog 24 [.sl 4 (l.map encB) .sh, encP p, .int .u32 peer] [] (.tup [.sl 4 ((delL l p peer).map encB) .sh, .bool (decide ((delL l p peer).length < l.length))]) [] := by
  refine CFun.intro (tr := [27]) (fz := []) (n := 38) (rs := [.tmp 6, .tmp 7]) Try.func24 rfl (by kernel_rfl) rfl rfl mixed (by kernel_rfl) (by simp) (by simp) ?_
  simp [hn]
  refine LoopK.intro (tr := [27]) mixed (by kernel_rfl) (fun i : Nat × List Bnd => [(0, .sl 4 (l.map encB) .sh), (2, .int .u32 peer), (4, .ptr 0 0), (8, .sl 4 (i.2.map encB) .own), (11, .sl 4 (l.map encB) .sh), (12, .int .i64 n), (13, .int .i64 i.1)]) (fun _ => [cellsP p]) (fun i => i.1 ≤ n ∧ i.2.length ≤ i.1 ∧ delL l p peer = i.2 ++ delL (l.drop i.1) p peer) (fun i => n - i.1) (0, []) ?_ ?_ ?_
  · simp
  · simp
  · rintro ⟨i, out⟩ ⟨h1, h2, h3⟩
    simp only at h1 h2 h3
    have hln : l.length = n := by omega
    by_cases hi : i < n
    · obtain ⟨x, hx, hd⟩ := get_drop (l := l) (i := i) (by omega)
      rw [hd] at h3
      have w1 : IntKind.i64.wrap ((i : Int) + 1) = i + 1 := wrap_in (by omega)
      have s1 : (out.length + 1) * 32 ≤ 140737488355328 := by omega
      have s2 : out.length + 1 ≤ 140737488355328 := by omega
      clear hd hn hln
      have keep : isB p peer x = false → delL l p peer = (out ++ [x]) ++ delL (l.drop (i + 1)) p peer := by
        intro hp; rw [h3]; simp [delL, hp]
      by_cases a1 : x.P.Addr = p.Addr
      · by_cases a2 : x.P.Len = p.Len
        · by_cases a3 : x.Peer = peer
          · have hp : isB p peer x = true := by simp [isB, a3]; cases h : x.P; cases p; simp_all
            simp [hi, hx, a1, a2, a3, w1]
            refine ⟨i + 1, out, ⟨by omega, by omega, ?_⟩, by omega, ?_⟩
            · rw [h3]; simp [delL, hp]
            · simp
          · have hp : isB p peer x = false := by simp [isB, a3]
            simp [hi, hx, a1, a2, a3, w1, s1, s2]
            exact ⟨i + 1, out ++ [x], ⟨by omega, by simp; omega, keep hp⟩, by omega, by simp; exact ⟨a1.symm, a2.symm⟩, by simp⟩
        · have hp : isB p peer x = false := by simp [isB]; intro e; rw [e] at a2; exact absurd rfl a2
          simp [hi, hx, a1, a2, w1, s1, s2]
          exact ⟨i + 1, out ++ [x], ⟨by omega, by simp; omega, keep hp⟩, by omega, by simp; exact a1.symm, by simp⟩
      · have hp : isB p peer x = false := by simp [isB]; intro e; rw [e] at a1; exact absurd rfl a1
        simp [hi, hx, a1, w1, s1, s2]
        exact ⟨i + 1, out ++ [x], ⟨by omega, by simp; omega, keep hp⟩, by omega, by simp, by simp⟩
    · have e : l.drop i = [] := List.drop_of_length_le (by omega)
      rw [e] at h3
      have h3' : delL l p peer = out := by rw [h3]; simp [delL]
      simp [hi, h3', hln]

set_option maxHeartbeats 4000000 in
set_option maxRecDepth 10000 in
theorem c25 (l q : List Bnd) (n : Nat) (hn : l.length = n) (m : Nat) (hm : q.length = m) (hlen : n < 1099511627776) : CFun Try.prog 25 [.sl 4 (l.map encB) .sh, .sl 4 (q.map encB) .sh] [] (.bool (decide (l = q))) [] := by
  refine CFun.intro (tr := []) (fz := []) (n := 26) (rs := [.tmp 4]) Try.func25 rfl (by kernel_rfl) rfl rfl mixed (by kernel_rfl) (by simp) (by simp) ?_
  by_cases hnm : n = m
  case neg =>
    have : l ≠ q := by rintro rfl; exact hnm (hn.symm.trans hm)
    have hnm' : ¬ (n : Int) = m := by omega
    simp [hn, hm, hnm', this]
  subst hnm
  simp [hn, hm]
  refine LoopK.intro (tr := []) mixed (by kernel_rfl) (fun i : Nat => [(0, .sl 4 (l.map encB) .sh), (1, .sl 4 (q.map encB) .sh), (12, .sl 4 (l.map encB) .sh), (13, .int .i64 n), (14, .int .i64 i)]) (fun _ => []) (fun i => i ≤ n ∧ (l = q ↔ l.drop i = q.drop i)) (fun i => n - i) 0 ?_ ?_ ?_
  · simp
  · simp
  · rintro i ⟨h1, h2⟩
    by_cases hi : i < n
    · obtain ⟨r, hx, hd⟩ := get_drop (l := l) (i := i) (by omega)
      obtain ⟨t, hy, he⟩ := get_drop (l := q) (i := i) (by omega)
      rw [hd, he, List.cons.injEq] at h2
      have w1 : IntKind.i64.wrap ((i : Int) + 1) = i + 1 := wrap_in (by omega)
      have hext : r = t ↔ (r.P.Addr = t.P.Addr ∧ r.P.Len = t.P.Len) ∧ r.Peer = t.Peer ∧ r.Label = t.Label := by
        cases r with | mk rp _ _ => cases t with | mk tp _ _ => cases rp; cases tp; simp [and_assoc]
      clear hn hm hd he
      by_cases hrt : r = t
      · subst hrt
        simp [hi, hx, hy, w1]
        exact ⟨i + 1, ⟨by omega, by simpa using h2⟩, by omega, by simp⟩
      · have hne : ¬ (l = q) := by rw [h2]; simp [hrt]
        rw [hext] at hrt
        by_cases b1 : r.P.Addr = t.P.Addr <;> by_cases b2 : r.P.Len = t.P.Len <;> by_cases b3 : r.Peer = t.Peer <;> by_cases b4 : r.Label = t.Label <;> simp [b1, b2, b3, b4] at hrt <;>
          simp [hi, hx, hy, b1, b2, b3, b4, hne]
    · have e : l.drop i = [] := List.drop_of_length_le (by omega)
      have e' : q.drop i = [] := List.drop_of_length_le (by omega)
      rw [e, e'] at h2
      simp [hi, h2]

end Go.Proofs.Ytlpgadlfpigbhaa
