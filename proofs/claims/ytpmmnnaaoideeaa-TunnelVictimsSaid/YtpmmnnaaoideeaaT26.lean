/- The law of the tunnels that give way, by the program. -/
import Derived.Test.YtpmmnnaaoideeaaT25
import Derived.Test.YtpmmnnaaoideeaaT20
set_option linter.unusedSimpArgs false
set_option linter.unusedVariables false
namespace Go.Proofs.Ytpmmnnaaoideeaa
open Go Go.Am Go.Wk

theorem vicL_len (l : List Lnk) (ts : List Tun) (us : List Int) (c : Con) : ∀ (f : Nat) (r : List Lnk) (ch ids : List Int), (vicL l ts us c f r ch ids).1.length ≤ ids.length + f := by
  intro f
  induction f with
  | zero => intro r ch ids; simp [vicL]
  | succ f ih =>
    intro r ch ids
    simp only [vicL]
    split
    · simp
    split
    · simp
    · refine Nat.le_trans (ih _ _ _) ?_
      simp
      omega
theorem vicN_len (l : List Lnk) (ts : List Tun) (p : List Int) (c : Con) : (vicN l ts p c).1.length ≤ ts.length + 1 := by
  unfold vicN
  split
  · simp
  split
  · simp
  · have := vicL_len l ts (usesL l p) c (ts.length + 1) l [] []
    simpa using this
set_option maxHeartbeats 16000000 in
set_option maxRecDepth 10000 in
theorem t5 (l : List Lnk) (n : Nat) (hn : l.length = n) (ts : List Tun) (R : Nat) (hr : ts.length = R) (hr2 : R < 9223372036854775807) (hts : ∀ t ∈ ts, inI t.W.Hold) (p : List Int) (m : Nat) (hm : p.length = m) (c : Con) :
    CFun Try.prog 5 [.sl 13 (l.map encL) .sh, .sl 12 (ts.map encT) .sh, .sl 1 (p.map encI) .sh, encC c] [] (.bool true) [] := by
  refine CFun.intro (tr := []) (fz := []) (n := 67) (rs := [.tmp 8]) Try.func5 rfl (by kernel_rfl) rfl rfl mixed (by kernel_rfl) (by simp) (by simp) ?_
  have h9 := fun H => t9.up' H rfl rfl
  obtain ⟨b, h8, hb⟩ := t8L 0 l n hn ts R hr hr2
  have h8 := fun H => h8.up' H rfl rfl
  cases b with
  | true =>
    simp
    refine ⟨_, _, .inl (by simpa using h8 _), by simp, ?_⟩
    simp
    refine ⟨_, _, .inl (by simpa using h9 _), by simp, ?_⟩
    simp
  | false =>
  obtain ⟨_, c2, c3, c4⟩ := hb rfl
  by_cases b2 : 30 < m
  · have b2' : (30 : Int) < m := by omega
    simp [hm]
    refine ⟨_, _, .inl (by simpa using h8 _), by simp, ?_⟩
    simp [hm, b2, b2']
    refine ⟨_, _, .inl (by simpa using h9 _), by simp, ?_⟩
    simp
  have b2' : ¬ (30 : Int) < m := by omega
  have h12 := fun H => (t12 l n hn (by omega)).up' H rfl rfl
  by_cases b3 : l.any bigL = true
  · rw [b3] at h12
    simp [hm]
    refine ⟨_, _, .inl (by simpa using h8 _), by simp, ?_⟩
    simp [hm, b2, b2']
    refine ⟨_, _, .inl (by simpa using h12 _), by simp, ?_⟩
    simp
    refine ⟨_, _, .inl (by simpa using h9 _), by simp, ?_⟩
    simp
  have b3' : l.any bigL = false := by simpa using b3
  rw [b3'] at h12
  have hB := big_false b3'
  simp [hm]
  refine ⟨_, _, .inl (by simpa using h8 _), by simp, ?_⟩
  simp [hm, b2, b2']
  refine ⟨_, _, .inl (by simpa using h12 _), by simp, ?_⟩
  simp [hr]
  clear h8 h12 hb
  refine LoopK.intro (tr := []) mixed (by kernel_rfl) (fun i : Nat => [(0, .sl 13 (l.map encL) .sh), (1, .sl 12 (ts.map encT) .sh), (2, .sl 1 (p.map encI) .sh), (7, .ptr 0 0), (28, .sl 12 (ts.map encT) .sh), (29, .int .i64 R), (30, .int .i64 i)]) (fun _ => [cellsC c])
    (fun i => i ≤ R ∧ ∀ (j : Nat) (t : Tun), j < i → ts[j]? = some t → t.W.Band ≤ 1099511627776) (fun i => R - i) 0 ?_ ?_ ?_
  · exact ⟨by omega, fun j t hj => by omega⟩
  · simp
  rintro i ⟨i1, i2⟩
  by_cases hi : i < R
  case pos =>
    obtain ⟨t, ht⟩ : ∃ t, ts[i]? = some t := ⟨_, List.getElem?_eq_getElem (by omega)⟩
    have w1 : IntKind.i64.wrap ((i : Int) + 1) = i + 1 := wrap_in (by omega)
    by_cases g : 1099511627776 < t.W.Band
    · simp [hi, hr, ht, gE ht, g]
      refine ⟨_, _, .inl (by simpa using h9 _), by simp, ?_⟩
      simp
    · simp [hi, hr, ht, gE ht, g, w1]
      refine ⟨i + 1, ⟨by omega, fun j u hj hu => ?_⟩, by omega, by simp⟩
      by_cases e : j = i
      · subst e
        rw [ht] at hu
        injection hu with hu
        subst hu
        omega
      · exact i2 j u (by omega) hu
  have hall : ∀ t ∈ ts, t.P.length ≤ 30 ∧ t.W.Band ≤ 1099511627776 ∧ inI t.W.Hold := by
    intro t ht
    obtain ⟨j, hj, he⟩ := List.getElem_of_mem ht
    exact ⟨(c4 t ht).1, i2 j t (by omega) (by rw [List.getElem?_eq_getElem hj, he]), hts t ht⟩
  have h18 := fun H => (t18 l n hn (by omega) hB ts R hr (by omega) hall p m hm (by omega) c).up' H (by simp [noid, noid0]) (by simp [noid, noid0])
  have h19 := fun H => (t19 l n hn (by omega) hB ts R hr (by omega) hall p m hm (by omega) c).up' H (by simp [noid, noid0]) (by simp [noid, noid0])
  have hl := vicN_len l ts p c
  generalize vicN l ts p c = V at *
  have h20 := fun H => (c17 V.1 V.1 _ _ rfl rfl (by omega) (by omega)).up' H rfl rfl
  simp [hi]
  refine ⟨_, _, .inl (by simpa using h18 _), by simp, ?_⟩
  simp
  refine ⟨_, _, .inl (by simpa using h19 _), by simp, ?_⟩
  simp
  refine ⟨_, _, .inl (by simpa using h9 _), by simp, ?_⟩
  simp
  refine ⟨_, _, .inl (by simpa using h20 _), by simp, ?_⟩
  simp
end Go.Proofs.Ytpmmnnaaoideeaa
