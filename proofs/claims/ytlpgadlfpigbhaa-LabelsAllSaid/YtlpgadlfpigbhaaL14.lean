import Derived.Test.YtlpgadlfpigbhaaL13
set_option linter.unusedSimpArgs false
set_option linter.unusedVariables false
namespace Go.Proofs.Ytlpgadlfpigbhaa
open Go Go.Am

/-- One inserted. -/
def insB (l : List Bnd) (i : Nat) (b : Bnd) : List Bnd := l.take i ++ b :: l.drop i
theorem insB_len {l : List Bnd} {i : Nat} {b : Bnd} (h : i ≤ l.length) : (insB l i b).length = l.length + 1 := by
  simp [insB]; omega

theorem no45 {k1 : Nat} {xs : List AVal} {mm : Am.Mode} {id off len : Nat} {cap : Option Nat} {k2 : Nat} {H : List (List AVal)} {cs : List AVal} (hid : H[id]? = some cs) (hne : cs ≠ []) : EFun Try.prog 45 [.sl k1 xs mm, .osl id off len cap k2] H (.bool false) :=
  overlaps_no (fn := Try.f45) Try.func45 (by kernel_rfl) (by decide +kernel) (by kernel_rfl) (by kernel_rfl) (t := 38) (k := 4) (by kernel_rfl) (by simp) hid hne

theorem flatB_app (l m : List Bnd) : flatB (l ++ m) = flatB l ++ flatB m := by simp [flatB]
theorem flatB_take (l : List Bnd) (i : Nat) : (flatB l).take (i * 4) = flatB (l.take i) := by
  induction i generalizing l with
  | zero => simp [flatB]
  | succ i ih =>
    cases l with
    | nil => simp [flatB]
    | cons b l =>
      have e : flatB (b :: l) = cellsB b ++ flatB l := rfl
      have e2 : (i + 1) * 4 = (cellsB b).length + i * 4 := by simp [cellsB]; omega
      rw [e, e2, List.take_length_add_append, ih]
      rfl
theorem flatB_tree (l : List Bnd) : (flatB l).all AVal.tree = true := by
  induction l with
  | nil => rfl
  | cons b l ih => simp only [flatB, List.flatMap_cons, List.all_append] at ih ⊢; rw [ih]; rfl
theorem flatB_scalar (l : List Bnd) : (flatB l).all AVal.scalar = true := by
  induction l with
  | nil => rfl
  | cons b l ih => simp only [flatB, List.flatMap_cons, List.all_append] at ih ⊢; rw [ih]; rfl
theorem chunk_flatB (l : List Bnd) (n : Nat) (h : l.length = n) : chunk true (flatB l) 0 4 n = l.map encB := by
  subst h
  apply List.ext_getElem?
  intro q
  simp only [chunk, List.getElem?_map, if_true]
  by_cases hq : q < l.length
  · have hx : l[q]? = some l[q] := List.getElem?_eq_getElem hq
    rw [List.getElem?_range hq, hx]
    simp only [Option.map_some, Nat.zero_add]
    rw [flatB_drop, List.drop_eq_getElem_cons hq]
    rfl
  · rw [List.getElem?_eq_none (by simpa using hq), List.getElem?_eq_none (by simpa using hq)]
    rfl
/-- A stretch of a row is overwritten. -/
theorem setR_mid (pre rest ys : List AVal) (h : ys.length ≤ rest.length) (off : Nat) (ho : off = pre.length) : setR (pre ++ rest) off ys = pre ++ (ys ++ rest.drop ys.length) := by
  subst ho
  induction ys generalizing pre rest with
  | nil => simp [setR]
  | cons y ys ih =>
    cases rest with
    | nil => simp at h
    | cons r rest =>
      simp only [setR]
      have e1 : (pre ++ r :: rest).set pre.length y = (pre ++ [y]) ++ rest := by simp
      have e2 : pre.length + 1 = (pre ++ [y]).length := by simp
      rw [e1, e2, ih (pre ++ [y]) rest (by simpa using h)]
      simp
theorem setR_flat (l : List Bnd) (i : Nat) (hi : i = l.length) (rest : List AVal) (m : List Bnd) (h : m.length * 4 ≤ rest.length) : setR (flatB l ++ rest) (i * 4) (flatB m) = flatB (l ++ m) ++ rest.drop (m.length * 4) := by
  rw [setR_mid _ _ _ (by rw [flatB_len]; exact h) _ (by rw [flatB_len, hi]), flatB_app, flatB_len, List.append_assoc]

set_option maxHeartbeats 2000000 in
set_option maxRecDepth 10000 in
theorem c40k (l : List Bnd) (i n C M : Nat) (hn : l.length = n) (hlen : n < 1099511627776) (hC : n ≤ C) (hM : (C - n) * 4 ≤ M) (hi : i ≤ n) (b : Bnd) : CFun Try.prog 40 [.osl 0 0 n (some C) 4, .int .i64 i, .sl 4 [encB b] .sh] [flatB l ++ List.replicate (M) .undef]
    (.sl 4 ((insB l i b).map encB) .sh) [[]] := by
  refine CFun.intro (tr := [100025, 100040]) (fz := [(6, 0, true), (6, 1, true)]) (n := 95) (rs := [.tmp 6]) Try.func40 rfl (by kernel_rfl) rfl rfl mixed (by kernel_rfl) (by simp) (by simp) ?_
  have s1 : (n:Int) + 1 < 1099511627777 := by omega
  have w1 : IntKind.i64.wrap ((n : Int) + 1) = n + 1 := wrap_in (by omega)
  have w2 : IntKind.i64.wrap ((i : Int) + 1) = i + 1 := wrap_in (by omega)
  have w3 : IntKind.i64.wrap ((n : Int) + 1 - i) = n + 1 - i := wrap_in (by omega)
  have hfl := flatB_len l
  have hil := insB_len (b := b) (l := l) (i := i) (by omega)
  have hch := chunk_flatB (insB l i b) (n + 1) (by omega)
  have htr := flatB_tree (insB l i b)
  have hcb : cellsB b = flatB [b] := rfl
  have hsrc : asrc [flatB l ++ List.replicate (M) AVal.undef] (.osl 0 0 i (some C) 4) = some (4, i, flatB (l.take i)) := by
    unfold asrc
    by_cases h0 : i = 0
    · subst h0; rfl
    · simp only [h0, if_false, List.getElem?_cons_zero, Option.bind_some]
      rw [if_pos (by rw [List.length_append, hfl]; simp; omega), List.drop_zero, List.take_append_of_le_length (by omega), flatB_take]
  have hsb : ∀ H, asrc H (.sl 4 [encB b] .sh) = some (4, 1, flatB [b]) := fun H => rfl
  have hbl : (flatB [b]).length = 4 := rfl
  by_cases h1 : i = n
  · subst h1
    have z1 : (i + 1) * 32 ≤ 140737488355328 := by omega
    have z2 : i ≤ 140737488355327 := by omega
    have e1 : l.take i = l := List.take_of_length_le (by omega)
    have e2 : insB l i b = l ++ [b] := by simp [insB, e1, List.drop_of_length_le (show l.length ≤ i by omega)]
    rw [e1] at hsrc
    rw [e2] at hch htr hil ⊢
    rw [hn] at hil hfl
    have hto : ∀ rest, (flatB (l ++ [b]) ++ rest).take ((i + 1) * 4) = flatB (l ++ [b]) := by
      intro rest
      rw [List.take_append_of_le_length (by rw [flatB_len, hil]; omega), List.take_of_length_le (by rw [flatB_len, hil]; omega)]
    have hL : (flatB (l ++ [b])).length = (i + 1) * 4 := by rw [flatB_len, hil]
    have hL0 : 0 < (i + 1) * 4 := by omega
    by_cases h2 : C < i + 1
    · have ht1 := hto []
      rw [List.append_nil] at ht1
      simp [hsrc, hsb, -asrc, z1, z2, h2, -encB, flatB_dis, ← flatB_app, -List.all_eq_true, ht1, htr, hch, flatB_scalar, hL]
      trace_state
    · have hfit : (i + 1) * 4 ≤ i * 4 + M := by omega
      have hset := setR_flat l i hn.symm (List.replicate (M) AVal.undef) [b] (by simp; omega)
      have h0' : 0 < (i + 1) * 4 + (M - 4) := by omega
      simp [hsrc, hsb, -asrc, z1, z2, h2, hfl, hfit, hset, -encB, -setR, flatB_dis, flatB_scalar, -List.all_eq_true, hL, hto, hch, htr, h0']
  · have h1' : ¬ ((i:Int) = n) := by omega
    have hsrc2 : ∀ X, asrc ((flatB l ++ List.replicate (M) AVal.undef) :: X) (.osl 0 (i * 4) (n - i) (some (C - i)) 4) = some (4, n - i, flatB (l.drop i)) := by
      intro X
      unfold asrc
      simp only [show ¬ n - i = 0 by omega, if_false, List.getElem?_cons_zero, Option.bind_some]
      rw [if_pos (by rw [List.length_append, hfl]; simp; omega), List.drop_append_of_le_length (by omega), flatB_drop, List.take_append_of_le_length (by rw [flatB_len]; simp; omega), List.take_of_length_le (by rw [flatB_len]; simp; omega)]
    have hiC : i ≤ C := by omega
    have hp0 : (0 : Int) ≤ (i : Int) + 1 := by omega
    have hp1 : 0 < (n + 1) * 4 := by omega
    have hi1 : i ≤ n + 1 := by omega
    have hnat : ((n : Int) + 1 - i).toNat = n + 1 - i := by omega
    have hti : (flatB (l.take i)).length = i * 4 := by rw [flatB_len, List.length_take]; congr 1; omega
    have hdr : (flatB (l.drop i)).length = (n - i) * 4 := by rw [flatB_len, List.length_drop, hn]
    have hbt : (flatB [b]).take 4 = flatB [b] := rfl
    have hLL : (flatB (insB l i b)).length = (n + 1) * 4 := by rw [flatB_len, hil, hn]
    have hto : ∀ rest, (flatB (insB l i b) ++ rest).take ((n + 1) * 4) = flatB (insB l i b) := by
      intro rest
      rw [List.take_append_of_le_length (by rw [hLL]; omega), List.take_of_length_le (by rw [hLL]; omega)]
    have hdr2 : (flatB (l.drop i)).take ((n - i) * 4) = flatB (l.drop i) := List.take_of_length_le (by rw [hdr]; omega)
    by_cases h2 : C < n + 1
    · have h2' : ((C:Int) < n + 1) := by omega
      have y1 : (i : Int) ≤ n + 1 := by omega
      have y2 : ((n : Int) + 1 - i) * 32 ≤ 281474976710656 := by omega
      have y3 : (n + 1) * 32 ≤ 140737488355328 := by omega
      have y4 : n ≤ 140737488355327 := by omega
      have m1 : ¬ n + 1 - i = 0 := by omega
      have m2 : min 1 (n + 1 - i) = 1 := by omega
      have m3 : min (n - i) (n - i) = n - i := by omega
      have m4 : ¬ n - i = 0 := by omega
      have m5 : n + 1 - (i + 1) = n - i := by omega
      have hq : 0 < (n + 1) * 4 + ((n + 1 - i) * 4 - 4 - (l.length - i) * 4) := by omega
      have hset1 := setR_flat (l.take i) i (by simp; omega) (List.replicate ((n + 1 - i) * 4) AVal.undef) [b] (by simp; omega)
      have hset2 := setR_flat (l.take i ++ [b]) (i + 1) (by simp; omega) (List.replicate ((n + 1 - i) * 4 - 4) AVal.undef) (l.drop i) (by simp; omega)
      have hins : l.take i ++ [b] ++ l.drop i = insB l i b := by simp [insB]
      rw [hins] at hset2
      have hft1 : i * 4 + 4 ≤ i * 4 + (n + 1 - i) * 4 := by omega
      have hft2 : i + 1 ≤ n + 1 := by omega
      have hft3 : (i + 1) * 4 + (n - i) * 4 ≤ i * 4 + (n + 1 - i) * 4 := by omega
      have hft4 : (i + 1) * 4 + (n - i) * 4 ≤ (flatB (l.take i ++ [b])).length + ((n + 1 - i) * 4 - 4) := by rw [flatB_len]; simp; omega
      simp [hp0, hp1, y1, y2, y3, y4, m1, m2, m3, m4, m5, hbt, hset1, hset2, hft1, hft2, hft3, hti, hft4, hto, hch, htr, hdr, hdr2, hLL, hi, hiC, hi1, h1, h2, h1', h2', w1, w2, w3, hsrc, hsrc2, hsb, -asrc, -encB, -setR, flatB_dis, flatB_scalar, -List.all_eq_true, hnat, hq]
    · have h2' : ¬ ((C:Int) < n + 1) := by omega
      have y1 : (n : Int) + 1 ≤ C := by omega
      have y2 : n + 1 ≤ C := by omega
      have y3 : (0 : Int) ≤ (n : Int) + 1 := by omega
      have y4 : i + 1 ≤ n + 1 := by omega
      have m5 : n + 1 - (i + 1) = n - i := by omega
      have m4 : ¬ n - i = 0 := by omega
      have m6 : min (n + 1 - i) (n - i) = n - i := by omega
      have m7 : min 1 (n + 1 - i) = 1 := by omega
      obtain ⟨x, hx, hd⟩ := get_drop (l := l) (i := i) (by omega)
      have hl1 : l = l.take (i + 1) ++ l.drop (i + 1) := (List.take_append_drop _ _).symm
      have hsrc3 : asrc [flatB l ++ List.replicate (M) AVal.undef] (.osl 0 (i * 4) (n + 1 - i) (some (C - i)) 4) = some (4, n + 1 - i, flatB (l.drop i) ++ List.replicate 4 .undef) := by
        unfold asrc
        simp only [show ¬ n + 1 - i = 0 by omega, if_false, List.getElem?_cons_zero, Option.bind_some]
        rw [if_pos (by rw [List.length_append, hfl]; simp; omega), List.drop_append_of_le_length (by omega), flatB_drop]
        have e : (n + 1 - i) * 4 = (flatB (l.drop i)).length + 4 := by rw [hdr]; omega
        rw [e, List.take_length_add_append, List.take_replicate, show min 4 (M) = 4 by omega]
      have htk : (flatB (l.drop i) ++ List.replicate 4 AVal.undef).take ((n - i) * 4) = flatB (l.drop i) := by
        rw [← hdr, List.take_left']; rfl
      have hset1 : setR (flatB l ++ List.replicate (M) AVal.undef) ((i + 1) * 4) (flatB (l.drop i)) = flatB (l.take (i + 1) ++ l.drop i) ++ List.replicate (M - 4) .undef := by
        have := setR_flat (l.take (i + 1)) (i + 1) (by simp; omega) (flatB (l.drop (i + 1)) ++ List.replicate (M) AVal.undef) (l.drop i) (by simp [flatB_len]; omega)
        rw [← List.append_assoc, ← flatB_app, ← hl1] at this
        rw [this]
        congr 1
        have e : (l.drop i).length * 4 = (flatB (l.drop (i + 1))).length + 4 := by rw [flatB_len]; simp; omega
        rw [e, ← List.drop_drop, List.drop_left]
        simp
      have hset2 : setR (flatB (l.take (i + 1) ++ l.drop i) ++ List.replicate (M - 4) .undef) (i * 4) (flatB [b]) = flatB (insB l i b) ++ List.replicate (M - 4) .undef := by
        have := setR_flatB (l.take (i + 1) ++ l.drop i) i b (by simp; omega) (List.replicate (M - 4) AVal.undef)
        rw [hcb] at this
        rw [this]
        congr 2
        rw [insB, List.take_add_one, hx]
        simp [List.set_append, hn, hi, show min i n = i by omega]
      have hq : 0 < (n + 1) * 4 + (M - 4) := by omega
      have hf1 : (i + 1) * 4 + (n - i) * 4 ≤ n * 4 + M := by omega
      have hf2 : i * 4 + 4 ≤ (flatB (l.take (i + 1) ++ l.drop i)).length + (M - 4) := by rw [flatB_len]; simp; omega
      have h45 := no45 (k1 := 4) (xs := [encB b]) (mm := .sh) (id := 0) (off := (i + 1) * 4) (len := n - i) (cap := some (C - (i + 1))) (k2 := 4) (H := [flatB l ++ List.replicate (M) AVal.undef]) rfl (by intro e; have := congrArg List.length e; rw [List.length_append, hfl] at this; simp at this; omega)
      rw [hn] at hfl
      simp [hp0, hp1, y1, y2, y3, y4, m4, m5, m6, m7, hfl, hi, hiC, hi1, h1, h2, h1', h2', w1, w2, w3, hsb, -asrc, -encB, -setR, flatB_dis, flatB_scalar, -List.all_eq_true]
      refine ⟨_, _, .inr ⟨rfl, h45⟩, trivial, ?_⟩
      simp [hq, hp0, hp1, y1, y2, y3, y4, m4, m5, m6, m7, hfl, hf1, hf2, hset1, hset2, htk, hbt, hi, hiC, hi1, h1, h2, h1', h2', w1, w2, w3, hsb, hsrc3, hto, hch, htr, hdr, hLL, -asrc, -encB, -setR, flatB_dis, flatB_scalar, -List.all_eq_true]

theorem c40 (l : List Bnd) (i n m : Nat) (hn : l.length = n) (hlen : n < 1099511627776) (hi : i ≤ n) (b : Bnd) (hne : n + m ≠ 0) : CFun Try.prog 40 [.osl 0 0 n none 4, .int .i64 i, .sl 4 [encB b] .sh] [flatB l ++ List.replicate m .undef]
    (.sl 4 ((insB l i b).map encB) .sh) [[]] := by
  have hfl := flatB_len l
  have hlen' : (flatB l ++ List.replicate m AVal.undef).length = n * 4 + m := by simp [hfl, hn]
  have hne' : flatB l ++ List.replicate m AVal.undef ≠ [] := by
    intro e
    rw [e] at hlen'
    simp at hlen'
    omega
  refine CFun.reveal (id := 0) (off := 0) (len := n) (k := 4) (cs := flatB l ++ List.replicate m .undef) 0 rfl rfl hne' (fun C hC => ?_) (fun C hC h0 => ?_)
  · have h := c40k l i n C (m + (0 + C * 4 - (n * 4 + m))) hn hlen hC (by omega) hi b
    rw [← List.replicate_append_replicate, ← List.append_assoc] at h
    rw [hlen']
    exact h
  · subst h0
    have hn0 : n = 0 := by omega
    have h := c40k l i n 0 m hn hlen hC (by omega) hi b
    exact h

set_option maxHeartbeats 2000000 in
set_option maxRecDepth 10000 in
theorem c40e (b : Bnd) : CFun Try.prog 40 [.sl 4 [] .full, .int .i64 0, .sl 4 [encB b] .sh] [] (.sl 4 [encB b] .sh) [] := by
  refine CFun.intro (tr := []) (fz := []) (n := 95) (rs := [.tmp 6]) Try.func40 rfl (by kernel_rfl) rfl rfl mixed (by kernel_rfl) (by simp) (by simp) ?_
  simp
end Go.Proofs.Ytlpgadlfpigbhaa
