import Derived.Test.YtlpgadlfpigbhaaL11
set_option linter.unusedSimpArgs false
set_option linter.unusedVariables false
namespace Go.Proofs.Ytlpgadlfpigbhaa
open Go Go.Am

/-- What DeleteFunc leaves in the row. -/
def delRow (p : Bnd → Bool) (l : List Bnd) : List AVal := flatB (l.filter fun x => !p x) ++ List.replicate ((l.length - (l.filter fun x => !p x).length) * 4) .undef

theorem undef_le (n k : Nat) : LeCells n (List.replicate k AVal.undef) (List.replicate k AVal.undef) := by
  induction k with
  | zero => simp
  | succ k ih => simp only [List.replicate_succ]; exact ⟨LeV_undef _, rfl, ih⟩
theorem row_le (n k : Nat) (l : List Bnd) : LeCells n (flatB l ++ List.replicate k AVal.undef) (flatB l ++ List.replicate k AVal.undef) := by
  induction l with
  | nil => exact undef_le n k
  | cons b l ih => simp only [flatB, List.flatMap_cons, cellsB, List.cons_append, List.nil_append] at ih ⊢; simpa using ih

set_option maxHeartbeats 4000000 in
set_option maxRecDepth 10000 in
theorem c36 (l : List Bnd) (n : Nat) (hn : l.length = n) (hlen : n < 1099511627776) (p : Bnd → Bool) (f : FuncId) (fs cs : List AVal) (hfs : fs.all noid0 = true) (hcs : cs.all noid0 = true)
    (hp : ∀ x, CFun Try.prog f (fs ++ [encB x] ++ cs) [] (.bool (p x)) []) : CFun Try.prog 36 [.osl 0 0 n none 4, .fn f fs cs] [flatB l] (.osl 0 0 (l.filter fun x => !p x).length none 4) [delRow p l] := by
  have n01 : ∀ y : AVal, noid0 y = true → noid y = true := by
    intro y hy
    cases y <;> first | rfl | (simp [noid0] at hy)
  have hno : ∀ x : Bnd, (fs ++ [encB x] ++ cs).all noid = true := by
    intro x
    simp only [List.all_append, Bool.and_eq_true]
    exact ⟨⟨List.all_eq_true.2 fun y hy => n01 y (List.all_eq_true.1 hfs y hy), rfl⟩, List.all_eq_true.2 fun y hy => n01 y (List.all_eq_true.1 hcs y hy)⟩
  have hlow : ∀ k, low k (.fn f fs cs) = true := fun k => noid_low (by simp [noid, hfs, hcs])
  refine CFun.intro (tr := []) (fz := []) (n := 42) (rs := [.tmp 4]) Try.func36 rfl (by kernel_rfl) rfl rfl mixed (by kernel_rfl) (by simp) (by simp) ?_
  simp
  have hidx := c34r l [] n hn hlen p f fs cs [flatB l] 0 none (by simp) (hlow _) (by simp [flatB_le]) (fun x _ => (hp x).up' _ (hno x) rfl)
  refine ⟨_, _, .inl hidx, trivial, ?_⟩
  rcases idxL_spec p l 0 with ⟨e1, e2⟩ | ⟨i, e1, e2, e3⟩
  · simp [e1, delRow, e2, hn, flatB_le]
  · have w0 : IntKind.i64.wrap ((i : Int) + 1) = i + 1 := wrap_in (by omega)
    have hne : ¬ ((i : Int) = -1) := by omega
    simp [e1, w0, hne]
    refine LoopK.intro (tr := []) mixed (by kernel_rfl) (fun q : Nat × Nat × List Bnd => [(0, .osl 0 0 n none 4), (1, .fn f fs cs), (5, .int .i64 q.1), (6, .int .i64 q.2.1)]) (fun q => [flatB q.2.2])
      (fun q => q.1 < q.2.1 ∧ q.2.1 ≤ n ∧ q.2.2.length = n ∧ q.2.2.take q.1 = (l.take q.2.1).filter (fun x => !p x) ∧ q.2.2.drop q.2.1 = l.drop q.2.1) (fun q => n - q.2.1) (i, i + 1, l) ?_ ?_ ?_
    · exact ⟨by simp, by simp; omega, hn, e3.symm, rfl⟩
    · simp [flatB_le]
      simpa [low] using hlow 1
    · rintro ⟨a, b, cur⟩ ⟨h1, h2, h3, h4, h5⟩
      simp only at h1 h2 h3 h4 h5
      have hal : a < cur.length := by omega
      by_cases hb : b < n
      · obtain ⟨x, hx, hd⟩ := get_drop (l := l) (i := b) (by omega)
        obtain ⟨y, hy, he⟩ := get_drop (l := cur) (i := b) (by omega)
        rw [hd, he, List.cons.injEq] at h5
        obtain ⟨rfl, h5⟩ := h5
        have hload := load_flatB hy []
        rw [List.append_nil] at hload
        have hcall := (hp y).up' [flatB cur, cellsB y] (hno y) rfl
        have hset := setR_flatB cur a y hal []
        rw [List.append_nil, List.append_nil] at hset
        have w1 : IntKind.i64.wrap ((b : Int) + 1) = b + 1 := wrap_in (by omega)
        have w2 : IntKind.i64.wrap ((a : Int) + 1) = a + 1 := wrap_in (by omega)
        have htk : (l.take (b + 1)).filter (fun x => !p x) = (l.take b).filter (fun x => !p x) ++ [y].filter (fun x => !p x) := by
          rw [List.take_add_one, hx]; simp
        have hlen2 := flatB_len cur
        clear hn hd he
        simp only [cellsB] at hcall hset
        by_cases hpx : p y = true
        · simp [hb, hload, -aload]
          refine ⟨_, _, .inl (by simpa [cargs] using hcall), by simp, ?_⟩
          simp [hpx, w1]
          refine ⟨a, b + 1, cur, ⟨by omega, by omega, h3, by rw [htk]; simp [hpx, h4], h5⟩, by omega, ?_⟩
          simp [flatB_le]
          simpa [low] using hlow 1
        · have hfit : a * 4 + 4 ≤ (flatB cur).length := by omega
          simp [hb, hload, -aload]
          refine ⟨_, _, .inl (by simpa [cargs] using hcall), by simp, ?_⟩
          have han : a < n := by omega
          have hset' : (cur.set a y).take (a + 1) = (l.take (b + 1)).filter (fun x => !p x) := by
            rw [htk, ← h4, List.take_add_one, List.take_set_of_le (by omega)]
            simp [hal, hpx]
          simp [hpx, han, hfit, hset, w1, w2, -setR]
          refine ⟨a + 1, b + 1, cur.set a y, ⟨by omega, by omega, by simpa using h3, hset', ?_⟩, by omega, ?_⟩
          · rw [List.drop_set_of_lt (by omega)]; exact h5
          · simp [flatB_le]
            simpa [low] using hlow 1
      · have hbn : b = n := by omega
        subst hbn
        have hlb : l.take b = l := List.take_of_length_le (by omega)
        rw [hlb] at h4
        have hl : (l.filter fun x => !p x).length = a := by
          rw [← h4]; simp; omega
        have hrow := setR_all cur a (by omega) ((b - a) * 4) (by rw [h3])
        have hfl := flatB_len cur
        have hab : ¬ b - a = 0 := by omega
        have hfit : a * 4 + (b - a) * 4 ≤ (flatB cur).length := by omega
        have z1 : a ≤ b := by omega
        simp [z1, hab, hfit, hrow, -setR]
        exact ⟨hl.symm, by rw [delRow, hl, hn, h4]; exact row_le _ _ _⟩
end Go.Proofs.Ytlpgadlfpigbhaa
