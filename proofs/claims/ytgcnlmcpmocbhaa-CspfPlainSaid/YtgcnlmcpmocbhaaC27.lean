/- The heap, by the program: what it shows. -/
import Derived.Test.YtgcnlmcpmocbhaaC23
import Derived.Test.YtgcnlmcpmocbhaaAmAE
set_option linter.unusedSimpArgs false
set_option linter.unusedVariables false
namespace Go.Proofs.Ytgcnlmcpmocbhaa
open Go Go.Am Go.Wk

@[simp] theorem tp101 : tpt Try.prog 101 = true := by kernel_rfl
def rowN (l : List Nat) : List AVal := l.map fun (x : Nat) => AVal.int .i64 ((x : Nat) : Int)
def rowZ (l : List Int) : List AVal := l.map fun x => .int .i64 x
theorem treeI (l : List Int) : (rowZ l).all AVal.tree = true := by unfold rowZ; rw [List.all_map]; exact List.all_eq_true.2 fun x _ => rfl
theorem treeN (l : List Nat) : (rowN l).all AVal.tree = true := by unfold rowN; rw [List.all_map]; exact List.all_eq_true.2 fun x _ => rfl
theorem leI (m : Nat) (l : List Int) : LeCells m (rowZ l) (rowZ l) := treeCells_le m (treeI l)
theorem leN (m : Nat) (l : List Nat) : LeCells m (rowN l) (rowN l) := treeCells_le m (treeN l)
theorem scalN (l : List Nat) : (rowN l).all (fun c => c.scalar && !c.isOwn) = true := by unfold rowN; rw [List.all_map]; exact List.all_eq_true.2 fun x _ => rfl
@[simp] theorem rowN_len (l : List Nat) : (rowN l).length = l.length := by simp [rowN]
@[simp] theorem rowZ_len (l : List Int) : (rowZ l).length = l.length := by simp [rowZ]
theorem rowN_app (l r : List Nat) : rowN (l ++ r) = rowN l ++ rowN r := by simp [rowN]
theorem rowN_get {l : List Nat} {i x : Nat} (h : l[i]? = some x) : (rowN l)[i]? = some (.int .i64 (x : Int)) := by simp [rowN, h]
theorem rowZ_get {l : List Int} {i : Nat} {x : Int} (h : l[i]? = some x) : (rowZ l)[i]? = some (.int .i64 x) := by simp [rowZ, h]
theorem rowN_set (l : List Nat) (i x : Nat) : (rowN l).set i (.int .i64 (x : Int)) = rowN (l.set i x) := by simp [rowN]
theorem rowZ_set (l : List Int) (i : Nat) (x : Int) : (rowZ l).set i (.int .i64 x) = rowZ (l.set i x) := by simp [rowZ]
theorem leapp (m : Nat) (l r : List Nat) : LeCells m (rowN (l ++ r)) (rowN l) := by
  induction l with
  | nil => simp [LeCells, rowN]
  | cons x l ih => simp [LeCells, rowN] at ih ⊢; exact ih
/-- The heap's variables. -/
@[simp] def hB (m N : Nat) : List AVal := [.osl 1 0 m none 1, .osl 2 0 N (some N) 1, .osl 3 0 N (some N) 1]
@[simp] def hH (N : Nat) (its jk : List Nat) (ks : List Int) : List (List AVal) := [hB its.length N, rowN (its ++ jk), rowZ (plOf N its), rowZ ks]
theorem getD_of {l : List Nat} {i : Nat} (h : i < l.length) : l[i]? = some (l.getD i 0) := by simp [List.getD_eq_getElem?_getD, h]
theorem getD_ofI {l : List Int} {i : Nat} (h : i < l.length) : l[i]? = some (l.getD i 0) := by simp [List.getD_eq_getElem?_getD, h]
theorem app_of {l r : List Nat} {i : Nat} (h : i < l.length) : (l ++ r)[i]? = some (l.getD i 0) := by rw [List.getElem?_append_left h]; exact getD_of h
section
variable (N : Nat) (its jk : List Nat) (ks : List Int)
set_option maxHeartbeats 4000000 in
set_option maxRecDepth 10000 in
-- less
theorem c75 (hk : ks.length = N) (i j : Nat) (hi : i < its.length) (hj : j < its.length) (hN : ∀ x ∈ its, x < N) :
    CFun Try.prog 75 [.ptr 0 0, .int .i64 i, .int .i64 j] (hH N its jk ks) (.bool (ltK ks (its.getD i 0) (its.getD j 0))) (hH N its jk ks) := by
  refine CFun.intro (tr := []) (fz := []) (n := 60) (rs := [.tmp 6]) Try.func75 rfl (by kernel_rfl) rfl rfl mixed (by kernel_rfl) (by simp) (by simp) ?_
  have l2 := leI 4 (plOf N its)
  have l3 := leI 4 ks
  have l0 := leN 4 (its ++ jk)
  have e1 := rowN_get (app_of (r := jk) hi)
  have e2 := rowN_get (app_of (r := jk) hj)
  have ha' := hN _ (get_mem hi)
  have hb' := hN _ (get_mem hj)
  unfold ltK
  generalize its.getD i 0 = a at *
  generalize its.getD j 0 = b at *
  have e3 := rowZ_get (getD_ofI (l := ks) (i := a) (by omega))
  have e4 := rowZ_get (getD_ofI (l := ks) (i := b) (by omega))
  generalize ks.getD a 0 = p at *
  generalize ks.getD b 0 = q at *
  by_cases h1 : p < q
  · simp [hi, hj, ha', hb', e1, e2, e3, e4, h1, l0, l2, l3]
  · by_cases h2 : p = q
    · simp [hi, hj, ha', hb', e1, e2, e3, e4, h2, l0, l2, l3]
    · simp [hi, hj, ha', hb', e1, e2, e3, e4, h1, h2, l0, l2, l3]
set_option maxHeartbeats 4000000 in
set_option maxRecDepth 10000 in
-- has
theorem c79 (x : Nat) (hx : x < N) : CFun Try.prog 79 [.ptr 0 0, .int .i64 x] (hH N its jk ks) (.bool (decide (x ∈ its))) (hH N its jk ks) := by
  refine CFun.intro (tr := []) (fz := []) (n := 30) (rs := [.tmp 4]) Try.func79 rfl (by kernel_rfl) rfl rfl mixed (by kernel_rfl) (by simp) (by simp) ?_
  have l2 := leI 4 (plOf N its)
  have l3 := leI 4 ks
  have l0 := leN 4 (its ++ jk)
  have e1 := rowZ_get (plOf_get its hx)
  have b0 : (0 : Int) ≤ x := by omega
  by_cases h1 : x ∈ its
  · rw [if_pos h1] at e1
    have b1 : (0 : Int) ≤ (its.idxOf x : Int) := by omega
    simp [hx, b0, b1, e1, h1, l0, l2, l3]
  · rw [if_neg h1] at e1
    simp [hx, b0, e1, h1, l0, l2, l3]
set_option maxHeartbeats 4000000 in
set_option maxRecDepth 10000 in
-- Key
theorem c69 (hk : ks.length = N) (x : Nat) (hx : x < N) : CFun Try.prog 69 [.ptr 0 0, .int .i64 x] (hH N its jk ks) (.tup [.int .i64 (if x ∈ its then ks.getD x 0 else 0), .bool (decide (x ∈ its))]) (hH N its jk ks) := by
  refine CFun.intro (tr := []) (fz := []) (n := 17) (rs := [.tmp 4, .tmp 5]) Try.func69 rfl (by kernel_rfl) rfl rfl mixed (by kernel_rfl) (by simp) (by simp) ?_
  have l2 := leI 4 (plOf N its)
  have l3 := leI 4 ks
  have l0 := leN 4 (its ++ jk)
  have h := c79 N its jk ks x hx
  have e1 := rowZ_get (getD_ofI (l := ks) (i := x) (by omega))
  simp
  refine ⟨_, _, .inl (by simpa using h), by simp, ?_⟩
  by_cases h1 : x ∈ its
  · simp [hx, e1, h1, l0, l2, l3]
  · simp [h1, l0, l2, l3]
set_option maxHeartbeats 4000000 in
set_option maxRecDepth 10000 in
-- Len
theorem c81 : CFun Try.prog 81 [.ptr 0 0] (hH N its jk ks) (.int .i64 its.length) (hH N its jk ks) := by
  refine CFun.intro (tr := []) (fz := []) (n := 10) (rs := [.tmp 2]) Try.func81 rfl (by kernel_rfl) rfl rfl mixed (by kernel_rfl) (by simp) (by simp) ?_
  have l2 := leI 4 (plOf N its)
  have l3 := leI 4 ks
  have l0 := leN 4 (its ++ jk)
  simp [l0, l2, l3]
set_option maxHeartbeats 4000000 in
set_option maxRecDepth 10000 in
-- Min
theorem c77 (hk : ks.length = N) (hN : ∀ x ∈ its, x < N) : CFun Try.prog 77 [.ptr 0 0] (hH N its jk ks) (if its.length = 0 then .tup [.int .i64 0, .int .i64 0, .bool false] else .tup [.int .i64 (its.getD 0 0 : Nat), .int .i64 (ks.getD (its.getD 0 0) 0), .bool true]) (hH N its jk ks) := by
  refine CFun.intro (tr := []) (fz := []) (n := 26) (rs := [.tmp 2, .tmp 3, .tmp 4]) Try.func77 rfl (by kernel_rfl) rfl rfl mixed (by kernel_rfl) (by simp) (by simp) ?_
  have l2 := leI 4 (plOf N its)
  have l3 := leI 4 ks
  have l0 := leN 4 (its ++ jk)
  have h := c81 N its jk ks
  simp only [hH, hB] at h ⊢
  by_cases h1 : its.length = 0
  · rw [if_pos h1]
    rw [h1] at h ⊢
    simp
    refine ⟨_, _, .inl (by simpa using h), by simp, ?_⟩
    simp [l0, l2, l3]
  · rw [if_neg h1]
    have hp : 0 < its.length := by omega
    have e1 := rowN_get (app_of (r := jk) hp)
    have ha' := hN _ (get_mem hp)
    generalize its.getD 0 0 = a at *
    generalize its.length = m at *
    have e3 := rowZ_get (getD_ofI (l := ks) (i := a) (by omega))
    generalize ks.getD a 0 = p at *
    have hmi : ¬ (m : Int) = 0 := by omega
    have hmi2 : 0 < (m : Int) := by omega
    simp
    refine ⟨_, _, .inl (by simpa using h), by simp, ?_⟩
    simp [h1, hp, hmi, hmi2, ha', e1, e3, l0, l2, l3]
set_option maxHeartbeats 4000000 in
set_option maxRecDepth 10000 in
-- swap
theorem c76 (hd : its.Nodup) (i j : Nat) (hi : i < its.length) (hj : j < its.length) (hN : ∀ x ∈ its, x < N) :
    CFun Try.prog 76 [.ptr 0 0, .int .i64 i, .int .i64 j] (hH N its jk ks) (.tup []) (hH N (sw its i j) jk ks) := by
  refine CFun.intro (tr := []) (fz := []) (n := 58) (rs := []) Try.func76 rfl (by kernel_rfl) rfl rfl mixed (by kernel_rfl) (by simp) (by simp) ?_
  have l3 := leI 4 ks
  have l2 := leI 4 (plOf N (sw its i j))
  have l0 := leN 4 (sw its i j ++ jk)
  have e1 := rowN_get (app_of (r := jk) hi)
  have e2 := rowN_get (app_of (r := jk) hj)
  have ha' := hN _ (get_mem hi)
  have hb' := hN _ (get_mem hj)
  have hs : ((its ++ jk).set i (its.getD j 0)).set j (its.getD i 0) = sw its i j ++ jk := by
    unfold sw
    rw [List.set_append_left _ _ hi, List.set_append_left _ _ (by simpa using hj)]
  have hp := plOf_sw (N := N) hd hi hj
  have hlen := sw_len its i j
  have g1 := rowN_get (app_of (r := jk) (show i < (sw its i j).length by rw [hlen]; exact hi))
  have g2 := rowN_get (app_of (r := jk) (show j < (sw its i j).length by rw [hlen]; exact hj))
  rw [sw_get hi hj] at g1 g2
  rw [if_pos rfl] at g2
  have hij : (if i = j then its.getD i 0 else if i = i then its.getD j 0 else its.getD i 0) = its.getD j 0 := by
    split
    · rename_i e; rw [e]
    · rw [if_pos rfl]
  rw [hij] at g1
  simp only [hH, hB, hlen]
  generalize its.getD i 0 = a at *
  generalize its.getD j 0 = b at *
  have hi1 : i + 1 ≤ its.length + jk.length := by omega
  have hj1 : j + 1 ≤ its.length + jk.length := by omega
  have hpl := plOf_len N its
  have q1 := rowN_set (its ++ jk) i b
  have q2 := rowN_set ((its ++ jk).set i b) j a
  rw [hs] at q2
  have hs1 : (its ++ jk).set i b = its.set i b ++ jk := List.set_append_left _ _ hi
  rw [hs1] at q1 q2
  have q3 := rowZ_set (plOf N its) b i
  have q4 := rowZ_set ((plOf N its).set b i) a j
  rw [hp] at q4
  have ha1 : a + 1 ≤ N := ha'
  have hb1 : b + 1 ≤ N := hb'
  simp [hi, hj, hi1, hj1, ha', hb', ha1, hb1, e1, e2, q1, q2, g1, g2, q3, q4, hpl, l0, l2, l3]
end
end Go.Proofs.Ytgcnlmcpmocbhaa

/- The heap, by the program: what moves. -/
namespace Go.Proofs.Ytgcnlmcpmocbhaa
open Go Go.Am Go.Wk

theorem up_inv {ks : List Int} {N : Nat} : ∀ {f : Nat} {l : List Nat} {i : Nat}, i < l.length → (up ks f l i).1.Perm l ∧ (up ks f l i).2 < l.length := by
  intro f
  induction f with
  | zero => intro l i h; exact ⟨.refl _, h⟩
  | succ f ih =>
    intro l i h
    simp only [up]
    split
    · have h2 : (i - 1) / 2 < l.length := by omega
      obtain ⟨a, b⟩ := ih (l := sw l i ((i - 1) / 2)) (i := (i - 1) / 2) (by rw [sw_len]; exact h2)
      exact ⟨a.trans (sw_perm l h h2), by rw [sw_len] at b; exact b⟩
    · exact ⟨.refl _, h⟩
theorem down_inv {ks : List Int} : ∀ {f : Nat} {l : List Nat} {i : Nat}, i < l.length → (down ks f l i).Perm l := by
  intro f
  induction f with
  | zero => intro l i h; exact .refl _
  | succ f ih =>
    intro l i h
    simp only [down]
    split
    · exact .refl _
    · rename_i hc
      simp only [Bool.or_eq_true, decide_eq_true_eq, not_or] at hc
      have h2 : chi ks l i < l.length := by omega
      exact (ih (by rw [sw_len]; exact h2)).trans (sw_perm l h h2)
theorem down_step {ks : List Int} {f : Nat} {l : List Nat} {j k : Nat} (hk : chi ks l j = k) (h1 : k < l.length) (h2 : ltK ks (l.getD k 0) (l.getD j 0) = true) : down ks (f + 1) l j = down ks f (sw l j k) k := by
  simp only [down, hk, h2]
  rw [if_neg (by simp; omega)]
theorem down_stop {ks : List Int} {f : Nat} {l : List Nat} {j k : Nat} (hk : chi ks l j = k) (h : l.length ≤ k ∨ ltK ks (l.getD k 0) (l.getD j 0) = false) : down ks (f + 1) l j = l := by
  simp only [down, hk]
  rw [if_pos (by simp only [Bool.or_eq_true, decide_eq_true_eq, Bool.not_eq_true']; exact h)]
theorem chi_two {ks : List Int} {l : List Nat} {j k1 k2 : Nat} (e1 : k1 = 2 * j + 1) (e2 : k2 = k1 + 1) (h : k2 < l.length) (hb : ltK ks (l.getD k2 0) (l.getD k1 0) = true) : chi ks l j = k2 := by
  subst e2 e1
  unfold chi
  rw [if_pos (by simp only [hb, Bool.and_true, decide_eq_true_eq]; exact h)]
theorem chi_one {ks : List Int} {l : List Nat} {j k1 k2 : Nat} (e1 : k1 = 2 * j + 1) (e2 : k2 = k1 + 1) (h : ¬ k2 < l.length ∨ ltK ks (l.getD k2 0) (l.getD k1 0) = false) : chi ks l j = k1 := by
  subst e2 e1
  unfold chi
  rw [if_neg (by
    simp only [Bool.and_eq_true, decide_eq_true_eq, not_and]
    intro a b
    rcases h with h | h
    · exact h a
    · rw [h] at b; cases b)]
section
variable (N : Nat) (jk : List Nat) (ks : List Int)
set_option maxHeartbeats 8000000 in
set_option maxRecDepth 10000 in
-- settle
theorem c74 (hk : ks.length = N) (n : Nat) (hn : n < 1000000) (its : List Nat) (hl : its.length = n) (hd : its.Nodup) (hN : ∀ x ∈ its, x < N) (i : Nat) (hi : i < n) :
    CFun Try.prog 74 [.int .i64 i, .int .i64 n, .fn 75 [.ptr 0 0] [], .fn 76 [.ptr 0 0] []] (hH N its jk ks) (.tup []) (hH N (settleH ks its i) jk ks) := by
  refine CFun.intro (tr := []) (fz := []) (n := 59) (rs := []) Try.func74 rfl (by kernel_rfl) rfl rfl mixed (by kernel_rfl) (by simp) (by simp) ?_
  have hle : ∀ (l : List Nat) (m : Nat), LeCells m (rowN (l ++ jk)) (rowN (l ++ jk)) := fun l m => leN m _
  have hlp : ∀ (l : List Nat) (m : Nat), LeCells m (rowZ (plOf N l)) (rowZ (plOf N l)) := fun l m => leI m _
  have hlk : ∀ m, LeCells m (rowZ ks) (rowZ ks) := fun m => leI m _
  simp only [hH, hB]
  simp
  refine LoopK.intro (tr := []) mixed (by kernel_rfl) (fun q : Nat × List Nat × Nat => [(0, .int .i64 q.2.2), (1, .int .i64 n), (2, .fn 75 [.ptr 0 0] []), (3, .fn 76 [.ptr 0 0] [])])
    (fun q => [[.osl 1 0 n none 1, .osl 2 0 N (some N) 1, .osl 3 0 N (some N) 1], rowN (q.2.1 ++ jk), rowZ (plOf N q.2.1), rowZ ks]) (fun q => q.2.1.length = n ∧ q.2.1.Nodup ∧ (∀ x ∈ q.2.1, x < N) ∧ q.2.2 < n ∧ q.2.2 ≤ q.1 ∧ up ks q.1 q.2.1 q.2.2 = up ks i its i) (fun q => q.2.2) (i, its, i) ?_ ?_ ?_
  · exact ⟨hl, hd, hN, hi, Nat.le_refl _, rfl⟩
  · simp [hl, hle, hlp, hlk]
  · rintro ⟨f, l, j⟩ ⟨h1, h2, h3, h4, h5, h6⟩
    simp only at h1 h2 h3 h4 h5 h6
    have hle2 := hle (settleH ks its i)
    have hlp2 := hlp (settleH ks its i)
    have less := fun a b ha hb => c75 N l jk ks hk a b ha hb h3
    have swap := fun a b ha hb => c76 N l jk ks h2 a b ha hb h3
    simp only [hH, hB, h1, sw_len] at less swap
    by_cases hc : 0 < j ∧ ltK ks (l.getD j 0) (l.getD ((j - 1) / 2) 0) = true
    · obtain ⟨hj, hb⟩ := hc
      obtain ⟨j', rfl⟩ : ∃ j', j = j' + 1 := ⟨j - 1, by omega⟩
      obtain ⟨f', rfl⟩ : ∃ f', f = f' + 1 := ⟨f - 1, by omega⟩
      simp only [Nat.add_sub_cancel] at hb
      have w1 : IntKind.i64.wrap (j' : Int) = j' := wrap_in (by omega)
      have w2 : IntKind.i64.wrap ((j' : Int) / 2) = ((j' / 2 : Nat) : Int) := by rw [show (j' : Int) / 2 = ((j' / 2 : Nat) : Int) from rfl]; exact wrap_in (by omega)
      have b1 : (0 : Int) < (j' : Int) + 1 := by omega
      simp only [up, Nat.add_sub_cancel, hj, decide_true, Bool.true_and, hb, if_true] at h6
      have hless := less (j' + 1) (j' / 2) h4 (by omega)
      have hswap := swap (j' + 1) (j' / 2) h4 (by omega)
      rw [hb] at hless
      have p2 : j' / 2 < l.length := by omega
      have p1 : j' + 1 < l.length := by omega
      simp [b1, w1, w2]
      refine ⟨_, _, .inl (by simpa using hless), by simp, ?_⟩
      simp [b1, w1, w2]
      refine ⟨_, _, .inl (by simpa using hswap), by simp, ?_⟩
      simp [w1, w2]
      exact ⟨f', sw l (j' + 1) (j' / 2), j' / 2, ⟨by rw [sw_len]; exact h1, sw_nodup h2 p1 p2, fun x hx => h3 x ((sw_perm l p1 p2).mem_iff.1 hx), by omega, by omega, h6⟩, by omega, by simp [hle, hlp, hlk]⟩
    have hu : up ks f l j = (l, j) := by
      cases f with
      | zero => rfl
      | succ f =>
        simp only [up]
        rw [if_neg (by simp only [Bool.and_eq_true, decide_eq_true_eq]; exact hc)]
    rw [hu] at h6
    have hT : settleH ks its i = down ks (n + 1) l j := by
      unfold settleH
      rw [← h6, hl]
    have hc' : ∀ j', j = j' + 1 → ¬ (0 < j' + 1 ∧ ltK ks (l.getD (j' + 1) 0) (l.getD (j' / 2) 0) = true) := by
      rintro j' rfl h
      exact hc (by simpa using h)
    clear hu h6 hc h5
    by_cases b0 : 0 < j
    case' pos =>
      obtain ⟨j', rfl⟩ : ∃ j', j = j' + 1 := ⟨j - 1, by omega⟩
      have hb : ltK ks (l.getD (j' + 1) 0) (l.getD (j' / 2) 0) = false := by
        cases e : ltK ks (l.getD (j' + 1) 0) (l.getD (j' / 2) 0) with
        | false => rfl
        | true => exact (hc' j' rfl ⟨b0, e⟩).elim
      have w1 : IntKind.i64.wrap (j' : Int) = j' := wrap_in (by omega)
      have w2 : IntKind.i64.wrap ((j' : Int) / 2) = ((j' / 2 : Nat) : Int) := by rw [show (j' : Int) / 2 = ((j' / 2 : Nat) : Int) from rfl]; exact wrap_in (by omega)
      have b1 : (0 : Int) < (j' : Int) + 1 := by omega
      have hless := less (j' + 1) (j' / 2) h4 (by omega)
      rw [hb] at hless
      have ej : (j' : Int) + 1 = ((j' + 1 : Nat) : Int) := by omega
      simp [b1, w1, w2]
      refine ⟨_, _, .inl (by simpa using hless), by simp, ?_⟩
      simp [b1, w1, w2]
      simp only [ej]
      clear hless hb w1 w2 b1 b0 hc' ej
      generalize j' + 1 = j at *
    case' neg =>
      simp [b0]
      clear b0 hc'
    all_goals
      refine LoopK.intro (tr := []) mixed (by kernel_rfl) (fun q : Nat × List Nat × Nat => [(0, .int .i64 q.2.2), (1, .int .i64 n), (2, .fn 75 [.ptr 0 0] []), (3, .fn 76 [.ptr 0 0] [])])
        (fun q => [[.osl 1 0 n none 1, .osl 2 0 N (some N) 1, .osl 3 0 N (some N) 1], rowN (q.2.1 ++ jk), rowZ (plOf N q.2.1), rowZ ks]) (fun q => q.2.1.length = n ∧ q.2.1.Nodup ∧ (∀ x ∈ q.2.1, x < N) ∧ q.2.2 < n ∧ n < q.1 + q.2.2 ∧ settleH ks its i = down ks q.1 q.2.1 q.2.2) (fun q => n - q.2.2) (n + 1, l, j) ?_ ?_ ?_
      · exact ⟨h1, h2, h3, h4, by simp only; omega, hT⟩
      · simp [hle, hlp, hlk]
      · clear h1 h2 h3 h4 hT less swap hle2 hlp2
        rintro ⟨f, l, j⟩ ⟨h1, h2, h3, h4, h5, h6⟩
        simp only at h1 h2 h3 h4 h5 h6
        have hle2 := hle (settleH ks its i)
        have hlp2 := hlp (settleH ks its i)
        have less := fun a b ha hb => c75 N l jk ks hk a b ha hb h3
        have swap := fun a b ha hb => c76 N l jk ks h2 a b ha hb h3
        simp only [hH, hB, h1, sw_len] at less swap
        obtain ⟨f', rfl⟩ : ∃ f', f = f' + 1 := ⟨f - 1, by omega⟩
        obtain ⟨k1, hk1⟩ : ∃ k1, k1 = 2 * j + 1 := ⟨_, rfl⟩
        obtain ⟨k2, hk2⟩ : ∃ k2, k2 = k1 + 1 := ⟨_, rfl⟩
        have w1 : IntKind.i64.wrap (2 * (j : Int)) = 2 * (j : Int) := wrap_in (by omega)
        have w2 : IntKind.i64.wrap (2 * (j : Int) + 1) = (k1 : Int) := by rw [wrap_in (by omega)]; omega
        have w3 : IntKind.i64.wrap ((k1 : Int) + 1) = (k2 : Int) := by rw [wrap_in (by omega)]; omega
        have fin : ∀ k, chi ks l j = k → k < n → ltK ks (l.getD k 0) (l.getD j 0) = true → j < k → (sw l j k).length = n ∧ (sw l j k).Nodup ∧ (∀ x ∈ sw l j k, x < N) ∧ k < n ∧ n < f' + k ∧ settleH ks its i = down ks f' (sw l j k) k := by
          intro k hk hkn hlt hjk
          have p1 : j < l.length := by omega
          have p2 : k < l.length := by omega
          rw [down_step hk p2 hlt] at h6
          exact ⟨by rw [sw_len]; exact h1, sw_nodup h2 p1 p2, fun x hx => h3 x ((sw_perm l p1 p2).mem_iff.1 hx), hkn, by omega, h6⟩
        have stop : ∀ k, chi ks l j = k → (n ≤ k ∨ ltK ks (l.getD k 0) (l.getD j 0) = false) → settleH ks its i = l := by
          intro k hk hs
          rw [down_stop hk (by rw [h1]; exact hs)] at h6
          exact h6
        by_cases c1 : k1 < n
        case neg =>
          have c2 : ¬ k2 < n := by omega
          have c3 : n ≤ k1 := by omega
          have e := stop k1 (chi_one hk1 hk2 (.inl (by rw [h1]; exact c2))) (.inl c3)
          rw [e] at hle2 hlp2 ⊢
          simp [w1, w2, w3, c2, c3, hle2, hlp2, hlk, h1]
        have c3 : ¬ n ≤ k1 := by omega
        have l1 := less k1 j c1 h4
        have s1 := swap j k1 h4 c1
        have f1 := fin k1
        have t1 := stop k1
        by_cases c2 : k2 < n
        · have l2 := less k2 k1 c2 c1
          have l3 := less k2 j c2 h4
          have s2 := swap j k2 h4 c2
          have f2 := fin k2
          have t2 := stop k2
          have c4 : ¬ n ≤ k2 := by omega
          cases hb : ltK ks (l.getD k2 0) (l.getD k1 0) with
          | true =>
            have hch := chi_two hk1 hk2 (by rw [h1]; exact c2) hb
            rw [hb] at l2
            cases hc : ltK ks (l.getD k2 0) (l.getD j 0) with
            | true =>
              rw [hc] at l3
              have f3 := f2 hch c2 hc (by omega)
              simp [w1, w2, w3, c2]
              refine ⟨_, _, .inl (by simpa using l2), by simp, ?_⟩
              simp [w3, c4]
              refine ⟨_, _, .inl (by simpa using l3), by simp, ?_⟩
              simp
              refine ⟨_, _, .inl (by simpa using s2), by simp, ?_⟩
              simp
              exact ⟨f', sw l j k2, k2, f3, by omega, by simp [hle, hlp, hlk]⟩
            | false =>
              rw [hc] at l3
              have e := t2 hch (.inr hc)
              rw [e] at hle2 hlp2 ⊢
              simp [w1, w2, w3, c2]
              refine ⟨_, _, .inl (by simpa using l2), by simp, ?_⟩
              simp [w3, c4]
              refine ⟨_, _, .inl (by simpa using l3), by simp, ?_⟩
              simp [hle2, hlp2, hlk, h1]
          | false =>
            have hch := chi_one hk1 hk2 (.inr hb)
            rw [hb] at l2
            cases hc : ltK ks (l.getD k1 0) (l.getD j 0) with
            | true =>
              rw [hc] at l1
              have f3 := f1 hch c1 hc (by omega)
              simp [w1, w2, w3, c2]
              refine ⟨_, _, .inl (by simpa using l2), by simp, ?_⟩
              simp [c3]
              refine ⟨_, _, .inl (by simpa using l1), by simp, ?_⟩
              simp
              refine ⟨_, _, .inl (by simpa using s1), by simp, ?_⟩
              simp
              exact ⟨f', sw l j k1, k1, f3, by omega, by simp [hle, hlp, hlk]⟩
            | false =>
              rw [hc] at l1
              have e := t1 hch (.inr hc)
              rw [e] at hle2 hlp2 ⊢
              simp [w1, w2, w3, c2]
              refine ⟨_, _, .inl (by simpa using l2), by simp, ?_⟩
              simp [c3]
              refine ⟨_, _, .inl (by simpa using l1), by simp, ?_⟩
              simp [hle2, hlp2, hlk, h1]
        · have hch := chi_one (ks := ks) (l := l) hk1 hk2 (.inl (by rw [h1]; exact c2))
          cases hc : ltK ks (l.getD k1 0) (l.getD j 0) with
          | true =>
            rw [hc] at l1
            have f3 := f1 hch c1 hc (by omega)
            simp [w1, w2, w3, c2, c3]
            refine ⟨_, _, .inl (by simpa using l1), by simp, ?_⟩
            simp
            refine ⟨_, _, .inl (by simpa using s1), by simp, ?_⟩
            simp
            exact ⟨f', sw l j k1, k1, f3, by omega, by simp [hle, hlp, hlk]⟩
          | false =>
            rw [hc] at l1
            have e := t1 hch (.inr hc)
            rw [e] at hle2 hlp2 ⊢
            simp [w1, w2, w3, c2, c3]
            refine ⟨_, _, .inl (by simpa using l1), by simp, ?_⟩
            simp [hle2, hlp2, hlk, h1]
end
end Go.Proofs.Ytgcnlmcpmocbhaa

/- The heap, by the program: setting keys. -/
namespace Go.Proofs.Ytgcnlmcpmocbhaa
open Go Go.Am Go.Wk

def four (a p q r : Nat) : Nat → Nat
  | 0 => a
  | 1 => p
  | 2 => q
  | _ => r
theorem ren_rowN (ρ : Nat → Nat) (l : List Nat) : (rowN l).map (ren0 ρ) = rowN l := by unfold rowN; rw [List.map_map]; exact List.map_congr_left fun x _ => rfl
theorem ren_rowZ (ρ : Nat → Nat) (l : List Int) : (rowZ l).map (ren0 ρ) = rowZ l := by unfold rowZ; rw [List.map_map]; exact List.map_congr_left fun x _ => rfl
theorem low_rowN (n : Nat) (l : List Nat) : (rowN l).all (low0 n) = true := by unfold rowN; rw [List.all_map]; exact List.all_eq_true.2 fun x _ => rfl
theorem low_rowZ (n : Nat) (l : List Int) : (rowZ l).all (low0 n) = true := by unfold rowZ; rw [List.all_map]; exact List.all_eq_true.2 fun x _ => rfl
/-- The heap among other variables. -/
theorem hAt {f : FuncId} {ar : List AVal} {x : AVal} {N m m' : Nat} {ri ri' : List Nat} {rp rp' rk rk' : List Int} (h : CFun Try.prog f ar [hB m N, rowN ri, rowZ rp, rowZ rk] x [hB m' N, rowN ri', rowZ rp', rowZ rk']) {H : List (List AVal)} {a p q r : Nat}
    (d1 : a ≠ p) (d2 : a ≠ q) (d3 : a ≠ r) (d4 : p ≠ q) (d5 : p ≠ r) (d6 : q ≠ r) (ha : H[a]? = some [.osl p 0 m none 1, .osl q 0 N (some N) 1, .osl r 0 N (some N) 1]) (hp : H[p]? = some (rowN ri)) (hq : H[q]? = some (rowZ rp)) (hr : H[r]? = some (rowZ rk))
    (hl : ar.all (low 4) = true) (hx : noid x = true) : CFun Try.prog f (ar.map (ren (four a p q r))) H x ((((H.set a [.osl p 0 m' none 1, .osl q 0 N (some N) 1, .osl r 0 N (some N) 1]).set p (rowN ri')).set q (rowZ rp')).set r (rowZ rk')) := by
  have la := (List.getElem?_eq_some_iff.1 ha).1
  have lp := (List.getElem?_eq_some_iff.1 hp).1
  have lq := (List.getElem?_eq_some_iff.1 hq).1
  have lr := (List.getElem?_eq_some_iff.1 hr).1
  have h4 : ∀ i, i < 4 → i = 0 ∨ i = 1 ∨ i = 2 ∨ i = 3 := by omega
  have := h.lift (four a p q r) (H := H) (H' := (((H.set a [.osl p 0 m' none 1, .osl q 0 N (some N) 1, .osl r 0 N (some N) 1]).set p (rowN ri')).set q (rowZ rp')).set r (rowZ rk'))
    (fun i hi => by rcases h4 i hi with rfl | rfl | rfl | rfl <;> simp only [four] <;> assumption)
    (fun i j hi hj e => by
      rcases h4 i hi with rfl | rfl | rfl | rfl <;> rcases h4 j hj with rfl | rfl | rfl | rfl <;> simp only [four] at e <;> first | rfl | (exact absurd e (by assumption)) | (exact absurd e.symm (by assumption)))
    (fun i cs hi => by
      have hi4 : i < 4 := (List.getElem?_eq_some_iff.1 hi).1
      rcases h4 i hi4 with rfl | rfl | rfl | rfl <;> simp only [List.getElem?_cons_zero, List.getElem?_cons_succ, Option.some.injEq] at hi <;> subst hi <;> simp only [four]
      · exact ⟨ha, rfl⟩
      · rw [ren_rowN]; exact ⟨hp, low_rowN _ _⟩
      · rw [ren_rowZ]; exact ⟨hq, low_rowZ _ _⟩
      · rw [ren_rowZ]; exact ⟨hr, low_rowZ _ _⟩)
    hl (by simp)
    (fun i cs hi => by
      have hi4 : i < 4 := (List.getElem?_eq_some_iff.1 hi).1
      rcases h4 i hi4 with rfl | rfl | rfl | rfl <;> simp only [List.getElem?_cons_zero, List.getElem?_cons_succ, Option.some.injEq] at hi <;> subst hi
      · refine ⟨?_, rfl⟩
        show (List.set _ r _)[a]? = _
        rw [List.getElem?_set_ne d3.symm, List.getElem?_set_ne d2.symm, List.getElem?_set_ne d1.symm, List.getElem?_set_self la]
        rfl
      · rw [ren_rowN]
        refine ⟨?_, low_rowN _ _⟩
        show (List.set _ r _)[p]? = _
        rw [List.getElem?_set_ne d5.symm, List.getElem?_set_ne d4.symm, List.getElem?_set_self (by simpa using lp)]
      · rw [ren_rowZ]
        refine ⟨?_, low_rowZ _ _⟩
        show (List.set _ r _)[q]? = _
        rw [List.getElem?_set_ne d6.symm, List.getElem?_set_self (by simpa using lq)]
      · rw [ren_rowZ]
        refine ⟨?_, low_rowZ _ _⟩
        show (List.set _ r _)[r]? = _
        rw [List.getElem?_set_self (by simpa using lr)])
    (fun k hk hne => by
      have e0 := hne 0 (by simp)
      have e1 := hne 1 (by simp)
      have e2 := hne 2 (by simp)
      have e3 := hne 3 (by simp)
      simp only [four] at e0 e1 e2 e3
      rw [List.getElem?_set_ne e3, List.getElem?_set_ne e2, List.getElem?_set_ne e1, List.getElem?_set_ne e0])
    (noid_low hx)
  rwa [noid_ren hx] at this
section
variable (N : Nat) (jk : List Nat) (ks : List Int)
set_option maxHeartbeats 4000000 in
set_option maxRecDepth 10000 in
-- Set of a number that is there
theorem c65a (hk : ks.length = N) (n : Nat) (hn : n < 1000000) (its : List Nat) (hl : its.length = n) (hd : its.Nodup) (hN : ∀ x ∈ its, x < N) (x : Nat) (hx : x ∈ its) (v : Int) :
    CFun Try.prog 65 [.ptr 0 0, .int .i64 x, .int .i64 v] (hH N its jk ks) (.bool true) (hH N (settleH (ks.set x v) its (its.idxOf x)) jk (ks.set x v)) := by
  refine CFun.intro (tr := [200074]) (fz := []) (n := 75) (rs := [.tmp 6]) Try.func65 rfl (by kernel_rfl) rfl rfl mixed (by kernel_rfl) (by simp) (by simp) ?_
  have hxN := hN x hx
  have h := c74 N jk (ks.set x v) (by simpa using hk) n hn its hl hd hN (its.idxOf x) (by rw [← hl]; exact (get_idx hx).2)
  have e1 := rowZ_get (plOf_get its hxN)
  rw [if_pos hx] at e1
  have l0 := leN 4 (settleH (ks.set x v) its (its.idxOf x) ++ jk)
  have l2 := leI 4 (plOf N (settleH (ks.set x v) its (its.idxOf x)))
  have l3 := leI 4 (ks.set x v)
  have hsl : (settleH (ks.set x v) its (its.idxOf x)).length = n := by
    have hi := (get_idx hx).2
    have u := up_inv (ks := ks.set x v) (N := N) (f := its.idxOf x) hi
    unfold settleH
    rw [(down_inv (by rw [u.1.length_eq]; exact u.2)).length_eq, u.1.length_eq, hl]
  simp only [hH, hB, hl, hsl] at h ⊢
  generalize settleH (ks.set x v) its (its.idxOf x) = its' at *
  generalize its.idxOf x = i at *
  have q := rowZ_set ks x v
  have b0 : ¬ (x : Int) < 0 := by omega
  have b1 : ¬ (N : Int) ≤ x := by omega
  have b2 : ¬ (i : Int) < 0 := by omega
  have b3 : x + 1 ≤ ks.length := by omega
  have b4 : ¬ N ≤ x := by omega
  simp [b0, b1, b2, b3, b4, e1, hxN, q]
  refine ⟨_, _, .inl (by simpa using h), by simp, ?_⟩
  simp [l0, l2, l3]
end
end Go.Proofs.Ytgcnlmcpmocbhaa

/- The heap, by the program: what is new, what is taken. -/
namespace Go.Proofs.Ytgcnlmcpmocbhaa
open Go Go.Am Go.Wk

theorem settle_perm {ks : List Int} {l : List Nat} {i : Nat} (hi : i < l.length) : (settleH ks l i).Perm l := by
  have u := up_inv (ks := ks) (N := 0) (f := i) hi
  unfold settleH
  exact (down_inv (by rw [u.1.length_eq]; exact u.2)).trans u.1
section
variable (N : Nat) (jk : List Nat) (ks : List Int)
set_option maxHeartbeats 4000000 in
set_option maxRecDepth 10000 in
-- Set of a number that is not there
theorem c65b (hk : ks.length = N) (n : Nat) (hn : n + 1 < 1000000) (its : List Nat) (hl : its.length = n) (hd : its.Nodup) (hN : ∀ x ∈ its, x < N) (hne : its ++ jk ≠ []) (x : Nat) (hx : x ∉ its) (hxN : x < N) (v : Int) :
    CFun Try.prog 65 [.ptr 0 0, .int .i64 x, .int .i64 v] (hH N its jk ks) (.bool true)
      [[.osl 4 0 (n + 1) none 1, .osl 2 0 N (some N) 1, .osl 3 0 N (some N) 1], [], rowZ (plOf N (settleH (ks.set x v) (its ++ [x]) n)), rowZ (ks.set x v), rowN (settleH (ks.set x v) (its ++ [x]) n)] := by
  refine CFun.intro (tr := [200074, 100048]) (fz := []) (n := 75) (rs := [.tmp 6]) Try.func65 rfl (by kernel_rfl) rfl rfl mixed (by kernel_rfl) (by simp) (by simp) ?_
  have hl2 : (its ++ [x]).length = n + 1 := by simp [hl]
  have hd2 : (its ++ [x]).Nodup := by rw [List.nodup_append]; exact ⟨hd, by simp, fun a ha b hb e => by simp at hb; subst hb e; exact hx ha⟩
  have hp := settle_perm (ks := ks.set x v) (l := its ++ [x]) (i := n) (by omega)
  have hsl := hp.length_eq
  have h := c74 N [] (ks.set x v) (by simpa using hk) (n + 1) hn (its ++ [x]) hl2 hd2 (fun y hy => by
    rcases List.mem_append.1 hy with hy | hy
    · exact hN y hy
    · simp at hy; subst hy; exact hxN) n (by omega)
  have e1 := rowZ_get (plOf_get its hxN)
  rw [if_neg hx] at e1
  have l0 := leN 5 (settleH (ks.set x v) (its ++ [x]) n)
  have l2 := leI 5 (plOf N (settleH (ks.set x v) (its ++ [x]) n))
  have l3 := leI 5 (ks.set x v)
  have hpl := plOf_snoc (N := N) hx hxN
  simp only [hH, hB, hl, hl2, hsl, List.append_nil] at h ⊢
  generalize settleH (ks.set x v) (its ++ [x]) n = its' at *
  have hAt' := hAt (H := [[.osl 4 0 (n + 1) none 1, .osl 2 0 N (some N) 1, .osl 3 0 N (some N) 1], [], rowZ (plOf N (its ++ [x])), rowZ (ks.set x v), rowN (its ++ [x])]) h (a := 0) (p := 4) (q := 2) (r := 3) (by decide) (by decide) (by decide) (by decide) (by decide) (by decide) rfl rfl rfl rfl rfl rfl
  rw [hl] at hpl
  have q1 := rowZ_set (plOf N its) x n
  rw [hpl] at q1
  have q2 := rowZ_set ks x v
  have b0 : ¬ (x : Int) < 0 := by omega
  have b1 : ¬ (N : Int) ≤ x := by omega
  have b3 : x + 1 ≤ ks.length := by omega
  have b4 : ¬ N ≤ x := by omega
  have b5 : x + 1 ≤ N := by omega
  have hpll := plOf_len N its
  have hr := rowN_len (its ++ jk)
  have hne2 : rowN (its ++ jk) ≠ [] := by
    intro e
    rw [e] at hr
    simp only [List.length_nil] at hr
    exact hne (List.eq_nil_of_length_eq_zero hr.symm)
  have htk : (rowN (its ++ jk)).take n = rowN its := by rw [rowN_app, List.take_left' (by rw [rowN_len]; exact hl)]
  have b6 : n ≤ its.length + jk.length := by omega
  have b7 : n + 1 ≤ 140737488355328 := by omega
  have b8 : (n + 1) * 8 ≤ 140737488355328 := by omega
  have hsc := scalN its
  simp only [AVal.isOwn] at hsc
  have happ : rowN its ++ [.int .i64 (x : Int)] = rowN (its ++ [x]) := by rw [rowN_app]; rfl
  have g1 : (rowZ (plOf N (its ++ [x])))[x]? = some (.int .i64 (n : Int)) := by
    refine rowZ_get ?_
    rw [plOf_get _ hxN, if_pos (by simp), List.idxOf_append, if_neg hx]
    simp [hl]
  simp [b0, b1, b3, b4, b5, b6, b7, b8, e1, gE e1, gE g1, hxN, q1, q2, hpll, hne2, hr, htk, hsc, happ, g1, -List.all_eq_true]
  refine ⟨_, _, .inl (by simpa [four, ren, ren0, ren00] using hAt'), by simp, ?_⟩
  simp [l0, l2, l3]
end
end Go.Proofs.Ytgcnlmcpmocbhaa
