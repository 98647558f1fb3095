/- Rows of numbers: clone, find and delete under the closure of Victims. -/
import Derived.Test.YtpmmnnaaoideeaaT16
import Derived.Test.YtpmmnnaaoideeaaT41
set_option linter.unusedSimpArgs false
set_option linter.unusedVariables false
namespace Go.Proofs.Ytpmmnnaaoideeaa
open Go Go.Am Go.Wk

theorem encI_tree (us : List Int) : (us.map encI).all AVal.tree = true := by
  rw [List.all_map]; simp [AVal.tree, encI]
theorem encI_le (k : Nat) (us : List Int) : LeCells k (us.map encI) (us.map encI) := treeCells_le k (encI_tree us)
set_option maxHeartbeats 4000000 in
set_option maxRecDepth 10000 in
-- slices.Clone, as a row
theorem t44r (us : List Int) (hne : us ≠ []) (s1 : us.length ≤ 1000000) : CFun Try.prog 44 [.sl 1 (us.map encI) .sh] [] (.osl 0 0 us.length none 1) [us.map encI] := by
  refine CFun.intro (tr := [100007]) (fz := []) (n := 8) (rs := [.tmp 2]) Try.func44 rfl (by kernel_rfl) rfl rfl mixed (by kernel_rfl) (by simp) (by simp) ?_
  have s2 : us.length ≤ 140737488355328 := by omega
  have s6 : us.length * 8 ≤ 140737488355328 := by omega
  have s3 : 0 < us.length := List.length_pos_iff.2 hne
  have s4 : (us.map encI).isEmpty = false := by cases us <;> simp_all
  have s5 : (us.map encI).flatMap AVal.cells = us.map encI := by
    clear s2 s6 s3 s4 hne s1
    induction us with
    | nil => rfl
    | cons x us ih => simp only [List.map_cons, List.flatMap_cons, ih]; rfl
  have s7 : (us.map encI).map AVal.dis = us.map encI := by simp [AVal.dis]
  simp [hne, s1, s2, s3, s4, s6]
  first | (rw [s5, s7]; exact encI_le 1 us) | (simpa using encI_le 1 us)
set_option maxHeartbeats 4000000 in
set_option maxRecDepth 10000 in
theorem t44n : CFun Try.prog 44 [.sl 1 [] .sh] [] (.sl 1 [] .full) [] := by
  refine CFun.intro (tr := [100007]) (fz := []) (n := 8) (rs := [.tmp 2]) Try.func44 rfl (by kernel_rfl) rfl rfl mixed (by kernel_rfl) (by simp) (by simp) ?_
  simp
theorem eI : Enc (fun x : Int => [AVal.int .i64 x]) 1 := ⟨by decide, fun _ => rfl, fun _ => rfl, fun _ => rfl⟩
theorem rowI (l : List Int) : rowC (fun x : Int => [AVal.int .i64 x]) l = l.map encI := by
  induction l with
  | nil => rfl
  | cons x l ih => rw [rowC_cons, ih]; rfl
/-- The variables of Victims around its deletion. -/
def hV (c : Con) (r : List Lnk) (n : Nat) (us : List AVal) : List (List AVal) := [cellsC c, rowC cellsL r, [.osl 1 0 n none 13], us]
def fullP (r : List Lnk) (b : Int) (i : Int) : Bool := decide (b ≤ (r.getD i.toNat lnk0).Fr 7)
set_option maxHeartbeats 4000000 in
set_option maxRecDepth 10000 in
-- the closure of Victims
theorem t45 (c : Con) (r : List Lnk) (n : Nat) (hn : r.length = n) (us : List Int) (i : Int) (h0 : 0 ≤ i) (h1 : i < n) : CFun Try.prog 45 [.int .i64 i, .ptr 2 0, .ptr 0 0] (hV c r n (us.map encI)) (.bool (fullP r c.Band i)) (hV c r n (us.map encI)) := by
  refine CFun.intro (tr := []) (fz := []) (n := 14) (rs := [.tmp 4]) Try.func45 rfl (by kernel_rfl) rfl rfl mixed (by kernel_rfl) (by simp) (by simp) ?_
  obtain ⟨j, rfl⟩ : ∃ j : Nat, i = j := ⟨i.toNat, by omega⟩
  have hj : j < n := by omega
  obtain ⟨x, hx⟩ : ∃ x, r[j]? = some x := ⟨_, List.getElem?_eq_getElem (by omega)⟩
  have hg := rowL_get hx (k := 7) (by omega)
  have hrl := encL_enc.rowLen r
  rw [hn] at hrl
  have b1 : j * 13 + 4 + 7 < n * 13 := by omega
  have e : fullP r c.Band j = decide (c.Band ≤ x.Fr 7) := by
    unfold fullP
    rw [Int.toNat_natCast, List.getD_eq_getElem?_getD, hx]
    rfl
  have hle := fun k => encL_enc.rowLe k r
  have hle2 := fun k => encI_le k us
  rw [e]
  simp only [hV]
  simp [hj, hg, gE hg, hrl, b1, hle, hle2]
set_option maxHeartbeats 4000000 in
set_option maxRecDepth 10000 in
-- slices.IndexFunc
theorem t69 (c : Con) (r : List Lnk) (n : Nat) (hn : r.length = n) (us : List Int) (m : Nat) (hm : us.length = m) (hm2 : m < 1000000) (hus : ∀ u ∈ us, 0 ≤ u ∧ u < n) :
    CFun Try.prog 69 [.osl 3 0 m none 1, .fn 45 [] [.ptr 2 0, .ptr 0 0]] (hV c r n (us.map encI)) (.int .i64 (idxL (fullP r c.Band) us 0)) (hV c r n (us.map encI)) := by
  refine CFun.intro (tr := []) (fz := []) (n := 19) (rs := [.tmp 4]) Try.func69 rfl (by kernel_rfl) rfl rfl mixed (by kernel_rfl) (by simp) (by simp) ?_
  have hc := fun u (hu : u ∈ us) => t45 c r n hn us u (hus u hu).1 (hus u hu).2
  have hle := fun k => encL_enc.rowLe k r
  have hle2 := fun k => encI_le k us
  simp only [hV] at *
  simp
  refine LoopK.intro (tr := []) mixed (by kernel_rfl) (fun i : Nat => [(0, .osl 3 0 m none 1), (1, .fn 45 [] [.ptr 2 0, .ptr 0 0]), (7, .int .i64 m), (8, .int .i64 i)]) (fun _ => hV c r n (us.map encI)) (fun i => i ≤ m ∧ idxL (fullP r c.Band) us 0 = idxL (fullP r c.Band) (us.drop i) i) (fun i => m - i) 0 ?_ ?_ ?_
  · simp
  · simp [hV, hle, hle2]
  · rintro i ⟨h1, h2⟩
    by_cases hi : i < m
    · obtain ⟨x, hx, hd⟩ := get_drop (l := us) (i := i) (by omega)
      rw [hd] at h2
      simp only [idxL] at h2
      have w1 : IntKind.i64.wrap ((i : Int) + 1) = i + 1 := wrap_in (by omega)
      clear hd
      have hcx := hc x (List.mem_of_getElem? hx)
      generalize fullP r c.Band x = b at hcx h2
      simp only [hV]
      simp [hi, hm, hx, gE hx]
      refine ⟨_, _, .inl (by simpa [cargs] using hcx), by simp, ?_⟩
      cases b with
      | true => simp at h2; simp [h2, hle, hle2]
      | false =>
        simp at h2
        simp [w1]
        exact ⟨i + 1, ⟨by omega, h2⟩, by omega, by simp [hle, hle2]⟩
    · have : i = m := by omega
      subst this
      rw [List.drop_eq_nil_of_le (by omega)] at h2
      simp only [hV]
      simp [h2, idxL, hle, hle2]
set_option maxHeartbeats 8000000 in
set_option maxRecDepth 10000 in
-- slices.DeleteFunc
theorem t43 (c : Con) (r : List Lnk) (n : Nat) (hn : r.length = n) (us : List Int) (m : Nat) (hm : us.length = m) (hm2 : m < 1000000) (hus : ∀ u ∈ us, 0 ≤ u ∧ u < n) :
    CFun Try.prog 43 [.osl 3 0 m none 1, .fn 45 [] [.ptr 2 0, .ptr 0 0]] (hV c r n (us.map encI)) (.osl 3 0 (us.filter fun x => !fullP r c.Band x).length none 1) (hV c r n ((us.filter fun x => !fullP r c.Band x).map encI ++ List.replicate (m - (us.filter fun x => !fullP r c.Band x).length) AVal.undef)) := by
  refine CFun.intro (tr := []) (fz := []) (n := 42) (rs := [.tmp 4]) Try.func43 rfl (by kernel_rfl) rfl rfl mixed (by kernel_rfl) (by simp) (by simp) ?_
  have hidx := t69 c r n hn us m hm hm2 hus
  have hle := fun k => encL_enc.rowLe k r
  have hle2 := fun k us => encI_le k us
  have hc := fun (cur : List Int) u (hu : u ∈ us) => t45 c r n hn cur u (hus u hu).1 (hus u hu).2
  generalize hp : fullP r c.Band = p at *
  simp only [hV] at *
  simp
  refine ⟨_, _, .inl (by simpa using hidx), by simp, ?_⟩
  rcases idxL_spec p us 0 with ⟨e1, e2⟩ | ⟨i, e1, e2, e3⟩
  · simp [e1, e2, hm, hle, hle2]
  · have w0 : IntKind.i64.wrap ((i : Int) + 1) = i + 1 := wrap_in (by omega)
    have hne : ¬ ((i : Int) = -1) := by omega
    rw [Nat.zero_add] at e1
    simp [e1, w0, hne]
    refine LoopK.intro (tr := []) mixed (by kernel_rfl) (fun q : Nat × Nat × List Int => [(0, .osl 3 0 m none 1), (1, .fn 45 [] [.ptr 2 0, .ptr 0 0]), (5, .int .i64 q.1), (6, .int .i64 q.2.1)]) (fun q => hV c r n (q.2.2.map encI))
      (fun q => q.1 < q.2.1 ∧ q.2.1 ≤ m ∧ q.2.2.length = m ∧ q.2.2.take q.1 = (us.take q.2.1).filter (fun x => !p x) ∧ q.2.2.drop q.2.1 = us.drop q.2.1) (fun q => m - q.2.1) (i, i + 1, us) ?_ ?_ ?_
    · exact ⟨by simp, by simp; omega, hm, e3.symm, rfl⟩
    · simp [hV, hle, hle2]
    · rintro ⟨a, b, cur⟩ ⟨h1, h2, h3, h4, h5⟩
      simp only at h1 h2 h3 h4 h5
      have hal : a < cur.length := by omega
      by_cases hb : b < m
      · obtain ⟨x, hx, hd⟩ := get_drop (l := us) (i := b) (by omega)
        obtain ⟨y, hy, he⟩ := get_drop (l := cur) (i := b) (by omega)
        rw [hd, he, List.cons.injEq] at h5
        obtain ⟨rfl, h5⟩ := h5
        have hcall := hc cur y (List.mem_of_getElem? hx)
        have w1 : IntKind.i64.wrap ((b : Int) + 1) = b + 1 := wrap_in (by omega)
        have w2 : IntKind.i64.wrap ((a : Int) + 1) = a + 1 := wrap_in (by omega)
        have htk : (us.take (b + 1)).filter (fun x => !p x) = (us.take b).filter (fun x => !p x) ++ [y].filter (fun x => !p x) := by
          rw [List.take_add_one, hx]; simp
        have hle3 : ∀ k, LeCells k ((cur.map encI).set a (.int .i64 y)) ((cur.map encI).set a (.int .i64 y)) := fun k => by
          have := encI_le k (cur.set a y)
          rw [List.map_set] at this
          exact this
        have han : a < m := by omega
        have han1 : a + 1 ≤ m := by omega
        clear hd he
        simp only [hV]
        cases hpx : p y with
        | true =>
          rw [hpx] at hcall
          simp [hb, h3, hy, gE hy]
          refine ⟨_, _, .inl (by simpa [cargs] using hcall), by simp, ?_⟩
          simp [w1]
          refine ⟨a, b + 1, cur, ⟨by omega, by omega, h3, by rw [htk]; simp [hpx, h4], h5⟩, by omega, ?_⟩
          simp [hle, hle2]
        | false =>
          rw [hpx] at hcall
          have hset' : (cur.set a y).take (a + 1) = (us.take (b + 1)).filter (fun x => !p x) := by
            rw [htk, ← h4, List.take_add_one, List.take_set_of_le (by omega)]
            simp [hal, hpx]
          simp [hb, h3, hy, gE hy]
          refine ⟨_, _, .inl (by simpa [cargs] using hcall), by simp, ?_⟩
          simp [han, han1, h3, w1, w2]
          refine ⟨a + 1, b + 1, cur.set a y, ⟨by omega, by omega, by simpa using h3, hset', ?_⟩, by omega, ?_⟩
          · rw [List.drop_set_of_lt (by omega)]; exact h5
          · simp [hle, hle2, hle3]
      · have : b = m := by omega
        subst this
        rw [show us.take b = us from List.take_of_length_le (by omega)] at h4
        have hla : (us.filter fun x => !p x).length = a := by rw [← h4, List.length_take]; omega
        have ham : a ≤ b := by omega
        have hrow := eI.strike cur a (by omega) ((b - a) * 1) (by rw [h3]) (List.replicate (b - a) .undef) (by simp)
        simp only [Nat.mul_one, rowI] at hrow
        rw [h4] at hrow
        have hab : ¬ b - a = 0 := by omega
        have hfit : a + (b - a) ≤ b := by omega
        have hun : ∀ k, LeCells k ((us.filter fun x => !p x).map encI ++ List.replicate (b - a) AVal.undef) ((us.filter fun x => !p x).map encI ++ List.replicate (b - a) AVal.undef) := fun k => by
          have := eI.roomLe k (b - a) (us.filter fun x => !p x)
          rw [rowI] at this
          exact this
        simp only [hV]
        simp [hb, ham, hla, h3, hab, hfit, hrow, hle, hle2, hun, -setR]
end Go.Proofs.Ytpmmnnaaoideeaa

/- tunnel.clone, as data and as a row. -/
namespace Go.Proofs.Ytpmmnnaaoideeaa
open Go Go.Am Go.Wk

set_option maxHeartbeats 4000000 in
set_option maxRecDepth 10000 in
-- slices.Clone of numbers, as data
theorem t44d (us : List Int) (s1 : us.length ≤ 17592186044415) : CFun Try.prog 44 [.sl 1 (us.map encI) .sh] [] (.sl 1 (us.map encI) .sh) [] := by
  refine CFun.intro (tr := []) (fz := []) (n := 8) (rs := [.tmp 2]) Try.func44 rfl (by kernel_rfl) rfl rfl mixed (by kernel_rfl) (by simp) (by simp) ?_
  have s2 : us.length ≤ 140737488355328 := by omega
  have s3 : us.length * 8 ≤ 140737488355328 := by omega
  cases us with
  | nil => simp
  | cons x xs =>
    simp only [List.length_cons] at s2 s3
    simp [s2, s3]
/-- Rows of a tunnel that can be copied. -/
def smT (t : Tun) : Prop := t.P.length ≤ 17592186044415 ∧ t.W.Avoid.length ≤ 17592186044415 ∧ t.W.Thru.length ≤ 17592186044415
set_option maxHeartbeats 4000000 in
set_option maxRecDepth 10000 in
-- tunnel.clone, as data
theorem t54d (ts : List Tun) (n : Nat) (hn : ts.length = n) (hn2 : n ≤ 1000000) (hs : ∀ t ∈ ts, smT t) : CFun Try.prog 54 [.sl 12 (ts.map encT) .sh] [] (.sl 12 (ts.map encT) .sh) [] := by
  refine CFun.intro (tr := [28]) (fz := []) (n := 34) (rs := [.tmp 2]) Try.func54 rfl (by kernel_rfl) rfl rfl mixed (by kernel_rfl) (by simp) (by simp) ?_
  have h44 := fun us s1 H => (t44d us s1).up' H rfl rfl
  simp [hn]
  refine LoopK.intro (tr := [28]) mixed (by kernel_rfl) (fun i : Nat => [(3, .sl 12 ((ts.take i).map encT) .own), (6, .sl 12 (ts.map encT) .sh), (7, .int .i64 n), (8, .int .i64 i)]) (fun _ => [])
    (fun i => i ≤ n) (fun i => n - i) 0 ?_ ?_ ?_
  · simp
  · simp
  · intro i h1
    by_cases hi : i < n
    · obtain ⟨x, hx, hd⟩ := get_drop (l := ts) (i := i) (by omega)
      clear hd
      obtain ⟨b1, b2, b3⟩ := hs x (List.mem_of_getElem? hx)
      have w1 : IntKind.i64.wrap ((i : Int) + 1) = i + 1 := wrap_in (by omega)
      have htk : ts.take (i + 1) = ts.take i ++ [x] := by rw [List.take_add_one, hx]; simp
      have s1 : i + 1 ≤ 140737488355328 := by omega
      have s2 : (i + 1) * 136 ≤ 140737488355328 := by omega
      have s3 : min i ts.length = i := by omega
      have k1 := h44 x.P b1
      have k2 := h44 x.W.Avoid b2
      have k3 := h44 x.W.Thru b3
      simp [hn, hi, hx, gE hx]
      refine ⟨_, _, .inl (by simpa [cargs] using k1 _), by simp [cargs], ?_⟩
      simp
      refine ⟨_, _, .inl (by simpa [cargs] using k2 _), by simp [cargs], ?_⟩
      simp
      refine ⟨_, _, .inl (by simpa [cargs] using k3 _), by simp [cargs], ?_⟩
      simp [s1, s2, s3, w1]
      refine ⟨i + 1, by omega, by omega, ?_⟩
      have e := congrArg (List.map encT) htk
      simp only [List.map_take, List.map_append, List.map_cons, List.map_nil, encT, cellsT] at e
      simp [e]
    · have : i = n := by omega
      subst this
      have e : ts.take i = ts := List.take_of_length_le (by omega)
      simp [hn, e]
set_option maxHeartbeats 8000000 in
set_option maxRecDepth 10000 in
-- tunnel.clone, as a row
theorem t54r (ts : List Tun) (n : Nat) (hn : ts.length = n) (h0 : 0 < n) (hn2 : n ≤ 1000000) (hs : ∀ t ∈ ts, smT t) : CFun Try.prog 54 [.sl 12 (ts.map encT) .sh] [] (.osl 0 0 n none 12) [rowC cellsT ts] := by
  refine CFun.intro (tr := [100031]) (fz := []) (n := 34) (rs := [.tmp 2]) Try.func54 rfl (by kernel_rfl) rfl rfl mixed (by kernel_rfl) (by simp) (by simp) ?_
  have h44 := fun us s1 H => (t44d us s1).up' H rfl rfl
  simp [hn]
  refine LoopK.introS (tr := [100031]) mixed (by kernel_rfl)
    (fun i : Nat => [(3, if i = 0 then .sl 0 [] .full else .osl 0 0 i none 12), (6, .sl 12 (ts.map encT) .sh), (7, .int .i64 n), (8, .int .i64 i)])
    (fun i => if i = 0 then [] else [rowC cellsT (ts.take i)]) (fun i => i ≤ n) (fun i => n - i) 0 ?_ ?_ ?_
  · simp
  · simp
  · intro i h1
    generalize hPQ : LoopPostS _ _ _ _ _ _ _ = PQ
    by_cases hi : i < n
    case neg =>
      have : i = n := by omega
      subst this
      have hle := fun k => encT_enc.rowLe k ts
      have e : ts.take i = ts := List.take_of_length_le (by omega)
      have hz : ¬ i = 0 := by omega
      simp [hn, hz]
      rw [← hPQ]
      simp only [LoopPostS]
      simp [hz, hle, e]
    obtain ⟨x, hx, hd⟩ := get_drop (l := ts) (i := i) (by omega)
    clear hd
    obtain ⟨b1, b2, b3⟩ := hs x (List.mem_of_getElem? hx)
    have w1 : IntKind.i64.wrap ((i : Int) + 1) = i + 1 := wrap_in (by omega)
    have htk : ts.take (i + 1) = ts.take i ++ [x] := by rw [List.take_add_one, hx]; simp
    have s1 : i + 1 ≤ 140737488355328 := by omega
    have s2 : (i + 1) * 136 ≤ 140737488355328 := by omega
    have hrl : (ts.take i).length = i := by simp; omega
    have k1 := h44 x.P b1
    have k2 := h44 x.W.Avoid b2
    have k3 := h44 x.W.Thru b3
    by_cases hz : i = 0
    · subst hz
      have w0 : IntKind.i64.wrap 1 = 1 := by decide
      have h1x := treeCellsS (σ := swp 0 1) (N := 2) (n := 1) (encT_enc.rowTree [x])
      rw [rowC_one] at h1x
      have htk1 : ts.take 1 = [x] := by simpa using htk
      simp [hn, hi, hx, gE hx]
      refine ⟨_, _, .inl (by simpa [cargs] using k1 _), by simp [cargs], ?_⟩
      simp
      refine ⟨_, _, .inl (by simpa [cargs] using k2 _), by simp [cargs], ?_⟩
      simp
      refine ⟨_, _, .inl (by simpa [cargs] using k3 _), by simp [cargs], ?_⟩
      simp [w0]
      rw [← hPQ]
      simp only [LoopPostS]
      refine ⟨1, by omega, by omega, .inr ⟨0, 1, Nat.zero_le _, Nat.zero_le _, by simp, by simp, Nat.zero_le _, ?_, ?_⟩⟩
      · simp [LeLookS, ren, ren0, swp]
      · simp only [Nat.succ_ne_zero, if_false, htk1, rowC_one]
        simp [LeBoxesS, swpH]
        exact h1x
    · generalize ts.take i = r at *
      have hfl := encT_enc.rowLen r
      rw [hrl] at hfl
      have hsc : (rowC cellsT r).all (fun c => c.scalar && !c.isOwn) = true := by
        have : ∀ l : List Tun, (rowC cellsT l).all (fun c => c.scalar && !c.isOwn) = true := by
          intro l
          induction l with
          | nil => rfl
          | cons y l ih => rw [rowC_cons, List.all_append, ih]; rfl
        exact this r
      have hi0 : 0 < i := by omega
      have hi' : (i : Int) < n := by omega
      have ht7 : (rowC cellsT r).take (i * 12) = rowC cellsT r := List.take_of_length_le (by omega)
      have hL := treeCellsS (σ := swp 0 2) (N := 3) (n := 1) (encT_enc.rowTree (r ++ [x]))
      have hpos : 0 < i * 12 := by omega
      simp [hn, hi, hi', hi0, hz, hx, gE hx]
      refine ⟨_, _, .inl (by simpa [cargs] using k1 _), by simp [cargs], ?_⟩
      simp
      refine ⟨_, _, .inl (by simpa [cargs] using k2 _), by simp [cargs], ?_⟩
      simp
      refine ⟨_, _, .inl (by simpa [cargs] using k3 _), by simp [cargs], ?_⟩
      simp only [AVal.isOwn] at hsc
      have hrn : ¬ rowC cellsT r = [] := by intro e; rw [e] at hfl; simp at hfl; omega
      simp [hrn, hi0, hfl, hpos, s1, s2, hsc, ht7, -List.all_eq_true]
      rw [← hPQ]
      simp only [LoopPostS]
      refine ⟨i + 1, by omega, by omega, .inr ⟨0, 2, Nat.zero_le _, Nat.zero_le _, by simp, by simp, Nat.zero_le _, ?_, ?_⟩⟩
      · simp [LeLookS, ren, ren0, swp, w1]
      · simp only [Nat.succ_ne_zero, if_false, htk]
        simp [LeBoxesS, swpH]
        rw [rowC_app, rowC_one] at hL ⊢
        exact hL
end Go.Proofs.Ytpmmnnaaoideeaa

/- Rows of tunnels: slices.Insert. -/
namespace Go.Proofs.Ytpmmnnaaoideeaa
open Go Go.Am Go.Wk
def ceT (t : Tun) : List AVal := cellsT t
theorem eT : Enc ceT 12 where
  pos := by omega
  len x := rfl
  dis x := rfl
  tree x := by simp [AVal.tree, ceT]
-- slices.Insert of one, into a row that may have room
theorem it_ov {k1 : Nat} {xs : List AVal} {mm : Am.Mode} {id off len : Nat} {cap : Option Nat} {k2 : Nat} {H : List (List AVal)} {cs : List AVal} (hid : H[id]? = some cs) (hne : cs ≠ []) : EFun Try.prog 78 [.sl k1 xs mm, .osl id off len cap k2] H (.bool false) :=
  overlaps_no (fn := Try.f78) Try.func78 (by kernel_rfl) (by decide +kernel) (by kernel_rfl) (by kernel_rfl) (t := 23) (k := 12) (by kernel_rfl) (by simp) hid hne
set_option maxHeartbeats 4000000 in
set_option maxRecDepth 10000 in
theorem it_insN (l : List (Tun)) (i n M : Nat) (hn : l.length = n) (hlen : (n + 1) * 136 ≤ 140737488355328) (hi : i ≤ n) (h0 : 0 < n) (b : Tun) : CFun Try.prog 59 [.osl 0 0 n (some n) 12, .int .i64 i, .sl 12 [.agg (ceT b)] .sh] [rowC ceT l ++ List.replicate M .undef]
    (.osl 1 0 (n + 1) none 12) [[], rowC ceT (insL l i b)] := by
  refine CFun.intro (tr := [100025, 100040]) (fz := []) (n := 95) (rs := [.tmp 6]) Try.func59 rfl (by kernel_rfl) rfl rfl mixed (by kernel_rfl) (by simp) (by simp) ?_
  have s1 : (n:Int) + 1 < 140737488355330 := by omega
  have w1 : IntKind.i64.wrap ((n : Int) + 1) = n + 1 := wrap_in (by omega)
  have w2 : IntKind.i64.wrap ((i : Int) + 1) = i + 1 := wrap_in (by omega)
  have w3 : IntKind.i64.wrap ((n : Int) + 1 - i) = n + 1 - i := wrap_in (by omega)
  have hfl := (eT).rowLen l
  have hil := insL_len (b := b) (l := l) (i := i) (by omega)
  have htr := (eT).rowTree (insL l i b)
  have hcb : ceT b = rowC ceT [b] := (rowC_one b).symm
  have hbl : (rowC ceT [b]).length = 12 := by rw [(eT).rowLen]; rfl
  have hsrc : asrc [rowC ceT l ++ List.replicate M AVal.undef] (.osl 0 0 i (some n) 12) = some (12, i, rowC ceT (l.take i)) := by
    unfold asrc
    by_cases h0 : i = 0
    · subst h0; rfl
    · simp only [h0, if_false, List.getElem?_cons_zero, Option.bind_some]
      rw [if_pos (by rw [List.length_append, hfl]; simp; omega), List.drop_zero, List.take_append_of_le_length (by omega), (eT).rowTake]
  have hsb : ∀ H, asrc H (.sl 12 [.agg (ceT b)] .sh) = some (12, 1, rowC ceT [b]) := fun H => rfl
  have hle := (eT).rowLe 2 (insL l i b)
  have hds := (eT).rowDis (insL l i b)
  by_cases h1 : i = n
  · subst h1
    have z1 : (i + 1) * 136 ≤ 140737488355328 := by omega
    have z2 : i ≤ 140737488355327 := by omega
    have e1 : l.take i = l := List.take_of_length_le (by omega)
    have e2 : insL l i b = l ++ [b] := by simp [insL, e1, List.drop_of_length_le (show l.length ≤ i by omega)]
    rw [e1] at hsrc
    rw [e2] at htr hil hle hds ⊢
    simp [hsrc, hsb, -asrc, z1, z2, hds, ← rowC_app, -List.all_eq_true, hle]
  · have h1' : ¬ ((i:Int) = n) := by omega
    have hsrc2 : ∀ X, asrc ((rowC ceT l ++ List.replicate M AVal.undef) :: X) (.osl 0 (i * 12) (n - i) (some (n - i)) 12) = some (12, n - i, rowC ceT (l.drop i)) := by
      intro X
      unfold asrc
      simp only [show ¬ n - i = 0 by omega, if_false, List.getElem?_cons_zero, Option.bind_some]
      rw [if_pos (by rw [List.length_append, hfl]; omega), List.drop_append_of_le_length (by omega), (eT).rowDrop, List.take_append_of_le_length (by rw [(eT).rowLen]; simp; omega), List.take_of_length_le (by rw [(eT).rowLen]; simp; omega)]
    have hp0 : (0 : Int) ≤ (i : Int) + 1 := by omega
    have hp1 : 0 < (n + 1) * 12 := by omega
    have hi1 : i ≤ n + 1 := by omega
    have hnat : ((n : Int) + 1 - i).toNat = n + 1 - i := by omega
    have hti : (rowC ceT (l.take i)).length = i * 12 := by rw [(eT).rowLen, List.length_take]; congr 1; omega
    have hdr : (rowC ceT (l.drop i)).length = (n - i) * 12 := by rw [(eT).rowLen, List.length_drop, hn]
    have hbt : (rowC ceT [b]).take 12 = rowC ceT [b] := List.take_of_length_le (by rw [hbl]; exact Nat.le_refl _)
    have hLL : (rowC ceT (insL l i b)).length = (n + 1) * 12 := by rw [(eT).rowLen, hil, hn]
    have hdr2 : (rowC ceT (l.drop i)).take ((n - i) * 12) = rowC ceT (l.drop i) := List.take_of_length_le (by rw [hdr]; omega)
    have h2' : ((n:Int) < n + 1) := by omega
    have y1 : (i : Int) ≤ n + 1 := by omega
    have y2 : ((n : Int) + 1 - i) * 136 ≤ 281474976710656 := by omega
    have y3 : (n + 1) * 136 ≤ 140737488355328 := by omega
    have y4 : n ≤ 140737488355327 := by omega
    have m1 : ¬ n + 1 - i = 0 := by omega
    have m2 : min 1 (n + 1 - i) = 1 := by omega
    have m3 : min (n - i) (n - i) = n - i := by omega
    have m4 : ¬ n - i = 0 := by omega
    have m5 : n + 1 - (i + 1) = n - i := by omega
    have m6 : (n + 1 - i) * 12 - 12 - (l.length - i) * 12 = 0 := by omega
    have hset1 := (eT).setFlat (l.take i) i (by simp; omega) (List.replicate ((n + 1 - i) * 12) AVal.undef) [b] (by simp; omega)
    have hset2 := (eT).setFlat (l.take i ++ [b]) (i + 1) (by simp; omega) (List.replicate ((n + 1 - i) * 12 - 12) AVal.undef) (l.drop i) (by simp; omega)
    have hins : l.take i ++ [b] ++ l.drop i = insL l i b := by simp [insL]
    rw [hins] at hset2
    have hft1 : i * 12 + 12 ≤ i * 12 + (n + 1 - i) * 12 := by omega
    have hft2 : i + 1 ≤ n + 1 := by omega
    have hft3 : (i + 1) * 12 + (n - i) * 12 ≤ i * 12 + (n + 1 - i) * 12 := by omega
    have hft4 : (i + 1) * 12 + (n - i) * 12 ≤ (rowC ceT (l.take i ++ [b])).length + ((n + 1 - i) * 12 - 12) := by rw [(eT).rowLen]; simp; omega
    simp [hp0, hp1, y1, y2, y3, y4, m1, m2, m3, m4, m5, m6, hbt, hset1, hset2, hft1, hft2, hft3, hti, hft4, htr, hdr, hdr2, hLL, hi, hi1, h1, h1', h2', w1, w2, w3, hsrc, hsrc2, hsb, -asrc, -setR, hds, (eT).rowDis, (eT).rowScalar, -List.all_eq_true, hnat, hle]
set_option maxHeartbeats 4000000 in
set_option maxRecDepth 10000 in
theorem it_insC (l : List (Tun)) (i n C M : Nat) (hn : l.length = n) (hlen : (n + 1) * 136 ≤ 140737488355328) (hC : n + 1 ≤ C) (hM : (C - n) * 12 ≤ M) (hi : i ≤ n) (b : Tun) : CFun Try.prog 59 [.osl 1 0 n (some C) 12, .int .i64 i, .sl 12 [.agg (ceT b)] .sh] [[], rowC ceT l ++ List.replicate M .undef]
    (.osl 1 0 (n + 1) (some C) 12) [[], rowC ceT (insL l i b)] := by
  refine CFun.intro (tr := [100025, 100040]) (fz := []) (n := 95) (rs := [.tmp 6]) Try.func59 rfl (by kernel_rfl) rfl rfl mixed (by kernel_rfl) (by simp) (by simp) ?_
  have w1 : IntKind.i64.wrap ((n : Int) + 1) = n + 1 := wrap_in (by omega)
  have w2 : IntKind.i64.wrap ((i : Int) + 1) = i + 1 := wrap_in (by omega)
  have hfl := (eT).rowLen l
  have hil := insL_len (b := b) (l := l) (i := i) (by omega)
  have hcb : ceT b = rowC ceT [b] := (rowC_one b).symm
  have hbl : (rowC ceT [b]).length = 12 := by rw [(eT).rowLen]; rfl
  have hsb : ∀ H, asrc H (.sl 12 [.agg (ceT b)] .sh) = some (12, 1, rowC ceT [b]) := fun H => rfl
  have hle : ∀ rest, LeCells 2 (rowC ceT (insL l i b) ++ rest) (rowC ceT (insL l i b)) := fun rest => by
    have h1 := (eT).rowLe 2 (insL l i b)
    have h2 := LeCells_app h1 rfl (show LeCells 2 rest [] by simp)
    rwa [List.append_nil] at h2
  have hsrc : asrc [[], rowC ceT l ++ List.replicate M AVal.undef] (.osl 1 0 i (some C) 12) = some (12, i, rowC ceT (l.take i)) := by
    unfold asrc
    by_cases h0 : i = 0
    · subst h0; rfl
    · simp only [h0, if_false, List.getElem?_cons_zero, List.getElem?_cons_succ, Option.bind_some]
      rw [if_pos (by rw [List.length_append, hfl]; simp; omega), List.drop_zero, List.take_append_of_le_length (by omega), (eT).rowTake]
  by_cases h1 : i = n
  · subst h1
    have z1 : (i + 1) * 136 ≤ 140737488355328 := by omega
    have z2 : i ≤ 140737488355327 := by omega
    have z3 : ¬ C < i + 1 := by omega
    have e1 : l.take i = l := List.take_of_length_le (by omega)
    have e2 : insL l i b = l ++ [b] := by simp [insL, e1, List.drop_of_length_le (show l.length ≤ i by omega)]
    rw [e1] at hsrc
    rw [e2] at hil hle ⊢
    have hset := (eT).setFlat l i hn.symm (List.replicate M AVal.undef) [b] (by simp; omega)
    have hfit : i * 12 + 12 ≤ (rowC ceT l).length + M := by omega
    have hfit2 : (i + 1) * 12 ≤ (rowC ceT l).length + M := by omega
    simp [hsrc, hsb, -asrc, z1, z2, z3, hset, hfit, hfit2, -setR, (eT).rowDis, (eT).rowScalar, -List.all_eq_true, hle]
  · have h1' : ¬ ((i:Int) = n) := by omega
    have h2' : ¬ ((C:Int) < n + 1) := by omega
    have y1 : (n : Int) + 1 ≤ C := by omega
    have y2 : n + 1 ≤ C := by omega
    have y3 : (0 : Int) ≤ (n : Int) + 1 := by omega
    have y4 : i + 1 ≤ n + 1 := by omega
    have m5 : n + 1 - (i + 1) = n - i := by omega
    have m4 : ¬ n - i = 0 := by omega
    have m6 : min (n + 1 - i) (n - i) = n - i := by omega
    have m7 : min 1 (n + 1 - i) = 1 := by omega
    have hiC : i ≤ C := by omega
    have hp0 : (0 : Int) ≤ (i : Int) + 1 := by omega
    have hi1 : i ≤ n + 1 := by omega
    have hti : (rowC ceT (l.take i)).length = i * 12 := by rw [(eT).rowLen, List.length_take]; congr 1; omega
    have hdr : (rowC ceT (l.drop i)).length = (n - i) * 12 := by rw [(eT).rowLen, List.length_drop, hn]
    have hbt : (rowC ceT [b]).take 12 = rowC ceT [b] := List.take_of_length_le (by rw [hbl]; exact Nat.le_refl _)
    obtain ⟨x, hx, hd⟩ := get_drop (l := l) (i := i) (by omega)
    have hl1 : l = l.take (i + 1) ++ l.drop (i + 1) := (List.take_append_drop _ _).symm
    have hsrc3 : asrc [[], rowC ceT l ++ List.replicate M AVal.undef] (.osl 1 (i * 12) (n + 1 - i) (some (C - i)) 12) = some (12, n + 1 - i, rowC ceT (l.drop i) ++ List.replicate 12 .undef) := by
      unfold asrc
      simp only [show ¬ n + 1 - i = 0 by omega, if_false, List.getElem?_cons_zero, List.getElem?_cons_succ, Option.bind_some]
      rw [if_pos (by rw [List.length_append, hfl]; simp; omega), List.drop_append_of_le_length (by omega), (eT).rowDrop]
      have e : (n + 1 - i) * 12 = (rowC ceT (l.drop i)).length + 12 := by rw [hdr]; omega
      rw [e, List.take_length_add_append, List.take_replicate, show min 12 M = 12 by omega]
    have htk : (rowC ceT (l.drop i) ++ List.replicate 12 AVal.undef).take ((n - i) * 12) = rowC ceT (l.drop i) := by
      rw [← hdr, List.take_left']; rfl
    have hset1 : setR (rowC ceT l ++ List.replicate M AVal.undef) ((i + 1) * 12) (rowC ceT (l.drop i)) = rowC ceT (l.take (i + 1) ++ l.drop i) ++ List.replicate (M - 12) .undef := by
      have := (eT).setFlat (l.take (i + 1)) (i + 1) (by simp; omega) (rowC ceT (l.drop (i + 1)) ++ List.replicate M AVal.undef) (l.drop i) (by simp [(eT).rowLen]; omega)
      rw [← List.append_assoc, ← rowC_app, ← hl1] at this
      rw [this]
      congr 1
      have e : (l.drop i).length * 12 = (rowC ceT (l.drop (i + 1))).length + 12 := by rw [(eT).rowLen]; simp; omega
      rw [e, ← List.drop_drop, List.drop_left]
      simp
    have hset2 : setR (rowC ceT (l.take (i + 1) ++ l.drop i) ++ List.replicate (M - 12) .undef) (i * 12) (rowC ceT [b]) = rowC ceT (insL l i b) ++ List.replicate (M - 12) .undef := by
      rw [rowC_one]
      have := (eT).setOne (l.take (i + 1) ++ l.drop i) i b (by simp; omega) (List.replicate (M - 12) AVal.undef)
      rw [this]
      congr 2
      rw [insL, List.take_add_one, hx]
      simp [List.set_append, hn, hi, show min i n = i by omega]
    have hf1 : (i + 1) * 12 + (n - i) * 12 ≤ n * 12 + M := by omega
    have hf2 : i * 12 + 12 ≤ (rowC ceT (l.take (i + 1) ++ l.drop i)).length + (M - 12) := by rw [(eT).rowLen]; simp; omega
    have hne0 : rowC ceT l ++ List.replicate M AVal.undef ≠ [] := by intro e; have := congrArg List.length e; rw [List.length_append, hfl] at this; simp at this; omega
    have h45 := it_ov (k1 := 12) (xs := [.agg (ceT b)]) (mm := .sh) (id := 1) (off := (i + 1) * 12) (len := n - i) (cap := some (C - (i + 1))) (k2 := 12) (H := [[], rowC ceT l ++ List.replicate M AVal.undef]) rfl hne0
    rw [hn] at hfl
    simp [hp0, y1, y2, y3, y4, m4, m5, m6, m7, hfl, hi, hiC, hi1, h1, h1', h2', w1, w2, hsb, -asrc, -setR, (eT).rowDis, (eT).rowScalar, -List.all_eq_true]
    refine ⟨_, _, .inr ⟨rfl, h45⟩, trivial, ?_⟩
    simp [hp0, y1, y2, y3, y4, m4, m5, m6, m7, hfl, hf1, hf2, hset1, hset2, htk, hbt, hi, hiC, hi1, h1, h1', h2', w1, w2, hsb, hsrc3, hdr, -asrc, -setR, (eT).rowDis, (eT).rowScalar, -List.all_eq_true, hle]
theorem it_insR (l : List (Tun)) (i n : Nat) (hn : l.length = n) (hlen : (n + 1) * 136 ≤ 140737488355328) (hi : i ≤ n) (h0 : 0 < n) (b : Tun) : CFun Try.prog 59 [.osl 0 0 n none 12, .int .i64 i, .sl 12 [.agg (ceT b)] .sh] [rowC ceT l]
    (.osl 1 0 (n + 1) none 12) [[], rowC ceT (insL l i b)] := by
  have hfl := (eT).rowLen l
  rw [hn] at hfl
  have hne : rowC ceT l ≠ [] := by
    intro e
    rw [e] at hfl
    simp at hfl
    omega
  refine CFun.reveal (id := 0) (off := 0) (len := n) (k := 12) (cs := rowC ceT l) 0 rfl rfl hne (fun C hC => ?_) (fun C hC h0 => by omega)
  rw [hfl]
  show CFun Try.prog 59 [.osl 0 0 n (some C) 12, .int .i64 i, .sl 12 [.agg (ceT b)] .sh] [rowC ceT l ++ List.replicate (0 + C * 12 - n * 12) .undef] _ _
  by_cases hc : C = n
  · subst hc
    exact it_insN l i C _ hn hlen hi h0 b
  · have h := it_insC l i n C (0 + C * 12 - n * 12) hn hlen (by omega) (by rw [Nat.sub_mul]; omega) hi b
    refine CFun.forget (c := some C) (CFun.adopt (p := 0) (cs := rowC ceT l ++ List.replicate (0 + C * 12 - n * 12) .undef) rfl rfl ?_)
    exact h

set_option maxHeartbeats 2000000 in
set_option maxRecDepth 10000 in
theorem it_ins0 (b : Tun) : CFun Try.prog 59 [.sl 12 [] .full, .int .i64 0, .sl 12 [.agg (ceT b)] .sh] [] (.osl 0 0 1 none 12) [rowC ceT [b]] := by
  refine CFun.intro (tr := [100025, 100040]) (fz := []) (n := 95) (rs := [.tmp 6]) Try.func59 rfl (by kernel_rfl) rfl rfl mixed (by kernel_rfl) (by simp) (by simp) ?_
  have hle := fun k => eT.rowLe k [b]
  rw [rowC_one] at hle ⊢
  simp [ceT]
end Go.Proofs.Ytpmmnnaaoideeaa

/- Rows of tunnels: slices.Delete of one. -/
namespace Go.Proofs.Ytpmmnnaaoideeaa
open Go Go.Am Go.Wk

set_option maxHeartbeats 4000000 in
set_option maxRecDepth 10000 in
theorem t53C (l : List Tun) (i n C M : Nat) (hn : l.length = n) (hn2 : n ≤ 1000000) (hC : n ≤ C) (hM : M = (C - n) * 12) (hi : i < n) :
    CFun Try.prog 53 [.osl 0 0 n (some C) 12, .int .i64 i, .int .i64 (i + 1)] [rowC ceT l ++ List.replicate M .undef] (.sl 12 ((l.eraseIdx i).map encT) .sh) [[]] := by
  refine CFun.intro (tr := [100026]) (fz := [(6, 0, true)]) (n := 33) (rs := [.tmp 6]) Try.func53 rfl (by kernel_rfl) rfl rfl mixed (by kernel_rfl) (by simp) (by simp) ?_
  have hfl := eT.rowLen l
  have e1 : ¬ (i : Int) = i + 1 := by omega
  have e2 : ((i : Int) + 1).toNat = i + 1 := by omega
  have e3 : (0 : Int) ≤ i + 1 := by omega
  have e4 : (i : Int) + 1 ≤ n := by omega
  have e5 : i + 1 ≤ n := by omega
  have e6 : i ≤ n := by omega
  have e7 : n ≤ C := hC
  have e8 : i + 1 ≤ C := by omega
  have e9 : i ≤ C := by omega
  have hsrc1 : asrc [rowC ceT l ++ List.replicate M AVal.undef] (.osl 0 0 i (some C) 12) = some (12, i, rowC ceT (l.take i)) := by
    unfold asrc
    by_cases h0 : i = 0
    · subst h0; rfl
    · simp only [h0, if_false, List.getElem?_cons_zero, Option.bind_some]
      rw [if_pos (by rw [List.length_append, hfl]; omega), List.drop_zero, List.take_append_of_le_length (by omega), eT.rowTake]
  have hsrc2 : asrc [rowC ceT l ++ List.replicate M AVal.undef] (.osl 0 ((i + 1) * 12) (n - (i + 1)) (some (C - (i + 1))) 12) = some (12, n - (i + 1), rowC ceT (l.drop (i + 1))) := by
    unfold asrc
    by_cases h0 : n - (i + 1) = 0
    · simp only [h0, if_true]
      rw [List.drop_eq_nil_of_le (show l.length ≤ i + 1 by omega)]; rfl
    · simp only [h0, if_false, List.getElem?_cons_zero, Option.bind_some]
      rw [if_pos (by rw [List.length_append, hfl]; omega), List.drop_append_of_le_length (by omega), eT.rowDrop, List.take_append_of_le_length (by rw [eT.rowLen]; simp; omega), List.take_of_length_le (by rw [eT.rowLen]; simp; omega)]
  have hset := eT.setFlat (l.take i) i (by simp; omega) (rowC ceT (l.drop i) ++ List.replicate M AVal.undef) (l.drop (i + 1)) (by simp [eT.rowLen]; omega)
  rw [← List.append_assoc, ← rowC_app, List.take_append_drop, ← List.eraseIdx_eq_take_drop_succ] at hset
  have hle : (l.eraseIdx i).length = n - 1 := by rw [List.length_eraseIdx_of_lt (by omega), hn]
  obtain ⟨rest, hrest⟩ : ∃ rest, rest = (rowC ceT (l.drop i) ++ List.replicate M AVal.undef).drop ((l.drop (i + 1)).length * 12) := ⟨_, rfl⟩
  have hrl : rest.length = 12 + M := by rw [hrest]; simp [eT.rowLen]; omega
  rw [← hrest] at hset
  generalize l.eraseIdx i = z at *
  have hzl := eT.rowLen z
  have f1 : i + (n - (i + 1)) = n - 1 := by omega
  have f2 : n - 1 ≤ 140737488355328 := by omega
  have f3 : (n - 1) * 136 ≤ 140737488355328 := by omega
  have f4 : ¬ C < n - 1 := by omega
  have f5 : (n - 1) * 12 ≤ (rowC ceT l).length + M := by omega
  have f6 : n - 1 ≤ C := by omega
  have f7 : n - 1 ≤ n := by omega
  have g2 : n - (n - 1) = 1 := by omega
  have g3 : (n - 1) * 12 + 12 ≤ (rowC ceT z ++ rest).length := by rw [List.length_append, hzl, hrl]; omega
  have g4 : (n - 1) * 12 + 12 ≤ (rowC ceT z).length + rest.length := by rw [hzl, hrl]; omega
  have g5 : n ≤ (n - 1) + 1 := by omega
  have g6 : i * 12 + (n - (i + 1)) * 12 ≤ (rowC ceT l).length + M := by omega
  obtain ⟨u12, hu12⟩ : ∃ u : List AVal, u = [AVal.undef, .undef, .undef, .undef, .undef, .undef, .undef, .undef, .undef, .undef, .undef, .undef] := ⟨_, rfl⟩
  obtain ⟨rest2, hrest2⟩ : ∃ rest2, rest2 = u12 ++ rest.drop 12 := ⟨_, rfl⟩
  have hzl' : (rowC ceT z).length = (n - 1) * 12 := by rw [hzl, hle]
  have hclr : setR (rowC ceT z ++ rest) ((n - 1) * 12) u12 = rowC ceT z ++ rest2 := by
    rw [setR_mid _ _ _ (by rw [hu12, hrl]; simp) _ hzl'.symm, hrest2, hu12]; rfl
  rw [hu12] at hclr
  have htk : (rowC ceT z ++ rest2).take ((n - 1) * 12) = rowC ceT z := by rw [← hzl', List.take_left']; rfl
  have htr := eT.rowTree z
  have hch := eT.chunk z (n - 1) hle
  have hr2 : rest2.length = 12 + M := by rw [hrest2, hu12]; simp [hrl]; omega
  have hr3 : 0 < (rowC ceT z).length + rest2.length := by omega
  have hcz := eT.chunk z (n - 1) hle
  by_cases hz : n - (i + 1) = 0
  · have h8 : n - i = 1 := by omega
    rw [hz] at hsrc2
    rw [show l.drop (i + 1) = [] from List.drop_eq_nil_of_le (by omega)] at hset hsrc2
    have g0 : rowC ceT ([] : List Tun) = [] := rfl
    have hset : rowC ceT l ++ List.replicate M AVal.undef = rowC ceT z ++ rest := hset
    rw [hset] at hsrc1 hsrc2 ⊢
    rw [show n - 1 = i by omega] at *
    have g1 : i * 12 + 12 ≤ (rowC ceT z).length + rest.length := by omega
    simp [e1, e2, e3, e4, e5, e6, e7, e8, e9, hn, hsrc1, hsrc2, -asrc, f2, f3, f4, f5, f6, f7, g0, g1, hz, h8, -setR, eT.rowDis, eT.rowScalar, -List.all_eq_true, hclr, htk, htr, hch, hr3, hcz]
    rw [if_pos (by omega)]
    exact ⟨rfl, .inl ⟨rfl, rfl⟩⟩
  · simp [e1, e2, e3, e4, e5, e6, e7, e8, e9, hn, hsrc1, hsrc2, -asrc, f1, f2, f3, f4, f5, f6, f7, g2, g3, g4, hz, hset, -setR, eT.rowDis, eT.rowScalar, -List.all_eq_true, hclr, htk, htr, hch, hr3, hcz]
    rw [if_pos (by omega)]
    exact ⟨rfl, .inl ⟨rfl, rfl⟩⟩
-- slices.Delete of one
theorem t53 (l : List Tun) (i n : Nat) (hn : l.length = n) (hn2 : n ≤ 1000000) (hi : i < n) :
    CFun Try.prog 53 [.osl 0 0 n none 12, .int .i64 i, .int .i64 (i + 1)] [rowC ceT l] (.sl 12 ((l.eraseIdx i).map encT) .sh) [[]] := by
  have hfl := eT.rowLen l
  rw [hn] at hfl
  have hne : rowC ceT l ≠ [] := by
    intro e
    rw [e] at hfl
    simp at hfl
    omega
  refine CFun.reveal (id := 0) (off := 0) (len := n) (k := 12) (cs := rowC ceT l) 0 rfl rfl hne (fun C hC => ?_) (fun C hC h0 => by omega)
  rw [hfl]
  exact t53C l i n C _ hn hn2 hC (by rw [Nat.sub_mul]; omega) hi
end Go.Proofs.Ytpmmnnaaoideeaa

/- The next tunnel to give way, by the program. -/
namespace Go.Proofs.Ytpmmnnaaoideeaa
open Go Go.Am Go.Wk

def tun0 : Tun := ⟨0, 0, 0, ⟨0, 0, 0, 0, 0, 0, [], []⟩, []⟩
def betT (t u : Tun) : Bool := decide (u.W.Hold < t.W.Hold) || decide (t.W.Hold = u.W.Hold) && decide (u.ID < t.ID)
def vicF (cand : Nat → Tun → Bool) (ts : List Tun) : Int → Nat → List Tun → Int
  | b, _, [] => b
  | b, i, t :: r => vicF cand ts (if (cand i t && (decide (b < 0) || betT t (ts.getD b.toNat tun0))) = true then (i : Int) else b) (i + 1) r
def inF (fu : List Int) (k : Int) : Bool := decide (0 ≤ k) && hasB fu k
def candP (l : List Lnk) (fu : List Int) (c : Con) (ch : List Int) (i : Nat) (t : Tun) : Bool := !(decide (t.W.Band ≤ 0) || decide (t.W.Hold ≤ c.Setup) || hasB ch i) && (usesL l t.P).any (inF fu)
set_option maxHeartbeats 4000000 in
set_option maxRecDepth 10000 in
theorem t71 (fu : List Int) (m : Nat) (hm : fu.length = m) (hm2 : m < 1000000) (k : Int) : CFun Try.prog 71 [.int .i64 k, .ptr 0 0] [[.sl 1 (fu.map encI) .sh]] (.bool (inF fu k)) [[.sl 1 (fu.map encI) .sh]] := by
  refine CFun.intro (tr := []) (fz := []) (n := 11) (rs := [.tmp 3]) Try.func71 rfl (by kernel_rfl) rfl rfl mixed (by kernel_rfl) (by simp) (by simp) ?_
  have h := fun H => (c24 fu m hm (by omega) k).up' H rfl rfl
  unfold inF
  by_cases g : 0 ≤ k
  · simp [g]
    refine ⟨_, _, .inl (by simpa using h _), by simp, ?_⟩
    simp
  · simp [g]
set_option maxHeartbeats 4000000 in
set_option maxRecDepth 10000 in
theorem t69b (us : List Int) (n : Nat) (hn : us.length = n) (hn2 : n < 1000000) (fu : List Int) (m : Nat) (hm : fu.length = m) (hm2 : m < 1000000) :
    CFun Try.prog 69 [.sl 1 (us.map encI) .sh, .fn 71 [] [.ptr 0 0]] [[.sl 1 (fu.map encI) .sh]] (.int .i64 (idxL (inF fu) us 0)) [[.sl 1 (fu.map encI) .sh]] := by
  refine CFun.intro (tr := []) (fz := []) (n := 19) (rs := [.tmp 4]) Try.func69 rfl (by kernel_rfl) rfl rfl mixed (by kernel_rfl) (by simp) (by simp) ?_
  have h := t71 fu m hm hm2
  simp
  refine LoopK.intro (tr := []) mixed (by kernel_rfl) (fun j : Nat => [(0, .sl 1 (us.map encI) .sh), (1, .fn 71 [] [.ptr 0 0]), (7, .int .i64 n), (8, .int .i64 j)]) (fun _ => [[.sl 1 (fu.map encI) .sh]]) (fun j => j ≤ n ∧ idxL (inF fu) us 0 = idxL (inF fu) (us.drop j) j) (fun j => n - j) 0 ?_ ?_ ?_
  · simp
  · simp [hn]
  · rintro j ⟨h1, h2⟩
    by_cases hj : j < n
    · obtain ⟨y, hy, hd⟩ := get_drop (l := us) (i := j) (by omega)
      rw [hd] at h2
      simp only [idxL] at h2
      have w1 : IntKind.i64.wrap ((j : Int) + 1) = j + 1 := wrap_in (by omega)
      clear hd
      have hyc := h y
      generalize inF fu y = b at hyc h2
      simp [hj, hn, hy, gE hy]
      refine ⟨_, _, .inl (by simpa using hyc), by simp, ?_⟩
      cases b with
      | true => simp at h2; simp [h2]
      | false =>
        simp at h2
        simp [w1]
        exact ⟨j + 1, ⟨by omega, h2⟩, by omega, by simp⟩
    · have : j = n := by omega
      subst this
      rw [List.drop_eq_nil_of_le (by omega)] at h2
      simp [hn, h2, idxL]
set_option maxHeartbeats 4000000 in
set_option maxRecDepth 10000 in
theorem t70b (us : List Int) (n : Nat) (hn : us.length = n) (hn2 : n < 1000000) (fu : List Int) (m : Nat) (hm : fu.length = m) (hm2 : m < 1000000) :
    CFun Try.prog 70 [.sl 1 (us.map encI) .sh, .fn 71 [] [.ptr 0 0]] [[.sl 1 (fu.map encI) .sh]] (.bool (us.any (inF fu))) [[.sl 1 (fu.map encI) .sh]] := by
  refine CFun.intro (tr := []) (fz := []) (n := 9) (rs := [.tmp 4]) Try.func70 rfl (by kernel_rfl) rfl rfl mixed (by kernel_rfl) (by simp) (by simp) ?_
  have h := t69b us n hn hn2 fu m hm hm2
  rw [show us.any (inF fu) = decide (0 ≤ idxL (inF fu) us 0) from idxL_any _ _ _]
  generalize idxL (inF fu) us 0 = q at h
  simp
  refine ⟨_, _, .inl (by simpa using h), by simp, ?_⟩
  simp
set_option maxHeartbeats 16000000 in
set_option maxRecDepth 10000 in
-- tunnel.victim
theorem t46 (l : List Lnk) (n : Nat) (hn : l.length = n) (hn2 : n < 1000000) (ts : List Tun) (r : Nat) (hr : ts.length = r) (hr2 : r < 1000000) (hts : ∀ t ∈ ts, t.P.length < 1000000) (fu : List Int) (m : Nat) (hm : fu.length = m) (hm2 : m < 1000000) (c : Con) (ch : List Int) (q : Nat) (hq : ch.length = q) (hq2 : q < 1000000) :
    CFun Try.prog 46 [.sl 13 (l.map encL) .sh, .sl 12 (ts.map encT) .sh, .sl 1 (fu.map encI) .sh, encC c, .sl 1 (ch.map encI) .sh] [] (.int .i64 (vicF (candP l fu c ch) ts (-1) 0 ts)) [] := by
  refine CFun.intro (tr := []) (fz := []) (n := 84) (rs := [.tmp 10]) Try.func46 rfl (by kernel_rfl) rfl rfl mixed (by kernel_rfl) (by simp) (by simp) ?_
  have h41 := fun t (ht : t ∈ ts) H => (t41 l n hn (by omega) t.P t.P.length rfl (hts t ht)).up' H rfl rfl
  have h42 := fun (i : Nat) H => (c24 ch q hq (by omega) (i : Int)).up' H rfl rfl
  have h70 := fun t (ht : t ∈ ts) H (hH : H[0]? = some [.sl 1 (fu.map encI) .sh]) => (t70b (usesL l t.P) (t.P.length - 1) (usesL_len l t.P) (by have := hts t ht; omega) fu m hm hm2).at (H := H) (id := 0) hH rfl rfl rfl rfl
  obtain ⟨T, hT⟩ : ∃ T, T = vicF (candP l fu c ch) ts (-1) 0 ts := ⟨_, rfl⟩
  rw [← hT]
  simp [hr]
  refine LoopK.intro (tr := []) mixed (by kernel_rfl) (fun s : Nat × Int => [(0, .sl 13 (l.map encL) .sh), (1, .sl 12 (ts.map encT) .sh), (4, .sl 1 (ch.map encI) .sh), (7, .ptr 0 0), (8, .ptr 1 0), (11, .int .i64 s.2), (14, .sl 12 (ts.map encT) .sh), (15, .int .i64 r), (16, .int .i64 s.1)]) (fun _ => [[.sl 1 (fu.map encI) .sh], cellsC c])
    (fun s => s.1 ≤ r ∧ -1 ≤ s.2 ∧ s.2 < r ∧ T = vicF (candP l fu c ch) ts s.2 s.1 (ts.drop s.1)) (fun s => r - s.1) (0, -1) ?_ ?_ ?_
  · exact ⟨Nat.zero_le _, by simp, by simp; omega, hT⟩
  · simp
  rintro ⟨i, b⟩ ⟨i1, i2, i3, i4⟩
  simp only at i1 i2 i3 i4
  by_cases hi : i < r
  case neg =>
    rw [List.drop_eq_nil_of_le (by omega)] at i4
    simp only [vicF] at i4
    simp [hi, i4]
  obtain ⟨t, ht, hd⟩ := get_drop (l := ts) (i := i) (by omega)
  rw [hd] at i4
  simp only [vicF] at i4
  have hmm := List.mem_of_getElem? ht
  have w1 : IntKind.i64.wrap ((i : Int) + 1) = i + 1 := wrap_in (by omega)
  have k41 := h41 t hmm
  have k70 := h70 t hmm
  have k42 := h42 i
  clear h41 h42 h70 hd hT
  have hcp : candP l fu c ch i t = (!(decide (t.W.Band ≤ 0) || decide (t.W.Hold ≤ c.Setup) || hasB ch i) && (usesL l t.P).any (inF fu)) := rfl
  generalize candP l fu c ch i t = cd at *
  generalize hasB ch (i : Int) = b1 at *
  generalize usesL l t.P = us at *
  generalize us.any (inF fu) = b2 at *
  have skip : cd = false → T = vicF (candP l fu c ch) ts b (i + 1) (ts.drop (i + 1)) := by
    intro e
    rw [e] at i4
    simpa using i4
  by_cases g1 : t.W.Band ≤ 0
  · have := skip (by rw [hcp]; simp [g1])
    simp [hi, hr, ht, gE ht, g1, w1]
    exact ⟨i + 1, b, ⟨by omega, i2, i3, this⟩, by omega, by simp⟩
  by_cases g2 : t.W.Hold ≤ c.Setup
  · have := skip (by rw [hcp]; simp [g2])
    simp [hi, hr, ht, gE ht, g1, g2, w1]
    exact ⟨i + 1, b, ⟨by omega, i2, i3, this⟩, by omega, by simp⟩
  cases b1 with
  | true =>
    have := skip (by rw [hcp]; simp)
    simp [hi, hr, ht, gE ht, g1, g2]
    refine ⟨_, _, .inl (by simpa [cargs] using k42 _), by simp [cargs], ?_⟩
    simp [w1]
    exact ⟨i + 1, b, ⟨by omega, i2, i3, this⟩, by omega, by simp⟩
  | false =>
  cases b2 with
  | false =>
    have := skip (by rw [hcp]; simp)
    simp [hi, hr, ht, gE ht, g1, g2]
    refine ⟨_, _, .inl (by simpa [cargs] using k42 _), by simp [cargs], ?_⟩
    simp
    refine ⟨_, _, .inl (by simpa using k41 _), by simp, ?_⟩
    simp
    refine ⟨_, _, .inl (by simpa [ren, ren0] using k70 _ rfl), by simp, ?_⟩
    simp [w1]
    exact ⟨i + 1, b, ⟨by omega, i2, i3, this⟩, by omega, by simp⟩
  | true =>
  have hcd : cd = true := by rw [hcp]; simp [g1, g2]
  rw [hcd, Bool.true_and] at i4
  by_cases g3 : b < 0
  · rw [if_pos (by simp [g3])] at i4
    simp [hi, hr, ht, gE ht, g1, g2]
    refine ⟨_, _, .inl (by simpa [cargs] using k42 _), by simp [cargs], ?_⟩
    simp
    refine ⟨_, _, .inl (by simpa using k41 _), by simp, ?_⟩
    simp
    refine ⟨_, _, .inl (by simpa [ren, ren0] using k70 _ rfl), by simp, ?_⟩
    simp [g3, w1]
    exact ⟨i + 1, (i : Int), ⟨by omega, by omega, by omega, i4⟩, by omega, by simp⟩
  obtain ⟨j, rfl⟩ : ∃ j : Nat, b = j := ⟨b.toNat, by omega⟩
  have hj : j < r := by omega
  obtain ⟨u, hu⟩ : ∃ u, ts[j]? = some u := ⟨_, List.getElem?_eq_getElem (by omega)⟩
  have hud : ts.getD j tun0 = u := by rw [List.getD_eq_getElem?_getD, hu]; rfl
  rw [Int.toNat_natCast, hud] at i4
  unfold betT at i4
  have g3' : ¬ (j : Int) < 0 := g3
  by_cases g4 : u.W.Hold < t.W.Hold
  · rw [if_pos (by simp [g4])] at i4
    simp [hi, hr, ht, gE ht, g1, g2]
    refine ⟨_, _, .inl (by simpa [cargs] using k42 _), by simp [cargs], ?_⟩
    simp
    refine ⟨_, _, .inl (by simpa using k41 _), by simp, ?_⟩
    simp
    refine ⟨_, _, .inl (by simpa [ren, ren0] using k70 _ rfl), by simp, ?_⟩
    simp [g3', hj, hr, hu, gE hu, g4, w1]
    exact ⟨i + 1, (i : Int), ⟨by omega, by omega, by omega, i4⟩, by omega, by simp⟩
  by_cases g5 : t.W.Hold = u.W.Hold ∧ u.ID < t.ID
  · obtain ⟨g5, g6⟩ := g5
    rw [if_pos (by simp [g5, g6])] at i4
    simp [hi, hr, ht, gE ht, g1, g2]
    refine ⟨_, _, .inl (by simpa [cargs] using k42 _), by simp [cargs], ?_⟩
    simp
    refine ⟨_, _, .inl (by simpa using k41 _), by simp, ?_⟩
    simp
    refine ⟨_, _, .inl (by simpa [ren, ren0] using k70 _ rfl), by simp, ?_⟩
    simp [g3', hj, hr, hu, gE hu, g4, g5, g6, w1]
    exact ⟨i + 1, (i : Int), ⟨by omega, by omega, by omega, i4⟩, by omega, by simp⟩
  rw [if_neg (by simp only [Bool.or_eq_true, Bool.and_eq_true, decide_eq_true_eq]; omega)] at i4
  by_cases g6 : t.W.Hold = u.W.Hold
  · have g7 : ¬ u.ID < t.ID := fun h => g5 ⟨g6, h⟩
    simp [hi, hr, ht, gE ht, g1, g2]
    refine ⟨_, _, .inl (by simpa [cargs] using k42 _), by simp [cargs], ?_⟩
    simp
    refine ⟨_, _, .inl (by simpa using k41 _), by simp, ?_⟩
    simp
    refine ⟨_, _, .inl (by simpa [ren, ren0] using k70 _ rfl), by simp, ?_⟩
    simp [g3', hj, hr, hu, gE hu, g4, g6, g7, w1]
    exact ⟨i + 1, (j : Int), ⟨by omega, by omega, by omega, i4⟩, by omega, by simp⟩
  · simp [hi, hr, ht, gE ht, g1, g2]
    refine ⟨_, _, .inl (by simpa [cargs] using k42 _), by simp [cargs], ?_⟩
    simp
    refine ⟨_, _, .inl (by simpa using k41 _), by simp, ?_⟩
    simp
    refine ⟨_, _, .inl (by simpa [ren, ren0] using k70 _ rfl), by simp, ?_⟩
    simp [g3', hj, hr, hu, gE hu, g4, g6, w1]
    exact ⟨i + 1, (j : Int), ⟨by omega, by omega, by omega, i4⟩, by omega, by simp⟩
end Go.Proofs.Ytpmmnnaaoideeaa
