/- The exchange of databases: updates in packets of sixteen, by the reference. -/
import Derived.Test.YtfngaildaoahpaaXC5
import Derived.Test.YtfngaildaoahpaaXE5
import Derived.Test.YtfngaildaoahpaaXDS3
import Derived.Test.YtfngaildaoahpaaXE8
import Derived.Test.YtfngaildaoahpaaXE21
import Derived.Test.YtfngaildaoahpaaXC2
set_option linter.unusedSimpArgs false
set_option linter.unusedVariables false
namespace Go.Proofs.Ytfngaildaoahpaa
open Go Go.Am
theorem treeCellsS {σ : Nat → Nat} {N n : Nat} : ∀ {cs : List AVal}, cs.all AVal.tree = true → LeCellsS σ N n cs cs
 | [], _ => trivial
 | c :: cs, h => by
   simp only [List.all_cons, Bool.and_eq_true] at h
   have e : ren σ c = c := by
     have := h.1
     cases c <;> first | rfl | simp [AVal.tree] at this
   exact ⟨by rw [e]; exact LeV_refl c, tree_low h.1, tree_low h.1, treeCellsS h.2⟩
def stepU (p : List (List Lsa)) (x : Lsa) : List (List Lsa) := match p.getLast? with
 | some l => if l.length < 16 then p.dropLast ++ [l ++ [x]] else p ++ [[x]]
 | none => [[x]]
def updL (xs : List Lsa) : List (List Lsa) := xs.foldl stepU []
theorem updL_take {xs : List Lsa} {i : Nat} {x : Lsa} (h : xs[i]? = some x) : updL (xs.take (i + 1)) = stepU (updL (xs.take i)) x := by
 rw [List.take_add_one, h]
 simp [updL]
def pkU (a : Int) (l : List Lsa) : Pkt := { pkt0 with Kind := 4, Router := a, Lsas := l }
def mdU (l : List Lsa) : Am.Mode := if l.length < 16 then .own else .sh
def cellsU (a : Int) (l : List Lsa) (md : Am.Mode) : List AVal := [.int .i64 4, .int .u32 a, .int .u32 0, .int .u32 0, .int .i64 0, .int .i64 0, .int .i64 0, .int .i64 0, .int .u32 0, .int .u32 0, .sl 1 [] .sh, .int .i64 0, .bool false, .bool false, .bool false, .sl 7 [] .sh, .sl 4 [] .sh, .sl 15 (l.map encA) md]
theorem ePk : Enc cellsPk 18 := ⟨by decide, fun _ => rfl, fun _ => rfl, fun _ => rfl⟩
theorem cellsU_sh (a : Int) (l : List Lsa) : cellsU a l .sh = cellsPk (pkU a l) := rfl
theorem row_get {R : List AVal} {d : Nat} (h : R.length = d) (L : List AVal) (j : Nat) : (R ++ L)[d + j]? = L[j]? := by
 subst h
 rw [List.getElem?_append_right (by omega)]
 congr 1
 omega
theorem row_set {R : List AVal} {d : Nat} (h : R.length = d) (L : List AVal) (j : Nat) (v : AVal) : (R ++ L).set (d + j) v = R ++ L.set j v := by
 subst h
 rw [List.set_append_right _ _ (by omega)]
 congr 2
 omega
theorem LeCellsS_app {σ : Nat → Nat} {N n : Nat} {c d : List AVal} (h : LeCellsS σ N n c d) : ∀ {R : List AVal}, R.all AVal.tree = true → LeCellsS σ N n (R ++ c) (R ++ d)
 | [], _ => h
 | x :: R, hR => by
   simp only [List.all_cons, Bool.and_eq_true] at hR
   have e := treeCellsS (σ := σ) (N := N) (n := n) (cs := [x]) (by simp [hR.1])
   exact ⟨e.1, e.2.1, e.2.2.1, LeCellsS_app h hR.2⟩
theorem rowPk_sc (l : List Pkt) : (rowC cellsPk l).all (fun c => c.scalar && !c.isOwn) = true := by
 induction l with
 | nil => rfl
 | cons y l ih => rw [rowC_cons, List.all_append, ih]; rfl
def ValU (xs : List Lsa) (i : Nat) (ds : List (List Lsa)) (last : List Lsa) : Prop :=
 if i = 0 then ds = [] ∧ last = [] else updL (xs.take i) = ds ++ [last] ∧ i = 16 * ds.length + last.length ∧ 1 ≤ last.length ∧ last.length ≤ 16
theorem ValU_zero (xs : List Lsa) : ValU xs 0 [] [] := ⟨rfl, rfl⟩
theorem ValU_first {xs : List Lsa} {x : Lsa} (hx : xs[0]? = some x) : ValU xs 1 [] [x] := by
 rw [ValU, if_neg (by omega)]
 refine ⟨?_, by simp, by simp, by simp⟩
 rw [updL_take (i := 0) hx]
 simp [updL, stepU]
theorem ValU_more {xs : List Lsa} {i : Nat} {ds : List (List Lsa)} {last : List Lsa} {x : Lsa} (h : ValU xs i ds last) (hi : 0 < i) (hx : xs[i]? = some x) (hm : ¬ i % 16 = 0) : ValU xs (i + 1) ds (last ++ [x]) ∧ last.length < 16 := by
 rw [ValU, if_neg (by omega)] at h
 obtain ⟨h1, h2, h3, h4⟩ := h
 have hl : last.length < 16 := by omega
 refine ⟨?_, hl⟩
 rw [ValU, if_neg (by omega)]
 refine ⟨?_, by simp; omega, by simp, by simp; omega⟩
 rw [updL_take hx, h1]
 simp [stepU, hl]
theorem ValU_next {xs : List Lsa} {i : Nat} {ds : List (List Lsa)} {last : List Lsa} {x : Lsa} (h : ValU xs i ds last) (hi : 0 < i) (hx : xs[i]? = some x) (hm : i % 16 = 0) : ValU xs (i + 1) (ds ++ [last]) [x] ∧ ¬ last.length < 16 := by
 rw [ValU, if_neg (by omega)] at h
 obtain ⟨h1, h2, h3, h4⟩ := h
 have hl : ¬ last.length < 16 := by omega
 refine ⟨?_, hl⟩
 rw [ValU, if_neg (by omega)]
 refine ⟨?_, by simp; omega, by simp, by simp⟩
 rw [updL_take hx, h1]
 simp [stepU, hl]
theorem ValU_end {xs : List Lsa} {n : Nat} {ds : List (List Lsa)} {last : List Lsa} (h : ValU xs n ds last) (hn : xs.length = n) (h0 : 0 < n) : updL xs = ds ++ [last] ∧ n = 16 * ds.length + last.length := by
 rw [ValU, if_neg (by omega)] at h
 rw [List.take_of_length_le (by omega)] at h
 exact ⟨h.1, h.2.1⟩
set_option maxHeartbeats 4000000 in
set_option maxRecDepth 10000 in
theorem w58 (a : Int) (xs : List Lsa) (n : Nat) (hn : xs.length = n) (hlen : n * 136 ≤ 140737488351232) : CFun Try.prog 58 [.int .u32 a, .sl 15 (xs.map encA) .sh] [] (.sl 18 (((updL xs).map (pkU a)).map encPk) .sh) [] := by
 refine CFun.intro (tr := [100021, 32, 1000032, 2000032]) (fz := [(4, 0, true)]) (n := 42) (rs := [.tmp 4]) Try.func58 rfl (by kernel_rfl) rfl rfl mixed (by kernel_rfl) (by simp) (by simp) ?_
 simp [hn]
 refine LoopK.introS (tr := [100021, 32, 1000032, 2000032]) mixed (by kernel_rfl)
   (fun q : Nat × List (List Lsa) × List Lsa => [(0, .int .u32 a), (1, .sl 15 (xs.map encA) .sh), (5, if q.1 = 0 then .sl 0 [] .full else .osl 0 0 (q.2.1.length + 1) none 18), (6, .int .i64 q.1)])
   (fun q => if q.1 = 0 then [] else [rowC cellsPk (q.2.1.map (pkU a)) ++ cellsU a q.2.2 (mdU q.2.2)])
   (fun q => q.1 ≤ n ∧ ValU xs q.1 q.2.1 q.2.2) (fun q => n - q.1) (0, [], []) ?_ ?_ ?_
 · exact ⟨Nat.zero_le _, ValU_zero _⟩
 · simp
 rintro ⟨i, ds, last⟩ ⟨i1, i2⟩
 simp only at i1 i2 ⊢
 generalize hPQ : LoopPostS _ _ _ _ _ _ _ = PQ
 have hrl : (rowC cellsPk (ds.map (pkU a))).length = ds.length * 18 := by rw [ePk.rowLen, List.length_map]
 have htr := ePk.rowTree (ds.map (pkU a))
 by_cases hi : i < n
 case neg =>
   have : i = n := by omega
   subst this
   by_cases hz : i = 0
   · subst hz
     have e : xs = [] := List.length_eq_zero_iff.1 hn
     subst e
     simp [updL]
     rw [← hPQ]
     simp [LoopPostS, updL]
   · obtain ⟨e1, e2⟩ := ValU_end i2 hn (by omega)
     have hRl : (rowC cellsPk (ds.map (pkU a)) ++ cellsU a last (mdU last)).length = (ds.length + 1) * 18 := by
       rw [List.length_append, hrl]
       simp [cellsU, Nat.add_mul]
     have hRt : (rowC cellsPk (ds.map (pkU a)) ++ cellsU a last (mdU last)).all AVal.tree = true := by
       rw [List.all_append, htr]
       rfl
     have ht18 : (rowC cellsPk (ds.map (pkU a)) ++ cellsU a last (mdU last)).take ((ds.length + 1) * 18) = rowC cellsPk (ds.map (pkU a)) ++ cellsU a last (mdU last) := List.take_of_length_le (by omega)
     have hch : chunk true (rowC cellsPk (ds.map (pkU a)) ++ cellsU a last (mdU last)) 0 18 (ds.length + 1) = (ds.map (pkU a)).map encPk ++ [encPk (pkU a last)] := by
       have h0 := ePk.chunk ((ds ++ [last]).map (pkU a)) (ds.length + 1) (by simp)
       have h1 : ∀ (R c d : List AVal), c.map AVal.dis = d.map AVal.dis → chunk true (R ++ c) 0 18 (ds.length + 1) = chunk true (R ++ d) 0 18 (ds.length + 1) := by
         intro R c d h
         simp only [chunk, if_pos, List.map_take, List.map_drop, List.map_append, h]
       rw [h1 _ _ (cellsU a last .sh) (by simp only [cellsU, mdU]; split <;> rfl), cellsU_sh]
       have hR : rowC cellsPk (ds.map (pkU a)) ++ cellsPk (pkU a last) = rowC cellsPk ((ds ++ [last]).map (pkU a)) := by rw [List.map_append, rowC_app, List.map_cons, List.map_nil, rowC_one]
       rw [hR, h0]
       simp [encPk]
     generalize rowC cellsPk (ds.map (pkU a)) ++ cellsU a last (mdU last) = RC at *
     have hRn : RC ≠ [] := by rintro rfl; simp at hRl
     simp [hn, hz]
     rw [← hPQ]
     simp only [LoopPostS]
     simp [hn, hz, e1, hRl, hRt, ht18, hch, hRn, -List.all_eq_true]
 obtain ⟨x, hx, hd⟩ := get_drop (l := xs) (i := i) (by omega)
 clear hd
 have w1 : IntKind.i64.wrap ((i : Int) + 1) = i + 1 := wrap_in (by omega)
 have w0 : IntKind.i64.wrap 0 = 0 := by decide
 have wn : IntKind.i64.wrap 1 = 1 := by decide
 by_cases hz : i = 0
 · subst hz
   have v := ValU_first hx
   obtain ⟨e1, e2⟩ : ds = [] ∧ last = [] := i2
   subst e1; subst e2
   simp [hn, hi, hx, gE hx, w0, wn]
   rw [← hPQ]
   simp only [LoopPostS]
   refine ⟨(1, [], [x]), ⟨by omega, v⟩, by omega, .inl ?_⟩
   simp [rowC_nil, cellsU, mdU]
 have hdl : 16 * ds.length + 1 ≤ n := by
   rw [ValU, if_neg hz] at i2
   omega
 have wd : IntKind.i64.wrap (ds.length : Int) = ds.length := wrap_in (by omega)
 have wd1 : IntKind.i64.wrap ((ds.length : Int) + 1) = ds.length + 1 := wrap_in (by omega)
 have hmt : (i : Int).tmod 16 = ((i % 16 : Nat) : Int) := (Int.ofNat_tmod i 16).symm
 by_cases hm : i % 16 = 0
 · obtain ⟨v, hl⟩ := ValU_next i2 (by omega) hx hm
   have hm2 : (i : Int).tmod 16 = 0 := by rw [hmt, hm]; rfl
   have emd : mdU last = .sh := if_neg hl
   rw [emd, cellsU_sh]
   have hR : rowC cellsPk (ds.map (pkU a)) ++ cellsPk (pkU a last) = rowC cellsPk ((ds ++ [last]).map (pkU a)) := by rw [List.map_append, rowC_app, List.map_cons, List.map_nil, rowC_one]
   rw [hR]
   have hRl : (rowC cellsPk ((ds ++ [last]).map (pkU a))).length = (ds.length + 1) * 18 := by rw [ePk.rowLen]; simp
   have hsc : (rowC cellsPk ((ds ++ [last]).map (pkU a))).all (fun c => c.scalar && !c.isOwn) = true := rowPk_sc _
   have ht18 : (rowC cellsPk ((ds ++ [last]).map (pkU a))).take ((ds.length + 1) * 18) = rowC cellsPk ((ds ++ [last]).map (pkU a)) := List.take_of_length_le (by omega)
   generalize hRR : rowC cellsPk ((ds ++ [last]).map (pkU a)) = R at *
   have hRn : R ≠ [] := by rintro rfl; simp at hRl
   have s1 : ds.length ≤ 140737488355326 := by omega
   have s2 : (ds.length + 1 + 1) * 176 ≤ 140737488355328 := by omega
   simp only [AVal.isOwn] at hsc
   have hg := row_get hRl
   have hst := row_set hRl
   have hlt : (ds.length : Int) < ds.length + 1 := by omega
   have hge : 0 ≤ (ds.length : Int) + 1 := by omega
   simp [hn, hi, hx, gE hx, hz, hlt, hge, hg, hst, hm2, hRl, hRn, ht18, hsc, s1, s2, wd, wd1, -List.all_eq_true]
   rw [← hPQ]
   simp only [LoopPostS]
   have hRt : R.all AVal.tree = true := by rw [← hRR]; exact ePk.rowTree _
   refine ⟨(i + 1, ds ++ [last], [x]), ⟨by omega, v⟩, by omega, .inr ⟨0, 1, Nat.zero_le _, Nat.zero_le _, by simp, by simp, Nat.zero_le _, ?_, ?_⟩⟩
   · simp [LeLookS, ren, ren0, swp, w1]
   · simp only [Nat.succ_ne_zero, if_false, hRR]
     simp [LeBoxesS, swpH]
     refine LeCellsS_app ?_ hRt
     simp [LeCellsS, cellsU, mdU, ren, ren0]
 · obtain ⟨v, hl⟩ := ValU_more i2 (by omega) hx hm
   have hm2 : ¬ (i : Int).tmod 16 = 0 := by rw [hmt]; omega
   have emd : mdU last = .own := if_pos hl
   rw [emd]
   have s3 : (last.length + 1) * 136 ≤ 140737488355328 := by omega
   have s4 : last.length ≤ 140737488355327 := by omega
   generalize hRR : rowC cellsPk (ds.map (pkU a)) = R at *
   have hg := row_get hrl
   have hst := row_set hrl
   have hlt : (ds.length : Int) < ds.length + 1 := by omega
   simp [hn, hi, hx, gE hx, hz, hlt, hg, hst, hm2, hrl, wd, wd1, s3, s4, cellsU, -List.all_eq_true]
   rw [← hPQ]
   simp only [LoopPostS]
   refine ⟨(i + 1, ds, last ++ [x]), ⟨by omega, v⟩, by omega, .inl ?_⟩
   simp [hRR, w1]
   refine LeCells_app (treeCells_le _ htr) rfl ?_
   unfold mdU
   split <;> simp [cellsU]
end Go.Proofs.Ytfngaildaoahpaa

/- The exchange of databases: Answer, by the program. -/
namespace Go.Proofs.Ytfngaildaoahpaa
open Go Go.Am
def askL (db : List Lsa) (ks : List LKey) : List Lsa := ks.map fun k => (getD_ db k).1
def answN (db : List Lsa) (p : Pkt) : List (List Lsa) × Int :=
 if p.Kind ≠ 3 then ([], 15) else if p.Keys.all (fun k => (getD_ db k).2) = true then (updL (askL db p.Keys), 0) else ([], 6)
@[simp] def encAn (q : List (List Lsa) × Int) : AVal := .tup [.sl 18 ((q.1.map (pkU 0)).map encPk) .sh, .int .i64 q.2]
theorem rowU_facts (a : Int) (ds : List (List Lsa)) (last : List Lsa) : (rowC cellsPk (ds.map (pkU a)) ++ cellsU a last (mdU last)).length = (ds.length + 1) * 18
   ∧ (rowC cellsPk (ds.map (pkU a)) ++ cellsU a last (mdU last)).all AVal.tree = true
   ∧ chunk true (rowC cellsPk (ds.map (pkU a)) ++ cellsU a last (mdU last)) 0 18 (ds.length + 1) = (ds.map (pkU a)).map encPk ++ [encPk (pkU a last)] := by
 refine ⟨?_, ?_, ?_⟩
 · rw [List.length_append, ePk.rowLen, List.length_map]
   simp [cellsU, Nat.add_mul]
 · rw [List.all_append, ePk.rowTree]
   rfl
 · have h0 := ePk.chunk ((ds ++ [last]).map (pkU a)) (ds.length + 1) (by simp)
   have h1 : ∀ (R c d : List AVal), c.map AVal.dis = d.map AVal.dis → chunk true (R ++ c) 0 18 (ds.length + 1) = chunk true (R ++ d) 0 18 (ds.length + 1) := by
     intro R c d h
     simp only [chunk, if_pos, List.map_take, List.map_drop, List.map_append, h]
   rw [h1 _ _ (cellsU a last .sh) (by simp only [cellsU, mdU]; split <;> rfl), cellsU_sh]
   have hR : rowC cellsPk (ds.map (pkU a)) ++ cellsPk (pkU a last) = rowC cellsPk ((ds ++ [last]).map (pkU a)) := by rw [List.map_append, rowC_app, List.map_cons, List.map_nil, rowC_one]
   rw [hR, h0]
   simp [encPk]
set_option maxHeartbeats 8000000 in
set_option maxRecDepth 10000 in
theorem w24 (db : List Lsa) (hdb : db.length < 1099511627776) (ok : ∀ x ∈ db, okL x) (p : Pkt) (n : Nat) (hn : p.Keys.length = n) (hlen : n * 32 ≤ 140737488351232) (hq : ∀ i, i ≤ n → (p.Keys.take i).all (fun k => (getD_ db k).2) = true → i ≤ 2000) : CFun Try.prog 24 [.sl 15 (db.map encA) .sh, encPk p] [] (encAn (answN db p)) [] := by
 refine CFun.intro (tr := [100037, 47, 2000047, 4000047, 6000047]) (fz := [(4, 1, true)]) (n := 55) (rs := [.tmp 4, .tmp 5]) Try.func24 rfl (by kernel_rfl) rfl rfl mixed (by kernel_rfl) (by simp) (by simp) ?_
 by_cases hk : p.Kind = 3
 case neg => simp [answN, hk]
 obtain ⟨W, hW⟩ : ∃ W, W = answN db p := ⟨_, rfl⟩
 rw [← hW]
 rw [answN, if_neg (by simpa using hk)] at hW
 obtain ⟨xs, hxs⟩ : ∃ xs, xs = askL db p.Keys := ⟨_, rfl⟩
 rw [← hxs] at hW
 have hxn : xs.length = n := by rw [hxs, askL, List.length_map, hn]
 simp [hk, hn]
 refine LoopK.introS (tr := [100037, 47, 2000047, 4000047, 6000047]) mixed (by kernel_rfl)
   (fun q : Nat × List (List Lsa) × List Lsa => [(0, .sl 15 (db.map encA) .sh), (3, .ptr 0 0), (16, .sl 4 (p.Keys.map encY) .sh), (17, .int .i64 n), (18, .int .i64 q.1), (6, if q.1 = 0 then .sl 0 [] .full else .osl 1 0 (q.2.1.length + 1) none 18)])
   (fun q => if q.1 = 0 then [cellsPk p] else [cellsPk p, rowC cellsPk (q.2.1.map (pkU 0)) ++ cellsU 0 q.2.2 (mdU q.2.2), []])
   (fun q => q.1 ≤ n ∧ ValU xs q.1 q.2.1 q.2.2 ∧ (p.Keys.take q.1).all (fun k => (getD_ db k).2) = true) (fun q => n - q.1) (0, [], []) ?_ ?_ ?_
 · exact ⟨Nat.zero_le _, ValU_zero _, rfl⟩
 · simp [hk]
 rintro ⟨i, ds, last⟩ ⟨i1, i2, i3⟩
 simp only at i1 i2 i3 ⊢
 generalize hPQ : LoopPostS _ _ _ _ _ _ _ = PQ
 have hrl : (rowC cellsPk (ds.map (pkU 0))).length = ds.length * 18 := by rw [ePk.rowLen, List.length_map]
 have htr := ePk.rowTree (ds.map (pkU 0))
 by_cases hi : i < n
 case neg =>
   have : i = n := by omega
   subst this
   rw [List.take_of_length_le (by omega)] at i3
   rw [if_pos i3] at hW
   by_cases hz : i = 0
   · subst hz
     have e : xs = [] := List.length_eq_zero_iff.1 hxn
     simp
     rw [← hPQ]
     simp only [LoopPostS]
     simp [hW, e, updL]
   · obtain ⟨e1, e2⟩ := ValU_end i2 hxn (by omega)
     obtain ⟨hRl, hRt, hch⟩ := rowU_facts 0 ds last
     generalize rowC cellsPk (ds.map (pkU 0)) ++ cellsU 0 last (mdU last) = RC at *
     have ht18 : RC.take ((ds.length + 1) * 18) = RC := List.take_of_length_le (by omega)
     have hRn : RC ≠ [] := by rintro rfl; simp at hRl
     simp [hz]
     rw [← hPQ]
     simp only [LoopPostS]
     simp [hz, hW, e1, hRl, hRt, ht18, hch, hRn, -List.all_eq_true]
 obtain ⟨k, hkk, hd⟩ := get_drop (l := p.Keys) (i := i) (by omega)
 clear hd
 have w1 : IntKind.i64.wrap ((i : Int) + 1) = i + 1 := wrap_in (by omega)
 have w0 : IntKind.i64.wrap 0 = 0 := by decide
 have wn : IntKind.i64.wrap 1 = 1 := by decide
 have k57 := fun H => (f37 db _ rfl hdb ok k).up' H rfl rfl
 have i4 : (p.Keys.take (i + 1)).all (fun k => (getD_ db k).2) = (getD_ db k).2 := by
   rw [List.take_add_one, hkk, List.all_append, i3]
   simp
 have hx : xs[i]? = some (getD_ db k).1 := by rw [hxs, askL, List.getElem?_map, hkk]; rfl
 generalize getD_ db k = g at *
 obtain ⟨x, f⟩ := g
 simp only at i4 hx k57
 cases f with
 | false =>
   have hno : ¬ p.Keys.all (fun k => (getD_ db k).2) = true := by
     intro h
     have : (p.Keys.take (i + 1)).all (fun k => (getD_ db k).2) = true := List.all_eq_true.2 fun y hy => List.all_eq_true.1 h y (List.mem_of_mem_take hy)
     rw [i4] at this
     exact absurd this (by simp)
   rw [if_neg hno] at hW
   by_cases hz : i = 0
   · subst hz
     simp [hn, hi, hkk, gE hkk]
     refine ⟨_, _, .inl (by simpa using k57 _), by simp, ?_⟩
     simp
     rw [← hPQ]
     simp only [LoopPostS]
     simp [hW]
   · simp [hn, hi, hkk, gE hkk, hz]
     refine ⟨_, _, .inl (by simpa using k57 _), by simp, ?_⟩
     simp
     rw [← hPQ]
     simp only [LoopPostS]
     simp [hW]
 | true =>
   by_cases hz : i = 0
   · subst hz
     have v := ValU_first hx
     obtain ⟨e1, e2⟩ : ds = [] ∧ last = [] := i2
     subst e1; subst e2
     simp [hn, hi, hkk, gE hkk]
     refine ⟨_, _, .inl (by simpa using k57 _), by simp, ?_⟩
     simp [w0, wn]
     rw [← hPQ]
     simp only [LoopPostS]
     refine ⟨(1, [], [x]), ⟨by omega, v, i4⟩, by omega, .inr ⟨1, 3, Nat.zero_le _, Nat.zero_le _, by simp, by simp, Nat.zero_le _, ?_, ?_⟩⟩
     · simp [LeLookS, ren, ren0, swp]
     · simp [LeBoxesS, swpH, rowC_nil, cellsU, mdU, LeCellsS, ren, ren0]
   have hi2 := hq i i1 i3
   have hdl : 16 * ds.length + 1 ≤ i := by
     rw [ValU, if_neg hz] at i2
     omega
   have wd : IntKind.i64.wrap (ds.length : Int) = ds.length := wrap_in (by omega)
   have wd1 : IntKind.i64.wrap ((ds.length : Int) + 1) = ds.length + 1 := wrap_in (by omega)
   have hmt : (i : Int).tmod 16 = ((i % 16 : Nat) : Int) := (Int.ofNat_tmod i 16).symm
   by_cases hm : i % 16 = 0
   · obtain ⟨v, hl⟩ := ValU_next i2 (by omega) hx hm
     have hm2 : (i : Int).tmod 16 = 0 := by rw [hmt, hm]; rfl
     have emd : mdU last = .sh := if_neg hl
     rw [emd, cellsU_sh]
     have hR : rowC cellsPk (ds.map (pkU 0)) ++ cellsPk (pkU 0 last) = rowC cellsPk ((ds ++ [last]).map (pkU 0)) := by rw [List.map_append, rowC_app, List.map_cons, List.map_nil, rowC_one]
     rw [hR]
     have hRl : (rowC cellsPk ((ds ++ [last]).map (pkU 0))).length = (ds.length + 1) * 18 := by rw [ePk.rowLen]; simp
     have hsc : (rowC cellsPk ((ds ++ [last]).map (pkU 0))).all (fun c => c.scalar && !c.isOwn) = true := rowPk_sc _
     have ht18 : (rowC cellsPk ((ds ++ [last]).map (pkU 0))).take ((ds.length + 1) * 18) = rowC cellsPk ((ds ++ [last]).map (pkU 0)) := List.take_of_length_le (by omega)
     generalize hRR : rowC cellsPk ((ds ++ [last]).map (pkU 0)) = R at *
     have hRn : R ≠ [] := by rintro rfl; simp at hRl
     have s1 : ds.length ≤ 140737488355326 := by omega
     have s2 : (ds.length + 1 + 1) * 176 ≤ 140737488355328 := by omega
     simp only [AVal.isOwn] at hsc
     have hg := row_get hRl
     have hst := row_set hRl
     have hlt : (ds.length : Int) < ds.length + 1 := by omega
     have hge : 0 ≤ (ds.length : Int) + 1 := by omega
     simp [hn, hi, hkk, gE hkk, hz]
     refine ⟨_, _, .inl (by simpa using k57 _), by simp, ?_⟩
     simp [hz, hlt, hge, hg, hst, hm2, hRl, hRn, ht18, hsc, s1, s2, wd, wd1, -List.all_eq_true]
     rw [← hPQ]
     simp only [LoopPostS]
     have hRt : R.all AVal.tree = true := by rw [← hRR]; exact ePk.rowTree _
     refine ⟨(i + 1, ds ++ [last], [x]), ⟨by omega, v, i4⟩, by omega, .inr ⟨1, 5, Nat.zero_le _, Nat.zero_le _, by simp, by simp, Nat.zero_le _, ?_, ?_⟩⟩
     · simp [LeLookS, ren, ren0, swp, w1]
     · simp only [Nat.succ_ne_zero, if_false, hRR]
       simp [LeBoxesS, swpH, LeCellsS, ren, ren0]
       refine LeCellsS_app ?_ hRt
       simp [LeCellsS, cellsU, mdU, ren, ren0]
   · obtain ⟨v, hl⟩ := ValU_more i2 (by omega) hx hm
     have hm2 : ¬ (i : Int).tmod 16 = 0 := by rw [hmt]; omega
     have emd : mdU last = .own := if_pos hl
     rw [emd]
     have s3 : (last.length + 1) * 136 ≤ 140737488355328 := by omega
     have s4 : last.length ≤ 140737488355327 := by omega
     generalize hRR : rowC cellsPk (ds.map (pkU 0)) = R at *
     have hg := row_get hrl
     have hst := row_set hrl
     have hlt : (ds.length : Int) < ds.length + 1 := by omega
     simp [hn, hi, hkk, gE hkk, hz]
     refine ⟨_, _, .inl (by simpa using k57 _), by simp, ?_⟩
     simp [hz, hlt, hg, hst, hm2, hrl, wd, wd1, s3, s4, cellsU, -List.all_eq_true]
     rw [← hPQ]
     simp only [LoopPostS]
     refine ⟨(i + 1, ds, last ++ [x]), ⟨by omega, v, i4⟩, by omega, .inl ?_⟩
     simp [hRR, w1]
     refine LeCells_app (treeCells_le _ htr) rfl ?_
     unfold mdU
     split <;> simp [cellsU]
end Go.Proofs.Ytfngaildaoahpaa

/- The exchange of databases: Answer, by the reference. -/
namespace Go.Proofs.Ytfngaildaoahpaa
open Go Go.Am
def wantL (ks : List LKey) (x : Lsa) : Bool := ks.any fun k => hasK k x
def answR (db : List Lsa) (p : Pkt) : List (List Lsa) × Int :=
 if p.Kind ≠ 3 then ([], 15) else if p.Keys.all (fun k => (getD_ db k).2) = true then (updL (db.filter (wantL p.Keys)), 0) else ([], 6)
theorem keyY_ne {q k : LKey} (hb : ¬ q = k) : ¬ (q.Ty = k.Ty ∧ q.ID = k.ID ∧ q.Len = k.Len ∧ q.Router = k.Router) := by
 rintro ⟨r1, r2, r3, r4⟩
 cases q; cases k; simp_all
set_option maxHeartbeats 8000000 in
set_option maxRecDepth 10000 in
theorem w25 (db : List Lsa) (m : Nat) (hm : db.length = m) (hdb : m * 136 ≤ 140737488351232) (p : Pkt) (n : Nat) (hn : p.Keys.length = n) (hlen : n * 32 ≤ 140737488351232) : CFun Try.prog 25 [.sl 15 (db.map encA) .sh, encPk p] [] (encAn (answR db p)) [] := by
 refine CFun.intro (tr := [54]) (fz := []) (n := 63) (rs := [.tmp 4, .tmp 5]) Try.func25 rfl (by kernel_rfl) rfl rfl mixed (by kernel_rfl) (by simp) (by simp) ?_
 by_cases hk : p.Kind = 3
 case neg => simp [answR, hk]
 obtain ⟨W, hW⟩ : ∃ W, W = answR db p := ⟨_, rfl⟩
 rw [← hW]
 rw [answR, if_neg (by simpa using hk)] at hW
 obtain ⟨F, hF⟩ : ∃ F, F = db.filter (wantL p.Keys) := ⟨_, rfl⟩
 rw [← hF] at hW
 have hFl : F.length ≤ m := by rw [hF, ← hm]; exact List.length_filter_le _ _
 simp [hk]
 refine LoopK.intro (tr := [54]) mixed (by kernel_rfl)
   (fun i : Nat => [(0, .sl 15 (db.map encA) .sh), (3, .ptr 0 0), (6, .int .i64 i)]) (fun _ => [cellsPk p])
   (fun i => i ≤ n ∧ (p.Keys.take i).all (fun k => (getD_ db k).2) = true) (fun i => n - i) 0 ?_ ?_ ?_
 · exact ⟨Nat.zero_le _, rfl⟩
 · simp [hk]
 rintro i ⟨i1, i2⟩
 by_cases hi : i < n
 case pos =>
   obtain ⟨k, hkk, hd⟩ := get_drop (l := p.Keys) (i := i) (by omega)
   clear hd
   have w1 : IntKind.i64.wrap ((i : Int) + 1) = i + 1 := wrap_in (by omega)
   have k53 := fun H => (f87 db _ rfl (by omega) k).up' H rfl rfl
   have i4 : (p.Keys.take (i + 1)).all (fun k => (getD_ db k).2) = (getD_ db k).2 := by
     rw [List.take_add_one, hkk, List.all_append, i2]
     simp
   rcases idx_get db k with ⟨e1, e2⟩ | ⟨j, x, e1, _, _, e2⟩
   · have hno : ¬ p.Keys.all (fun k => (getD_ db k).2) = true := by
       intro h
       have := List.all_eq_true.1 h k (List.mem_of_getElem? hkk)
       rw [e2] at this
       exact absurd this (by simp)
     rw [if_neg hno] at hW
     rw [e1] at k53
     simp [hn, hi, hkk, gE hkk]
     refine ⟨_, _, .inl (by simpa using k53 _), by simp, ?_⟩
     simp [hW]
   · rw [e1] at k53
     rw [e2] at i4
     simp [hn, hi, hkk, gE hkk]
     refine ⟨_, _, .inl (by simpa using k53 _), by simp, ?_⟩
     simp [w1]
     exact ⟨i + 1, ⟨hi, List.all_eq_true.1 i4⟩, by omega, by simp⟩
 have : i = n := by omega
 subst this
 rw [List.take_of_length_le (by omega)] at i2
 rw [if_pos i2] at hW
 clear i1
 simp [hn]
 refine LoopK.intro (tr := [54]) mixed (by kernel_rfl)
   (fun q : Nat × List Lsa => [(0, .sl 15 (db.map encA) .sh), (3, .ptr 0 0), (7, .sl 15 (q.2.map encA) .own), (8, .int .i64 q.1)]) (fun _ => [cellsPk p])
   (fun q => q.1 ≤ m ∧ q.2.length ≤ q.1 ∧ F = q.2 ++ (db.drop q.1).filter (wantL p.Keys)) (fun q => m - q.1) (0, []) ?_ ?_ ?_
 · exact ⟨Nat.zero_le _, Nat.le_refl _, by simpa using hF⟩
 · simp [hk]
 rintro ⟨a, acc⟩ ⟨a1, a2, a3⟩
 simp only at a1 a2 a3 ⊢
 by_cases ha : a < m
 case neg =>
   rw [List.drop_eq_nil_of_le (by omega), List.filter_nil, List.append_nil] at a3
   subst a3
   have k58 := fun H => (w58 0 F _ rfl (by omega)).up' H rfl rfl
   simp [hm, ha]
   refine ⟨_, _, .inl (by simpa using k58 _), by simp, ?_⟩
   simp [hW]
 obtain ⟨x, hx, hd⟩ := get_drop (l := db) (i := a) (by omega)
 rw [hd] at a3
 simp only [List.filter_cons] at a3
 have w1 : IntKind.i64.wrap ((a : Int) + 1) = a + 1 := wrap_in (by omega)
 have s1 : acc.length ≤ 140737488355327 := by omega
 have s2 : (acc.length + 1) * 136 ≤ 140737488355328 := by omega
 have kx := fun H => (c26 x.H).up' H rfl rfl
 simp [hm, ha]
 refine LoopK.intro (tr := [54]) mixed (by kernel_rfl)
   (fun j : Nat => [(0, .sl 15 (db.map encA) .sh), (3, .ptr 0 0), (7, .sl 15 (acc.map encA) .own), (8, .int .i64 a), (9, .int .i64 j)]) (fun _ => [cellsPk p])
   (fun j => j ≤ i ∧ wantL p.Keys x = wantL (p.Keys.drop j) x) (fun j => i - j) 0 ?_ ?_ ?_
 · exact ⟨Nat.zero_le _, rfl⟩
 · simp [hk]
 rintro j ⟨j1, j2⟩
 by_cases hj : j < i
 case neg =>
   rw [List.drop_eq_nil_of_le (by omega)] at j2
   have j3 : wantL p.Keys x = false := j2
   rw [j3] at a3
   simp only [Bool.false_eq_true, if_false] at a3
   simp [hn, hj, w1]
   exact ⟨a + 1, acc, ⟨ha, by omega, a3⟩, by omega, by simp [hk]⟩
 obtain ⟨k, hkk, hd2⟩ := get_drop (l := p.Keys) (i := j) (by omega)
 rw [hd2] at j2
 have j3 : wantL (k :: p.Keys.drop (j + 1)) x = (hasK k x || wantL (p.Keys.drop (j + 1)) x) := rfl
 rw [j3] at j2
 have w2 : IntKind.i64.wrap ((j : Int) + 1) = j + 1 := wrap_in (by omega)
 have hh : hasK k x = decide (keyH x.H = k) := rfl
 rw [hh] at j2
 generalize keyH x.H = q at *
 by_cases hb : q = k
 · subst hb
   have j4 : wantL p.Keys x = true := by rw [j2]; simp
   rw [j4] at a3
   simp only [if_true] at a3
   simp [hn, hm, ha, hj, hkk, gE hkk, hx, gE hx]
   refine ⟨_, _, .inl (by simpa using kx _), by simp, ?_⟩
   simp [hn, hm, ha, hj, hkk, gE hkk, hx, gE hx, w1, s1, s2]
   exact ⟨a + 1, acc ++ [x], ⟨ha, by simp; omega, by simpa using a3⟩, by omega, by simp [hk]⟩
 · rw [decide_eq_false hb, Bool.false_or] at j2
   have hk2 := keyY_ne hb
   simp [hn, hm, ha, hj, hkk, gE hkk, hx, gE hx]
   refine ⟨_, _, .inl (by simpa using kx _), by simp, ?_⟩
   simp [hn, hm, ha, hj, hkk, gE hkk, hx, gE hx, hk2, w2]
   exact ⟨j + 1, ⟨hj, j2⟩, by omega, by simp [hk]⟩
end Go.Proofs.Ytfngaildaoahpaa

/- The exchange of databases: Answer; the law ExchangeAnswers. -/
namespace Go.Proofs.Ytfngaildaoahpaa
open Go Go.Am
theorem ask_want : ∀ (db : List Lsa) (ks : List LKey), asc db → ks.Pairwise ltY → (∀ k ∈ ks, ∃ x ∈ db, keyA x = k) → askL db ks = db.filter (wantL ks)
 | [], ks, _, _, hf => by
   cases ks with
   | nil => rfl
   | cons k ks => obtain ⟨x, hx, _⟩ := hf k (by simp); simp at hx
 | x :: t, ks, ha, hk, hf => by
   obtain ⟨ha1, ha2⟩ := List.pairwise_cons.1 ha
   cases ks with
   | nil =>
     have : ∀ l : List Lsa, l.filter (wantL []) = [] := fun l => List.filter_eq_nil_iff.2 fun y _ => by simp [wantL]
     rw [this]
     rfl
   | cons k ks =>
     obtain ⟨hk1, hk2⟩ := List.pairwise_cons.1 hk
     have skip : ∀ k', keyA x ≠ k' → getD_ (x :: t) k' = getD_ t k' := by
       intro k' h
       simp [getD_, hasK, h]
     by_cases e : keyA x = k
     · have hd : getD_ (x :: t) k = (x, true) := by simp [getD_, hasK, e]
       have hne : ∀ k' ∈ ks, keyA x ≠ k' := fun k' hk' h => ltY_ne (hk1 k' hk') (e.symm.trans h)
       have ih := ask_want t ks ha2 hk2 (fun k' hk' => by
         obtain ⟨y, hy, hyk⟩ := hf k' (by simp [hk'])
         rcases List.mem_cons.1 hy with rfl | hy
         · exact absurd hyk (hne k' hk')
         · exact ⟨y, hy, hyk⟩)
       have hw : wantL (k :: ks) x = true := by simp [wantL, hasK, e]
       rw [List.filter_cons, if_pos hw]
       have hft : t.filter (wantL (k :: ks)) = t.filter (wantL ks) := List.filter_congr fun y hy => by
         have hyk : keyA y ≠ k := fun h => ltY_ne (ha1 y hy) (e.trans h.symm)
         simp [wantL, hasK, hyk]
       rw [hft, ← ih]
       simp only [askL, List.map_cons, hd]
       congr 1
       exact List.map_congr_left fun k' hk' => by rw [skip k' (hne k' hk')]
     · have hlt : ltY (keyA x) k := by
         obtain ⟨y, hy, hyk⟩ := hf k (by simp)
         rcases List.mem_cons.1 hy with rfl | hy
         · exact absurd hyk e
         · have := ha1 y hy; rwa [hyk] at this
       have hne : ∀ k' ∈ k :: ks, keyA x ≠ k' := fun k' hk' h => by
         rcases List.mem_cons.1 hk' with rfl | hk'
         · exact e h
         · exact ltY_ne (ltY_trans hlt (hk1 k' hk')) h
       have hw : ¬ wantL (k :: ks) x = true := by
         intro h
         obtain ⟨k', hk', h2⟩ := List.any_eq_true.1 h
         exact hne k' hk' (by simpa [hasK] using h2)
       rw [List.filter_cons, if_neg hw]
       have ih := ask_want t (k :: ks) ha2 hk (fun k' hk' => by
         obtain ⟨y, hy, hyk⟩ := hf k' hk'
         rcases List.mem_cons.1 hy with rfl | hy
         · exact absurd hyk (hne k' hk')
         · exact ⟨y, hy, hyk⟩)
       rw [← ih]
       exact List.map_congr_left fun k' hk' => by rw [skip k' (hne k' hk')]
theorem ask_in {db : List Lsa} {k : LKey} (h : (getD_ db k).2 = true) : ∃ x ∈ db, keyA x = k ∧ (getD_ db k).1 = x := by
 rcases idx_get db k with ⟨_, e⟩ | ⟨i, x, _, h2, _, e⟩
 · rw [e] at h; simp at h
 · refine ⟨x, List.mem_of_getElem? h2, ?_, by rw [e]⟩
   have hf : db.find? (hasK k) = some x := by
     unfold getD_ at e
     split at e
     · rename_i l hl
       rw [hl]
       simp at e
       rw [e]
     · simp at e
   have := List.find?_some hf
   simpa [hasK] using this
theorem ask_len {db : List Lsa} (ha : asc db) {ks : List LKey} (hk : ks.Pairwise ltY) (hf : ks.all (fun k => (getD_ db k).2) = true) : ks.length ≤ db.length := by
 have h := ask_want db ks ha hk (fun k hk => by
   obtain ⟨x, hx, e, _⟩ := ask_in (List.all_eq_true.1 hf k hk)
   exact ⟨x, hx, e⟩)
 have h2 := congrArg List.length h
 rw [askL, List.length_map] at h2
 rw [h2]
 exact List.length_filter_le _ _
theorem answ_eq {db : List Lsa} (ha : asc db) (p : Pkt) (hk : p.Keys.Pairwise ltY) : answR db p = answN db p := by
 unfold answR answN
 split
 · rfl
 split
 · rename_i hf
   rw [ask_want db p.Keys ha hk (fun k hk => by
     obtain ⟨x, hx, e, _⟩ := ask_in (List.all_eq_true.1 hf k hk)
     exact ⟨x, hx, e⟩)]
 · rfl
theorem updL_mem : ∀ (xs : List Lsa) (p : List (List Lsa)), (∀ l ∈ xs.foldl stepU p, ∀ x ∈ l, x ∈ xs ∨ ∃ l ∈ p, x ∈ l) ∧ (xs.foldl stepU p).length ≤ p.length + xs.length ∧ ∀ l ∈ xs.foldl stepU p, (∀ l ∈ p, l.length ≤ 16) → l.length ≤ 16
 | [], p => ⟨fun l hl x hx => .inr ⟨l, hl, hx⟩, by simp, fun l hl h => h l hl⟩
 | x :: xs, p => by
   obtain ⟨h1, h2, h3⟩ := updL_mem xs (stepU p x)
   have hs : (∀ l ∈ stepU p x, ∀ y ∈ l, y = x ∨ ∃ l ∈ p, y ∈ l) ∧ (stepU p x).length ≤ p.length + 1 ∧ ((∀ l ∈ p, l.length ≤ 16) → ∀ l ∈ stepU p x, l.length ≤ 16) := by
     unfold stepU
     cases hl : p.getLast? with
     | none =>
       refine ⟨fun l h y hy => ?_, by simp, fun _ l h => ?_⟩
       · simp at h; subst h; simp at hy; exact .inl hy
       · simp at h; subst h; simp
     | some m =>
       have hm : m ∈ p := List.mem_of_getLast? hl
       simp only
       split
       · rename_i h16
         refine ⟨fun l h y hy => ?_, by simp, fun ho l h => ?_⟩
         · rcases List.mem_append.1 h with h | h
           · exact .inr ⟨l, List.dropLast_subset p h, hy⟩
           · simp at h; subst h
             rcases List.mem_append.1 hy with hy | hy
             · exact .inr ⟨m, hm, hy⟩
             · simp at hy; exact .inl hy
         · rcases List.mem_append.1 h with h | h
           · exact ho l (List.dropLast_subset p h)
           · simp at h; subst h; simp; omega
       · refine ⟨fun l h y hy => ?_, by simp, fun ho l h => ?_⟩
         · rcases List.mem_append.1 h with h | h
           · exact .inr ⟨l, h, hy⟩
           · simp at h; subst h; simp at hy; exact .inl hy
         · rcases List.mem_append.1 h with h | h
           · exact ho l h
           · simp at h; subst h; simp
   refine ⟨fun l hl y hy => ?_, by simp only [List.foldl_cons, List.length_cons]; omega, fun l hl ho => h3 l hl (hs.2.2 ho)⟩
   rcases h1 l hl y hy with h | ⟨l2, hl2, hy2⟩
   · exact .inl (by simp [h])
   · rcases hs.1 l2 hl2 y hy2 with h | h
     · exact .inl (by simp [h])
     · exact .inr h
theorem eqW_self (l : List Lsa) : eqW sameL l l = true := by
 induction l with
 | nil => rfl
 | cons x l ih => simp [eqW, sameL, sameB_self, ih]
theorem sameP_self (p : Pkt) : sameP p p = true := by simp [sameP, eqW_self]
theorem answN_ok {db : List Lsa} (hok : ∀ x ∈ db, okA x) (hl : db.length ≤ 2000) (ha : asc db) (p : Pkt) (hk : p.Keys.Pairwise ltY) : (∀ q ∈ (answN db p).1.map (pkU 0), okS q ∧ sameP q q = true) ∧ ((answN db p).1.map (pkU 0)).length < 1099511627776 := by
 unfold answN
 split
 · exact ⟨fun q hq => (by simp at hq), by simp⟩
 split
 case isFalse => exact ⟨fun q hq => (by simp at hq), by simp⟩
 rename_i hf
 have hlen := ask_len ha hk hf
 obtain ⟨h1, h2, h3⟩ := updL_mem (askL db p.Keys) []
 simp only [List.length_nil, askL, List.length_map] at h2
 refine ⟨fun q hq => ⟨?_, sameP_self q⟩, by simp only [List.length_map, updL, askL]; omega⟩
 obtain ⟨l, hl2, rfl⟩ := List.mem_map.1 hq
 have h16 := h3 l hl2 (by simp)
 refine ⟨by simp [pkU, pkt0, hel0], by simp [pkU, pkt0], by simp only [pkU]; omega, by simp [pkU, pkt0], fun x hx => ?_⟩
 rcases h1 l hl2 x hx with h | ⟨l, hl, _⟩
 · obtain ⟨k, hk', rfl⟩ := List.mem_map.1 h
   obtain ⟨y, hy, _, e⟩ := ask_in (List.all_eq_true.1 hf k hk')
   rw [e]
   exact hok y hy
 · simp at hl
def csPk : List CTy := [.int .i64, .int .u32, .int .u32, .int .u32, .int .i64, .int .i64, .int .i64, .int .i64, .int .u32, .int .u32, .sl false 4 [.int .u32], .int .i64, .bool, .bool, .bool, .sl true 56 csH, .sl true 32 tyY.2, .sl true 136 csA]
def tyPk : Bool × List CTy := (true, csPk)
theorem rd_Pk {x : AVal} (h : RdA tyPk x) : ∃ p : Pkt, x = encPk p ∧ p.Keys.length * 32 ≤ 140737488351232 ∧ p.Heads.length * 56 ≤ 140737488351232 ∧ (∀ x ∈ p.Heads, okH x) := by
 obtain ⟨cs, h1, h⟩ := h
 obtain ⟨a1, r, rfl, h, w1⟩ := Rds_int h
 obtain ⟨a2, r, rfl, h, w2⟩ := Rds_int h
 obtain ⟨a3, r, rfl, h, w3⟩ := Rds_int h
 obtain ⟨a4, r, rfl, h, w4⟩ := Rds_int h
 obtain ⟨e1, r, rfl, h, v1⟩ := Rds_int h
 obtain ⟨e2, r, rfl, h, v2⟩ := Rds_int h
 obtain ⟨e3, r, rfl, h, v3⟩ := Rds_int h
 obtain ⟨e4, r, rfl, h, v4⟩ := Rds_int h
 obtain ⟨e5, r, rfl, h, v5⟩ := Rds_int h
 obtain ⟨e6, r, rfl, h, v6⟩ := Rds_int h
 obtain ⟨e7, r, rfl, h, z7⟩ := Rds_sl (enc := fun x : { x : Int // inW x } => enc32 x.1) h (fun y cs e h => by
   obtain ⟨a, r, rfl, h3, w⟩ := Rds_int h
   obtain rfl := Rds_nil h3
   simp at e
   exact ⟨⟨a, wf_u32 w⟩, e.symm⟩)
 obtain ⟨f1, r, rfl, h, w5⟩ := Rds_int h
 obtain ⟨f2, r, rfl, k1⟩ := Rds_bool h
 obtain ⟨f3, r, rfl, k2⟩ := Rds_bool k1
 obtain ⟨f4, r, rfl, k3⟩ := Rds_bool k2
 obtain ⟨g1, r, rfl, h, z1⟩ := Rds_sl (enc := fun x : { x : Hdr // okH x } => encH x.1) k3 (fun y cs e h => by
   obtain ⟨a, ha, ok⟩ := rd_H (x := y) ⟨cs, e, h⟩
   exact ⟨⟨a, ok⟩, ha⟩)
 obtain ⟨g2, r, rfl, h, z2⟩ := Rds_sl (enc := encY) h (fun y cs e h => rd_Y (x := y) ⟨cs, e, h⟩)
 obtain ⟨g3, r, rfl, h, z3⟩ := Rds_sl (enc := fun x : { x : Lsa // okD x } => encA x.1) h (fun y cs e h => by
   obtain ⟨a, ha, ok⟩ := rd_AD (x := y) ⟨cs, e, h⟩
   exact ⟨⟨a, ok⟩, ha⟩)
 obtain rfl := Rds_nil h
 simp only [reachBytes] at z7 z1 z2 z3
 refine ⟨⟨a1, a2, a3, a4, ⟨e1, e2, e3, e4, e5, e6, e7.map (·.1)⟩, f1, f2, f3, f4, g1.map (·.1), g2, g3.map (·.1)⟩, ?_, by simp; omega, by simp; omega, fun x hx => ?_⟩
 · rw [if_pos (show tyPk.1 = true from rfl)] at h1
   rw [h1]
   simp [Function.comp_def, csH, csA, tyY]
 · obtain ⟨y, _, rfl⟩ := List.mem_map.1 hx
   exact y.2
set_option maxHeartbeats 8000000 in
set_option maxRecDepth 10000 in
theorem w6 (db : List Lsa) (okd : ∀ a ∈ db, okD a) (hdb : db.length * 136 ≤ 140737488351232) (p : Pkt) (n : Nat) (hn : p.Keys.length = n) (hlen : n * 32 ≤ 140737488351232) : CFun Try.prog 6 [.sl 15 (db.map encA) .sh, encPk p] [] (.bool true) [] := by
 refine CFun.intro (tr := []) (fz := []) (n := 62) (rs := [.tmp 4]) Try.func6 rfl (by kernel_rfl) rfl rfl mixed (by kernel_rfl) (by simp) (by simp) ?_
 have h9 := fun H => x9.up' H rfl rfl
 have k15 := fun H => (f24 db _ rfl (by omega) (fun x hx => (okd x hx).1)).up' H rfl rfl
 by_cases hc : chkD db = 0
 case neg =>
   simp
   refine ⟨_, _, .inl (by simpa using k15 _), by simp, ?_⟩
   simp [hc]
   refine ⟨_, _, .inl (h9 _), by simp, ?_⟩
   simp
 obtain ⟨c1, c2, c3⟩ := chkD_ok hc
 rw [hc] at k15
 simp
 refine ⟨_, _, .inl (by simpa using k15 _), by simp, ?_⟩
 simp [hn]
 refine LoopK.intro (tr := []) mixed (by kernel_rfl)
   (fun i : Nat => [(0, .sl 15 (db.map encA) .sh), (3, .ptr 0 0), (15, .sl 4 (p.Keys.map encY) .sh), (16, .int .i64 n), (17, .int .i64 i)]) (fun _ => [cellsPk p])
   (fun i => i ≤ n ∧ (p.Keys.take i).Pairwise ltY) (fun i => n - i) 0 ?_ ?_ ?_
 · exact ⟨Nat.zero_le _, by simp⟩
 · simp
 rintro i ⟨i1, i2⟩
 by_cases hi : i < n
 case neg =>
   have : i = n := by omega
   subst this
   rw [List.take_of_length_le (by omega)] at i2
   have k24 := fun H => (w24 db (by omega) (fun x hx => (okd x hx).2) p _ hn hlen (fun j hj hf => by
     have := ask_len c3 (i2.sublist (List.take_sublist j _)) hf
     rw [List.length_take] at this
     omega)).up' H rfl rfl
   have k25 := fun H => (w25 db _ rfl hdb p _ hn hlen).up' H rfl rfl
   rw [answ_eq c3 p i2] at k25
   obtain ⟨o1, o2⟩ := answN_ok (fun x hx => (okd x hx).1) c1 c3 p i2
   generalize answN db p = q at *
   obtain ⟨q, e⟩ := q
   have k18 := fun H => (x18 (q.map (pkU 0)) _ rfl o2 o1).up' H rfl rfl
   simp only [encAn] at k24 k25
   generalize q.map (pkU 0) = qq at *
   simp
   refine ⟨_, _, .inl (by simpa using k24 _), by simp, ?_⟩
   simp
   refine ⟨_, _, .inl (by simpa using k25 _), by simp, ?_⟩
   simp
   refine ⟨_, _, .inl (by simpa using k18 _), by simp, ?_⟩
   simp
   refine ⟨_, _, .inl (h9 _), by simp, ?_⟩
   simp
 obtain ⟨k, hkk, hd⟩ := get_drop (l := p.Keys) (i := i) (by omega)
 clear hd
 have w1 : IntKind.i64.wrap ((i : Int) + 1) = i + 1 := wrap_in (by omega)
 by_cases hz : i = 0
 · subst hz
   have hp1 : (p.Keys.take 1).Pairwise ltY := by rw [List.take_add_one, hkk]; simp
   have wn : IntKind.i64.wrap 1 = 1 := by decide
   simp [hi, wn]
   exact ⟨1, ⟨hi, hp1⟩, by omega, by simp⟩
 obtain ⟨j, rfl⟩ : ∃ j, i = j + 1 := ⟨i - 1, by omega⟩
 obtain ⟨k0, hk0⟩ : ∃ k0, p.Keys[j]? = some k0 := ⟨_, List.getElem?_eq_getElem (by omega)⟩
 have wj : IntKind.i64.wrap (j : Int) = j := wrap_in (by omega)
 have w2 : IntKind.i64.wrap ((j : Int) + 1 + 1) = j + 1 + 1 := wrap_in (by omega)
 have hj : j < n := by omega
 have hj1 : (j : Int) + 1 < n := by omega
 have hj0 : (0 : Int) < j + 1 := by omega
 have hjn : 0 ≤ (j : Int) + 1 := by omega
 have k23 := fun H => (c28 k0 k).up' H rfl rfl
 by_cases hlt : cmpY k0 k < 0
 · have hp1 : (p.Keys.take (j + 1 + 1)).Pairwise ltY := by
     rw [List.take_add_one, hkk]
     refine List.pairwise_append.2 ⟨i2, by simp, fun y hy z hz => ?_⟩
     simp at hz
     subst hz
     rw [List.take_add_one, hk0] at hy i2
     rcases List.mem_append.1 hy with hy | hy
     · exact ltY_trans ((List.pairwise_append.1 i2).2.2 y hy k0 (by simp)) hlt
     · simp at hy
       subst hy
       exact hlt
   have hge : ¬ 0 ≤ cmpY k0 k := by omega
   generalize cmpY k0 k = c at *
   simp [hi, hj, hj0, hj1, hjn, hn, wj, hkk, gE hkk, hk0, gE hk0]
   refine ⟨_, _, .inl (by simpa using k23 _), by simp, ?_⟩
   simp [hge, w2]
   exact ⟨j + 1 + 1, ⟨hi, hp1⟩, by omega, by simp⟩
 · have hge : 0 ≤ cmpY k0 k := by omega
   generalize cmpY k0 k = c at *
   simp [hi, hj, hj0, hj1, hjn, hn, wj, hkk, gE hkk, hk0, gE hk0]
   refine ⟨_, _, .inl (by simpa using k23 _), by simp, ?_⟩
   simp [hge]
   refine ⟨_, _, .inl (h9 _), by simp, ?_⟩
   simp
end Go.Proofs.Ytfngaildaoahpaa
