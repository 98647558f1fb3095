/- The exchange of databases, both sides: what a side hears, by the program: updates. -/
import Derived.Test.YtfngaildaoahpaaXB9
import Derived.Test.YtfngaildaoahpaaAmAG
set_option linter.unusedSimpArgs false
set_option linter.unusedVariables false
namespace Go.Proofs.Ytfngaildaoahpaa
open Go Go.Am
theorem got_ok {n : Nbr} (ok : okN n) (h : Hdr) : okN (gotN n h) := by
 have hl : (wonH h n.Req).length ≤ n.Req.length := List.length_filter_le _ _
 have hr := ok.req
 have hm : ∀ x ∈ wonH h n.Req, okH x := fun x hx => ok.hreq x (List.mem_filter.1 hx).1
 rw [gotN_eq]
 split
 · exact ⟨ok.router, ok.seq, ok.lst, ok.sent, by simp only; omega, ok.una, ok.hlst, ok.hsent, hm, ok.huna⟩
 · exact ⟨ok.router, ok.seq, ok.lst, ok.sent, by simp only; omega, ok.una, ok.hlst, ok.hsent, hm, ok.huna⟩
structure GoodU (q : Nbr × List Lsa) (k : Nat) : Prop where
  ok : okN q.1
  asc : asc q.2
  okd : ∀ x ∈ q.2, okD x
  hl : q.2.length ≤ k
theorem GoodU.step {q : Nbr × List Lsa} {k : Nat} (g : GoodU q k) {l : Lsa} (hl : okD l) : GoodU (updOne q l) (k + 1) := by
 refine ⟨got_ok g.ok l.H, ?_, fun x hx => ?_, ?_⟩
 · simp only [updOne]
   split
   · exact putW_asc g.asc
   · exact g.asc
 · simp only [updOne] at hx
   split at hx
   · rcases (putW_mem g.asc x).1 hx with rfl | ⟨h, _⟩
     · exact hl
     · exact g.okd x h
   · exact g.okd x hx
 · have h1 := putW_le1 l q.2
   have h2 := g.hl
   simp only [updOne]
   split <;> omega
theorem GoodU.all : ∀ (ls : List Lsa) {q : Nbr × List Lsa} {k : Nat}, GoodU q k → (∀ l ∈ ls, okD l) → GoodU (ls.foldl updOne q) (k + ls.length)
 | [], q, k, g, _ => g
 | l :: ls, q, k, g, h => by
   have := GoodU.all ls (g.step (h l (by simp))) (fun y hy => h y (List.mem_cons_of_mem _ hy))
   rw [List.foldl_cons]
   simp only [List.length_cons]
   rwa [show k + (ls.length + 1) = k + 1 + ls.length by omega]
@[simp] def zSd : List AVal := zN ++ [.int .u32 0, .sl 0 [] .full, .sl 0 [] .full]
set_option maxHeartbeats 8000000 in
set_option maxRecDepth 10000 in
theorem b31u (x : Sd) (p : Pkt) (now : Int) (g : GoodS x) (gp : GoodP p) (hk : p.Kind = 4) (off len : Nat) (cap : Option Nat) (R : List AVal) (hR : ∀ k, LeCells k R R) :
   CFun Try.prog 31 [.mix (cellsSd x (.osl 0 off len cap 18)), encPk p, .int .i64 now] [R] (.tup [.mix (cellsSd (hearN x p now).1 (.osl 0 off len cap 18)), .sl 18 ((hearN x p now).2.map encPk) .sh]) [R] := by
 refine CFun.intro (tr := [900001000107, 900002000107, 4500107]) (fz := []) (n := 115) (rs := [.cell 6 66, .tmp 7]) Try.func31 rfl (by kernel_rfl) rfl rfl mixed (by kernel_rfl) (by simp) (by simp) ?_
 obtain ⟨L, hL⟩ : ∃ L, p.Lsas.length = L := ⟨_, rfl⟩
 have hL2 : L ≤ 16 := by rw [← hL]; exact gp.ll
 obtain ⟨W, hW⟩ : ∃ W, x.n.Req.length = W := ⟨_, rfl⟩
 have hres : hearN x p now = (if (p.Lsas.foldl updOne (x.n, x.db)).1.State = 5 ∧ (p.Lsas.foldl updOne (x.n, x.db)).1.Req.length < W then ({ x with n := (p.Lsas.foldl updOne (x.n, x.db)).1, db := (p.Lsas.foldl updOne (x.n, x.db)).2 }, [reqN (p.Lsas.foldl updOne (x.n, x.db)).1 x.id]) else ({ x with n := (p.Lsas.foldl updOne (x.n, x.db)).1, db := (p.Lsas.foldl updOne (x.n, x.db)).2 }, [])) := by
   unfold hearN
   rw [if_neg (by rw [hk]; decide), if_neg (by rw [hk]; decide), if_pos hk, ← hW]
 rw [hres]
 clear hres
 have g0 : GoodU (x.n, x.db) 120 := ⟨g.ok, g.asc, g.okd, g.hl⟩
 simp [hk, hL, hW]
 refine LoopK.intro (tr := [900001000107, 900002000107, 4500107]) mixed (by kernel_rfl)
   (fun i : Nat => [(3, .ptr 1 0), (4, .ptr 2 0), (6, .ptr 3 0), (13, .int .i64 W), (61, .int .i64 L), (62, .int .i64 i)])
   (fun i => [R, cellsSd { x with n := ((p.Lsas.take i).foldl updOne (x.n, x.db)).1, db := ((p.Lsas.take i).foldl updOne (x.n, x.db)).2 } (.osl 0 off len cap 18), cellsPk p, zSd]) (fun i => i ≤ L) (fun i => L - i) 0 ?_ ?_ ?_
 · exact Nat.zero_le _
 · simp [hL, hW, hR, hk, zN]
 rintro i i1
 have gi := GoodU.all (p.Lsas.take i) g0 (fun l hl => gp.ok l (List.mem_of_mem_take hl))
 have hlen : (p.Lsas.take i).length ≤ 16 := by rw [List.length_take]; omega
 by_cases hi : i < L
 · obtain ⟨l, hl, hd⟩ := get_drop (l := p.Lsas) (i := i) (by omega)
   clear hd
   have hm := gp.ok l (List.mem_of_getElem? hl)
   have w1 : IntKind.i64.wrap ((i : Int) + 1) = i + 1 := wrap_in (by omega)
   have hnx : (p.Lsas.take (i + 1)).foldl updOne (x.n, x.db) = updOne ((p.Lsas.take i).foldl updOne (x.n, x.db)) l := by
     rw [List.take_add_one, hl]
     simp
   generalize (p.Lsas.take i).foldl updOne (x.n, x.db) = q at *
   obtain ⟨n, db⟩ := q
   have hdl := gi.hl
   simp only at hdl
   have k22 := fun H => (f49 db _ rfl (by omega) l.H hm.1.1.2.2.2.2.2.1 (fun y hy => (gi.okd y hy).1.1.2.2.2.2.2.1)).up' H rfl rfl
   have k68 := fun H => (f88 db _ rfl (by omega) l).up' H rfl rfl
   rw [insW_put l gi.asc] at k68
   have k28 := fun H => (x28a n gi.ok l.H).up' H rfl rfl
   simp only [updOne] at hnx
   generalize gotN n l.H = n2 at *
   by_cases hc : cmpD db l.H = 1
   · rw [if_pos hc] at hnx
     generalize putW l db = db2 at *
     simp [hi, hL, hl, gE hl]
     refine ⟨_, _, .inl (by simpa [hl, gE hl] using k22 _), by simp, ?_⟩
     simp [hc, hl, gE hl]
     refine ⟨_, _, .inl (by simpa [hl, gE hl] using k68 _), by simp, ?_⟩
     simp [hl, gE hl]
     refine ⟨_, _, .inl (by simpa [hl, gE hl] using k28 _), by simp, ?_⟩
     simp [w1]
     exact ⟨i + 1, by omega, by omega, by simp [hnx, hR, zN]⟩
   · rw [if_neg hc] at hnx
     simp [hi, hL, hl, gE hl]
     refine ⟨_, _, .inl (by simpa [hl, gE hl] using k22 _), by simp, ?_⟩
     simp [hc, hl, gE hl]
     refine ⟨_, _, .inl (by simpa [hl, gE hl] using k28 _), by simp, ?_⟩
     simp [w1]
     exact ⟨i + 1, by omega, by omega, by simp [hnx, hR, zN]⟩
 · have : i = L := by omega
   subst this
   rw [List.take_of_length_le (by omega)] at gi ⊢
   generalize p.Lsas.foldl updOne (x.n, x.db) = q at *
   obtain ⟨n, db⟩ := q
   have hreq := gi.ok.req
   have k62 := x62 n hreq x.id
   simp only
   generalize hrq : reqN n x.id = rq at *
   clear hrq
   by_cases h5 : n.State = 5
   · by_cases h6 : n.Req.length < W
     · have h6' : (n.Req.length : Int) < W := by omega
       simp [h5, h6, h6', zN]
       refine ⟨_, by simpa [h5] using k62, by simp [noid, noid0], ?_⟩
       simp [h5, hR, zN]
     · have h6' : ¬ (n.Req.length : Int) < W := by omega
       simp [h5, h6, h6', hR, zN]
   · simp [h5, hR, zN]
theorem b31 (x : Sd) (p : Pkt) (now : Int) (g : GoodS x) (gp : GoodP p) (hw : inI (now + 5)) (off len : Nat) (cap : Option Nat) (R : List AVal) (hR : ∀ k, LeCells k R R) :
   CFun Try.prog 31 [.mix (cellsSd x (.osl 0 off len cap 18)), encPk p, .int .i64 now] [R] (.tup [.mix (cellsSd (hearN x p now).1 (.osl 0 off len cap 18)), .sl 18 ((hearN x p now).2.map encPk) .sh]) [R] := by
 by_cases h2 : p.Kind = 2
 · exact b31h x p now g gp hw h2 off len cap R hR
 by_cases h3 : p.Kind = 3
 · exact b31a x p now g gp h3 off len cap R hR
 by_cases h4 : p.Kind = 4
 · exact b31u x p now g gp h4 off len cap R hR
 · exact b31o x p now h2 h3 h4 off len cap R hR
end Go.Proofs.Ytfngaildaoahpaa

/- The exchange of databases, both sides: the run, whoever is the master. No program. -/
namespace Go.Proofs.Ytfngaildaoahpaa
open Go Go.Am
section
variable (a b : List Lsa) (x y q0 : Int)
def Two2 : Prop := if x < y then Two a b x y q0 else Two b a y x q0
def Inv2 (T : Nat) (s t : Sd) : Prop := if x < y then Inv a b x y q0 T s t else Inv b a y x q0 T t s
end
section
variable {a b : List Lsa} {x y q0 : Int}
theorem Inv2.stepS (tw : Two2 a b x y q0) {T : Nat} {s t : Sd} {p : Pkt} {rest : List Pkt} (h : Inv2 a b x y q0 T s t) (hq : s.inq = p :: rest) (now : Int) :
   ∃ T', T' < T ∧ Inv2 a b x y q0 T' { (hearN s p now).1 with inq := rest } { t with inq := t.inq ++ (hearN s p now).2 } := by
 unfold Inv2 Two2 at *
 by_cases c : x < y
 · simp only [if_pos c] at *
   exact Proofs.Ytfngaildaoahpaa.stepS tw h hq now
 · simp only [if_neg c] at *
   exact Proofs.Ytfngaildaoahpaa.stepM tw h hq now
theorem Inv2.stepT (tw : Two2 a b x y q0) {T : Nat} {s t : Sd} {p : Pkt} {rest : List Pkt} (h : Inv2 a b x y q0 T s t) (hq : t.inq = p :: rest) (now : Int) :
   ∃ T', T' < T ∧ Inv2 a b x y q0 T' { s with inq := s.inq ++ (hearN t p now).2 } { (hearN t p now).1 with inq := rest } := by
 unfold Inv2 Two2 at *
 by_cases c : x < y
 · simp only [if_pos c] at *
   exact Proofs.Ytfngaildaoahpaa.stepM tw h hq now
 · simp only [if_neg c] at *
   exact Proofs.Ytfngaildaoahpaa.stepS tw h hq now
theorem Inv2.good (tw : Two2 a b x y q0) {T : Nat} {s t : Sd} (h : Inv2 a b x y q0 T s t) :
   GoodS s ∧ GoodS t ∧ (∀ p ∈ s.inq, GoodP p) ∧ (∀ p ∈ t.inq, GoodP p) ∧ s.inq.length ≤ 2 ∧ t.inq.length ≤ 2 := by
 unfold Inv2 Two2 at *
 by_cases c : x < y
 · simp only [if_pos c] at *
   exact inv_good tw h
 · simp only [if_neg c] at *
   obtain ⟨h1, h2, h3, h4, h5, h6⟩ := inv_good tw h
   exact ⟨h2, h1, h4, h3, h6, h5⟩
theorem Inv2.fin (tw : Two2 a b x y q0) {T : Nat} {s t : Sd} (h : Inv2 a b x y q0 T s t) (h1 : s.inq = []) (h2 : t.inq = []) :
   s.n.State = 6 ∧ t.n.State = 6 ∧ s.db = loadD a (reqL a b) ∧ t.db = loadD b (reqL b a) := by
 unfold Inv2 Two2 at *
 by_cases c : x < y
 · simp only [if_pos c] at *
   exact inv_end h h1 h2
 · simp only [if_neg c] at *
   obtain ⟨g1, g2, g3, g4⟩ := inv_end h h2 h1
   exact ⟨g2, g1, g4, g3⟩
def nb0 (r : Int) : Nbr := { nbr0 with Router := r, State := 2 }
theorem start_co (r now : Int) : Co (startN (nb0 r) now) r 3 true ((if 0 < now then now else 0) % 1073741824) [] [] [] :=
 ⟨rfl, rfl, rfl, rfl, rfl, rfl, rfl, rfl⟩
theorem youngD_all {db : List Lsa} (h : (db.all fun x => decide (x.H.Age < 3600)) = true) : youngD db = hdE db := by
 unfold youngD hdE
 rw [List.filter_eq_self]
 intro y hy
 obtain ⟨x, hx, rfl⟩ := List.mem_map.1 hy
 exact List.all_eq_true.1 h x hx
theorem begin2 (aa : asc a) (ab : asc b) (oa : ∀ x ∈ a, okD x) (ob : ∀ x ∈ b, okD x) (ya : (a.all fun x => decide (x.H.Age < 3600)) = true) (yb : (b.all fun x => decide (x.H.Age < 3600)) = true) (la : a.length ≤ 60) (lb : b.length ≤ 60) (hne : x ≠ y) (wx : inW x) (wy : inW y) (now : Int) :
   Two2 a b x y ((if 0 < now then now else 0) % 1073741824) ∧ Inv2 a b x y ((if 0 < now then now else 0) % 1073741824) 35 ⟨startN (nb0 y) now, x, a, [firstN (startN (nb0 x) now) y]⟩ ⟨startN (nb0 x) now, y, b, [firstN (startN (nb0 y) now) x]⟩ := by
 have q1 : 0 ≤ (if 0 < now then now else 0) % 1073741824 := Int.emod_nonneg _ (by decide)
 have q2 : (if 0 < now then now else 0) % 1073741824 < 1073741824 := Int.emod_lt_of_pos _ (by decide)
 unfold Inv2 Two2
 by_cases c : x < y
 · simp only [if_pos c]
   exact ⟨⟨aa, ab, oa, ob, youngD_all ya, youngD_all yb, la, lb, c, wx, wy, q1, q2⟩, .A _ _ true rfl rfl rfl rfl (start_co y now) (start_co x now) rfl rfl⟩
 · simp only [if_neg c]
   have c2 : y < x := by omega
   exact ⟨⟨ab, aa, ob, oa, youngD_all yb, youngD_all ya, lb, la, c2, wy, wx, q1, q2⟩, .A _ _ true rfl rfl rfl rfl (start_co x now) (start_co y now) rfl rfl⟩
end
end Go.Proofs.Ytfngaildaoahpaa

/- The exchange of databases, both sides: queues as rows. -/
namespace Go.Proofs.Ytfngaildaoahpaa
open Go Go.Am
def qRow (ps inq : List Pkt) : List AVal := rowC cellsPk (ps ++ inq)
theorem qRow_tree (ps inq : List Pkt) : (qRow ps inq).all AVal.tree = true := ePk.rowTree _
theorem qRow_noid (ps inq : List Pkt) : (qRow ps inq).all noid0 = true := ePk.rowNoid _
theorem qRow_le (ps inq : List Pkt) (k : Nat) : LeCells k (qRow ps inq) (qRow ps inq) := ePk.rowLe k _
theorem qRow_len (ps inq : List Pkt) : (qRow ps inq).length = ps.length * 18 + inq.length * 18 := by
 unfold qRow
 rw [ePk.rowLen, List.length_append, Nat.add_mul]
theorem qRow_at (ps : List Pkt) (p : Pkt) (rest : List Pkt) : ((qRow ps (p :: rest)).drop (ps.length * 18)).take 18 = cellsPk p := by
 have h := (ePk.rowAt (l := ps ++ p :: rest) (i := ps.length) (x := p) (by simp) []).1
 rw [List.append_nil] at h
 exact h
theorem qRow_dis (ps inq : List Pkt) : (qRow ps inq).map AVal.dis = qRow ps inq := ePk.rowDis _
theorem qRow_next (ps : List Pkt) (p : Pkt) (rest : List Pkt) : qRow ps (p :: rest) = qRow (ps ++ [p]) rest := by simp [qRow]
theorem pk_flat (l : List Pkt) : flatC (l.map encPk) = rowC cellsPk l := by
 unfold flatC
 induction l with
 | nil => rfl
 | cons x l ih =>
   rw [List.map_cons, List.flatMap_cons, ih]
   rfl
theorem pk_ok (l : List Pkt) : plainCells (rowC cellsPk l) = true := by
 unfold plainCells
 simp only [rowC, List.all_flatMap, List.all_eq_true]
 intro x _ c hc
 simp only [cellsPk, List.mem_cons, List.not_mem_nil, or_false] at hc
 rcases hc with rfl | rfl | rfl | rfl | rfl | rfl | rfl | rfl | rfl | rfl | rfl | rfl | rfl | rfl | rfl | rfl | rfl | rfl <;> rfl
theorem qRow_ok (ps inq : List Pkt) (k : Nat) : plainCells ((qRow ps inq).take k) = true := by
 unfold plainCells
 rw [List.all_eq_true]
 intro c hc
 exact List.all_eq_true.1 (pk_ok (ps ++ inq)) c (List.mem_of_mem_take hc)
theorem qRow_add (ps inq l : List Pkt) : (qRow ps inq).take (ps.length * 18 + inq.length * 18) ++ flatC (l.map encPk) = qRow ps (inq ++ l) := by
 rw [List.take_of_length_le (by rw [qRow_len]; exact Nat.le_refl _), pk_flat]
 simp [qRow, rowC]
theorem qRow_new (ps inq l : List Pkt) : ((qRow ps inq).drop (ps.length * 18)).take (inq.length * 18) ++ flatC (l.map encPk) = qRow [] (inq ++ l) := by
 have h : (qRow ps inq).drop (ps.length * 18) = rowC cellsPk inq := by
   unfold qRow
   rw [ePk.rowDrop]
   simp
 rw [h, List.take_of_length_le (by rw [ePk.rowLen]; exact Nat.le_refl _), pk_flat]
 simp [qRow, rowC]
theorem qRow_ne {ps inq : List Pkt} (h : ps ++ inq ≠ []) : qRow ps inq ≠ [] := by
 intro e
 have h1 := qRow_len ps inq
 rw [e] at h1
 simp only [List.length_nil] at h1
 have h2 : (ps ++ inq).length = 0 := by rw [List.length_append]; omega
 exact h (List.length_eq_zero_iff.1 h2)
@[simp] def zNb (r : Int) : List AVal := [.int .u32 r, .int .u32 0, .int .i64 0, .int .u32 0, .int .u32 0, .int .i64 2, .int .i64 0, .bool false, .int .i64 0, .sl 0 [] .full, .sl 0 [] .full, .bool false, .sl 0 [] .full, .sl 0 [] .full, .int .i64 0]
theorem b10 (r self now : Int) (hw : inI (now + 5)) : CFun Try.prog 10 [.agg (zNb r), .int .u32 self, .int .i64 now] [] (.tup [encN (startN (nb0 r) now), encPk (firstN (startN (nb0 r) now) self)]) [] :=
 (x10 (nb0 r) self now hw).wk [.agg (zNb r), .int .u32 self, .int .i64 now] (by simp) (by simp [All2, LeS, LeC, nb0, nbr0])
theorem b31at (x : Sd) (p : Pkt) (now : Int) (g : GoodS x) (gp : GoodP p) (hw : inI (now + 5)) (off len : Nat) (cap : Option Nat) (ps inq : List Pkt) (H : List (List AVal)) (id : Nat) (hid : H[id]? = some (qRow ps inq)) :
   CFun Try.prog 31 [.mix (cellsSd x (.osl id off len cap 18)), encPk p, .int .i64 now] H (.tup [.mix (cellsSd (hearN x p now).1 (.osl id off len cap 18)), .sl 18 ((hearN x p now).2.map encPk) .sh]) H := by
 have h := (b31 x p now g gp hw off len cap (qRow ps inq) (fun k => qRow_le ps inq k)).at (H := H) (id := id) hid (qRow_noid ps inq) (qRow_noid ps inq) (by simp [low, low0, low00]) (by simp [low, low0, low00])
 have e : H.set id (qRow ps inq) = H := by
   obtain ⟨hlt, he⟩ := List.getElem?_eq_some_iff.1 hid
   rw [← he, List.set_getElem_self]
 rw [e] at h
 simpa [ren, ren0, ren00] using h
end Go.Proofs.Ytfngaildaoahpaa

/- The law ExchangeBoth: its walk, where nothing is to be shown. -/
namespace Go.Proofs.Ytfngaildaoahpaa
open Go Go.Am
def premB (a b : List Lsa) (x y now : Int) : Prop := a.length ≤ 60 ∧ b.length ≤ 60 ∧ chkD a = 0 ∧ chkD b = 0 ∧ youngB a = true ∧ youngB b = true ∧ x ≠ 0 ∧ y ≠ 0 ∧ x ≠ y ∧ 0 ≤ now ∧ now ≤ 1099511627776
set_option maxHeartbeats 16000000 in
set_option maxRecDepth 10000 in
theorem b8n (a b : List Lsa) (x y now : Int) (p q : Nat) (hp : a.length = p) (hq : b.length = q) (oa : ∀ z ∈ a, okD z) (ob : ∀ z ∈ b, okD z) (la : p < 1099511627776) (lb : q < 1099511627776) (h : ¬ premB a b x y now) :
   CFun Try.prog 8 [.sl 15 (a.map encA) .sh, .sl 15 (b.map encA) .sh, .int .u32 x, .int .u32 y, .int .i64 now] [] (.bool true) [] := by
 refine CFun.intro (tr := [100092, 100098, 900004000118, 900004000142]) (fz := []) (n := 197) (rs := [.tmp 10]) Try.func8 rfl (by kernel_rfl) rfl rfl mixed (by kernel_rfl) (by simp) (by simp) ?_
 have h9 := fun H => x9.up' H rfl rfl
 have ka := fun H => (f24 a p hp la (fun z hz => (oa z hz).1)).up' H rfl rfl
 have kb := fun H => (f24 b q hq lb (fun z hz => (ob z hz).1)).up' H rfl rfl
 have ya := fun H => (b30 a p hp la).up' H rfl rfl
 have yb := fun H => (b30 b q hq lb).up' H rfl rfl
 unfold premB at h
 rw [hp, hq] at h
 by_cases c1 : p ≤ 60
 case neg =>
   have c1' : 60 < (p : Int) := by omega
   simp [hp, c1']
   refine ⟨_, _, .inl (h9 _), by simp, ?_⟩
   simp
 have c1' : ¬ 60 < (p : Int) := by omega
 by_cases c2 : q ≤ 60
 case neg =>
   have c2' : 60 < (q : Int) := by omega
   simp [hp, hq, c1', c2']
   refine ⟨_, _, .inl (h9 _), by simp, ?_⟩
   simp
 have c2' : ¬ 60 < (q : Int) := by omega
 generalize chkD a = ca at *
 generalize chkD b = cb at *
 generalize youngB a = ba at *
 generalize youngB b = bb at *
 simp [hp, hq, c1', c2']
 refine ⟨_, _, .inl (by simpa using ka _), by simp, ?_⟩
 by_cases c3 : ca = 0
 case neg =>
   simp [c3]
   refine ⟨_, _, .inl (h9 _), by simp, ?_⟩
   simp
 simp [c3]
 refine ⟨_, _, .inl (by simpa using kb _), by simp, ?_⟩
 by_cases c4 : cb = 0
 case neg =>
   simp [c4]
   refine ⟨_, _, .inl (h9 _), by simp, ?_⟩
   simp
 simp [c4]
 refine ⟨_, _, .inl (by simpa using ya _), by simp, ?_⟩
 cases ba
 case false =>
   simp
   refine ⟨_, _, .inl (h9 _), by simp, ?_⟩
   simp
 simp
 refine ⟨_, _, .inl (by simpa using yb _), by simp, ?_⟩
 cases bb
 case false =>
   simp
   refine ⟨_, _, .inl (h9 _), by simp, ?_⟩
   simp
 by_cases c5 : x = 0
 · simp [c5]
   refine ⟨_, _, .inl (h9 _), by simp, ?_⟩
   simp
 by_cases c6 : y = 0
 · simp [c5, c6]
   refine ⟨_, _, .inl (h9 _), by simp, ?_⟩
   simp
 by_cases c7 : x = y
 · subst c7
   simp [c5]
   refine ⟨_, _, .inl (h9 _), by simp, ?_⟩
   simp
 by_cases c8 : now < 0
 · simp [c5, c6, c7, c8]
   refine ⟨_, _, .inl (h9 _), by simp, ?_⟩
   simp
 by_cases c9 : 1099511627776 < now
 · simp [c5, c6, c7, c8, c9]
   refine ⟨_, _, .inl (h9 _), by simp, ?_⟩
   simp
 exact absurd ⟨c1, c2, c3, c4, rfl, rfl, c5, c6, c7, by omega, by omega⟩ h
end Go.Proofs.Ytfngaildaoahpaa

/- The law ExchangeBoth: its walk. -/
namespace Go.Proofs.Ytfngaildaoahpaa
open Go Go.Am
@[simp] def famT (a b : List Lsa) (now : Int) (step : Nat) : List (Nat × AVal) := [(0, .sl 15 (a.map encA) .sh), (1, .sl 15 (b.map encA) .sh), (4, .int .i64 now), (15, .ptr 5 0), (16, .ptr 7 0), (17, .int .i64 step)]
@[simp] def famH (s t : Sd) (ps pt : List Pkt) (cs ct : Option Nat) : List (List AVal) := [[], [], [], [], qRow ps s.inq, cellsSd s (.osl 4 (ps.length * 18) s.inq.length cs 18), qRow pt t.inq, cellsSd t (.osl 6 (pt.length * 18) t.inq.length ct 18)]
theorem qRow_one (p : Pkt) : qRow [] [p] = cellsPk p := by simp [qRow, rowC]
set_option maxHeartbeats 16000000 in
set_option maxRecDepth 10000 in
theorem b8p (a b : List Lsa) (x y now : Int) (p q : Nat) (hp : a.length = p) (hq : b.length = q) (oa : ∀ z ∈ a, okD z) (ob : ∀ z ∈ b, okD z) (la : p < 1099511627776) (lb : q < 1099511627776) (wx : inW x) (wy : inW y) (h : premB a b x y now) :
   CFun Try.prog 8 [.sl 15 (a.map encA) .sh, .sl 15 (b.map encA) .sh, .int .u32 x, .int .u32 y, .int .i64 now] [] (.bool true) [] := by
 refine CFun.intro (tr := [100092, 100098, 900004000118, 900004000142]) (fz := []) (n := 197) (rs := [.tmp 10]) Try.func8 rfl (by kernel_rfl) rfl rfl mixed (by kernel_rfl) (by simp) (by simp) ?_
 have h9 := fun H => x9.up' H rfl rfl
 have ka := fun H => (f24 a p hp la (fun z hz => (oa z hz).1)).up' H rfl rfl
 have kb := fun H => (f24 b q hq lb (fun z hz => (ob z hz).1)).up' H rfl rfl
 have ya := fun H => (b30 a p hp la).up' H rfl rfl
 have yb := fun H => (b30 b q hq lb).up' H rfl rfl
 obtain ⟨c1, c2, c3, c4, c5, c6, c7, c8, c9, c10, c11⟩ := h
 have aa : asc a := (chkD_ok c3).2.2
 have ab : asc b := (chkD_ok c4).2.2
 obtain ⟨tw, inv0⟩ := begin2 aa ab oa ob c5 c6 c1 c2 c9 wx wy now
 rw [c3] at ka
 rw [c4] at kb
 rw [c5] at ya
 rw [c6] at yb
 rw [hp] at c1
 rw [hq] at c2
 have c1' : ¬ 60 < (p : Int) := by omega
 have c2' : ¬ 60 < (q : Int) := by omega
 have c10' : ¬ now < 0 := by omega
 have c11' : ¬ 1099511627776 < now := by omega
 have hw : inI (now + 5) := by unfold inI; omega
 have s1 := fun H => (b10 y x now hw).up' H rfl rfl
 have s2 := fun H => (b10 x y now hw).up' H rfl rfl
 generalize (if 0 < now then now else 0) % 1073741824 = q0 at *
 generalize firstN (startN (nb0 y) now) x = p1 at *
 generalize firstN (startN (nb0 x) now) y = p2 at *
 generalize startN (nb0 y) now = n1 at *
 generalize startN (nb0 x) now = n2 at *
 simp [hp, hq, c1', c2', c7, c8, c9, c10', c11']
 refine ⟨_, _, .inl (by simpa using ka _), by simp, ?_⟩
 simp
 refine ⟨_, _, .inl (by simpa using kb _), by simp, ?_⟩
 simp
 refine ⟨_, _, .inl (by simpa using ya _), by simp, ?_⟩
 simp
 refine ⟨_, _, .inl (by simpa using yb _), by simp, ?_⟩
 simp [c7, c8, c9, c10', c11']
 refine ⟨_, _, .inl (by simpa using s1 _), by simp, ?_⟩
 simp
 refine ⟨_, _, .inl (by simpa using s2 _), by simp, ?_⟩
 simp
 refine LoopK.introS (tr := [100092, 100098, 900004000118, 900004000142]) mixed (by kernel_rfl)
   (fun z : Nat × Nat × Sd × Sd × List Pkt × List Pkt × Option Nat × Option Nat => famT a b now z.1)
   (fun z => famH z.2.2.1 z.2.2.2.1 z.2.2.2.2.1 z.2.2.2.2.2.1 z.2.2.2.2.2.2.1 z.2.2.2.2.2.2.2)
   (fun z => Inv2 a b x y q0 z.2.1 z.2.2.1 z.2.2.2.1 ∧ z.1 + z.2.1 ≤ 50 ∧ z.2.2.2.2.1 ++ z.2.2.1.inq ≠ [] ∧ z.2.2.2.2.2.1 ++ z.2.2.2.1.inq ≠ []) (fun z => z.2.1)
   (0, 35, ⟨n1, x, a, [p2]⟩, ⟨n2, y, b, [p1]⟩, [], [], some 1, some 1) ?_ ?_ ?_
 · exact ⟨inv0, (show 0 + 35 ≤ 50 by decide), by simp, by simp⟩
 · simp [qRow_one]
 rintro ⟨step, T, s, t, ps, pt, cs, ct⟩ ⟨i1, i2, i3, i4⟩
 generalize hPQ : LoopPostS _ _ _ _ _ _ _ = PQ
 simp only at i1 i2 i3 i4
 obtain ⟨gs, gt, gps, gpt, ls, lt⟩ := i1.good tw
 obtain ⟨sn, sid, sdb, sq⟩ := s
 obtain ⟨tn, tid, tdb, tq⟩ := t
 simp only at i3 i4 ls lt
 have w0 : IntKind.i64.wrap ((sq.length : Int) + tq.length) = (sq.length : Int) + tq.length := wrap_in (by omega)
 have st60 : (step : Int) < 60 := by omega
 have hle := fun (u v : List Pkt) (k : Nat) => qRow_le u v k
 by_cases hz : sq.length + tq.length = 0
 · have z1 : sq = [] := List.length_eq_zero_iff.1 (by omega)
   have z2 : tq = [] := List.length_eq_zero_iff.1 (by omega)
   subst z1
   subst z2
   obtain ⟨f1, f2, f3, f4⟩ := i1.fin tw rfl rfl
   simp only at f1 f2 f3 f4
   have w00 : IntKind.i64.wrap 0 = 0 := by decide
   have lsd := gs.hl
   have ltd := gt.hl
   have okS : ∀ z ∈ sdb, okA z := fun z hz => (gs.okd z hz).1
   have okT : ∀ z ∈ tdb, okA z := fun z hz => (gt.okd z hz).1
   simp only at lsd ltd
   have age : ∀ {l : List Lsa}, (∀ z ∈ l, okD z) → ∀ z ∈ l, inI z.H.Age := fun h z hz => (h z hz).1.1.2.2.2.2.2.1
   have hks : sdb.map keyA = tdb.map keyA := by rw [f3, f4]; exact fin_same aa ab
   have g1 : ∀ z ∈ a, cmpD sdb z.H ≠ 1 := by rw [f3]; exact fun z hz => fin_mine aa ab (age oa) (age ob) hz
   have g2 : ∀ z ∈ b, cmpD sdb z.H ≠ 1 := by rw [f3]; exact fun z hz => fin_other aa ab (age ob) hz
   have g3 : ∀ z ∈ sdb, z ∈ a ∨ z ∈ b := by rw [f3]; exact fun z hz => fin_mem aa hz
   have g4 : ∀ z ∈ a, cmpD tdb z.H ≠ 1 := by rw [f4]; exact fun z hz => fin_other ab aa (age oa) hz
   have g5 : ∀ z ∈ b, cmpD tdb z.H ≠ 1 := by rw [f4]; exact fun z hz => fin_mine ab aa (age ob) (age oa) hz
   have g6 : ∀ z ∈ tdb, z ∈ a ∨ z ∈ b := by rw [f4]; exact fun z hz => (fin_mem ab hz).symm
   have k33s := fun H => (b33 sdb _ rfl (by omega)).up' H rfl rfl
   have k33t := fun H => (b33 tdb _ rfl (by omega)).up' H rfl rfl
   have k32 := fun H => (b32 (tdb.map keyA) _ rfl (by rw [List.length_map]; omega)).up' H rfl rfl
   rw [hks] at k33s
   have k34s := fun H => (b34 sdb a b _ p q rfl hp hq (by omega) (by omega) (by omega) okS (fun z hz => (oa z hz).1) (fun z hz => (ob z hz).1) aa ab g1 g2 g3).up' H rfl rfl
   have k34t := fun H => (b34 tdb a b _ p q rfl hp hq (by omega) (by omega) (by omega) okT (fun z hz => (oa z hz).1) (fun z hz => (ob z hz).1) aa ab g4 g5 g6).up' H rfl rfl
   clear f3 f4 hks g1 g2 g3 g4 g5 g6 okS okT
   generalize tdb.map keyA = K at *
   simp [st60, w00]
   rw [← hPQ]
   simp only [LoopPostS]
   simp [f1, f2]
   refine ⟨_, _, .inl (by simpa using k33s _), by simp, ?_⟩
   simp
   refine ⟨_, _, .inl (by simpa using k33t _), by simp, ?_⟩
   simp
   refine ⟨_, _, .inl (by simpa using k32 _), by simp, ?_⟩
   simp
   refine ⟨_, _, .inl (by simpa using k34s _), by simp, ?_⟩
   simp
   refine ⟨_, _, .inl (by simpa using k34t _), by simp, ?_⟩
   simp
   refine ⟨_, _, .inl (h9 _), by simp, ?_⟩
   simp
 have hz' : 0 < (sq.length : Int) + tq.length := by omega
 simp [st60, w0, hz']
 clear gs gt gps gpt ls lt w0 hz'
 refine LoopK.introSW (fun z : Nat × Sd × Sd × List Pkt × List Pkt × Option Nat × Option Nat => famT a b now step) (fun z => famH z.2.1 z.2.2.1 z.2.2.2.1 z.2.2.2.2.1 z.2.2.2.2.2.1 z.2.2.2.2.2.2)
   (fun z => Inv2 a b x y q0 z.1 z.2.1 z.2.2.1 ∧ z.2.2.2.1 ++ z.2.1.inq ≠ [] ∧ z.2.2.2.2.1 ++ z.2.2.1.inq ≠ [] ∧ (z.1 < T ∨ z.1 = T ∧ 0 < z.2.1.inq.length + z.2.2.1.inq.length)) (fun z => z.1)
   (T, ⟨sn, sid, sdb, sq⟩, ⟨tn, tid, tdb, tq⟩, ps, pt, cs, ct) ⟨i1, i3, i4, .inr ⟨rfl, by simp only; omega⟩⟩ ?_ ?_
 · simp [hle]
 clear i1 i3 i4 hz
 rintro ⟨T1, s, t, ps, pt, cs, ct⟩ ⟨j1, j3, j4, j5⟩
 generalize hP2 : LoopPostS _ _ _ _ _ _ _ = P2
 simp only at j1 j3 j4 j5
 obtain ⟨gs, gt, gps, gpt, ls, lt⟩ := j1.good tw
 obtain ⟨sn, sid, sdb, sq⟩ := s
 obtain ⟨tn, tid, tdb, tq⟩ := t
 simp only at j3 j4 j5 ls lt
 refine SWp_seq (SWp_of (tr := [100092, 100098, 900004000118, 900004000142]) mixed (by kernel_rfl) ?_)
 cases sq with
 | cons pk rest =>
   obtain ⟨T2, hT2, hinv⟩ := j1.stepS tw rfl now
   have hl2 := (hinv.good tw).2.2.2.2.2
   have k31 := fun Z => b31at ⟨sn, sid, sdb, pk :: rest⟩ pk now gs (gps pk (by simp)) hw (ps.length * 18) (rest.length + 1) cs ps (pk :: rest) (famH ⟨sn, sid, sdb, pk :: rest⟩ ⟨tn, tid, tdb, tq⟩ ps pt cs ct ++ Z) 4 rfl
   generalize hearN ⟨sn, sid, sdb, pk :: rest⟩ pk now = hr at *
   obtain ⟨⟨n2, id2, db2, iq2⟩, outs⟩ := hr
   simp only at hl2 hinv
   have hqa := qRow_at ps pk rest
   have hds := qRow_dis ps (pk :: rest)
   have h18 : 18 ≤ (rest.length + 1) * 18 := by omega
   have h1r : (1 : Int) ≤ rest.length + 1 := by omega
   have hql := qRow_len ps (pk :: rest)
   have hnx := qRow_next ps pk rest
   simp only [famH] at k31 ⊢
   generalize hRS : qRow ps (pk :: rest) = RS at *
   simp
   refine SWp_block (SWp_seq (SWp_of (tr := [100092, 100098, 900004000118, 900004000142]) mixed (by kernel_rfl) ?_))
   simp [hqa, hql, hds, h18]
   refine ⟨_, _, ⟨rfl, fun Z => by simpa using k31 Z⟩, by simp, ?_⟩
   simp
   refine SWp_seq (SWp_of (tr := [100092, 100098, 900004000118, 900004000142]) mixed (by kernel_rfl) ?_)
   simp [h1r]
   refine SWp_seq (SWp_of (tr := [100092, 100098, 900004000118, 900004000142]) mixed (by kernel_rfl) ?_)
   simp
   refine SWp_app (tr := [100092, 100098, 900004000118, 900004000142]) (q := 136) (by kernel_rfl) ?_
   have hT1 := qRow_ne j4
   have hT2' : pt.length * 18 + tq.length * 18 ≤ (qRow pt tq).length := Nat.le_of_eq (qRow_len pt tq).symm
   have hT3 := qRow_ok pt tq (pt.length * 18 + tq.length * 18)
   have hA := qRow_add pt tq outs
   have hB := qRow_new pt tq outs
   have hZ : plainCells (flatC (outs.map encPk)) = true := by rw [pk_flat]; exact pk_ok outs
   have hol : tq.length + outs.length ≤ 2 := by rw [← List.length_append]; exact hl2
   by_cases hz0 : outs = []
   · subst hz0
     have hb1 : tq.length * 176 ≤ 140737488355328 := by omega
     have hb2 : tq.length ≤ 140737488355328 := by omega
     rw [List.append_nil] at hinv
     simp only [List.map_nil] at hZ
     simp [awpN, aappN, hT1, hT2', hT3, hZ, hb1, hb2]
     rw [← hP2]
     simp only [LoopPostS]
     refine ⟨(T2, ⟨n2, id2, db2, rest⟩, ⟨tn, tid, tdb, tq⟩, ps ++ [pk], pt, cs.map (· - 1), ct), ⟨hinv, ?_, j4, ?_⟩, hT2, .inl ?_⟩
     · simp
     · left
       show T2 < T
       omega
     · simp [hnx, hle]
       omega
   have hz1 : ¬ outs.map encPk = [] := fun e => hz0 (List.map_eq_nil_iff.1 e)
   generalize hoz : outs.map encPk = zs at *
   have hzl : zs.length = outs.length := by rw [← hoz, List.length_map]
   generalize hFZ : flatC zs = FZ at *
   obtain ⟨on, hon⟩ : ∃ on, outs.length = on := ⟨_, rfl⟩
   rw [hon] at hzl hol
   have hb1 : (tq.length + on) * 176 ≤ 140737488355328 := by omega
   have hb2 : tq.length + on ≤ 140737488355328 := by omega
   have hne2 : ∀ u : List Pkt, ¬ u ++ (tq ++ outs) = [] := fun u e => hz0 (List.append_eq_nil_iff.1 (List.append_eq_nil_iff.1 e).2).2
   have hLS := fun (u v : List Pkt) (σ : Nat → Nat) (N n' : Nat) => treeCellsS (σ := σ) (N := N) (n := n') (qRow_tree u v)
   have hps : ps.length * 18 + 18 = (ps.length + 1) * 18 := by omega
   simp [awpN, aappN, hT1, hT2', hT3, hZ, hzl, hz1, hFZ, hb1, hb2, hA, hB]
   refine ⟨?_, ?_⟩
   · rw [← hP2]
     simp only [LoopPostS]
     refine ⟨(T2, ⟨n2, id2, db2, rest⟩, ⟨tn, tid, tdb, tq ++ outs⟩, ps ++ [pk], pt, cs.map (· - 1), none), ⟨hinv, ?_, hne2 pt, ?_⟩, hT2, .inr ⟨6, 9, by decide, by decide, by simp, by simp, by simp, ?_, ?_⟩⟩
     · simp
     · left
       show T2 < T
       omega
     · simp [LeLookS, ren, ren0, swp]
     · simp [LeBoxesS, LeCellsS, swpH, ren, ren0, swp, hnx, hLS, hon, hps]
   · rw [← hP2]
     simp only [LoopPostS]
     refine ⟨(T2, ⟨n2, id2, db2, rest⟩, ⟨tn, tid, tdb, tq ++ outs⟩, ps ++ [pk], [], cs.map (· - 1), none), ⟨hinv, ?_, hne2 [], ?_⟩, hT2, .inr ⟨6, 9, by decide, by decide, by simp, by simp, by simp, ?_, ?_⟩⟩
     · simp
     · left
       show T2 < T
       omega
     · simp [LeLookS, ren, ren0, swp]
     · simp [LeBoxesS, LeCellsS, swpH, ren, ren0, swp, hnx, hLS, hon, hps]
 | nil =>
   simp
   rw [← hP2]
   simp only [LoopPostS]
   simp
   clear hP2 P2 gs gt gps gpt ls lt
   refine LoopK.introSW (fun z : Nat × Sd × Sd × List Pkt × List Pkt × Option Nat × Option Nat => famT a b now step) (fun z => famH z.2.1 z.2.2.1 z.2.2.2.1 z.2.2.2.2.1 z.2.2.2.2.2.1 z.2.2.2.2.2.2)
     (fun z => Inv2 a b x y q0 z.1 z.2.1 z.2.2.1 ∧ z.2.2.2.1 ++ z.2.1.inq ≠ [] ∧ z.2.2.2.2.1 ++ z.2.2.1.inq ≠ [] ∧ (z.1 < T ∨ z.1 = T ∧ 0 < z.2.2.1.inq.length)) (fun z => z.1)
     (T1, ⟨sn, sid, sdb, []⟩, ⟨tn, tid, tdb, tq⟩, ps, pt, cs, ct) ⟨j1, j3, j4, by simpa using j5⟩ ?_ ?_
   · simp [hle]
   clear j1 j3 j4 j5
   rintro ⟨T1, s, t, ps, pt, cs, ct⟩ ⟨j1, j3, j4, j5⟩
   generalize hP2 : LoopPostS _ _ _ _ _ _ _ = P2
   simp only at j1 j3 j4 j5
   obtain ⟨gs, gt, gps, gpt, ls, lt⟩ := j1.good tw
   obtain ⟨sn, sid, sdb, sq⟩ := s
   obtain ⟨tn, tid, tdb, tq⟩ := t
   simp only at j3 j4 j5 ls lt
   refine SWp_seq (SWp_of (tr := [100092, 100098, 900004000118, 900004000142]) mixed (by kernel_rfl) ?_)
   cases tq with
   | nil =>
     have w1 : IntKind.i64.wrap ((step : Int) + 1) = step + 1 := wrap_in (by omega)
     have hT : T1 < T := by
       rcases j5 with h | ⟨_, h⟩
       · exact h
       · simp at h
     simp
     rw [← hP2]
     simp only [LoopPostS]
     simp [w1]
     rw [← hPQ]
     simp only [LoopPostS]
     refine ⟨(step + 1, T1, ⟨sn, sid, sdb, sq⟩, ⟨tn, tid, tdb, []⟩, ps, pt, cs, ct), ⟨j1, ?_, j3, j4⟩, hT, .inl ?_⟩
     · show step + 1 + T1 ≤ 50
       omega
     · simp [hle]
   | cons pk rest =>
     obtain ⟨T2, hT2, hinv⟩ := j1.stepT tw rfl now
     have hl2 := (hinv.good tw).2.2.2.2.1
     have k31 := fun Z => b31at ⟨tn, tid, tdb, pk :: rest⟩ pk now gt (gpt pk (by simp)) hw (pt.length * 18) (rest.length + 1) ct pt (pk :: rest) (famH ⟨sn, sid, sdb, sq⟩ ⟨tn, tid, tdb, pk :: rest⟩ ps pt cs ct ++ Z) 6 rfl
     generalize hearN ⟨tn, tid, tdb, pk :: rest⟩ pk now = hr at *
     obtain ⟨⟨n2, id2, db2, iq2⟩, outs⟩ := hr
     simp only at hl2 hinv
     have hqa := qRow_at pt pk rest
     have hds := qRow_dis pt (pk :: rest)
     have h18 : 18 ≤ (rest.length + 1) * 18 := by omega
     have h1r : (1 : Int) ≤ rest.length + 1 := by omega
     have hql := qRow_len pt (pk :: rest)
     have hnx := qRow_next pt pk rest
     simp only [famH] at k31 ⊢
     generalize hRS : qRow pt (pk :: rest) = RS at *
     simp
     refine SWp_block (SWp_seq (SWp_of (tr := [100092, 100098, 900004000118, 900004000142]) mixed (by kernel_rfl) ?_))
     simp [hqa, hql, hds, h18]
     refine ⟨_, _, ⟨rfl, fun Z => by simpa using k31 Z⟩, by simp, ?_⟩
     simp
     refine SWp_seq (SWp_of (tr := [100092, 100098, 900004000118, 900004000142]) mixed (by kernel_rfl) ?_)
     simp [h1r]
     refine SWp_seq (SWp_of (tr := [100092, 100098, 900004000118, 900004000142]) mixed (by kernel_rfl) ?_)
     simp
     refine SWp_app (tr := [100092, 100098, 900004000118, 900004000142]) (q := 160) (by kernel_rfl) ?_
     have hT1 := qRow_ne j3
     have hT2' : ps.length * 18 + sq.length * 18 ≤ (qRow ps sq).length := Nat.le_of_eq (qRow_len ps sq).symm
     have hT3 := qRow_ok ps sq (ps.length * 18 + sq.length * 18)
     have hA := qRow_add ps sq outs
     have hB := qRow_new ps sq outs
     have hZ : plainCells (flatC (outs.map encPk)) = true := by rw [pk_flat]; exact pk_ok outs
     have hol : sq.length + outs.length ≤ 2 := by rw [← List.length_append]; exact hl2
     by_cases hz0 : outs = []
     · subst hz0
       have hb1 : sq.length * 176 ≤ 140737488355328 := by omega
       have hb2 : sq.length ≤ 140737488355328 := by omega
       rw [List.append_nil] at hinv
       simp only [List.map_nil] at hZ
       simp [awpN, aappN, hT1, hT2', hT3, hZ, hb1, hb2]
       rw [← hP2]
       simp only [LoopPostS]
       refine ⟨(T2, ⟨sn, sid, sdb, sq⟩, ⟨n2, id2, db2, rest⟩, ps, pt ++ [pk], cs, ct.map (· - 1)), ⟨hinv, j3, ?_, ?_⟩, hT2, .inl ?_⟩
       · simp
       · left
         show T2 < T
         omega
       · simp [hnx, hle]
         omega
     have hz1 : ¬ outs.map encPk = [] := fun e => hz0 (List.map_eq_nil_iff.1 e)
     generalize hoz : outs.map encPk = zs at *
     have hzl : zs.length = outs.length := by rw [← hoz, List.length_map]
     generalize hFZ : flatC zs = FZ at *
     obtain ⟨on, hon⟩ : ∃ on, outs.length = on := ⟨_, rfl⟩
     rw [hon] at hzl hol
     have hb1 : (sq.length + on) * 176 ≤ 140737488355328 := by omega
     have hb2 : sq.length + on ≤ 140737488355328 := by omega
     have hne2 : ∀ u : List Pkt, ¬ u ++ (sq ++ outs) = [] := fun u e => hz0 (List.append_eq_nil_iff.1 (List.append_eq_nil_iff.1 e).2).2
     have hLS := fun (u v : List Pkt) (σ : Nat → Nat) (N n' : Nat) => treeCellsS (σ := σ) (N := N) (n := n') (qRow_tree u v)
     have hps : pt.length * 18 + 18 = (pt.length + 1) * 18 := by omega
     simp [awpN, aappN, hT1, hT2', hT3, hZ, hzl, hz1, hFZ, hb1, hb2, hA, hB]
     refine ⟨?_, ?_⟩
     · rw [← hP2]
       simp only [LoopPostS]
       refine ⟨(T2, ⟨sn, sid, sdb, sq ++ outs⟩, ⟨n2, id2, db2, rest⟩, ps, pt ++ [pk], none, ct.map (· - 1)), ⟨hinv, hne2 ps, ?_, ?_⟩, hT2, .inr ⟨4, 9, by decide, by decide, by simp, by simp, by simp, ?_, ?_⟩⟩
       · simp
       · left
         show T2 < T
         omega
       · simp [LeLookS, ren, ren0, swp]
       · simp [LeBoxesS, LeCellsS, swpH, ren, ren0, swp, hnx, hLS, hon, hps]
     · rw [← hP2]
       simp only [LoopPostS]
       refine ⟨(T2, ⟨sn, sid, sdb, sq ++ outs⟩, ⟨n2, id2, db2, rest⟩, [], pt ++ [pk], none, ct.map (· - 1)), ⟨hinv, hne2 [], ?_, ?_⟩, hT2, .inr ⟨4, 9, by decide, by decide, by simp, by simp, by simp, ?_, ?_⟩⟩
       · simp
       · left
         show T2 < T
         omega
       · simp [LeLookS, ren, ren0, swp]
       · simp [LeBoxesS, LeCellsS, swpH, ren, ren0, swp, hnx, hLS, hon, hps]
end Go.Proofs.Ytfngaildaoahpaa
