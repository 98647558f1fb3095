/- The exchange of databases: requests. -/
import Derived.Test.YtfngaildaoahpaaXC5
set_option linter.unusedSimpArgs false
set_option linter.unusedVariables false
namespace Go.Proofs.Ytfngaildaoahpaa
open Go Go.Am
@[simp] def cellsQ (self : Int) (ks : List LKey) : List AVal := [.int .i64 3, .int .u32 self, .int .u32 0, .int .u32 0, .int .i64 0, .int .i64 0, .int .i64 0, .int .i64 0, .int .u32 0, .int .u32 0, .sl 0 [] .full, .int .i64 0, .bool false, .bool false, .bool false, .sl 0 [] .full, .sl 4 (ks.map encY) .own, .sl 0 [] .full]
set_option maxHeartbeats 4000000 in
set_option maxRecDepth 10000 in
theorem x60 (n : Nbr) (hl : n.Req.length * 56 ≤ 140737488351232) (self : Int) : CFun Try.prog 60 [encN n, .int .u32 self] [] (encPk (reqN n self)) [] := by
 refine CFun.intro (tr := [23, 3000023]) (fz := []) (n := 31) (rs := [.cell 4 34]) Try.func60 rfl (by kernel_rfl) rfl rfl mixed (by kernel_rfl) (by simp) (by simp) ?_
 obtain ⟨m, hm⟩ : ∃ m, n.Req.length = m := ⟨_, rfl⟩
 obtain ⟨k, hk⟩ : ∃ k, min 16 m = k := ⟨_, rfl⟩
 have hk16 : k ≤ 16 := by omega
 have hmk : (if 16 < (m : Int) then (16 : Int) else m) = k := by split <;> omega
 have hkm : (k : Int) ≤ m := by omega
 have ht : n.Req.take 16 = n.Req.take k := by
   by_cases q : 16 ≤ m
   · rw [show k = 16 by omega]
   · rw [List.take_of_length_le (by omega), List.take_of_length_le (by omega)]
 unfold reqN
 rw [ht]
 have hrk : (n.Req.take k).length = k := by simp; omega
 have hmap : (n.Req.map encH).take k = (n.Req.take k).map encH := by simp [List.map_take]
 simp [hm, hmk, hkm]
 simp only [← List.map_take]
 generalize hr : n.Req.take k = r at *
 have hmin : min k m = k := by omega
 refine LoopK.intro (tr := [23, 3000023]) mixed (by kernel_rfl) (fun q : Nat × List LKey => [(2, .ptr 0 0), (4, .ptr 1 0), (5, .ptr 2 0), (16, .sl 7 (r.map encH) .sh), (17, .int .i64 k), (18, .int .i64 q.1)]) (fun q => [cellsN n, cellsPk pkt0, cellsQ self q.2]) (fun q => q.1 ≤ k ∧ q.2.length = q.1 ∧ q.2 = (r.take q.1).map keyH) (fun q => k - q.1) (0, []) ?_ ?_ ?_
 · simp
 · simp [pkt0, hel0, hmin]
 · rintro ⟨i, ks⟩ ⟨h1, h2, h3⟩
   simp only at h1 h2 h3
   by_cases hi : i < k
   · obtain ⟨x, hx, hd⟩ := get_drop (l := r) (i := i) (by omega)
     have w1 : IntKind.i64.wrap ((i : Int) + 1) = i + 1 := wrap_in (by omega)
     have h := fun H => (c25 x).up' H rfl rfl
     have htk : ks ++ [keyH x] = (r.take (i + 1)).map keyH := by rw [List.take_add_one, hx, h3]; simp
     clear hd h3
     have s1 : i + 1 ≤ 140737488355328 := by omega
     have s2 : (i + 1) * 32 ≤ 140737488355328 := by omega
     generalize keyH x = kx at *
     simp [hi, hx, gE hx]
     refine ⟨_, _, .inl (by simpa using h _), by simp, ?_⟩
     simp [h2, s1, s2, w1]
     refine ⟨i + 1, ks ++ [kx], ⟨by omega, by simp; omega, by simpa [List.map_take] using htk⟩, by omega, by simp⟩
   · have : i = k := by omega
     subst this
     have e : ks = r.map keyH := by rw [h3, List.take_of_length_le (by omega)]
     subst e
     simp [pkt0, hel0]
set_option maxHeartbeats 4000000 in
set_option maxRecDepth 10000 in
theorem x62 (n : Nbr) (hl : n.Req.length * 56 ≤ 140737488351232) (self : Int) : CFun Try.prog 62 [encN n, .int .u32 self] [] (encPk (reqN n self)) [] := by
 refine CFun.intro (tr := [21, 3000021]) (fz := []) (n := 32) (rs := [.cell 4 34]) Try.func62 rfl (by kernel_rfl) rfl rfl mixed (by kernel_rfl) (by simp) (by simp) ?_
 obtain ⟨m, hm⟩ : ∃ m, n.Req.length = m := ⟨_, rfl⟩
 unfold reqN
 simp [hm]
 refine LoopK.intro (tr := [21, 3000021]) mixed (by kernel_rfl) (fun q : Nat × List LKey => [(2, .ptr 0 0), (4, .ptr 1 0), (5, .ptr 2 0), (6, .int .i64 q.1)]) (fun q => [cellsN n, cellsPk pkt0, cellsQ self q.2]) (fun q => q.1 ≤ min 16 m ∧ q.2.length = q.1 ∧ q.2 = (n.Req.take q.1).map keyH) (fun q => 16 - q.1) (0, []) ?_ ?_ ?_
 · simp
 · simp [pkt0, hel0]
 · rintro ⟨i, ks⟩ ⟨h1, h2, h3⟩
   simp only at h1 h2 h3
   by_cases hi : i < m
   case neg =>
     have : i = m := by omega
     subst this
     have e : ks = (n.Req.take 16).map keyH := by rw [h3, List.take_of_length_le (by omega), List.take_of_length_le (by omega)]
     subst e
     simp [hm, pkt0, hel0]
   by_cases hj : i < 16
   case neg =>
     have : i = 16 := by omega
     subst this
     subst h3
     simp [hm, hi, pkt0, hel0]
   obtain ⟨x, hx, hd⟩ := get_drop (l := n.Req) (i := i) (by omega)
   have w1 : IntKind.i64.wrap ((i : Int) + 1) = i + 1 := wrap_in (by omega)
   have h := fun H => (c26 x).up' H rfl rfl
   have htk : ks ++ [keyH x] = (n.Req.take (i + 1)).map keyH := by rw [List.take_add_one, hx, h3]; simp
   have hj' : (i : Int) < 16 := by omega
   clear hd h3
   have s1 : i + 1 ≤ 140737488355328 := by omega
   have s2 : (i + 1) * 32 ≤ 140737488355328 := by omega
   generalize keyH x = kx at *
   simp [hm, hi, hj', hx, gE hx]
   refine ⟨_, _, .inl (by simpa using h _), by simp, ?_⟩
   simp [h2, s1, s2, w1]
   refine ⟨i + 1, ks ++ [kx], ⟨by omega, by simp; omega, by simpa [List.map_take] using htk⟩, by omega, by simp⟩
end Go.Proofs.Ytfngaildaoahpaa

/- The exchange of databases, by the reference: batches, young headers, insertion, records. -/
namespace Go.Proofs.Ytfngaildaoahpaa
open Go Go.Am
set_option maxHeartbeats 4000000 in
set_option maxRecDepth 10000 in
theorem x49 (n : Nbr) (hl : n.Lst.length * 56 ≤ 140737488351232) : CFun Try.prog 49 [encN n] [] (encN (batchN n)) [] := by
 refine CFun.intro (tr := []) (fz := []) (n := 24) (rs := [.cell 2 26]) Try.func49 rfl (by kernel_rfl) rfl rfl mixed (by kernel_rfl) (by simp) (by simp) ?_
 obtain ⟨m, hm⟩ : ∃ m, n.Lst.length = m := ⟨_, rfl⟩
 rw [hm] at hl
 unfold batchN
 by_cases h16 : 16 < m
 · have s1 : (16 : Int) < m := by omega
   have s2 : (16 : Int) ≤ m := by omega
   have s3 : (m - 16) * 56 ≤ 140737488355328 := by omega
   have s4 : m - 16 ≤ 140737488355328 := by omega
   have s5 : min 16 m = 16 := by omega
   have e3 : (n.Lst.map encH).take m = n.Lst.map encH := List.take_of_length_le (by simp; omega)
   simp [hm, s1, s2, s3, s4, s5, e3, List.map_take, List.map_drop]
 · have s1 : ¬ (16 : Int) < m := by omega
   have s3 : m * 56 ≤ 140737488355328 := by omega
   have s4 : m ≤ 140737488355328 := by omega
   have e1 : n.Lst.take 16 = n.Lst := List.take_of_length_le (by omega)
   have e2 : n.Lst.drop 16 = [] := List.drop_of_length_le (by omega)
   have e3 : (n.Lst.map encH).take m = n.Lst.map encH := List.take_of_length_le (by simp; omega)
   have e4 : (n.Lst.map encH).drop m = [] := List.drop_of_length_le (by simp; omega)
   simp [hm, s1, s3, s4, e1, e2, e3, e4]
set_option maxHeartbeats 4000000 in
set_option maxRecDepth 10000 in
theorem x80 (db : List Lsa) (n : Nat) (hn : db.length = n) (hlen : n < 1099511627776) : CFun Try.prog 80 [.sl 15 (db.map encA) .sh] [] (.sl 7 ((youngD db).map encH) .sh) [] := by
 refine CFun.intro (tr := [19]) (fz := []) (n := 28) (rs := [.tmp 2]) Try.func80 rfl (by kernel_rfl) rfl rfl mixed (by kernel_rfl) (by simp) (by simp) ?_
 simp
 refine LoopK.intro (tr := [19]) mixed (by kernel_rfl) (fun q : Nat × List Hdr => [(0, .sl 15 (db.map encA) .sh), (3, .sl 7 (q.2.map encH) .own), (4, .int .i64 q.1)]) (fun _ => [])
   (fun q => q.1 ≤ n ∧ q.2.length ≤ q.1 ∧ q.2 ++ youngD (db.drop q.1) = youngD db) (fun q => n - q.1) (0, []) ?_ ?_ ?_
 · simp
 · simp
 · rintro ⟨i, o⟩ ⟨h1, h3, h2⟩
   simp only at h1 h2 h3
   by_cases hi : i < n
   · have s1 : o.length + 1 ≤ 140737488355328 := by omega
     have s2 : (o.length + 1) * 56 ≤ 140737488355328 := by omega
     obtain ⟨x, hx, hd⟩ := get_drop (l := db) (i := i) (by omega)
     rw [hd] at h2
     have w1 : IntKind.i64.wrap ((i : Int) + 1) = i + 1 := wrap_in (by omega)
     clear hd
     by_cases e : x.H.Age < 3600
     · have hy : youngD (x :: db.drop (i + 1)) = x.H :: youngD (db.drop (i + 1)) := by simp [youngD, e]
       rw [hy] at h2
       simp [hi, hn, hx, gE hx, w1, e, s1, s2]
       exact ⟨i + 1, o ++ [x.H], ⟨by omega, by simp; omega, by simpa using h2⟩, by omega, by simp⟩
     · have hy : youngD (x :: db.drop (i + 1)) = youngD (db.drop (i + 1)) := by simp [youngD, e]
       rw [hy] at h2
       simp [hi, hn, hx, gE hx, w1, e]
       exact ⟨i + 1, o, ⟨by omega, by omega, h2⟩, by omega, by simp⟩
   · have : i = n := by omega
     subst this
     rw [List.drop_eq_nil_of_le (by omega)] at h2
     have h2' : o = youngD db := by simpa [youngD] using h2
     simp [hn, ← h2']
end Go.Proofs.Ytfngaildaoahpaa

/- The exchange of databases, by the reference: insertion. -/
namespace Go.Proofs.Ytfngaildaoahpaa
open Go Go.Am
set_option maxHeartbeats 4000000 in
set_option maxRecDepth 10000 in
theorem x81 (l : List Hdr) (n : Nat) (hn : l.length = n) (hlen : (n + 1) * 56 ≤ 140737488355328) (b : Hdr) : CFun Try.prog 81 [.sl 7 (l.map encH) .sh, encH b] [] (.sl 7 ((insWH b false l).map encH) .sh) [] := by
 refine CFun.intro (tr := [45]) (fz := []) (n := 50) (rs := [.tmp 4]) Try.func81 rfl (by kernel_rfl) rfl rfl mixed (by kernel_rfl) (by simp) (by simp) ?_
 simp
 refine LoopK.intro (tr := [30, 36]) mixed (by kernel_rfl) (fun q : Nat × Bool × List Hdr => [(0, .sl 7 (l.map encH) .sh), (3, .ptr 0 0), (5, .sl 7 (q.2.2.map encH) .own), (6, .bool q.2.1), (7, .int .i64 q.1)]) (fun _ => [cellsH b])
   (fun q => q.1 ≤ n ∧ q.2.2.length ≤ q.1 + q.2.1.toNat ∧ q.2.2 ++ insWH b q.2.1 (l.drop q.1) = insWH b false l) (fun q => n - q.1) (0, false, []) ?_ ?_ ?_
 · simp
 · simp
 · rintro ⟨i, d, o⟩ ⟨h1, h3, h2⟩
   simp only at h1 h2 h3
   have hN : n + 1 ≤ 140737488355328 := by omega
   have hd1 : d.toNat ≤ 1 := by cases d <;> decide
   by_cases hi : i < n
   · have t1 : o.length + 1 ≤ n + 1 := by omega
     have t2 : d = false → o.length + 1 + 1 ≤ n + 1 := by rintro rfl; simp at h3; omega
     have s1 : o.length + 1 ≤ 140737488355328 := Nat.le_trans t1 hN
     have s2 : (o.length + 1) * 56 ≤ 140737488355328 := Nat.le_trans (Nat.mul_le_mul_right 56 t1) hlen
     obtain ⟨x, hx, hd⟩ := get_drop (l := l) (i := i) (by omega)
     rw [hd] at h2
     have w1 : IntKind.i64.wrap ((i : Int) + 1) = i + 1 := wrap_in (by omega)
     have hb := fun H => (c26 b).up' H rfl rfl
     have hK := fun H => (c26 x).up' H rfl rfl
     have hC := fun H => (c28 (keyH b) (keyH x)).up' H rfl rfl
     simp only [insWH] at h2
     generalize keyH b = kb at hb hC h2
     generalize keyH x = kx at hK hC h2
     clear hd
     simp [hi, hn, hx, gE hx]
     refine ⟨_, _, .inl (by simpa using hb _), by simp, ?_⟩
     simp [hi, hn, hx, gE hx]
     refine ⟨_, _, .inl (by simpa using hK _), by simp, ?_⟩
     simp
     refine ⟨_, _, .inl (by simpa using hC _), by simp, ?_⟩
     generalize cmpY kb kx = c at h2
     cases d
     · have s3 : o.length + 1 + 1 ≤ 140737488355328 := Nat.le_trans (t2 rfl) hN
       have s4 : (o.length + 1 + 1) * 56 ≤ 140737488355328 := Nat.le_trans (Nat.mul_le_mul_right 56 (t2 rfl)) hlen
       simp only [Bool.toNat_false, Nat.add_zero] at h3
       by_cases e1 : c ≤ 0
       · rw [if_pos ⟨rfl, e1⟩, decide_eq_true e1] at h2
         by_cases e2 : c = 0
         · rw [if_neg (by simpa using e2)] at h2
           subst e2
           simp [s1, s2, w1]
           exact ⟨i + 1, o ++ [b], ⟨by omega, by simp; omega, by simpa using h2⟩, by omega, by simp⟩
         · rw [if_pos e2] at h2
           simp [e1, e2, s1, s2, s3, s4, w1, hi, hn, hx, gE hx]
           exact ⟨i + 1, o ++ [b] ++ [x], ⟨by omega, by simp; omega, by simpa using h2⟩, by omega, by simp⟩
       · have e2 : c ≠ 0 := by omega
         rw [if_neg (by simp [e1]), decide_eq_false e1, if_pos e2] at h2
         simp [e1, e2, s1, s2, w1, hi, hn, hx, gE hx]
         exact ⟨i + 1, o ++ [x], ⟨by omega, by simp; omega, by simpa using h2⟩, by omega, by simp⟩
     · simp only [Bool.toNat_true] at h3
       rw [if_neg (by simp), Bool.true_or] at h2
       by_cases e2 : c = 0
       · rw [if_neg (by simpa using e2)] at h2
         simp [e2, w1]
         exact ⟨i + 1, o, ⟨by omega, by omega, by simpa using h2⟩, by omega, by simp⟩
       · rw [if_pos e2] at h2
         simp [e2, s1, s2, w1, hi, hn, hx, gE hx]
         exact ⟨i + 1, o ++ [x], ⟨by omega, by simp; omega, by simpa using h2⟩, by omega, by simp⟩
   · have : i = n := by omega
     subst this
     rw [List.drop_eq_nil_of_le (by omega)] at h2
     cases d
     · simp only [Bool.toNat_false, Nat.add_zero] at h3
       have t1 : o.length + 1 ≤ i + 1 := by omega
       have s1 : o.length + 1 ≤ 140737488355328 := Nat.le_trans t1 hN
       have s2 : (o.length + 1) * 56 ≤ 140737488355328 := Nat.le_trans (Nat.mul_le_mul_right 56 t1) hlen
       simp [insWH] at h2
       simp [hn, s1, s2, ← h2]
     · simp [insWH] at h2
       simp [hn, ← h2]
end Go.Proofs.Ytfngaildaoahpaa

/- The exchange of databases, by the reference: the end, the record. -/
namespace Go.Proofs.Ytfngaildaoahpaa
open Go Go.Am
def finN (n : Nbr) : Nbr := if n.Req = [] then { n with State := 6 } else { n with State := 5 }
def finP (n : Nbr) (self : Int) (l : List Pkt) : List Pkt := if n.Req = [] then l else l ++ [reqN { n with State := 5 } self]
set_option maxHeartbeats 4000000 in
set_option maxRecDepth 10000 in
theorem x51 (n : Nbr) (hl : n.Req.length * 56 ≤ 140737488351232) (self : Int) (l : List Pkt) (hp : l.length < 1000) : CFun Try.prog 51 [encN n, .int .u32 self, .sl 18 (l.map encPk) .full] [] (.tup [encN (finN n), .sl 18 ((finP n self l).map encPk) .sh]) [] := by
 refine CFun.intro (tr := []) (fz := []) (n := 24) (rs := [.cell 6 26, .tmp 7]) Try.func51 rfl (by kernel_rfl) rfl rfl mixed (by kernel_rfl) (by simp) (by simp) ?_
 unfold finN finP
 by_cases h : n.Req = []
 · simp [h]
 have h' : ¬ n.Req.length = 0 := fun e => h (List.length_eq_zero_iff.1 e)
 have k := fun H => (x62 { n with State := 5 } hl self).up' H rfl rfl
 have s1 : l.length + 1 ≤ 140737488355328 := by omega
 have s2 : (l.length + 1) * 176 ≤ 140737488355328 := by omega
 generalize reqN { n with State := 5 } self = q at *
 simp [h, h']
 refine ⟨_, _, .inl (by simpa using k _), by simp, ?_⟩
 simp [s1, s2]
end Go.Proofs.Ytfngaildaoahpaa

/- The exchange of databases, by the reference: the record. -/
namespace Go.Proofs.Ytfngaildaoahpaa
open Go Go.Am
theorem recL_snoc (db : List Lsa) (hs : List Hdr) (x : Hdr) (l : List Hdr) : recL db (hs ++ [x]) l = if cmpD db x = 1 then putH x (recL db hs l) else recL db hs l := by
 simp [recL, List.foldl_append]
theorem recL_asc (db : List Lsa) : ∀ (hs : List Hdr) {l : List Hdr}, ascH l → ascH (recL db hs l)
 | [], _, h => h
 | x :: hs, l, h => by
   simp only [recL, List.foldl_cons]
   split
   · exact recL_asc db hs (putH_asc h)
   · exact recL_asc db hs h
theorem recL_len (db : List Lsa) : ∀ (hs : List Hdr) {l : List Hdr}, ascH l → (recL db hs l).length ≤ l.length + hs.length
 | [], l, h => by simp [recL]
 | x :: hs, l, h => by
   simp only [recL, List.foldl_cons]
   split
   · have h1 := recL_len db hs (putH_asc (l := x) h)
     have h2 := putH_len (l := x) h
     simp only [recL] at h1
     have h3 : (if fndH l (keyH x) = true then 0 else 1) ≤ 1 := by split <;> omega
     simp only [List.length_cons]
     omega
   · have h1 := recL_len db hs h
     simp only [recL] at h1
     simp only [List.length_cons]
     omega
end Go.Proofs.Ytfngaildaoahpaa

/- The exchange of databases, by the reference: the record's walk. -/
namespace Go.Proofs.Ytfngaildaoahpaa
open Go Go.Am
set_option maxHeartbeats 8000000 in
set_option maxRecDepth 10000 in
theorem x50 (n : Nbr) (db : List Lsa) (p : Pkt) (m : Nat) (hm : p.Heads.length = m) (ha : ascH n.Req) (hsz : (n.Req.length + m + 1) * 56 ≤ 140737488355328) (hdb : db.length < 1099511627776) (hage : ∀ x ∈ db, inI x.H.Age) (hh : ∀ x ∈ p.Heads, inI x.Age) :
   CFun Try.prog 50 [encN n, .sl 15 (db.map encA) .sh, encPk p] [] (encN (recordN n db p)) [] := by
 refine CFun.intro (tr := []) (fz := []) (n := 36) (rs := [.cell 6 26]) Try.func50 rfl (by kernel_rfl) rfl rfl mixed (by kernel_rfl) (by simp) (by simp) ?_
 unfold recordN
 simp
 refine LoopK.intro (tr := []) mixed (by kernel_rfl) (fun q : Nat × List Hdr => [(1, .sl 15 (db.map encA) .sh), (3, .ptr 0 0), (5, .ptr 1 0), (6, .ptr 2 0), (7, .int .i64 q.1)]) (fun q => [cellsN { n with Req := q.2 }, cellsPk p, cellsN nbr0])
   (fun q => q.1 ≤ m ∧ q.2 = recL db (p.Heads.take q.1) n.Req) (fun q => m - q.1) (0, n.Req) ?_ ?_ ?_
 · simp [recL]
 · simp [nbr0]
 · rintro ⟨i, r⟩ ⟨h1, h2⟩
   simp only at h1 h2
   by_cases hi : i < m
   · obtain ⟨x, hx, hd⟩ := get_drop (l := p.Heads) (i := i) (by omega)
     clear hd
     have w1 : IntKind.i64.wrap ((i : Int) + 1) = i + 1 := wrap_in (by omega)
     have hr : ascH r := by rw [h2]; exact recL_asc db _ ha
     have hrl : r.length ≤ n.Req.length + i := by
       have := recL_len db (p.Heads.take i) ha
       rw [← h2] at this
       simp at this
       omega
     have hs : recL db (p.Heads.take (i + 1)) n.Req = if cmpD db x = 1 then putH x r else r := by
       rw [List.take_add_one, hx, h2]
       exact recL_snoc db _ x _
     have k1 := fun H => (f49 db _ rfl hdb x (hh x (List.mem_of_getElem? hx)) hage).up' H rfl rfl
     have k2 := fun H => (x81 r _ rfl (Nat.le_trans (Nat.mul_le_mul_right 56 (by omega)) hsz) x).up' H rfl rfl
     rw [insWH_put x hr] at k2
     clear h2
     generalize cmpD db x = c at *
     generalize putH x r = r2 at *
     simp [hm, hi, hx, gE hx]
     refine ⟨_, _, .inl (by simpa using k1 _), by simp, ?_⟩
     by_cases hc : c = 1
     · rw [if_pos hc] at hs
       simp [hc, hx, gE hx]
       refine ⟨_, _, .inl (by simpa using k2 _), by simp, ?_⟩
       simp [w1]
       exact ⟨i + 1, r2, ⟨by omega, hs.symm⟩, by omega, by simp [nbr0]⟩
     · rw [if_neg hc] at hs
       simp [hc, w1]
       exact ⟨i + 1, r, ⟨by omega, hs.symm⟩, by omega, by simp [nbr0]⟩
   · have : i = m := by omega
     subst this
     rw [List.take_of_length_le (by omega)] at h2
     simp [hm, ← h2, nbr0]
end Go.Proofs.Ytfngaildaoahpaa

/- The exchange of databases, by the reference: the first packet. -/
namespace Go.Proofs.Ytfngaildaoahpaa
open Go Go.Am
set_option maxHeartbeats 2000000 in
set_option maxRecDepth 10000 in
theorem x52 (n : Nbr) (now : Int) (hw : inI (now + 5)) : CFun Try.prog 52 [encN n, .int .i64 now] [] (encN (settleN n now)) [] := by
 refine CFun.intro (tr := []) (fz := []) (n := 16) (rs := [.cell 4 26]) Try.func52 rfl (by kernel_rfl) rfl rfl mixed (by kernel_rfl) (by simp) (by simp) ?_
 have h1 := fun H => (x61 n).up' H rfl rfl
 have w1 : IntKind.i64.wrap (now + 5) = now + 5 := wrap_in hw
 unfold settleN
 generalize waitsN n = b at *
 simp
 refine ⟨_, _, .inl (by simpa using h1 _), by simp, ?_⟩
 cases b
 · by_cases hu : n.Una = []
   · simp [hu]
   · simp [hu]
 · simp [w1]
def firstM (n : Nbr) (db : List Lsa) (p : Pkt) (now : Int) : Nbr := settleN (batchN { n with State := 4, Master := false, Seq := p.Seq, Lst := youngD db }) now
def answM (n : Nbr) (db : List Lsa) (p : Pkt) (now : Int) : Nbr := settleN (batchN { recordN { n with State := 4, Lst := youngD db } db p with Seq := n.Seq + 1 }) now
def isFst (p : Pkt) (self : Int) : Bool := p.Init && (p.More && (p.Master && (decide (p.Heads = []) && decide (self < p.Router))))
def isAnsw (n : Nbr) (p : Pkt) (self : Int) : Bool := !p.Init && (!p.Master && (decide (p.Seq = n.Seq) && decide (p.Router < self)))
def firstA (n : Nbr) (self : Int) (db : List Lsa) (p : Pkt) (now : Int) : Nbr × List Pkt × Int :=
 if isFst p self = true then (firstM n db p now, [pendN (firstM n db p now) self], 0)
 else if isAnsw n p self = true then (answM n db p now, [pendN (answM n db p now) self], 0) else (nbr0, [], 14)
theorem youngD_len (db : List Lsa) : (youngD db).length ≤ db.length := by
 unfold youngD
 exact Nat.le_trans (List.length_filter_le _ _) (by simp)
theorem settle_sent (n : Nbr) (now : Int) : (settleN n now).Sent = n.Sent := by
 unfold settleN
 split
 · rfl
 · split <;> rfl
set_option maxHeartbeats 8000000 in
set_option maxRecDepth 10000 in
theorem x48 (n : Nbr) (ok : okN n) (self : Int) (db : List Lsa) (p : Pkt) (now : Int) (hw : inI (now + 5)) (hq : inI (n.Seq + 1)) (ha : ascH n.Req) (hsz : (n.Req.length + p.Heads.length + 1) * 56 ≤ 140737488355328) (hdb : db.length * 136 ≤ 140737488351232) (hage : ∀ x ∈ db, inI x.H.Age) (hh : ∀ x ∈ p.Heads, inI x.Age) :
   CFun Try.prog 48 [encN n, .int .u32 self, .sl 15 (db.map encA) .sh, encPk p, .int .i64 now] [] (.tup [encN (firstA n self db p now).1, .sl 18 ((firstA n self db p now).2.1.map encPk) .sh, .int .i64 (firstA n self db p now).2.2]) [] := by
 refine CFun.intro (tr := [900001000047, 900002000047, 3500047, 900001000089, 900002000089, 3500089]) (fz := []) (n := 95) (rs := [.cell 10 26, .tmp 11, .tmp 12]) Try.func48 rfl (by kernel_rfl) rfl rfl mixed (by kernel_rfl) (by simp) (by simp) ?_
 have hy := youngD_len db
 have k80 := fun H => (x80 db _ rfl (by omega)).up' H rfl rfl
 have k49 := fun (m : Nbr) (hm : m.Lst.length * 56 ≤ 140737488351232) H => (x49 m hm).up' H rfl rfl
 have k52 := fun (m : Nbr) H => (x52 m now hw).up' H rfl rfl
 have k37 := fun (m : Nbr) (hm : m.Sent.length * 56 ≤ 140737488351232) => x37 m hm self
 have w1 : IntKind.i64.wrap (n.Seq + 1) = n.Seq + 1 := wrap_in hq
 have hY : (youngD db).length * 56 ≤ 140737488351232 := by omega
 unfold firstA
 by_cases c1 : isFst p self = true
 · have b1 := k49 { n with State := 4, Master := false, Seq := p.Seq, Lst := youngD db } hY
   have b2 := k52 (batchN { n with State := 4, Master := false, Seq := p.Seq, Lst := youngD db })
   have b3 := k37 (firstM n db p now) (by rw [firstM, settle_sent]; simp [batchN]; omega)
   have e : settleN (batchN { n with State := 4, Master := false, Seq := p.Seq, Lst := youngD db }) now = firstM n db p now := rfl
   rw [e] at b2
   simp only [c1, if_true]
   simp only [isFst, Bool.and_eq_true, decide_eq_true_eq] at c1
   obtain ⟨d1, d2, d3, d4, d5⟩ := c1
   generalize firstM n db p now = fm at *
   generalize batchN { n with State := 4, Master := false, Seq := p.Seq, Lst := youngD db } = bm at *
   generalize pendN fm self = pm at *
   generalize youngD db = yd at *
   simp [d1, d2, d3, d4, d5]
   refine ⟨_, _, .inl (by simpa using k80 _), by simp, ?_⟩
   simp
   refine ⟨_, _, .inl (by simpa using b1 _), by simp, ?_⟩
   simp
   refine ⟨_, _, .inl (by simpa using b2 _), by simp, ?_⟩
   simp
   refine ⟨_, by simpa using b3, by simp [noid, noid0], ?_⟩
   simp
 rw [if_neg c1]
 have third : isAnsw n p self = false → (if isAnsw n p self = true then (answM n db p now, [pendN (answM n db p now) self], (0 : Int)) else (nbr0, [], 14)) = (nbr0, [], 14) := fun h => by rw [h]; rfl
 cases hI : p.Init
 case true =>
   rw [third (by simp [isAnsw, hI])]
   simp only [isFst, hI, Bool.true_and, Bool.and_eq_true, decide_eq_true_eq] at c1
   cases hM : p.More
   · simp [hI, hM, nbr0]
   cases hS : p.Master
   · simp [hI, hM, hS, nbr0]
   by_cases hE : p.Heads = []
   · have hR : ¬ self < p.Router := fun h => c1 ⟨hM, hS, hE, h⟩
     simp [hI, hM, hS, hE, hR, nbr0]
   · simp [hI, hM, hS, hE, nbr0]
 cases hS : p.Master
 case true =>
   rw [third (by simp [isAnsw, hS])]
   simp [hI, hS, nbr0]
 by_cases hE : p.Seq = n.Seq
 case neg =>
   rw [third (by simp [isAnsw, hE])]
   simp [hI, hS, hE, nbr0]
 by_cases hR : p.Router < self
 case neg =>
   rw [third (by simp [isAnsw, hR])]
   simp [hI, hS, hE, hR, nbr0]
 rw [if_pos (by simp [isAnsw, hI, hS, hE, hR])]
 have b0 := fun H => (x50 { n with State := 4, Lst := youngD db } db p _ rfl ha hsz (by omega) hage hh).up' H rfl rfl
 have b1 := k49 { recordN { n with State := 4, Lst := youngD db } db p with Seq := n.Seq + 1 } hY
 have b2 := k52 (batchN { recordN { n with State := 4, Lst := youngD db } db p with Seq := n.Seq + 1 })
 have b3 := k37 (answM n db p now) (by rw [answM, settle_sent]; simp [batchN, recordN]; omega)
 have e : settleN (batchN { recordN { n with State := 4, Lst := youngD db } db p with Seq := n.Seq + 1 }) now = answM n db p now := rfl
 have hrs : (recordN { n with State := 4, Lst := youngD db } db p).Seq = n.Seq := rfl
 rw [e] at b2
 generalize answM n db p now = am at *
 generalize batchN { recordN { n with State := 4, Lst := youngD db } db p with Seq := n.Seq + 1 } = bm at *
 generalize recordN { n with State := 4, Lst := youngD db } db p = rm at *
 generalize pendN am self = pm at *
 generalize youngD db = yd at *
 simp [hI, hS, hE, hR]
 refine ⟨_, _, .inl (by simpa using k80 _), by simp, ?_⟩
 simp
 refine ⟨_, _, .inl (by simpa [hI, hS, hE] using b0 _), by simp, ?_⟩
 simp [hrs, w1]
 refine ⟨_, _, .inl (by simpa using b1 _), by simp, ?_⟩
 simp
 refine ⟨_, _, .inl (by simpa using b2 _), by simp, ?_⟩
 simp
 refine ⟨_, by simpa using b3, by simp [noid, noid0], ?_⟩
 simp
end Go.Proofs.Ytfngaildaoahpaa
