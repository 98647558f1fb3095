/- The exchange of databases, by the program: the slave, of a neighbor without requests, the exchange goes on. -/
import Derived.Test.YtfngaildaoahpaaXT7
set_option linter.unusedSimpArgs false
set_option linter.unusedVariables false
namespace Go.Proofs.Ytfngaildaoahpaa
open Go Go.Am
set_option maxHeartbeats 8000000 in
set_option maxRecDepth 10000 in
theorem y45z (n : Nbr) (self : Int) (db : List Lsa) (p : Pkt) (h : isSlav n p) (hf : ¬ (p.More = false ∧ (slavM n db p).Lst = [])) (hz : n.Req = []) (hq : inI (n.Seq + 1)) (hl : n.Lst.length * 56 ≤ 140737488351232) (hsz : (p.Heads.length + 1) * 56 ≤ 140737488355328) (hdb : db.length * 136 ≤ 140737488351232) (hok : ∀ x ∈ db, okL x) (hbig : p.Heads.length < 1099511627776) :
   CFun Try.prog 45 [.ptr 0 0] [cellsZ0 n (.sl 7 [] .full) self db p] (.bool true) [cellsV (slavM n db p) (reqV (slavM n db p)) self db p [pendN (slavM n db p) self]] := by
 refine CFun.intro (tr := []) (fz := []) (n := 77) (rs := [.tmp 2]) Try.func45 rfl (by kernel_rfl) rfl rfl mixed (by kernel_rfl) (by simp) (by simp) ?_
 obtain ⟨c1, c2, c3, c4, _, c5'⟩ := h
 have c5 : p.Seq = n.Seq + 1 := by omega
 have k78 := fun H => (x78z { n with Seq := p.Seq } db p _ rfl hz hsz (by omega) hok hbig).up' H rfl rfl
 have k77 := fun H => (x77 (recordN { n with Seq := p.Seq } db p) (by simp only [recordN]; omega)).up' H rfl rfl
 have k44 := at44b (slavM n db p) (slavSent n db p hl) self db p
 have w1 : IntKind.i64.wrap (n.Seq + 1) = n.Seq + 1 := wrap_in hq
 have e1 : batchN (recordN { n with Seq := p.Seq } db p) = slavM n db p := rfl
 rw [e1] at k77
 clear e1
 generalize recordN { n with Seq := p.Seq } db p = rm at *
 generalize slavM n db p = m at *
 generalize pendN m self = q at *
 simp [c1, c2, c3, c4, c5, w1]
 refine ⟨_, _, .inl (by simpa [c1, c2, c3, c4, c5] using k78 _), by simp, ?_⟩
 simp [c1, c2, c3, c4, c5]
 refine ⟨_, _, .inl (by simpa [c1, c2, c3, c4, c5] using k77 _), by simp, ?_⟩
 simp [c1, c2, c3, c4, c5]
 refine ⟨_, _, .inl (by simpa [c1, c2, c3, c4, c5] using k44 _), by simp, ?_⟩
 cases hM : p.More
 · have hL : ¬ m.Lst = [] := fun e => hf ⟨hM, e⟩
   have hL' : ¬ m.Lst.length = 0 := fun e => hL (List.length_eq_zero_iff.1 e)
   simp [hM, hL, hL', LeCells, LeV, LeS]
 · simp [hM, LeCells, LeV, LeS]
end Go.Proofs.Ytfngaildaoahpaa

/- The exchange of databases, by the program: what is sent as a row. -/
namespace Go.Proofs.Ytfngaildaoahpaa
open Go Go.Am
set_option maxHeartbeats 4000000 in
set_option maxRecDepth 10000 in
theorem x44o (n : Nbr) (hs : n.Sent.length * 56 ≤ 140737488351232) (self : Int) (db : List Lsa) (p : Pkt) :
   CFun Try.prog 44 [.ptr 0 0] [cellsZ0 n (reqV n) self db p] (.tup []) [cellsS0 n (reqV n) self db p (.osl 1 0 1 none 18), cellsPk (pendN n self)] := by
 refine CFun.intro (tr := [100017]) (fz := []) (n := 20) (rs := []) Try.func44 rfl (by kernel_rfl) rfl rfl mixed (by kernel_rfl) (by simp) (by simp) ?_
 have k := fun H => (x35 n hs self).up' H rfl rfl
 generalize pendN n self = q at *
 simp
 refine ⟨_, _, .inl (by simpa using k _), by simp, ?_⟩
 simp
set_option maxHeartbeats 4000000 in
set_option maxRecDepth 10000 in
theorem x79o (n : Nbr) (hl : n.Req.length * 56 ≤ 140737488351232) (h0 : n.Req ≠ []) (self : Int) (db : List Lsa) (p q : Pkt) :
   CFun Try.prog 79 [.ptr 0 0] [cellsS0 n (reqV n) self db p (.osl 1 0 1 none 18), cellsPk q] (.tup []) [cellsS0 (finN n) (reqV n) self db p (.sl 18 ((finP n self [q]).map encPk) .sh), []] := by
 refine CFun.intro (tr := [100032]) (fz := [(500035, 2, true)]) (n := 35) (rs := []) Try.func79 rfl (by kernel_rfl) rfl rfl mixed (by kernel_rfl) (by simp) (by simp) ?_
 unfold finN finP
 have h' : 0 < n.Req.length := List.length_pos_iff.2 h0
 have k := fun H => (x60 { n with State := 5 } hl self).up' H rfl rfl
 generalize reqN { n with State := 5 } self = r at *
 simp [h0, h']
 refine ⟨_, _, .inl (by simpa using k _), by simp, ?_⟩
 simp [chunk, List.range_succ]
end Go.Proofs.Ytfngaildaoahpaa

/- The exchange of databases, by the program: the slave, the exchange ends. -/
namespace Go.Proofs.Ytfngaildaoahpaa
open Go Go.Am
theorem bd6 {a b : Nat} (h : (a + b + 1) * 56 ≤ 140737488351232) : (b + 1) * 56 ≤ 140737488351232 := Nat.le_trans (Nat.mul_le_mul_right 56 (by omega)) h
theorem bd1 {a b : Nat} (h : (a + b + 1) * 56 ≤ 140737488351232) : (b + 1) * 56 ≤ 140737488355328 := Nat.le_trans (bd6 h) (by decide)
theorem bd2 {d : Nat} (h : d * 136 ≤ 140737488351232) : d < 1099511627776 := by omega
theorem bd3 {a b : Nat} (h : a + b < 1099511627776) : b < 1099511627776 := by omega
theorem bd4 {a : Nat} (h : (a + 1) * 56 ≤ 140737488351232) : (a + 1) * 56 ≤ 140737488355328 := Nat.le_trans h (by decide)
theorem bd5 {a b : Int} (h : a - 1 = b) : a = b + 1 := by omega
theorem bd7 {a b : Nat} (h : (a + b + 1) * 56 ≤ 140737488351232) : (a + b + 1) * 56 ≤ 140737488355328 := Nat.le_trans h (by decide)
theorem putH_ne (x : Hdr) (r : List Hdr) : putH x r ≠ [] := by
 intro h
 cases r with
 | nil => simp [putH] at h
 | cons y r =>
   simp only [putH] at h
   split at h
   · simp at h
   · split at h <;> simp at h
theorem recL_ne (db : List Lsa) : ∀ (hs : List Hdr) {r : List Hdr}, r ≠ [] → recL db hs r ≠ []
 | [], r, h => by simpa [recL] using h
 | x :: hs, r, h => by
   simp only [recL, List.foldl_cons]
   refine recL_ne db hs ?_
   split
   · exact putH_ne x r
   · exact h
theorem slavReq (n : Nbr) (db : List Lsa) (p : Pkt) (ha : ascH n.Req) (hsz : (n.Req.length + p.Heads.length + 1) * 56 ≤ 140737488351232) : (slavM n db p).Req.length * 56 ≤ 140737488351232 := by
 have := recL_len db p.Heads ha
 simp only [slavM, batchN, recordN]
 omega
theorem at44o (n : Nbr) (hs : n.Sent.length * 56 ≤ 140737488351232) (self : Int) (db : List Lsa) (p : Pkt) (E : List (List AVal)) :
   CFun Try.prog 44 [.ptr 0 0] (cellsZ0 n (reqV n) self db p :: E) (.tup []) (cellsS0 n (reqV n) self db p (.osl (E.length + 1) 0 1 none 18) :: (E ++ [cellsPk (pendN n self)])) := by
 have := (x44o n hs self db p).lift id (H := cellsZ0 n (reqV n) self db p :: E) (H' := cellsS0 n (reqV n) self db p (.osl (E.length + 1) 0 1 none 18) :: (E ++ [cellsPk (pendN n self)]))
   (fun i hi => by simp at hi ⊢; omega) (fun i j _ _ h => h) (fun i cs hc => by
     cases i with
     | zero =>
       simp only [List.getElem?_cons_zero, Option.some.injEq] at hc
       subst hc
       exact ⟨by simp [ren0], by simp [low0]⟩
     | succ i => simp at hc) (by simp [low]) (by simp) (fun i cs hc => by
     match i, hc with
     | 0, hc =>
       simp only [List.getElem?_cons_zero, Option.some.injEq] at hc
       subst hc
       exact ⟨by simp [ren0, grow], by simp [low0]⟩
     | 1, hc =>
       simp only [List.getElem?_cons_zero, List.getElem?_cons_succ, Option.some.injEq] at hc
       subst hc
       exact ⟨by simp [ren0, grow], by simp [low0]⟩
     | i + 2, hc => simp at hc) (fun j hj hne => by
     cases j with
     | zero => exact absurd rfl (hne 0 (by simp))
     | succ j =>
       simp at hj
       simp [List.getElem?_append, hj]) (by simp [low])
 simpa [ren, ren0] using this
end Go.Proofs.Ytfngaildaoahpaa

/- The exchange of databases, by the program: the slave, the exchange ends with a request. -/
namespace Go.Proofs.Ytfngaildaoahpaa
open Go Go.Am
set_option maxHeartbeats 8000000 in
set_option maxRecDepth 10000 in
theorem y45rf (n : Nbr) (self : Int) (db : List Lsa) (p : Pkt) (h : isSlav n p) (hM : p.More = false) (hL : (slavM n db p).Lst = []) (hne : (slavM n db p).Req ≠ []) (h0 : 0 < n.Req.length) (ha : ascH n.Req) (hq : inI (n.Seq + 1)) (hl : n.Lst.length * 56 ≤ 140737488351232) (hsz : (n.Req.length + p.Heads.length + 1) * 56 ≤ 140737488351232) (hdb : db.length * 136 ≤ 140737488351232) (hok : ∀ x ∈ db, okL x) (hbig : n.Req.length + p.Heads.length < 1099511627776) :
   CFun Try.prog 45 [.ptr 0 0] [cellsZ0 n (.osl 1 0 n.Req.length none 7) self db p, rowC ceH n.Req] (.bool true) [cellsV (finN (slavM n db p)) (reqV (slavM n db p)) self db p (finP (slavM n db p) self [pendN (slavM n db p) self]), []] := by
 refine CFun.intro (tr := [2500057]) (fz := []) (n := 77) (rs := [.tmp 2]) Try.func45 rfl (by kernel_rfl) rfl rfl mixed (by kernel_rfl) (by simp) (by simp) ?_
 obtain ⟨c1, c2, c3, c4, _, c5'⟩ := h
 have c5 : p.Seq = n.Seq + 1 := by omega
 have k78 := at78r { n with Seq := p.Seq } db p ha h0 (by simp only; omega) (by omega) hok hbig
 have k77 := fun H => (x77 (recordN { n with Seq := p.Seq } db p) (by simp only [recordN]; omega)).up' H rfl rfl
 have k44 := at44o (slavM n db p) (slavSent n db p hl) self db p
 have k79 := (x79o (slavM n db p) (slavReq n db p ha hsz) hne self db p (pendN (slavM n db p) self)).at2 (H := [cellsS0 (slavM n db p) (reqV (slavM n db p)) self db p (.osl 3 0 1 none 18), [], cellsPk p, cellsPk (pendN (slavM n db p) self)]) (i := 0) (j := 3) (by decide) (by simp [ren0, two]) (by simp [ren0]) (by simp [low0]) (by simp [low0]) (by simp [low0]) (by simp) (by simp [low]) (by simp [noid])
 have w1 : IntKind.i64.wrap (n.Seq + 1) = n.Seq + 1 := wrap_in hq
 have e1 : batchN (recordN { n with Seq := p.Seq } db p) = slavM n db p := rfl
 rw [e1] at k77
 clear e1
 have e3 : (finN (slavM n db p)).Req = (slavM n db p).Req := by unfold finN; split <;> rfl
 generalize recordN { n with Seq := p.Seq } db p = rm at *
 generalize slavM n db p = m at *
 generalize pendN m self = q at *
 generalize finN m = fm at *
 generalize finP m self [q] = fp at *
 have hle := fun k => eHh.rowLe k n.Req
 simp [c1, c2, c3, c4, c5, w1]
 refine ⟨_, _, .inl (by simpa [c1, c2, c3, c4, c5] using k78 _ _), by simp, ?_⟩
 simp [c1, c2, c3, c4, c5]
 refine ⟨_, _, .inl (by simpa [c1, c2, c3, c4, c5] using k77 _), by simp, ?_⟩
 simp [c1, c2, c3, c4, c5]
 refine ⟨_, _, .inl (by simpa [c1, c2, c3, c4, c5] using k44 _), by simp, ?_⟩
 simp [hM, hL]
 refine ⟨_, _, .inl (by simpa [ren, ren0, two, c3, c4, c5, hM, hL] using k79), by simp, ?_⟩
 simp [e3]
end Go.Proofs.Ytfngaildaoahpaa

/- The exchange of databases, by the program: the slave, of a neighbor without requests, the exchange ends. -/
namespace Go.Proofs.Ytfngaildaoahpaa
open Go Go.Am
set_option maxHeartbeats 8000000 in
set_option maxRecDepth 10000 in
theorem y45zf (n : Nbr) (self : Int) (db : List Lsa) (p : Pkt) (h : isSlav n p) (hM : p.More = false) (hL : (slavM n db p).Lst = []) (hne : (slavM n db p).Req ≠ []) (hz : n.Req = []) (ha : ascH n.Req) (hq : inI (n.Seq + 1)) (hl : n.Lst.length * 56 ≤ 140737488351232) (hsz : (n.Req.length + p.Heads.length + 1) * 56 ≤ 140737488351232) (hdb : db.length * 136 ≤ 140737488351232) (hok : ∀ x ∈ db, okL x) (hbig : p.Heads.length < 1099511627776) :
   CFun Try.prog 45 [.ptr 0 0] [cellsZ0 n (.sl 7 [] .full) self db p] (.bool true) [cellsV (finN (slavM n db p)) (reqV (slavM n db p)) self db p (finP (slavM n db p) self [pendN (slavM n db p) self])] := by
 refine CFun.intro (tr := []) (fz := []) (n := 77) (rs := [.tmp 2]) Try.func45 rfl (by kernel_rfl) rfl rfl mixed (by kernel_rfl) (by simp) (by simp) ?_
 obtain ⟨c1, c2, c3, c4, _, c5'⟩ := h
 have c5 : p.Seq = n.Seq + 1 := bd5 c5'
 have b1 : (p.Heads.length + 1) * 56 ≤ 140737488355328 := bd1 hsz
 have b2 : db.length < 1099511627776 := bd2 hdb
 have k78 := fun H => (x78z { n with Seq := p.Seq } db p p.Heads.length rfl hz b1 b2 hok hbig).up' H rfl rfl
 have k77 := fun H => (x77 (recordN { n with Seq := p.Seq } db p) hl).up' H rfl rfl
 have k44 := at44o (slavM n db p) (slavSent n db p hl) self db p
 have k79 := (x79o (slavM n db p) (slavReq n db p ha hsz) hne self db p (pendN (slavM n db p) self)).at2 (H := [cellsS0 (slavM n db p) (reqV (slavM n db p)) self db p (.osl 2 0 1 none 18), cellsPk p, cellsPk (pendN (slavM n db p) self)]) (i := 0) (j := 2) (by decide) (by simp [ren0, two]) (by simp [ren0]) (by simp [low0]) (by simp [low0]) (by simp [low0]) (by simp) (by simp [low]) (by simp [noid])
 have w1 : IntKind.i64.wrap (n.Seq + 1) = n.Seq + 1 := wrap_in hq
 have e1 : batchN (recordN { n with Seq := p.Seq } db p) = slavM n db p := rfl
 rw [e1] at k77
 clear e1
 have e3 : (finN (slavM n db p)).Req = (slavM n db p).Req := by unfold finN; split <;> rfl
 generalize recordN { n with Seq := p.Seq } db p = rm at *
 generalize slavM n db p = m at *
 generalize pendN m self = q at *
 generalize finN m = fm at *
 generalize finP m self [q] = fp at *
 simp [c1, c2, c3, c4, c5, w1]
 refine ⟨_, _, .inl (by simpa [c1, c2, c3, c4, c5] using k78 _), by simp, ?_⟩
 simp [c1, c2, c3, c4, c5]
 refine ⟨_, _, .inl (by simpa [c1, c2, c3, c4, c5] using k77 _), by simp, ?_⟩
 simp [c1, c2, c3, c4, c5]
 refine ⟨_, _, .inl (by simpa [c1, c2, c3, c4, c5] using k44 _), by simp, ?_⟩
 simp [hM, hL]
 refine ⟨_, _, .inl (by simpa [ren, ren0, two, c3, c4, c5, hM, hL] using k79), by simp, ?_⟩
 simp [e3]
set_option maxHeartbeats 8000000 in
set_option maxRecDepth 10000 in
theorem y45ze (n : Nbr) (self : Int) (db : List Lsa) (p : Pkt) (h : isSlav n p) (hM : p.More = false) (hL : (slavM n db p).Lst = []) (hne : (slavM n db p).Req = []) (hz : n.Req = []) (hq : inI (n.Seq + 1)) (hl : n.Lst.length * 56 ≤ 140737488351232) (hsz : (p.Heads.length + 1) * 56 ≤ 140737488351232) (hdb : db.length * 136 ≤ 140737488351232) (hok : ∀ x ∈ db, okL x) (hbig : p.Heads.length < 1099511627776) :
   CFun Try.prog 45 [.ptr 0 0] [cellsZ0 n (.sl 7 [] .full) self db p] (.bool true) [cellsV (finN (slavM n db p)) (reqV (slavM n db p)) self db p (finP (slavM n db p) self [pendN (slavM n db p) self])] := by
 refine CFun.intro (tr := []) (fz := []) (n := 77) (rs := [.tmp 2]) Try.func45 rfl (by kernel_rfl) rfl rfl mixed (by kernel_rfl) (by simp) (by simp) ?_
 obtain ⟨c1, c2, c3, c4, _, c5'⟩ := h
 have c5 : p.Seq = n.Seq + 1 := bd5 c5'
 have b1 : (p.Heads.length + 1) * 56 ≤ 140737488355328 := bd4 hsz
 have b2 : db.length < 1099511627776 := bd2 hdb
 have k78 := fun H => (x78z { n with Seq := p.Seq } db p p.Heads.length rfl hz b1 b2 hok hbig).up' H rfl rfl
 have k77 := fun H => (x77 (recordN { n with Seq := p.Seq } db p) hl).up' H rfl rfl
 have k44 := at44b (slavM n db p) (slavSent n db p hl) self db p
 have k79 := (x79z (slavM n db p) hne self db p [pendN (slavM n db p) self]).at (H := [cellsS (slavM n db p) (reqV (slavM n db p)) self db p [pendN (slavM n db p) self], cellsPk p]) (id := 0) rfl (by simp [noid0]) (by simp [noid0]) (by simp [low]) (by simp [low])
 have w1 : IntKind.i64.wrap (n.Seq + 1) = n.Seq + 1 := wrap_in hq
 have e1 : batchN (recordN { n with Seq := p.Seq } db p) = slavM n db p := rfl
 rw [e1] at k77
 clear e1
 have e3 : (finN (slavM n db p)).Req = (slavM n db p).Req := by unfold finN; split <;> rfl
 generalize recordN { n with Seq := p.Seq } db p = rm at *
 generalize slavM n db p = m at *
 generalize pendN m self = q at *
 generalize finN m = fm at *
 generalize finP m self [q] = fp at *
 simp [c1, c2, c3, c4, c5, w1]
 refine ⟨_, _, .inl (by simpa [c1, c2, c3, c4, c5] using k78 _), by simp, ?_⟩
 simp [c1, c2, c3, c4, c5]
 refine ⟨_, _, .inl (by simpa [c1, c2, c3, c4, c5] using k77 _), by simp, ?_⟩
 simp [c1, c2, c3, c4, c5]
 refine ⟨_, _, .inl (by simpa [c1, c2, c3, c4, c5] using k44 _), by simp, ?_⟩
 simp [hM, hL]
 refine ⟨_, _, .inl (by simpa [ren, ren0, c3, c4, c5, hM, hL] using k79), by simp, ?_⟩
 simp [e3, LeCells, LeV, LeS]
end Go.Proofs.Ytfngaildaoahpaa

/- The exchange of databases, by the program: the master. -/
namespace Go.Proofs.Ytfngaildaoahpaa
open Go Go.Am
theorem mastSent (n : Nbr) (db : List Lsa) (p : Pkt) (hl : n.Lst.length * 56 ≤ 140737488351232) : (batchN (mastM n db p)).Sent.length * 56 ≤ 140737488351232 := by
 show (n.Lst.take 16).length * 56 ≤ _
 rw [List.length_take]
 omega
theorem mastReq (n : Nbr) (db : List Lsa) (p : Pkt) (ha : ascH n.Req) (hsz : (n.Req.length + p.Heads.length + 1) * 56 ≤ 140737488351232) : (mastM n db p).Req.length * 56 ≤ 140737488351232 := by
 have := recL_len db p.Heads ha
 simp only [mastM, recordN]
 omega
set_option maxHeartbeats 8000000 in
set_option maxRecDepth 10000 in
theorem y46r (n : Nbr) (self : Int) (db : List Lsa) (p : Pkt) (h : isMast n p) (hf : ¬ (p.More = false ∧ (mastM n db p).Lst = [])) (h0 : 0 < n.Req.length) (ha : ascH n.Req) (hq : inI (n.Seq + 1)) (hl : n.Lst.length * 56 ≤ 140737488351232) (hsz : (n.Req.length + p.Heads.length + 1) * 56 ≤ 140737488351232) (hdb : db.length * 136 ≤ 140737488351232) (hok : ∀ x ∈ db, okL x) (hbig : n.Req.length + p.Heads.length < 1099511627776) :
   CFun Try.prog 46 [.ptr 0 0] [cellsZ0 n (.osl 1 0 n.Req.length none 7) self db p, rowC ceH n.Req] (.bool true) [cellsV (batchN (mastM n db p)) (reqV (batchN (mastM n db p))) self db p [pendN (batchN (mastM n db p)) self], []] := by
 refine CFun.intro (tr := [2500050]) (fz := []) (n := 86) (rs := [.tmp 2]) Try.func46 rfl (by kernel_rfl) rfl rfl mixed (by kernel_rfl) (by simp) (by simp) ?_
 obtain ⟨c1, c2, c3, c4, c5⟩ := h
 have k78 := at78r n db p ha h0 (by omega) (by omega) hok hbig
 have w1 : IntKind.i64.wrap (n.Seq + 1) = n.Seq + 1 := wrap_in hq
 have e0 : mastM n db p = { recordN n db p with Seq := n.Seq + 1 } := rfl
 have e2 : (recordN n db p).Seq = n.Seq := rfl
 have hlm : (mastM n db p).Lst.length * 56 ≤ 140737488351232 := hl
 have k77 := fun H => (x77 (mastM n db p) hlm).up' H rfl rfl
 have k44 := at44b (batchN (mastM n db p)) (mastSent n db p hl) self db p
 generalize pendN (batchN (mastM n db p)) self = q at *
 generalize batchN (mastM n db p) = m at *
 have hf' : ¬ (p.More = false ∧ (recordN n db p).Lst = []) := hf
 clear hf
 rw [e0] at k77
 clear e0 hlm
 generalize recordN n db p = rm at *
 have hle := fun k => eHh.rowLe k n.Req
 simp [c1, c2, c3, c4, c5]
 refine ⟨_, _, .inl (by simpa [c1, c2, c3, c4, c5] using k78 _ _), by simp, ?_⟩
 simp [e2, w1]
 cases hM : p.More
 · have hL : ¬ rm.Lst = [] := fun e => hf' ⟨hM, e⟩
   have hL' : ¬ rm.Lst.length = 0 := fun e => hL (List.length_eq_zero_iff.1 e)
   simp [hL, hL']
   refine ⟨_, _, .inl (by simpa [c1, c2, c3, c4, c5, hM] using k77 _), by simp, ?_⟩
   simp
   refine ⟨_, _, .inl (by simpa [c1, c2, c3, c4, c5, hM] using k44 _), by simp, ?_⟩
   simp [LeCells, LeV, LeS]
 · simp
   refine ⟨_, _, .inl (by simpa [c1, c2, c3, c4, c5, hM] using k77 _), by simp, ?_⟩
   simp
   refine ⟨_, _, .inl (by simpa [c1, c2, c3, c4, c5, hM] using k44 _), by simp, ?_⟩
   simp [LeCells, LeV, LeS]
set_option maxHeartbeats 8000000 in
set_option maxRecDepth 10000 in
theorem y46rf (n : Nbr) (self : Int) (db : List Lsa) (p : Pkt) (h : isMast n p) (hM : p.More = false) (hL : (mastM n db p).Lst = []) (h0 : 0 < n.Req.length) (ha : ascH n.Req) (hq : inI (n.Seq + 1)) (hl : n.Lst.length * 56 ≤ 140737488351232) (hsz : (n.Req.length + p.Heads.length + 1) * 56 ≤ 140737488351232) (hdb : db.length * 136 ≤ 140737488351232) (hok : ∀ x ∈ db, okL x) (hbig : n.Req.length + p.Heads.length < 1099511627776) :
   CFun Try.prog 46 [.ptr 0 0] [cellsZ0 n (.osl 1 0 n.Req.length none 7) self db p, rowC ceH n.Req] (.bool true) [cellsV (finN (mastM n db p)) (reqV (mastM n db p)) self db p (finP (mastM n db p) self []), []] := by
 refine CFun.intro (tr := [2500050]) (fz := []) (n := 86) (rs := [.tmp 2]) Try.func46 rfl (by kernel_rfl) rfl rfl mixed (by kernel_rfl) (by simp) (by simp) ?_
 obtain ⟨c1, c2, c3, c4, c5⟩ := h
 have k78 := at78r n db p ha h0 (by omega) (by omega) hok hbig
 have w1 : IntKind.i64.wrap (n.Seq + 1) = n.Seq + 1 := wrap_in hq
 have e0 : mastM n db p = { recordN n db p with Seq := n.Seq + 1 } := rfl
 have e2 : (recordN n db p).Seq = n.Seq := rfl
 have hlm : (mastM n db p).Lst.length * 56 ≤ 140737488351232 := hl
 have k79 := (x79n (mastM n db p) (mastReq n db p ha hsz) self db p).at (H := [cellsZ0 (mastM n db p) (reqV (mastM n db p)) self db p, [], cellsPk p]) (id := 0) rfl (by simp [noid0]) (by simp [noid0]) (by simp [low]) (by simp [low])
 have e3 : (finN (mastM n db p)).Req = (mastM n db p).Req := by unfold finN; split <;> rfl
 have e4 : (mastM n db p).Req = (recordN n db p).Req := rfl
 generalize finN (mastM n db p) = fm at *
 generalize finP (mastM n db p) self [] = fp at *
 have hL' : (recordN n db p).Lst = [] := hL
 clear hL
 rw [e0] at k79 e3
 clear e0 hlm
 generalize recordN n db p = rm at *
 have hle := fun k => eHh.rowLe k n.Req
 simp [c1, c2, c3, c4, c5]
 refine ⟨_, _, .inl (by simpa [c1, c2, c3, c4, c5] using k78 _ _), by simp, ?_⟩
 simp [e2, w1]
 simp [hM, hL']
 refine ⟨_, _, .inl (by simpa [ren, ren0, c1, c2, c3, c4, c5, hM, hL'] using k79), by simp, ?_⟩
 simp [e3, e4, LeCells, LeV, LeS]
end Go.Proofs.Ytfngaildaoahpaa

/- The exchange of databases, by the program: the master, of a neighbor without requests. -/
namespace Go.Proofs.Ytfngaildaoahpaa
open Go Go.Am
set_option maxHeartbeats 8000000 in
set_option maxRecDepth 10000 in
theorem y46z (n : Nbr) (self : Int) (db : List Lsa) (p : Pkt) (h : isMast n p) (hf : ¬ (p.More = false ∧ (mastM n db p).Lst = [])) (hz : n.Req = []) (ha : ascH n.Req) (hq : inI (n.Seq + 1)) (hl : n.Lst.length * 56 ≤ 140737488351232) (hsz : (n.Req.length + p.Heads.length + 1) * 56 ≤ 140737488351232) (hdb : db.length * 136 ≤ 140737488351232) (hok : ∀ x ∈ db, okL x) (hbig : n.Req.length + p.Heads.length < 1099511627776) :
   CFun Try.prog 46 [.ptr 0 0] [cellsZ0 n (.sl 7 [] .full) self db p] (.bool true) [cellsV (batchN (mastM n db p)) (reqV (batchN (mastM n db p))) self db p [pendN (batchN (mastM n db p)) self]] := by
 refine CFun.intro (tr := []) (fz := []) (n := 86) (rs := [.tmp 2]) Try.func46 rfl (by kernel_rfl) rfl rfl mixed (by kernel_rfl) (by simp) (by simp) ?_
 obtain ⟨c1, c2, c3, c4, c5⟩ := h
 have k78 := fun H => (x78z n db p p.Heads.length rfl hz (bd1 hsz) (bd2 hdb) hok (bd3 hbig)).up' H rfl rfl
 have w1 : IntKind.i64.wrap (n.Seq + 1) = n.Seq + 1 := wrap_in hq
 have e0 : mastM n db p = { recordN n db p with Seq := n.Seq + 1 } := rfl
 have e2 : (recordN n db p).Seq = n.Seq := rfl
 have hlm : (mastM n db p).Lst.length * 56 ≤ 140737488351232 := hl
 have k77 := fun H => (x77 (mastM n db p) hlm).up' H rfl rfl
 have k44 := at44b (batchN (mastM n db p)) (mastSent n db p hl) self db p
 generalize pendN (batchN (mastM n db p)) self = q at *
 generalize batchN (mastM n db p) = m at *
 have hf' : ¬ (p.More = false ∧ (recordN n db p).Lst = []) := hf
 clear hf
 rw [e0] at k77
 clear e0 hlm
 generalize recordN n db p = rm at *
 simp [c1, c2, c3, c4, c5]
 refine ⟨_, _, .inl (by simpa [c1, c2, c3, c4, c5] using k78 _), by simp, ?_⟩
 simp [e2, w1]
 cases hM : p.More
 · have hL : ¬ rm.Lst = [] := fun e => hf' ⟨hM, e⟩
   have hL' : ¬ rm.Lst.length = 0 := fun e => hL (List.length_eq_zero_iff.1 e)
   simp [hL, hL']
   refine ⟨_, _, .inl (by simpa [c1, c2, c3, c4, c5, hM] using k77 _), by simp, ?_⟩
   simp
   refine ⟨_, _, .inl (by simpa [c1, c2, c3, c4, c5, hM] using k44 _), by simp, ?_⟩
   simp [LeCells, LeV, LeS]
 · simp
   refine ⟨_, _, .inl (by simpa [c1, c2, c3, c4, c5, hM] using k77 _), by simp, ?_⟩
   simp
   refine ⟨_, _, .inl (by simpa [c1, c2, c3, c4, c5, hM] using k44 _), by simp, ?_⟩
   simp [LeCells, LeV, LeS]
set_option maxHeartbeats 8000000 in
set_option maxRecDepth 10000 in
theorem y46zf (n : Nbr) (self : Int) (db : List Lsa) (p : Pkt) (h : isMast n p) (hM : p.More = false) (hL : (mastM n db p).Lst = []) (hz : n.Req = []) (ha : ascH n.Req) (hq : inI (n.Seq + 1)) (hl : n.Lst.length * 56 ≤ 140737488351232) (hsz : (n.Req.length + p.Heads.length + 1) * 56 ≤ 140737488351232) (hdb : db.length * 136 ≤ 140737488351232) (hok : ∀ x ∈ db, okL x) (hbig : n.Req.length + p.Heads.length < 1099511627776) :
   CFun Try.prog 46 [.ptr 0 0] [cellsZ0 n (.sl 7 [] .full) self db p] (.bool true) [cellsV (finN (mastM n db p)) (reqV (mastM n db p)) self db p (finP (mastM n db p) self [])] := by
 refine CFun.intro (tr := []) (fz := []) (n := 86) (rs := [.tmp 2]) Try.func46 rfl (by kernel_rfl) rfl rfl mixed (by kernel_rfl) (by simp) (by simp) ?_
 obtain ⟨c1, c2, c3, c4, c5⟩ := h
 have k78 := fun H => (x78z n db p p.Heads.length rfl hz (bd1 hsz) (bd2 hdb) hok (bd3 hbig)).up' H rfl rfl
 have w1 : IntKind.i64.wrap (n.Seq + 1) = n.Seq + 1 := wrap_in hq
 have e0 : mastM n db p = { recordN n db p with Seq := n.Seq + 1 } := rfl
 have e2 : (recordN n db p).Seq = n.Seq := rfl
 have hlm : (mastM n db p).Lst.length * 56 ≤ 140737488351232 := hl
 have k79 := (x79n (mastM n db p) (mastReq n db p ha hsz) self db p).at (H := [cellsZ0 (mastM n db p) (reqV (mastM n db p)) self db p, cellsPk p]) (id := 0) rfl (by simp [noid0]) (by simp [noid0]) (by simp [low]) (by simp [low])
 have e3 : (finN (mastM n db p)).Req = (mastM n db p).Req := by unfold finN; split <;> rfl
 have e4 : (mastM n db p).Req = (recordN n db p).Req := rfl
 generalize finN (mastM n db p) = fm at *
 generalize finP (mastM n db p) self [] = fp at *
 have hL' : (recordN n db p).Lst = [] := hL
 clear hL
 rw [e0] at k79 e3
 clear e0 hlm
 generalize recordN n db p = rm at *
 simp [c1, c2, c3, c4, c5]
 refine ⟨_, _, .inl (by simpa [c1, c2, c3, c4, c5] using k78 _), by simp, ?_⟩
 simp [e2, w1]
 simp [hM, hL']
 refine ⟨_, _, .inl (by simpa [ren, ren0, c1, c2, c3, c4, c5, hM, hL'] using k79), by simp, ?_⟩
 simp [e3, e4, LeCells, LeV, LeS]
end Go.Proofs.Ytfngaildaoahpaa

/- The exchange of databases, by the program: the slave and the master, in one. -/
namespace Go.Proofs.Ytfngaildaoahpaa
open Go Go.Am
theorem fin_reqV (n : Nbr) : reqV (finN n) = reqV n := by
 unfold finN
 split <;> rfl
section
variable (n : Nbr) (self : Int) (db : List Lsa) (p : Pkt)
theorem z45r (h : isSlav n p) (h0 : 0 < n.Req.length) (ha : ascH n.Req) (hq : inI (n.Seq + 1)) (hl : n.Lst.length * 56 ≤ 140737488351232) (hsz : (n.Req.length + p.Heads.length + 1) * 56 ≤ 140737488351232) (hdb : db.length * 136 ≤ 140737488351232) (hok : ∀ x ∈ db, okL x) (hbig : n.Req.length + p.Heads.length < 1099511627776) :
   CFun Try.prog 45 [.ptr 0 0] [cellsZ0 n (.osl 1 0 n.Req.length none 7) self db p, rowC ceH n.Req] (.bool true) [cellsV (slavO (slavM n db p) self p).1 (reqV (slavO (slavM n db p) self p).1) self db p (slavO (slavM n db p) self p).2, []] := by
 unfold slavO
 split
 · rename_i e
   have hne : (slavM n db p).Req ≠ [] := by
     show recL db p.Heads n.Req ≠ []
     exact recL_ne db _ (List.length_pos_iff.1 h0)
   simp only [fin_reqV]
   exact y45rf n self db p h e.1 e.2 hne h0 ha hq hl hsz hdb hok hbig
 · rename_i e
   exact y45r n self db p h e h0 ha hq hl (bd7 hsz) hdb hok hbig
theorem z45z (h : isSlav n p) (hz : n.Req = []) (ha : ascH n.Req) (hq : inI (n.Seq + 1)) (hl : n.Lst.length * 56 ≤ 140737488351232) (hsz : (n.Req.length + p.Heads.length + 1) * 56 ≤ 140737488351232) (hdb : db.length * 136 ≤ 140737488351232) (hok : ∀ x ∈ db, okL x) (hbig : n.Req.length + p.Heads.length < 1099511627776) :
   CFun Try.prog 45 [.ptr 0 0] [cellsZ0 n (.sl 7 [] .full) self db p] (.bool true) [cellsV (slavO (slavM n db p) self p).1 (reqV (slavO (slavM n db p) self p).1) self db p (slavO (slavM n db p) self p).2] := by
 unfold slavO
 split
 · rename_i e
   by_cases hne : (slavM n db p).Req = []
   · simp only [fin_reqV]
     exact y45ze n self db p h e.1 e.2 hne hz hq hl (bd6 hsz) hdb hok (bd3 hbig)
   · simp only [fin_reqV]
     exact y45zf n self db p h e.1 e.2 hne hz ha hq hl hsz hdb hok (bd3 hbig)
 · rename_i e
   exact y45z n self db p h e hz hq hl (bd1 hsz) hdb hok (bd3 hbig)
theorem z46r (h : isMast n p) (h0 : 0 < n.Req.length) (ha : ascH n.Req) (hq : inI (n.Seq + 1)) (hl : n.Lst.length * 56 ≤ 140737488351232) (hsz : (n.Req.length + p.Heads.length + 1) * 56 ≤ 140737488351232) (hdb : db.length * 136 ≤ 140737488351232) (hok : ∀ x ∈ db, okL x) (hbig : n.Req.length + p.Heads.length < 1099511627776) :
   CFun Try.prog 46 [.ptr 0 0] [cellsZ0 n (.osl 1 0 n.Req.length none 7) self db p, rowC ceH n.Req] (.bool true) [cellsV (mastO (mastM n db p) self p).1 (reqV (mastO (mastM n db p) self p).1) self db p (mastO (mastM n db p) self p).2, []] := by
 unfold mastO
 split
 · rename_i e
   simp only [fin_reqV]
   exact y46rf n self db p h e.1 e.2 h0 ha hq hl hsz hdb hok hbig
 · rename_i e
   exact y46r n self db p h e h0 ha hq hl hsz hdb hok hbig
theorem z46z (h : isMast n p) (hz : n.Req = []) (ha : ascH n.Req) (hq : inI (n.Seq + 1)) (hl : n.Lst.length * 56 ≤ 140737488351232) (hsz : (n.Req.length + p.Heads.length + 1) * 56 ≤ 140737488351232) (hdb : db.length * 136 ≤ 140737488351232) (hok : ∀ x ∈ db, okL x) (hbig : n.Req.length + p.Heads.length < 1099511627776) :
   CFun Try.prog 46 [.ptr 0 0] [cellsZ0 n (.sl 7 [] .full) self db p] (.bool true) [cellsV (mastO (mastM n db p) self p).1 (reqV (mastO (mastM n db p) self p).1) self db p (mastO (mastM n db p) self p).2] := by
 unfold mastO
 split
 · rename_i e
   simp only [fin_reqV]
   exact y46zf n self db p h e.1 e.2 hz ha hq hl hsz hdb hok hbig
 · rename_i e
   exact y46z n self db p h e hz ha hq hl hsz hdb hok hbig
end
end Go.Proofs.Ytfngaildaoahpaa
