/- The exchange of databases, by the program: Receive, what does not fit. -/
import Derived.Test.YtfngaildaoahpaaXT17
import Derived.Test.YtfngaildaoahpaaXT22
import Derived.Test.YtfngaildaoahpaaXT8
import Derived.Test.YtfngaildaoahpaaXU2
set_option linter.unusedSimpArgs false
set_option linter.unusedVariables false
namespace Go.Proofs.Ytfngaildaoahpaa
open Go Go.Am
set_option maxHeartbeats 8000000 in
set_option maxRecDepth 10000 in
theorem y16f (n : Nbr) (ok : okN n) (self : Int) (db : List Lsa) (p : Pkt) (now : Int) (hw : inI (now + 5)) (hq : inI (n.Seq + 1)) (hq2 : inI (n.Seq - 1)) (c1 : p.Kind = 2) (c2 : 3 < n.State) (n1 : ¬ (n.Master = false ∧ p.Master = true ∧ p.Seq = n.Seq)) (n2 : ¬ (n.Master = true ∧ p.Master = false ∧ p.Seq = n.Seq - 1)) (n3 : ¬ isSlav n p) (n4 : ¬ isMast n p) :
   CFun Try.prog 16 [encN n, .int .u32 self, .sl 15 (db.map encA) .sh, encPk p, .int .i64 now] [] (.tup [encN (startN n now), .sl 18 (([firstN (startN n now) self]).map encPk) .sh, .int .i64 0]) [] := by
 refine CFun.intro (tr := [900001000052, 900002000052, 3500052, 900001000104, 900002000104, 3500104]) (fz := []) (n := 112) (rs := [.cell 10 26, .tmp 11, .tmp 12]) Try.func16 rfl (by kernel_rfl) rfl rfl mixed (by kernel_rfl) (by simp) (by simp) ?_
 have e1 : ¬ n.State < 3 := by omega
 have e2 : ¬ n.State = 3 := by omega
 have w : IntKind.i64.wrap (n.Seq - 1) = n.Seq - 1 := wrap_in hq2
 have k43 := fun H => (x43 n ok.lst ok.sent ok.req ok.una).up' H rfl rfl
 have k45 := (y45f n hq (reqV n) [] self db p n3 (by simp [low]) (by simp [LeBoxes])).at (H := [cellsN n, cellsPk p, zN, cellsZ0 n (reqV n) self db p]) (id := 3) rfl (by simp [noid0]) (by simp [noid0]) (by simp [low]) (by simp [low])
 have k46 := (y46f n (reqV n) [] self db p n4 (by simp [low]) (by simp [LeBoxes])).at (H := [cellsN n, cellsPk p, zN, cellsZ0 n (reqV n) self db p]) (id := 3) rfl (by simp [noid0]) (by simp [noid0]) (by simp [low]) (by simp [low])
 have k10 := fun H => (x10 n self now hw).up' H rfl rfl
 clear n3 n4
 generalize firstN (startN n now) self = q at *
 generalize startN n now = sn at *
 cases hm : n.Master
 · cases hp : p.Master
   · simp [c1, e1, e2, hm, hp]
     refine ⟨_, _, .inl (by simpa [c1, hm, hp] using k43 _), by simp, ?_⟩
     simp [c1, e1, e2, hm, hp]
     refine ⟨_, _, .inl (by simpa [ren, ren0, zN, c1, hm, hp] using k45), by simp, ?_⟩
     simp [c1, e1, e2, hm, hp]
     refine ⟨_, _, .inl (by simpa [ren, ren0, zN, c1, hm, hp] using k46), by simp, ?_⟩
     simp [c1, e1, e2, hm, hp]
     refine ⟨_, _, .inl (by simpa [c1, hm, hp] using k10 _), by simp, ?_⟩
     simp
   · have d3 : ¬ p.Seq = n.Seq := fun h => n1 ⟨hm, hp, h⟩
     simp [c1, e1, e2, hm, hp, d3]
     refine ⟨_, _, .inl (by simpa [c1, hm, hp] using k43 _), by simp, ?_⟩
     simp [c1, e1, e2, hm, hp, d3]
     refine ⟨_, _, .inl (by simpa [ren, ren0, zN, c1, hm, hp] using k45), by simp, ?_⟩
     simp [c1, e1, e2, hm, hp, d3]
     refine ⟨_, _, .inl (by simpa [ren, ren0, zN, c1, hm, hp] using k46), by simp, ?_⟩
     simp [c1, e1, e2, hm, hp, d3]
     refine ⟨_, _, .inl (by simpa [c1, hm, hp] using k10 _), by simp, ?_⟩
     simp
 · cases hp : p.Master
   · have d3 : ¬ p.Seq = n.Seq - 1 := fun h => n2 ⟨hm, hp, h⟩
     simp [c1, e1, e2, hm, hp, d3, w]
     refine ⟨_, _, .inl (by simpa [c1, hm, hp] using k43 _), by simp, ?_⟩
     simp [c1, e1, e2, hm, hp, d3, w]
     refine ⟨_, _, .inl (by simpa [ren, ren0, zN, c1, hm, hp] using k45), by simp, ?_⟩
     simp [c1, e1, e2, hm, hp, d3, w]
     refine ⟨_, _, .inl (by simpa [ren, ren0, zN, c1, hm, hp] using k46), by simp, ?_⟩
     simp [c1, e1, e2, hm, hp, d3, w]
     refine ⟨_, _, .inl (by simpa [c1, hm, hp] using k10 _), by simp, ?_⟩
     simp
   · simp [c1, e1, e2, hm, hp]
     refine ⟨_, _, .inl (by simpa [c1, hm, hp] using k43 _), by simp, ?_⟩
     simp [c1, e1, e2, hm, hp]
     refine ⟨_, _, .inl (by simpa [ren, ren0, zN, c1, hm, hp] using k45), by simp, ?_⟩
     simp [c1, e1, e2, hm, hp]
     refine ⟨_, _, .inl (by simpa [ren, ren0, zN, c1, hm, hp] using k46), by simp, ?_⟩
     simp [c1, e1, e2, hm, hp]
     refine ⟨_, _, .inl (by simpa [c1, hm, hp] using k10 _), by simp, ?_⟩
     simp
end Go.Proofs.Ytfngaildaoahpaa

/- The exchange of databases, by the program: the answer of a slave to the first packet, of a neighbor without requests. -/
namespace Go.Proofs.Ytfngaildaoahpaa
open Go Go.Am
set_option maxHeartbeats 8000000 in
set_option maxRecDepth 10000 in
theorem y76z (n : Nbr) (self : Int) (db : List Lsa) (p : Pkt) (h : isAnsw n p self = true) (hz : n.Req = []) (hq : inI (n.Seq + 1)) (hsz : (p.Heads.length + 1) * 56 ≤ 140737488355328) (hdb : db.length * 136 ≤ 140737488351232) (hok : ∀ x ∈ db, okL x) (hbig : p.Heads.length < 1099511627776) :
   CFun Try.prog 76 [.ptr 0 0] [cellsZ0 n (.sl 7 [] .full) self db p] (.bool true) [cellsS (batchN (answC n db p)) (reqV (batchN (answC n db p))) self db p [pendN (batchN (answC n db p)) self]] := by
 refine CFun.intro (tr := []) (fz := []) (n := 78) (rs := [.tmp 2]) Try.func76 rfl (by kernel_rfl) rfl rfl mixed (by kernel_rfl) (by simp) (by simp) ?_
 unfold isAnsw at h
 simp only [Bool.and_eq_true, decide_eq_true_eq, Bool.not_eq_true'] at h
 obtain ⟨c1, c2, c3, c4⟩ := h
 have hy := youngD_len db
 have k96 := fun H => (x96 db hdb).up' H rfl rfl
 have k78 := fun H => (x78z { n with State := 4, Lst := youngD db } db p _ rfl hz hsz (by omega) hok hbig).up' H rfl rfl
 have k77 := fun H => (x77 (answC n db p) (by simp only [answC, recordN]; omega)).up' H rfl rfl
 have k44 := at44b (batchN (answC n db p)) (by simp only [answC, batchN, List.length_take]; simp only [recordN]; omega) self db p
 have w1 : IntKind.i64.wrap (n.Seq + 1) = n.Seq + 1 := wrap_in hq
 unfold answC at k77
 have e1 : batchN { recordN { n with State := 4, Lst := youngD db } db p with Seq := n.Seq + 1 } = batchN (answC n db p) := rfl
 rw [e1] at k77
 clear e1
 have e2 : (recordN { n with State := 4, Lst := youngD db } db p).Seq = n.Seq := rfl
 generalize recordN { n with State := 4, Lst := youngD db } db p = rm at *
 generalize youngD db = Y at *
 generalize batchN (answC n db p) = m at *
 generalize pendN m self = q at *
 have c6 : ¬ self ≤ p.Router := by omega
 simp [c1, c2, c3, c6]
 refine ⟨_, _, .inl (by simpa using k96 _), by simp, ?_⟩
 simp [c1, c2, c3]
 refine ⟨_, _, .inl (by simpa [c1, c2, c3] using k78 _), by simp, ?_⟩
 simp [c1, c2, c3, e2, w1]
 refine ⟨_, _, .inl (by simpa [c1, c2, c3] using k77 _), by simp, ?_⟩
 simp [c1, c2, c3]
 refine ⟨_, _, .inl (by simpa [c1, c2, c3] using k44 _), by simp, ?_⟩
 simp [c1, c2, c3]
end Go.Proofs.Ytfngaildaoahpaa

/- The exchange of databases, by the program: begin, the answer of a slave. -/
namespace Go.Proofs.Ytfngaildaoahpaa
open Go Go.Am
theorem answ_def (n : Nbr) (db : List Lsa) (p : Pkt) (now : Int) : settleN (batchN (answC n db p)) now = answM n db p now := rfl
set_option maxHeartbeats 8000000 in
set_option maxRecDepth 10000 in
theorem y42r (n : Nbr) (ok : okN n) (hne : n.Req ≠ []) (ha : ascH n.Req) (self : Int) (db : List Lsa) (p : Pkt) (now : Int) (hw : inI (now + 5)) (hq : inI (n.Seq + 1)) (h : isFst p self = false) (h2 : isAnsw n p self = true) (hsz : (n.Req.length + p.Heads.length + 1) * 56 ≤ 140737488355328) (hdb : db.length * 136 ≤ 140737488351232) (hok : ∀ x ∈ db, okL x) (hbig : n.Req.length + p.Heads.length < 1099511627776) :
   CFun Try.prog 42 [encN n, .int .u32 self, .sl 15 (db.map encA) .sh, encPk p, .int .i64 now] [] (.tup [encN (answM n db p now), .sl 18 ([pendN (answM n db p now) self].map encPk) .sh, .int .i64 0]) [] := by
 refine CFun.intro (tr := [900001000030, 900002000030, 3500030]) (fz := []) (n := 40) (rs := [.cell 10 26, .tmp 11, .tmp 12]) Try.func42 rfl (by kernel_rfl) rfl rfl mixed (by kernel_rfl) (by simp) (by simp) ?_
 have h0 : 0 < n.Req.length := List.length_pos_iff.2 hne
 have hnoid := eHh.rowNoid n.Req
 have hle := fun k => eHh.rowLe k n.Req
 have k43 := (x43r n ok hne).upAll [cellsN n, cellsPk p, zN] (by simp [eHh.rowNoid, -List.all_eq_true]) rfl rfl
 have k75 := (y75f n (.osl 1 0 n.Req.length none 7) [rowC ceH n.Req] self db p h (by simp [low]) (by simp [LeBoxes, hle])).at2 (H := [cellsN n, cellsPk p, zN, [], [], rowC ceH n.Req, cellsZ0 n (.osl 5 0 n.Req.length none 7) self db p]) (i := 6) (j := 5) (by decide) (by simp [ren0, two]) (by rw [noid0_map hnoid]; rfl) (by simp [low0]) (noid0_alllow hnoid) (by simp [low0]) (noid0_alllow hnoid) (by simp [low]) rfl
 rw [noid0_map hnoid] at k75
 have k76 := (y76r n self db p h2 h0 ha hq hsz hdb hok hbig).at2 (H := [cellsN n, cellsPk p, zN, [], [], rowC ceH n.Req, cellsZ0 n (.osl 5 0 n.Req.length none 7) self db p]) (i := 6) (j := 5) (by decide) (by simp [ren0, two]) (by rw [noid0_map hnoid]; rfl) (by simp [low0]) (noid0_alllow hnoid) (by simp [low0]) (by simp) (by simp [low]) rfl
 have k47 := x47 (batchN (answC n db p)) now hw
 rw [answ_def] at k47
 have e2 : pendN (answM n db p now) self = pendN (batchN (answC n db p)) self := settle_pend _ _ _
 rw [e2]
 clear e2
 generalize pendN (batchN (answC n db p)) self = q at *
 generalize answM n db p now = fm at *
 generalize batchN (answC n db p) = fb at *
 simp
 refine ⟨_, _, .inl (by simpa [ren, ren0, ren00, grow, zN] using k43), by simp, ?_⟩
 simp
 refine ⟨_, _, .inl (by simpa [ren, ren0, two, zN] using k75), by simp, ?_⟩
 simp
 refine ⟨_, _, .inl (by simpa [ren, ren0, two, zN] using k76), by simp, ?_⟩
 simp
 refine ⟨_, by simpa using k47, by simp [noid, noid0], ?_⟩
 simp
end Go.Proofs.Ytfngaildaoahpaa

/- The exchange of databases, by the program: begin, the answer of a slave, of a neighbor without requests; begin. -/
namespace Go.Proofs.Ytfngaildaoahpaa
open Go Go.Am
set_option maxHeartbeats 8000000 in
set_option maxRecDepth 10000 in
theorem y42z (n : Nbr) (ok : okN n) (hz : n.Req = []) (self : Int) (db : List Lsa) (p : Pkt) (now : Int) (hw : inI (now + 5)) (hq : inI (n.Seq + 1)) (h : isFst p self = false) (h2 : isAnsw n p self = true) (hsz : (p.Heads.length + 1) * 56 ≤ 140737488355328) (hdb : db.length * 136 ≤ 140737488351232) (hok : ∀ x ∈ db, okL x) (hbig : p.Heads.length < 1099511627776) :
   CFun Try.prog 42 [encN n, .int .u32 self, .sl 15 (db.map encA) .sh, encPk p, .int .i64 now] [] (.tup [encN (answM n db p now), .sl 18 ([pendN (answM n db p now) self].map encPk) .sh, .int .i64 0]) [] := by
 refine CFun.intro (tr := [900001000030, 900002000030, 3500030]) (fz := []) (n := 40) (rs := [.cell 10 26, .tmp 11, .tmp 12]) Try.func42 rfl (by kernel_rfl) rfl rfl mixed (by kernel_rfl) (by simp) (by simp) ?_
 have k43 := fun H => (x43z n ok hz).up' H rfl rfl
 have k75 := (y75f n (.sl 7 [] .full) [] self db p h (by simp [low]) (by simp [LeBoxes])).at (H := [cellsN n, cellsPk p, zN, cellsZ0 n (.sl 7 [] .full) self db p]) (id := 3) rfl (by simp [noid0]) (by simp [noid0]) (by simp [low]) (by simp [low])
 have k76 := (y76z n self db p h2 hz hq hsz hdb hok hbig).at (H := [cellsN n, cellsPk p, zN, cellsZ0 n (.sl 7 [] .full) self db p]) (id := 3) rfl (by simp [noid0]) (by simp [noid0]) (by simp [low]) (by simp [low])
 have k47 := x47 (batchN (answC n db p)) now hw
 rw [answ_def] at k47
 have e2 : pendN (answM n db p now) self = pendN (batchN (answC n db p)) self := settle_pend _ _ _
 rw [e2]
 clear e2
 generalize pendN (batchN (answC n db p)) self = q at *
 generalize answM n db p now = fm at *
 generalize batchN (answC n db p) = fb at *
 simp
 refine ⟨_, _, .inl (by simpa using k43 _), by simp, ?_⟩
 simp
 refine ⟨_, _, .inl (by simpa [ren, ren0, zN] using k75), by simp, ?_⟩
 simp
 refine ⟨_, _, .inl (by simpa [ren, ren0, zN] using k76), by simp, ?_⟩
 simp
 refine ⟨_, by simpa using k47, by simp [noid, noid0], ?_⟩
 simp
theorem x42 (n : Nbr) (ok : okN n) (ha : ascH n.Req) (self : Int) (db : List Lsa) (p : Pkt) (now : Int) (hw : inI (now + 5)) (hq : inI (n.Seq + 1)) (hsz : (n.Req.length + p.Heads.length + 1) * 56 ≤ 140737488355328) (hdb : db.length * 136 ≤ 140737488351232) (hok : ∀ x ∈ db, okL x) (hbig : n.Req.length + p.Heads.length < 1099511627776) :
   CFun Try.prog 42 [encN n, .int .u32 self, .sl 15 (db.map encA) .sh, encPk p, .int .i64 now] [] (.tup [encN (firstA n self db p now).1, .sl 18 ((firstA n self db p now).2.1.map encPk) .sh, .int .i64 (firstA n self db p now).2.2]) [] := by
 unfold firstA
 cases h : isFst p self with
 | true => exact y42a n ok self db p now hw h hdb
 | false =>
   cases h2 : isAnsw n p self with
   | false => exact y42c n ok self db p now h h2
   | true =>
     by_cases hz : n.Req = []
     · rw [hz] at hsz hbig
       exact y42z n ok hz self db p now hw hq h h2 (by simpa using hsz) hdb hok (by simpa using hbig)
     · exact y42r n ok hz ha self db p now hw hq h h2 hsz hdb hok hbig
end Go.Proofs.Ytfngaildaoahpaa

/- The exchange of databases, by the program: Receive, the first cases. -/
namespace Go.Proofs.Ytfngaildaoahpaa
open Go Go.Am
set_option maxHeartbeats 8000000 in
set_option maxRecDepth 10000 in
theorem y16a (n : Nbr) (ok : okN n) (ha : ascH n.Req) (self : Int) (db : List Lsa) (p : Pkt) (now : Int) (hw : inI (now + 5)) (hq : inI (n.Seq + 1)) (hsz : (n.Req.length + p.Heads.length + 1) * 56 ≤ 140737488355328) (hdb : db.length * 136 ≤ 140737488351232) (hok : ∀ x ∈ db, okL x) (hbig : n.Req.length + p.Heads.length < 1099511627776)
   (hc : p.Kind ≠ 2 ∨ n.State ≤ 3) :
   CFun Try.prog 16 [encN n, .int .u32 self, .sl 15 (db.map encA) .sh, encPk p, .int .i64 now] [] (.tup [encN (recvA n self db p now).1, .sl 18 (((recvA n self db p now).2.1).map encPk) .sh, .int .i64 (recvA n self db p now).2.2]) [] := by
 refine CFun.intro (tr := [900001000052, 900002000052, 3500052, 900001000104, 900002000104, 3500104]) (fz := []) (n := 112) (rs := [.cell 10 26, .tmp 11, .tmp 12]) Try.func16 rfl (by kernel_rfl) rfl rfl mixed (by kernel_rfl) (by simp) (by simp) ?_
 unfold recvA
 by_cases c1 : p.Kind = 2
 case neg => simp [c1, nbr0]
 by_cases c2 : n.State < 3
 · simp [c1, c2, nbr0]
 have c3 : n.State = 3 := by
   rcases hc with h | h
   · exact (h c1).elim
   · omega
 have k := fun H => (x42 n ok ha self db p now hw hq hsz hdb hok hbig).up' H rfl rfl
 generalize firstA n self db p now = fa at *
 simp [c1, c3]
 refine ⟨_, _, .inl (by simpa [c1, c3] using k _), by simp, ?_⟩
 simp
end Go.Proofs.Ytfngaildaoahpaa

/- The exchange of databases, by the program: Receive, in one. -/
namespace Go.Proofs.Ytfngaildaoahpaa
open Go Go.Am
theorem x16 (n : Nbr) (ok : okN n) (self : Int) (db : List Lsa) (p : Pkt) (now : Int) (hw : inI (now + 5)) (hq0 : 0 ≤ n.Seq) (hq : n.Seq < 1099511627776) (ha : ascH n.Req) (hsz : (n.Req.length + p.Heads.length + 1) * 56 ≤ 140737488351232) (hdb : db.length * 136 ≤ 140737488351232) (hok : ∀ x ∈ db, okL x) (hbig : n.Req.length + p.Heads.length < 1099511627776) :
   CFun Try.prog 16 [encN n, .int .u32 self, .sl 15 (db.map encA) .sh, encPk p, .int .i64 now] [] (.tup [encN (recvA n self db p now).1, .sl 18 (((recvA n self db p now).2.1).map encPk) .sh, .int .i64 (recvA n self db p now).2.2]) [] := by
 have hq1 : inI (n.Seq + 1) := by unfold inI; omega
 have hq2 : inI (n.Seq - 1) := by unfold inI; omega
 by_cases c0 : p.Kind ≠ 2 ∨ n.State ≤ 3
 · exact y16a n ok ha self db p now hw hq1 (by omega) hdb hok hbig c0
 have c1 : p.Kind = 2 := Decidable.byContradiction fun h => c0 (.inl h)
 have c2 : 3 < n.State := by
   have : ¬ n.State ≤ 3 := fun h => c0 (.inr h)
   omega
 unfold recvA
 rw [if_neg (show ¬ p.Kind ≠ 2 from fun h => h c1), if_neg (show ¬ n.State < 3 by omega), if_neg (show ¬ n.State = 3 by omega)]
 by_cases n1 : n.Master = false ∧ p.Master = true ∧ p.Seq = n.Seq
 · rw [if_pos n1]
   exact y16b n ok self db p now c1 c2 n1.1 n1.2.1 n1.2.2
 rw [if_neg n1]
 by_cases n2 : n.Master = true ∧ p.Master = false ∧ p.Seq < n.Seq ∧ p.Seq = n.Seq - 1
 · rw [if_pos n2]
   exact y16c n ok self db p now c1 c2 hq2 n2.1 n2.2.1 n2.2.2.2
 rw [if_neg n2]
 by_cases n3 : isSlav n p
 · rw [if_pos n3]
   by_cases hz : n.Req = []
   · exact y16sz n ok hz ha self db p now hw hq1 hq2 hsz hdb hok hbig c1 c2 n3
   · exact y16sr n ok hz ha self db p now hw hq1 hq2 hsz hdb hok hbig c1 c2 n3
 rw [if_neg n3]
 by_cases n4 : isMast n p
 · rw [if_pos n4]
   by_cases hz : n.Req = []
   · exact y16mz n ok hz ha self db p now hw hq1 hq2 hsz hdb hok hbig c1 c2 n4
   · exact y16mr n ok hz ha self db p now hw hq1 hq2 hsz hdb hok hbig c1 c2 n4
 rw [if_neg n4]
 exact y16f n ok self db p now hw hq1 hq2 c1 c2 n1 (fun h => n2 ⟨h.1, h.2.1, by omega, h.2.2⟩) n3 n4
end Go.Proofs.Ytfngaildaoahpaa

/- The law ExchangeReceives, its walk. -/
namespace Go.Proofs.Ytfngaildaoahpaa
open Go Go.Am
theorem fineN_ok {n : Nbr} {now : Int} (h : fineN n now = true) : 0 ≤ now ∧ now ≤ 1099511627776 ∧ 0 ≤ n.Seq ∧ n.Seq < 1099511627776 ∧ ascH n.Req ∧ ascH n.Una := by
 unfold fineN at h
 simp only [Bool.and_eq_true, decide_eq_true_eq] at h
 obtain ⟨a, b, c, d, e, f⟩ := h
 exact ⟨a, b, c, d, ordH_asc e, ordH_asc f⟩
end Go.Proofs.Ytfngaildaoahpaa
