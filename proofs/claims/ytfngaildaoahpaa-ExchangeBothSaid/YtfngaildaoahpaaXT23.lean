/- The exchange of databases, by the program: the first packet of a master. -/
import Derived.Test.YtfngaildaoahpaaXT7
import Derived.Test.YtfngaildaoahpaaXR9
import Derived.Test.YtfngaildaoahpaaXD2
import Derived.Test.YtfngaildaoahpaaXT17
set_option linter.unusedSimpArgs false
set_option linter.unusedVariables false
namespace Go.Proofs.Ytfngaildaoahpaa
open Go Go.Am
def firstB (n : Nbr) (db : List Lsa) (p : Pkt) : Nbr := batchN { n with State := 4, Master := false, Seq := p.Seq, Lst := youngD db }
theorem at44 (n : Nbr) (hs : n.Sent.length * 56 ≤ 140737488351232) (self : Int) (db : List Lsa) (p : Pkt) (E : List (List AVal)) :
   CFun Try.prog 44 [.ptr 0 0] (cellsZ0 n (reqV n) self db p :: E) (.tup []) (cellsS n (reqV n) self db p [pendN n self] :: E) := by
 have := (x44 n hs self db p).at (H := cellsZ0 n (reqV n) self db p :: E) (id := 0) rfl (by simp [noid0]) (by simp [noid0]) (by simp [low, low0]) (by simp [low, low0])
 simpa only [List.map_cons, List.map_nil, ren, ren0, List.set_cons_zero] using this
set_option maxHeartbeats 8000000 in
set_option maxRecDepth 10000 in
theorem y75t (n : Nbr) (self : Int) (db : List Lsa) (p : Pkt) (h : isFst p self = true) (hdb : db.length * 136 ≤ 140737488351232) : CFun Try.prog 75 [.ptr 0 0] [cellsZ0 n (reqV n) self db p] (.bool true) [cellsS (firstB n db p) (reqV n) self db p [pendN (firstB n db p) self]] := by
 refine CFun.intro (tr := [900001000036, 900002000036, 1500036, 45, 1000045]) (fz := []) (n := 69) (rs := [.tmp 2]) Try.func75 rfl (by kernel_rfl) rfl rfl mixed (by kernel_rfl) (by simp) (by simp) ?_
 unfold isFst at h
 simp only [Bool.and_eq_true, decide_eq_true_eq] at h
 obtain ⟨c1, c2, c3, c4, c5⟩ := h
 have hy := youngD_len db
 have k96 := x96 db hdb
 have k77 := fun H => (x77 { n with State := 4, Master := false, Seq := p.Seq, Lst := youngD db } (by simp only; omega)).up' H rfl rfl
 have k44 := at44 (firstB n db p) (by simp only [firstB, batchN, List.length_take]; omega) self db p
 have e1 : batchN { n with State := 4, Master := false, Seq := p.Seq, Lst := youngD db } = firstB n db p := rfl
 have e2 : (firstB n db p).Req = n.Req := rfl
 rw [e1] at k77
 clear e1
 generalize youngD db = Y at *
 generalize firstB n db p = m at *
 generalize pendN m self = q at *
 have c6 : ¬ p.Router ≤ self := by omega
 simp [c1, c2, c3, c4, c6]
 refine ⟨_, k96, by simp [noid, noid0], ?_⟩
 simp [c1, c2, c3, c4]
 refine ⟨_, _, .inl (by simpa using k77 _), by simp, ?_⟩
 simp [c1, c2, c3, c4]
 refine ⟨_, _, .inl (by simpa [c1, c2, c3, c4, e2] using k44 _), by simp, ?_⟩
 simp [c1, c2, c3, c4, e2]
end Go.Proofs.Ytfngaildaoahpaa

/- The exchange of databases, by the program: begin, the first packet of a master, and what does not fit. -/
namespace Go.Proofs.Ytfngaildaoahpaa
open Go Go.Am
theorem settle_pend (n : Nbr) (now self : Int) : pendN (settleN n now) self = pendN n self := by
 unfold settleN
 split
 · rfl
 · split <;> rfl
set_option maxHeartbeats 8000000 in
set_option maxRecDepth 10000 in
theorem y42a (n : Nbr) (ok : okN n) (self : Int) (db : List Lsa) (p : Pkt) (now : Int) (hw : inI (now + 5)) (h : isFst p self = true) (hdb : db.length * 136 ≤ 140737488351232) :
   CFun Try.prog 42 [encN n, .int .u32 self, .sl 15 (db.map encA) .sh, encPk p, .int .i64 now] [] (.tup [encN (firstM n db p now), .sl 18 ([pendN (firstM n db p now) self].map encPk) .sh, .int .i64 0]) [] := by
 refine CFun.intro (tr := [900001000030, 900002000030, 3500030]) (fz := []) (n := 40) (rs := [.cell 10 26, .tmp 11, .tmp 12]) Try.func42 rfl (by kernel_rfl) rfl rfl mixed (by kernel_rfl) (by simp) (by simp) ?_
 have k43 := fun H => (x43 n ok.lst ok.sent ok.req ok.una).up' H rfl rfl
 have k75 := (y75t n self db p h hdb).at (H := [cellsN n, cellsPk p, zN, cellsZ0 n (reqV n) self db p]) (id := 3) rfl (by simp [noid0]) (by simp [noid0]) (by simp [low]) (by simp [low])
 have k47 := x47 (firstB n db p) now hw
 have e : settleN (firstB n db p) now = firstM n db p now := rfl
 have e2 : pendN (firstM n db p now) self = pendN (firstB n db p) self := settle_pend _ _ _
 have e3 : (firstB n db p).Req = n.Req := rfl
 rw [e] at k47
 rw [e2]
 clear e e2
 generalize pendN (firstB n db p) self = q at *
 generalize firstM n db p now = fm at *
 generalize firstB n db p = fb at *
 simp
 refine ⟨_, _, .inl (by simpa using k43 _), by simp, ?_⟩
 simp
 refine ⟨_, _, .inl (by simpa [ren, ren0, zN] using k75), by simp, ?_⟩
 simp
 refine ⟨_, by simpa [e3] using k47, by simp [noid, noid0], ?_⟩
 simp
set_option maxHeartbeats 8000000 in
set_option maxRecDepth 10000 in
theorem y42c (n : Nbr) (ok : okN n) (self : Int) (db : List Lsa) (p : Pkt) (now : Int) (h : isFst p self = false) (h2 : isAnsw n p self = false) :
   CFun Try.prog 42 [encN n, .int .u32 self, .sl 15 (db.map encA) .sh, encPk p, .int .i64 now] [] (.tup [encN nbr0, .sl 18 (([] : List Pkt).map encPk) .sh, .int .i64 14]) [] := by
 refine CFun.intro (tr := [900001000030, 900002000030, 3500030]) (fz := []) (n := 40) (rs := [.cell 10 26, .tmp 11, .tmp 12]) Try.func42 rfl (by kernel_rfl) rfl rfl mixed (by kernel_rfl) (by simp) (by simp) ?_
 have k43 := fun H => (x43 n ok.lst ok.sent ok.req ok.una).up' H rfl rfl
 have k75 := (y75f n (reqV n) [] self db p h (by simp [low]) (by simp [LeBoxes])).at (H := [cellsN n, cellsPk p, zN, cellsZ0 n (reqV n) self db p]) (id := 3) rfl (by simp [noid0]) (by simp [noid0]) (by simp [low]) (by simp [low])
 have k76 := (y76f n (reqV n) [] self db p h2 (by simp [low]) (by simp [LeBoxes])).at (H := [cellsN n, cellsPk p, zN, cellsZ0 n (reqV n) self db p]) (id := 3) rfl (by simp [noid0]) (by simp [noid0]) (by simp [low]) (by simp [low])
 simp
 refine ⟨_, _, .inl (by simpa using k43 _), by simp, ?_⟩
 simp
 refine ⟨_, _, .inl (by simpa [ren, ren0, zN] using k75), by simp, ?_⟩
 simp
 refine ⟨_, _, .inl (by simpa [ren, ren0, zN] using k76), by simp, ?_⟩
 simp [nbr0]
end Go.Proofs.Ytfngaildaoahpaa

/- The exchange of databases, by the program: Receive, the slave, with requests. -/
namespace Go.Proofs.Ytfngaildaoahpaa
open Go Go.Am
set_option maxHeartbeats 8000000 in
set_option maxRecDepth 10000 in
theorem y16sr (n : Nbr) (ok : okN n) (hne : n.Req ≠ []) (ha : ascH n.Req) (self : Int) (db : List Lsa) (p : Pkt) (now : Int) (hw : inI (now + 5)) (hq : inI (n.Seq + 1)) (hq2 : inI (n.Seq - 1)) (hsz : (n.Req.length + p.Heads.length + 1) * 56 ≤ 140737488351232) (hdb : db.length * 136 ≤ 140737488351232) (hok : ∀ x ∈ db, okL x) (hbig : n.Req.length + p.Heads.length < 1099511627776) (c1 : p.Kind = 2) (c2 : 3 < n.State) (d : isSlav n p) :
   CFun Try.prog 16 [encN n, .int .u32 self, .sl 15 (db.map encA) .sh, encPk p, .int .i64 now] [] (.tup [encN (settleN (slavO (slavM n db p) self p).1 now), .sl 18 (((slavO (slavM n db p) self p).2).map encPk) .sh, .int .i64 0]) [] := by
 refine CFun.intro (tr := [900001000052, 900002000052, 3500052, 900001000104, 900002000104, 3500104]) (fz := []) (n := 112) (rs := [.cell 10 26, .tmp 11, .tmp 12]) Try.func16 rfl (by kernel_rfl) rfl rfl mixed (by kernel_rfl) (by simp) (by simp) ?_
 have e1 : ¬ n.State < 3 := by omega
 have e2 : ¬ n.State = 3 := by omega
 have h0 : 0 < n.Req.length := List.length_pos_iff.2 hne
 have hnoid := eHh.rowNoid n.Req
 have hle := fun k => eHh.rowLe k n.Req
 have k43 := (x43r n ok hne).upAll [cellsN n, cellsPk p, zN] (by simp [eHh.rowNoid, -List.all_eq_true]) rfl rfl
 have k := (z45r n self db p d h0 ha hq ok.lst hsz hdb hok hbig).at2 (H := [cellsN n, cellsPk p, zN, [], [], rowC ceH n.Req, cellsZ0 n (.osl 5 0 n.Req.length none 7) self db p]) (i := 6) (j := 5) (by decide) (by simp [ren0, two]) (by rw [noid0_map hnoid]; rfl) (by simp [low0]) (noid0_alllow hnoid) (by simp [low0]) (by simp) (by simp [low]) rfl
 have k47 := fun H => (x47 (slavO (slavM n db p) self p).1 now hw).up' H rfl rfl
 obtain ⟨d1, d2, d3, d4, d5, d6⟩ := d
 have e3 : ¬ p.Seq = n.Seq := by omega
 generalize slavO (slavM n db p) self p = o at *
 obtain ⟨m, out⟩ := o
 simp only at k k47 ⊢
 generalize settleN m now = sm at *
 simp [c1, e1, e2, d1, d2, d3, d4, d5, e3]
 refine ⟨_, _, .inl (by simpa [ren, ren0, ren00, grow, zN, c1, d1, d2, d3, d4, d5, e3] using k43), by simp, ?_⟩
 simp [c1, e1, e2, d1, d2, d3, d4, d5, e3]
 refine ⟨_, _, .inl (by simpa [ren, ren0, two, zN, c1, d1, d2, d3, d4, d5, e3] using k), by simp, ?_⟩
 simp [c1, e1, e2, d1, d2, d3, d4, d5, e3]
 refine ⟨_, _, .inl (by simpa [c1, d1, d2, d3, d4, d5, e3] using k47 _), by simp, ?_⟩
 simp
end Go.Proofs.Ytfngaildaoahpaa

/- The exchange of databases, by the program: Receive, the slave, without requests. -/
namespace Go.Proofs.Ytfngaildaoahpaa
open Go Go.Am
set_option maxHeartbeats 8000000 in
set_option maxRecDepth 10000 in
theorem y16sz (n : Nbr) (ok : okN n) (hz : n.Req = []) (ha : ascH n.Req) (self : Int) (db : List Lsa) (p : Pkt) (now : Int) (hw : inI (now + 5)) (hq : inI (n.Seq + 1)) (hq2 : inI (n.Seq - 1)) (hsz : (n.Req.length + p.Heads.length + 1) * 56 ≤ 140737488351232) (hdb : db.length * 136 ≤ 140737488351232) (hok : ∀ x ∈ db, okL x) (hbig : n.Req.length + p.Heads.length < 1099511627776) (c1 : p.Kind = 2) (c2 : 3 < n.State) (d : isSlav n p) :
   CFun Try.prog 16 [encN n, .int .u32 self, .sl 15 (db.map encA) .sh, encPk p, .int .i64 now] [] (.tup [encN (settleN (slavO (slavM n db p) self p).1 now), .sl 18 (((slavO (slavM n db p) self p).2).map encPk) .sh, .int .i64 0]) [] := by
 refine CFun.intro (tr := [900001000052, 900002000052, 3500052, 900001000104, 900002000104, 3500104]) (fz := []) (n := 112) (rs := [.cell 10 26, .tmp 11, .tmp 12]) Try.func16 rfl (by kernel_rfl) rfl rfl mixed (by kernel_rfl) (by simp) (by simp) ?_
 have e1 : ¬ n.State < 3 := by omega
 have e2 : ¬ n.State = 3 := by omega
 have k43 := fun H => (x43z n ok hz).up' H rfl rfl
 have k := (z45z n self db p d hz ha hq ok.lst hsz hdb hok hbig).at (H := [cellsN n, cellsPk p, zN, cellsZ0 n (.sl 7 [] .full) self db p]) (id := 3) rfl (by simp [noid0]) (by simp [noid0]) (by simp [low]) (by simp [low])
 have k47 := fun H => (x47 (slavO (slavM n db p) self p).1 now hw).up' H rfl rfl
 obtain ⟨d1, d2, d3, d4, d5, d6⟩ := d
 have e3 : ¬ p.Seq = n.Seq := by omega
 generalize slavO (slavM n db p) self p = o at *
 obtain ⟨m, out⟩ := o
 simp only at k k47 ⊢
 generalize settleN m now = sm at *
 simp [c1, e1, e2, d1, d2, d3, d4, d5, e3]
 refine ⟨_, _, .inl (by simpa [c1, d1, d2, d3, d4, d5, e3] using k43 _), by simp, ?_⟩
 simp [c1, e1, e2, d1, d2, d3, d4, d5, e3]
 refine ⟨_, _, .inl (by simpa [ren, ren0, zN, c1, d1, d2, d3, d4, d5, e3] using k), by simp, ?_⟩
 simp [c1, e1, e2, d1, d2, d3, d4, d5, e3]
 refine ⟨_, _, .inl (by simpa [c1, d1, d2, d3, d4, d5, e3] using k47 _), by simp, ?_⟩
 simp
end Go.Proofs.Ytfngaildaoahpaa

/- The exchange of databases, by the program: Receive, the master, with requests. -/
namespace Go.Proofs.Ytfngaildaoahpaa
open Go Go.Am
set_option maxHeartbeats 8000000 in
set_option maxRecDepth 10000 in
theorem y16mr (n : Nbr) (ok : okN n) (hne : n.Req ≠ []) (ha : ascH n.Req) (self : Int) (db : List Lsa) (p : Pkt) (now : Int) (hw : inI (now + 5)) (hq : inI (n.Seq + 1)) (hq2 : inI (n.Seq - 1)) (hsz : (n.Req.length + p.Heads.length + 1) * 56 ≤ 140737488351232) (hdb : db.length * 136 ≤ 140737488351232) (hok : ∀ x ∈ db, okL x) (hbig : n.Req.length + p.Heads.length < 1099511627776) (c1 : p.Kind = 2) (c2 : 3 < n.State) (d : isMast n p) :
   CFun Try.prog 16 [encN n, .int .u32 self, .sl 15 (db.map encA) .sh, encPk p, .int .i64 now] [] (.tup [encN (settleN (mastO (mastM n db p) self p).1 now), .sl 18 (((mastO (mastM n db p) self p).2).map encPk) .sh, .int .i64 0]) [] := by
 refine CFun.intro (tr := [900001000052, 900002000052, 3500052, 900001000104, 900002000104, 3500104]) (fz := []) (n := 112) (rs := [.cell 10 26, .tmp 11, .tmp 12]) Try.func16 rfl (by kernel_rfl) rfl rfl mixed (by kernel_rfl) (by simp) (by simp) ?_
 have e1 : ¬ n.State < 3 := by omega
 have e2 : ¬ n.State = 3 := by omega
 have h0 : 0 < n.Req.length := List.length_pos_iff.2 hne
 have hnoid := eHh.rowNoid n.Req
 have hle := fun k => eHh.rowLe k n.Req
 have k43 := (x43r n ok hne).upAll [cellsN n, cellsPk p, zN] (by simp [eHh.rowNoid, -List.all_eq_true]) rfl rfl
 have hns : ¬ isSlav n p := fun h => by have h1 := h.2.1; have h2 := d.2.1; rw [h1] at h2; cases h2
 have k45 := (y45f n hq (.osl 1 0 n.Req.length none 7) [rowC ceH n.Req] self db p hns (by simp [low]) (by simp [LeBoxes, hle])).at2 (H := [cellsN n, cellsPk p, zN, [], [], rowC ceH n.Req, cellsZ0 n (.osl 5 0 n.Req.length none 7) self db p]) (i := 6) (j := 5) (by decide) (by simp [ren0, two]) (by rw [noid0_map hnoid]; rfl) (by simp [low0]) (noid0_alllow hnoid) (by simp [low0]) (noid0_alllow hnoid) (by simp [low]) rfl
 rw [noid0_map hnoid] at k45
 have k := (z46r n self db p d h0 ha hq ok.lst hsz hdb hok hbig).at2 (H := [cellsN n, cellsPk p, zN, [], [], rowC ceH n.Req, cellsZ0 n (.osl 5 0 n.Req.length none 7) self db p]) (i := 6) (j := 5) (by decide) (by simp [ren0, two]) (by rw [noid0_map hnoid]; rfl) (by simp [low0]) (noid0_alllow hnoid) (by simp [low0]) (by simp) (by simp [low]) rfl
 have k47 := fun H => (x47 (mastO (mastM n db p) self p).1 now hw).up' H rfl rfl
 obtain ⟨d1, d2, d3, d4, d5⟩ := d
 have w : IntKind.i64.wrap (n.Seq - 1) = n.Seq - 1 := wrap_in hq2
 have e3 : ¬ n.Seq = n.Seq - 1 := by omega
 generalize mastO (mastM n db p) self p = o at *
 obtain ⟨m, out⟩ := o
 simp only at k k47 ⊢
 generalize settleN m now = sm at *
 simp [c1, e1, e2, d1, d2, d3, d4, d5, e3, w]
 refine ⟨_, _, .inl (by simpa [ren, ren0, ren00, grow, zN, c1, d1, d2, d3, d4, d5, e3] using k43), by simp, ?_⟩
 simp [c1, e1, e2, d1, d2, d3, d4, d5, e3, w]
 refine ⟨_, _, .inl (by simpa [ren, ren0, two, zN, c1, d1, d2, d3, d4, d5, e3] using k45), by simp, ?_⟩
 simp [c1, e1, e2, d1, d2, d3, d4, d5, e3, w]
 refine ⟨_, _, .inl (by simpa [ren, ren0, two, zN, c1, d1, d2, d3, d4, d5, e3] using k), by simp, ?_⟩
 simp [c1, e1, e2, d1, d2, d3, d4, d5, e3, w]
 refine ⟨_, _, .inl (by simpa [c1, d1, d2, d3, d4, d5, e3] using k47 _), by simp, ?_⟩
 simp
end Go.Proofs.Ytfngaildaoahpaa

/- The exchange of databases, by the program: Receive, the master, without requests. -/
namespace Go.Proofs.Ytfngaildaoahpaa
open Go Go.Am
set_option maxHeartbeats 8000000 in
set_option maxRecDepth 10000 in
theorem y16mz (n : Nbr) (ok : okN n) (hz : n.Req = []) (ha : ascH n.Req) (self : Int) (db : List Lsa) (p : Pkt) (now : Int) (hw : inI (now + 5)) (hq : inI (n.Seq + 1)) (hq2 : inI (n.Seq - 1)) (hsz : (n.Req.length + p.Heads.length + 1) * 56 ≤ 140737488351232) (hdb : db.length * 136 ≤ 140737488351232) (hok : ∀ x ∈ db, okL x) (hbig : n.Req.length + p.Heads.length < 1099511627776) (c1 : p.Kind = 2) (c2 : 3 < n.State) (d : isMast n p) :
   CFun Try.prog 16 [encN n, .int .u32 self, .sl 15 (db.map encA) .sh, encPk p, .int .i64 now] [] (.tup [encN (settleN (mastO (mastM n db p) self p).1 now), .sl 18 (((mastO (mastM n db p) self p).2).map encPk) .sh, .int .i64 0]) [] := by
 refine CFun.intro (tr := [900001000052, 900002000052, 3500052, 900001000104, 900002000104, 3500104]) (fz := []) (n := 112) (rs := [.cell 10 26, .tmp 11, .tmp 12]) Try.func16 rfl (by kernel_rfl) rfl rfl mixed (by kernel_rfl) (by simp) (by simp) ?_
 have e1 : ¬ n.State < 3 := by omega
 have e2 : ¬ n.State = 3 := by omega
 have k43 := fun H => (x43z n ok hz).up' H rfl rfl
 have hns : ¬ isSlav n p := fun h => by have h1 := h.2.1; have h2 := d.2.1; rw [h1] at h2; cases h2
 have k45 := (y45f n hq (.sl 7 [] .full) [] self db p hns (by simp [low]) (by simp [LeBoxes])).at (H := [cellsN n, cellsPk p, zN, cellsZ0 n (.sl 7 [] .full) self db p]) (id := 3) rfl (by simp [noid0]) (by simp [noid0]) (by simp [low]) (by simp [low])
 have k := (z46z n self db p d hz ha hq ok.lst hsz hdb hok hbig).at (H := [cellsN n, cellsPk p, zN, cellsZ0 n (.sl 7 [] .full) self db p]) (id := 3) rfl (by simp [noid0]) (by simp [noid0]) (by simp [low]) (by simp [low])
 have k47 := fun H => (x47 (mastO (mastM n db p) self p).1 now hw).up' H rfl rfl
 obtain ⟨d1, d2, d3, d4, d5⟩ := d
 have w : IntKind.i64.wrap (n.Seq - 1) = n.Seq - 1 := wrap_in hq2
 have e3 : ¬ n.Seq = n.Seq - 1 := by omega
 generalize mastO (mastM n db p) self p = o at *
 obtain ⟨m, out⟩ := o
 simp only at k k47 ⊢
 generalize settleN m now = sm at *
 simp [c1, e1, e2, d1, d2, d3, d4, d5, e3, w]
 refine ⟨_, _, .inl (by simpa [c1, d1, d2, d3, d4, d5, e3] using k43 _), by simp, ?_⟩
 simp [c1, e1, e2, d1, d2, d3, d4, d5, e3, w]
 refine ⟨_, _, .inl (by simpa [ren, ren0, zN, c1, d1, d2, d3, d4, d5, e3] using k45), by simp, ?_⟩
 simp [c1, e1, e2, d1, d2, d3, d4, d5, e3, w]
 refine ⟨_, _, .inl (by simpa [ren, ren0, zN, c1, d1, d2, d3, d4, d5, e3] using k), by simp, ?_⟩
 simp [c1, e1, e2, d1, d2, d3, d4, d5, e3, w]
 refine ⟨_, _, .inl (by simpa [c1, d1, d2, d3, d4, d5, e3] using k47 _), by simp, ?_⟩
 simp
end Go.Proofs.Ytfngaildaoahpaa

/- The exchange of databases, by the program: Receive, repetitions. -/
namespace Go.Proofs.Ytfngaildaoahpaa
open Go Go.Am
set_option maxHeartbeats 8000000 in
set_option maxRecDepth 10000 in
theorem y16b (n : Nbr) (ok : okN n) (self : Int) (db : List Lsa) (p : Pkt) (now : Int) (c1 : p.Kind = 2) (c2 : 3 < n.State) (d1 : n.Master = false) (d2 : p.Master = true) (d3 : p.Seq = n.Seq) :
   CFun Try.prog 16 [encN n, .int .u32 self, .sl 15 (db.map encA) .sh, encPk p, .int .i64 now] [] (.tup [encN n, .sl 18 (([pendN n self]).map encPk) .sh, .int .i64 0]) [] := by
 refine CFun.intro (tr := [900001000052, 900002000052, 3500052, 900001000104, 900002000104, 3500104]) (fz := []) (n := 112) (rs := [.cell 10 26, .tmp 11, .tmp 12]) Try.func16 rfl (by kernel_rfl) rfl rfl mixed (by kernel_rfl) (by simp) (by simp) ?_
 have e1 : ¬ n.State < 3 := by omega
 have e2 : ¬ n.State = 3 := by omega
 have k43 := fun H => (x43 n ok.lst ok.sent ok.req ok.una).up' H rfl rfl
 have k44 := (x44 n ok.sent self db p).at (H := [cellsN n, cellsPk p, zN, cellsZ0 n (reqV n) self db p]) (id := 3) rfl (by simp [noid0]) (by simp [noid0]) (by simp [low]) (by simp [low])
 generalize pendN n self = q at *
 simp [c1, e1, e2, d1, d2, d3]
 refine ⟨_, _, .inl (by simpa [c1, d1, d2, d3] using k43 _), by simp, ?_⟩
 simp [c1, e1, e2, d1, d2, d3]
 refine ⟨_, _, .inl (by simpa [ren, ren0, zN, c1, d1, d2, d3] using k44), by simp, ?_⟩
 simp [d1]
set_option maxHeartbeats 8000000 in
set_option maxRecDepth 10000 in
theorem y16c (n : Nbr) (ok : okN n) (self : Int) (db : List Lsa) (p : Pkt) (now : Int) (c1 : p.Kind = 2) (c2 : 3 < n.State) (hq2 : inI (n.Seq - 1)) (d1 : n.Master = true) (d2 : p.Master = false) (d3 : p.Seq = n.Seq - 1) :
   CFun Try.prog 16 [encN n, .int .u32 self, .sl 15 (db.map encA) .sh, encPk p, .int .i64 now] [] (.tup [encN n, .sl 18 ((([] : List Pkt)).map encPk) .sh, .int .i64 0]) [] := by
 refine CFun.intro (tr := [900001000052, 900002000052, 3500052, 900001000104, 900002000104, 3500104]) (fz := []) (n := 112) (rs := [.cell 10 26, .tmp 11, .tmp 12]) Try.func16 rfl (by kernel_rfl) rfl rfl mixed (by kernel_rfl) (by simp) (by simp) ?_
 have e1 : ¬ n.State < 3 := by omega
 have e2 : ¬ n.State = 3 := by omega
 have w : IntKind.i64.wrap (n.Seq - 1) = n.Seq - 1 := wrap_in hq2
 have k43 := fun H => (x43 n ok.lst ok.sent ok.req ok.una).up' H rfl rfl
 simp [c1, e1, e2, d1, d2, d3]
 refine ⟨_, _, .inl (by simpa [c1, d1, d2, d3] using k43 _), by simp, ?_⟩
 simp [c1, e1, e2, d1, d2, d3, w]
end Go.Proofs.Ytfngaildaoahpaa

/- The exchange of databases, by the program: Receive, what does not fit. -/
namespace Go.Proofs.Ytfngaildaoahpaa
open Go Go.Am
set_option maxHeartbeats 8000000 in
set_option maxRecDepth 10000 in
theorem y16f (n : Nbr) (ok : okN n) (self : Int) (db : List Lsa) (p : Pkt) (now : Int) (hw : inI (now + 5)) (hq : inI (n.Seq + 1)) (hq2 : inI (n.Seq - 1)) (c1 : p.Kind = 2) (c2 : 3 < n.State) (n1 : ¬ (n.Master = false ∧ p.Master = true ∧ p.Seq = n.Seq)) (n2 : ¬ (n.Master = true ∧ p.Master = false ∧ p.Seq = n.Seq - 1)) (n3 : ¬ isSlav n p) (n4 : ¬ isMast n p) :
   CFun Try.prog 16 [encN n, .int .u32 self, .sl 15 (db.map encA) .sh, encPk p, .int .i64 now] [] (.tup [encN (startN n now), .sl 18 (([firstN (startN n now) self]).map encPk) .sh, .int .i64 0]) [] := by
 refine CFun.intro (tr := [900001000052, 900002000052, 3500052, 900001000104, 900002000104, 3500104]) (fz := []) (n := 112) (rs := [.cell 10 26, .tmp 11, .tmp 12]) Try.func16 rfl (by kernel_rfl) rfl rfl mixed (by kernel_rfl) (by simp) (by simp) ?_
 have e1 : ¬ n.State < 3 := by omega
 have e2 : ¬ n.State = 3 := by omega
 have w : IntKind.i64.wrap (n.Seq - 1) = n.Seq - 1 := wrap_in hq2
 have k43 := fun H => (x43 n ok.lst ok.sent ok.req ok.una).up' H rfl rfl
 have k45 := (y45f n hq (reqV n) [] self db p n3 (by simp [low]) (by simp [LeBoxes])).at (H := [cellsN n, cellsPk p, zN, cellsZ0 n (reqV n) self db p]) (id := 3) rfl (by simp [noid0]) (by simp [noid0]) (by simp [low]) (by simp [low])
 have k46 := (y46f n (reqV n) [] self db p n4 (by simp [low]) (by simp [LeBoxes])).at (H := [cellsN n, cellsPk p, zN, cellsZ0 n (reqV n) self db p]) (id := 3) rfl (by simp [noid0]) (by simp [noid0]) (by simp [low]) (by simp [low])
 have k10 := fun H => (x10 n self now hw).up' H rfl rfl
 clear n3 n4
 generalize firstN (startN n now) self = q at *
 generalize startN n now = sn at *
 cases hm : n.Master
 · cases hp : p.Master
   · simp [c1, e1, e2, hm, hp]
     refine ⟨_, _, .inl (by simpa [c1, hm, hp] using k43 _), by simp, ?_⟩
     simp [c1, e1, e2, hm, hp]
     refine ⟨_, _, .inl (by simpa [ren, ren0, zN, c1, hm, hp] using k45), by simp, ?_⟩
     simp [c1, e1, e2, hm, hp]
     refine ⟨_, _, .inl (by simpa [ren, ren0, zN, c1, hm, hp] using k46), by simp, ?_⟩
     simp [c1, e1, e2, hm, hp]
     refine ⟨_, _, .inl (by simpa [c1, hm, hp] using k10 _), by simp, ?_⟩
     simp
   · have d3 : ¬ p.Seq = n.Seq := fun h => n1 ⟨hm, hp, h⟩
     simp [c1, e1, e2, hm, hp, d3]
     refine ⟨_, _, .inl (by simpa [c1, hm, hp] using k43 _), by simp, ?_⟩
     simp [c1, e1, e2, hm, hp, d3]
     refine ⟨_, _, .inl (by simpa [ren, ren0, zN, c1, hm, hp] using k45), by simp, ?_⟩
     simp [c1, e1, e2, hm, hp, d3]
     refine ⟨_, _, .inl (by simpa [ren, ren0, zN, c1, hm, hp] using k46), by simp, ?_⟩
     simp [c1, e1, e2, hm, hp, d3]
     refine ⟨_, _, .inl (by simpa [c1, hm, hp] using k10 _), by simp, ?_⟩
     simp
 · cases hp : p.Master
   · have d3 : ¬ p.Seq = n.Seq - 1 := fun h => n2 ⟨hm, hp, h⟩
     simp [c1, e1, e2, hm, hp, d3, w]
     refine ⟨_, _, .inl (by simpa [c1, hm, hp] using k43 _), by simp, ?_⟩
     simp [c1, e1, e2, hm, hp, d3, w]
     refine ⟨_, _, .inl (by simpa [ren, ren0, zN, c1, hm, hp] using k45), by simp, ?_⟩
     simp [c1, e1, e2, hm, hp, d3, w]
     refine ⟨_, _, .inl (by simpa [ren, ren0, zN, c1, hm, hp] using k46), by simp, ?_⟩
     simp [c1, e1, e2, hm, hp, d3, w]
     refine ⟨_, _, .inl (by simpa [c1, hm, hp] using k10 _), by simp, ?_⟩
     simp
   · simp [c1, e1, e2, hm, hp]
     refine ⟨_, _, .inl (by simpa [c1, hm, hp] using k43 _), by simp, ?_⟩
     simp [c1, e1, e2, hm, hp]
     refine ⟨_, _, .inl (by simpa [ren, ren0, zN, c1, hm, hp] using k45), by simp, ?_⟩
     simp [c1, e1, e2, hm, hp]
     refine ⟨_, _, .inl (by simpa [ren, ren0, zN, c1, hm, hp] using k46), by simp, ?_⟩
     simp [c1, e1, e2, hm, hp]
     refine ⟨_, _, .inl (by simpa [c1, hm, hp] using k10 _), by simp, ?_⟩
     simp
end Go.Proofs.Ytfngaildaoahpaa
