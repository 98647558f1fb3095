/- The exchange of databases: a batch is taken. -/
import Derived.Test.YtfngaildaoahpaaXR6
import Derived.Test.YtfngaildaoahpaaXC5
set_option linter.unusedSimpArgs false
set_option linter.unusedVariables false
namespace Go.Proofs.Ytfngaildaoahpaa
open Go Go.Am
set_option maxHeartbeats 4000000 in
set_option maxRecDepth 10000 in
theorem x77 (n : Nbr) (hl : n.Lst.length * 56 ≤ 140737488351232) : CFun Try.prog 77 [encN n] [] (encN (batchN n)) [] := by
 refine CFun.intro (tr := []) (fz := []) (n := 21) (rs := [.cell 2 26]) Try.func77 rfl (by kernel_rfl) rfl rfl mixed (by kernel_rfl) (by simp) (by simp) ?_
 obtain ⟨m, hm⟩ : ∃ m, n.Lst.length = m := ⟨_, rfl⟩
 rw [hm] at hl
 obtain ⟨k, hk⟩ : ∃ k, min 16 m = k := ⟨_, rfl⟩
 have hmk : (if 16 < (m : Int) then (16 : Int) else m) = k := by split <;> omega
 have hkm : (k : Int) ≤ m := by omega
 have hkm' : k ≤ m := by omega
 have e1 : n.Lst.take 16 = n.Lst.take k := by
   by_cases q : 16 ≤ m
   · rw [show k = 16 by omega]
   · rw [List.take_of_length_le (by omega), List.take_of_length_le (by omega)]
 have e2 : n.Lst.drop 16 = n.Lst.drop k := by
   by_cases q : 16 ≤ m
   · rw [show k = 16 by omega]
   · rw [List.drop_of_length_le (by omega), List.drop_of_length_le (by omega)]
 have e3 : (n.Lst.map encH).take m = n.Lst.map encH := List.take_of_length_le (by simp; omega)
 have k1 := fun H => (ch_row (n.Lst.take k) (by simp; omega)).up' H rfl rfl
 have k2 := fun H => (ch_row (n.Lst.drop k) (by simp; omega)).up' H rfl rfl
 unfold batchN
 rw [e1, e2]
 simp [hm, hmk, hkm]
 refine ⟨_, _, .inl (by simpa [List.map_take] using k1 _), by simp, ?_⟩
 simp [hm, hkm, hkm', e3]
 refine ⟨_, _, .inl (by simpa [List.map_drop, e3] using k2 _), by simp, ?_⟩
 simp [List.map_take, List.map_drop]
end Go.Proofs.Ytfngaildaoahpaa

/- The exchange of databases, by the reference: what a packet brings about. -/
namespace Go.Proofs.Ytfngaildaoahpaa
open Go Go.Am
def slavM (n : Nbr) (db : List Lsa) (p : Pkt) : Nbr := batchN (recordN { n with Seq := p.Seq } db p)
def slavO (m : Nbr) (self : Int) (p : Pkt) : Nbr × List Pkt := if p.More = false ∧ m.Lst = [] then (finN m, finP m self [pendN m self]) else (m, [pendN m self])
def mastM (n : Nbr) (db : List Lsa) (p : Pkt) : Nbr := { recordN n db p with Seq := n.Seq + 1 }
def mastO (m : Nbr) (self : Int) (p : Pkt) : Nbr × List Pkt := if p.More = false ∧ m.Lst = [] then (finN m, finP m self []) else (batchN m, [pendN (batchN m) self])
def isSlav (n : Nbr) (p : Pkt) : Prop := n.State = 4 ∧ n.Master = false ∧ p.Master = true ∧ p.Init = false ∧ n.Seq < p.Seq ∧ p.Seq - 1 = n.Seq
def isMast (n : Nbr) (p : Pkt) : Prop := n.State = 4 ∧ n.Master = true ∧ p.Master = false ∧ p.Init = false ∧ p.Seq = n.Seq
instance (n : Nbr) (p : Pkt) : Decidable (isSlav n p) := by unfold isSlav; infer_instance
instance (n : Nbr) (p : Pkt) : Decidable (isMast n p) := by unfold isMast; infer_instance
def recvA (n : Nbr) (self : Int) (db : List Lsa) (p : Pkt) (now : Int) : Nbr × List Pkt × Int :=
 if p.Kind ≠ 2 then (nbr0, [], 15) else if n.State < 3 then (nbr0, [], 9) else if n.State = 3 then firstA n self db p now
 else if n.Master = false ∧ p.Master = true ∧ p.Seq = n.Seq then (n, [pendN n self], 0)
 else if n.Master = true ∧ p.Master = false ∧ p.Seq < n.Seq ∧ p.Seq = n.Seq - 1 then (n, [], 0)
 else if isSlav n p then (settleN (slavO (slavM n db p) self p).1 now, (slavO (slavM n db p) self p).2, 0)
 else if isMast n p then (settleN (mastO (mastM n db p) self p).1 now, (mastO (mastM n db p) self p).2, 0)
 else (startN n now, [firstN (startN n now) self], 0)
set_option maxHeartbeats 8000000 in
set_option maxRecDepth 10000 in
theorem x17a (n : Nbr) (ok : okN n) (self : Int) (db : List Lsa) (p : Pkt) (now : Int) (hw : inI (now + 5)) (hq : inI (n.Seq + 1)) (ha : ascH n.Req) (hsz : (n.Req.length + p.Heads.length + 1) * 56 ≤ 140737488355328) (hdb : db.length * 136 ≤ 140737488351232) (hage : ∀ x ∈ db, inI x.H.Age) (hh : ∀ x ∈ p.Heads, inI x.Age)
   (hc : p.Kind ≠ 2 ∨ n.State ≤ 3) :
   CFun Try.prog 17 [encN n, .int .u32 self, .sl 15 (db.map encA) .sh, encPk p, .int .i64 now] [] (.tup [encN (recvA n self db p now).1, .sl 18 ((recvA n self db p now).2.1.map encPk) .sh, .int .i64 (recvA n self db p now).2.2]) [] := by
 refine CFun.intro (tr := [900001000051, 900002000051, 3500051, 900001000211, 900002000211, 3500211]) (fz := []) (n := 214) (rs := [.cell 10 26, .tmp 11, .tmp 12]) Try.func17 rfl (by kernel_rfl) rfl rfl mixed (by kernel_rfl) (by simp) (by simp) ?_
 unfold recvA
 by_cases c1 : p.Kind = 2
 case neg => simp [c1, nbr0]
 by_cases c2 : n.State < 3
 · simp [c1, c2, nbr0]
 have c3 : n.State = 3 := by
   rcases hc with h | h
   · exact (h c1).elim
   · omega
 have k := fun H => (x48 n ok self db p now hw hq ha hsz hdb hage hh).up' H rfl rfl
 generalize firstA n self db p now = fa at *
 simp [c1, c3]
 refine ⟨_, _, .inl (by simpa [c1, c3] using k _), by simp, ?_⟩
 simp
end Go.Proofs.Ytfngaildaoahpaa

/- The exchange of databases, by the reference: repetitions, the slave's case, a new start. -/
namespace Go.Proofs.Ytfngaildaoahpaa
open Go Go.Am
set_option maxHeartbeats 8000000 in
set_option maxRecDepth 10000 in
theorem x17b (n : Nbr) (ok : okN n) (self : Int) (db : List Lsa) (p : Pkt) (now : Int) (c1 : p.Kind = 2) (c2 : 3 < n.State) (d1 : n.Master = false) (d2 : p.Master = true) (d3 : p.Seq = n.Seq) :
   CFun Try.prog 17 [encN n, .int .u32 self, .sl 15 (db.map encA) .sh, encPk p, .int .i64 now] [] (.tup [encN n, .sl 18 ([pendN n self].map encPk) .sh, .int .i64 0]) [] := by
 refine CFun.intro (tr := [900001000051, 900002000051, 3500051, 900001000211, 900002000211, 3500211]) (fz := []) (n := 214) (rs := [.cell 10 26, .tmp 11, .tmp 12]) Try.func17 rfl (by kernel_rfl) rfl rfl mixed (by kernel_rfl) (by simp) (by simp) ?_
 have e1 : ¬ n.State < 3 := by omega
 have e2 : ¬ n.State = 3 := by omega
 have k := x37 n ok.sent self
 generalize pendN n self = q at *
 simp [c1, e1, e2, d1, d2, d3]
 refine ⟨_, by simpa [d1] using k, by simp [noid, noid0], ?_⟩
 simp [d1]
set_option maxHeartbeats 8000000 in
set_option maxRecDepth 10000 in
theorem x17c (n : Nbr) (self : Int) (db : List Lsa) (p : Pkt) (now : Int) (c1 : p.Kind = 2) (c2 : 3 < n.State) (hq : inI (n.Seq - 1)) (d1 : n.Master = true) (d2 : p.Master = false) (d3 : p.Seq = n.Seq - 1) :
   CFun Try.prog 17 [encN n, .int .u32 self, .sl 15 (db.map encA) .sh, encPk p, .int .i64 now] [] (.tup [encN n, .sl 18 (([] : List Pkt).map encPk) .sh, .int .i64 0]) [] := by
 refine CFun.intro (tr := [900001000051, 900002000051, 3500051, 900001000211, 900002000211, 3500211]) (fz := []) (n := 214) (rs := [.cell 10 26, .tmp 11, .tmp 12]) Try.func17 rfl (by kernel_rfl) rfl rfl mixed (by kernel_rfl) (by simp) (by simp) ?_
 have e1 : ¬ n.State < 3 := by omega
 have e2 : ¬ n.State = 3 := by omega
 have e3 : n.Seq - 1 < n.Seq := by omega
 have w : IntKind.i64.wrap (n.Seq - 1) = n.Seq - 1 := wrap_in hq
 simp [c1, e1, e2, d1, d2, d3, e3, w]
set_option maxHeartbeats 8000000 in
set_option maxRecDepth 10000 in
theorem x17d (n : Nbr) (ok : okN n) (self : Int) (db : List Lsa) (p : Pkt) (now : Int) (hw : inI (now + 5)) (hq : inI n.Seq) (ha : ascH n.Req) (hsz : (n.Req.length + p.Heads.length) * 56 ≤ 140737488351232) (hdb : db.length * 136 ≤ 140737488351232) (hage : ∀ x ∈ db, inI x.H.Age) (hh : ∀ x ∈ p.Heads, inI x.Age)
   (c1 : p.Kind = 2) (d : isSlav n p) :
   CFun Try.prog 17 [encN n, .int .u32 self, .sl 15 (db.map encA) .sh, encPk p, .int .i64 now] [] (.tup [encN (settleN (slavO (slavM n db p) self p).1 now), .sl 18 ((slavO (slavM n db p) self p).2.map encPk) .sh, .int .i64 0]) [] := by
 refine CFun.intro (tr := [900001000051, 900002000051, 3500051, 900001000211, 900002000211, 3500211]) (fz := []) (n := 214) (rs := [.cell 10 26, .tmp 11, .tmp 12]) Try.func17 rfl (by kernel_rfl) rfl rfl mixed (by kernel_rfl) (by simp) (by simp) ?_
 obtain ⟨d1, d2, d3, d4, d5, d6⟩ := d
 have e3 : ¬ p.Seq = n.Seq := by omega
 have w : IntKind.i64.wrap (p.Seq - 1) = n.Seq := by rw [d6]; exact wrap_in hq
 have hl := ok.lst
 have hml : (slavM n db p).Req.length * 56 ≤ 140737488351232 := by
   have := recL_len db p.Heads ha
   simp only [slavM, batchN, recordN]
   omega
 have hms : (slavM n db p).Sent.length * 56 ≤ 140737488351232 := by simp [slavM, batchN, recordN]; omega
 have hz1 : (n.Req.length + p.Heads.length + 1) * 56 ≤ 140737488355328 := by omega
 have b0 := fun H => (x50 { n with Seq := p.Seq } db p _ rfl ha hz1 (by omega) hage hh).up' H rfl rfl
 have b1 := fun H => (x49 (recordN { n with Seq := p.Seq } db p) hl).up' H rfl rfl
 have e : batchN (recordN { n with Seq := p.Seq } db p) = slavM n db p := rfl
 rw [e] at b1
 generalize slavM n db p = m at *
 generalize recordN { n with Seq := p.Seq } db p = rm at *
 have b2 := fun H => (x37 m hms self).up' H rfl rfl
 have b3 := fun H => (x51 m hml self [pendN m self] (by simp)).up' H rfl rfl
 have b4 := fun (o : Nbr) H => (x52 o now hw).up' H rfl rfl
 have s1 := b4 (slavO m self p).1
 unfold slavO at s1 ⊢
 generalize pendN m self = q at *
 simp [c1, d1, d2, d3, d4, d5, e3, w]
 refine ⟨_, _, .inl (by simpa [c1, d1, d2, d3, d4] using b0 _), by simp, ?_⟩
 simp
 refine ⟨_, _, .inl (by simpa using b1 _), by simp, ?_⟩
 simp
 refine ⟨_, _, .inl (by simpa using b2 _), by simp, ?_⟩
 cases hM : p.More
 · by_cases hL : m.Lst = []
   · simp only [hM, hL, and_self, if_true] at s1
     generalize finN m = fm at *
     generalize finP m self [q] = fp at *
     simp [hL]
     refine ⟨_, _, .inl (by simpa [hL] using b3 _), by simp, ?_⟩
     simp
     refine ⟨_, _, .inl (by simpa using s1 _), by simp, ?_⟩
     simp
   · simp only [hM, hL, and_false, if_false] at s1
     have hL' : ¬ m.Lst.length = 0 := fun e => hL (List.length_eq_zero_iff.1 e)
     simp [hL, hL']
     refine ⟨_, _, .inl (by simpa using s1 _), by simp, ?_⟩
     simp
 · simp only [hM, Bool.true_eq_false, false_and, if_false] at s1
   simp
   refine ⟨_, _, .inl (by simpa using s1 _), by simp, ?_⟩
   simp
end Go.Proofs.Ytfngaildaoahpaa

/- The exchange of databases, by the reference: the master's case, a new start. -/
namespace Go.Proofs.Ytfngaildaoahpaa
open Go Go.Am
set_option maxHeartbeats 8000000 in
set_option maxRecDepth 10000 in
theorem x17e (n : Nbr) (ok : okN n) (self : Int) (db : List Lsa) (p : Pkt) (now : Int) (hw : inI (now + 5)) (hq : inI (n.Seq + 1)) (ha : ascH n.Req) (hsz : (n.Req.length + p.Heads.length) * 56 ≤ 140737488351232) (hdb : db.length * 136 ≤ 140737488351232) (hage : ∀ x ∈ db, inI x.H.Age) (hh : ∀ x ∈ p.Heads, inI x.Age)
   (c1 : p.Kind = 2) (d : isMast n p) :
   CFun Try.prog 17 [encN n, .int .u32 self, .sl 15 (db.map encA) .sh, encPk p, .int .i64 now] [] (.tup [encN (settleN (mastO (mastM n db p) self p).1 now), .sl 18 ((mastO (mastM n db p) self p).2.map encPk) .sh, .int .i64 0]) [] := by
 refine CFun.intro (tr := [900001000051, 900002000051, 3500051, 900001000211, 900002000211, 3500211]) (fz := []) (n := 214) (rs := [.cell 10 26, .tmp 11, .tmp 12]) Try.func17 rfl (by kernel_rfl) rfl rfl mixed (by kernel_rfl) (by simp) (by simp) ?_
 obtain ⟨d1, d2, d3, d4, d5⟩ := d
 have w : IntKind.i64.wrap (n.Seq + 1) = n.Seq + 1 := wrap_in hq
 have hl := ok.lst
 have hml : (mastM n db p).Req.length * 56 ≤ 140737488351232 := by
   have := recL_len db p.Heads ha
   simp only [mastM, recordN]
   omega
 have hmt : (mastM n db p).Lst.length * 56 ≤ 140737488351232 := hl
 have hms : (batchN (mastM n db p)).Sent.length * 56 ≤ 140737488351232 := by simp [mastM, batchN, recordN]; omega
 have hz1 : (n.Req.length + p.Heads.length + 1) * 56 ≤ 140737488355328 := by omega
 have b0 := fun H => (x50 n db p _ rfl ha hz1 (by omega) hage hh).up' H rfl rfl
 have em : mastM n db p = { recordN n db p with Seq := n.Seq + 1 } := rfl
 have er : (recordN n db p).Seq = n.Seq := rfl
 have el : (recordN n db p).Lst = n.Lst := rfl
 have b1 := fun H => (x49 (mastM n db p) hmt).up' H rfl rfl
 have b2 := fun H => (x37 (batchN (mastM n db p)) hms self).up' H rfl rfl
 have b3 := fun H => (x51 (mastM n db p) hml self [] (by simp)).up' H rfl rfl
 have s1 := fun H => (x52 (mastO (mastM n db p) self p).1 now hw).up' H rfl rfl
 have eml : (mastM n db p).Lst = n.Lst := rfl
 unfold mastO at s1 ⊢
 rw [eml] at s1 ⊢
 generalize batchN (mastM n db p) = bm at *
 generalize pendN bm self = q at *
 generalize hfm : finN (mastM n db p) = fm at *
 generalize hfp : finP (mastM n db p) self [] = fp at *
 clear hfm hfp
 simp only [em] at b1 b3
 clear em hml hmt eml
 generalize recordN n db p = rm at *
 simp [c1, d1, d2, d3, d4, d5]
 refine ⟨_, _, .inl (by simpa [c1, d1, d2, d3, d4, d5] using b0 _), by simp, ?_⟩
 simp [er, w]
 cases hM : p.More
 · by_cases hL : n.Lst = []
   · simp only [hM, hL, and_self, if_true] at s1
     simp [hL, el]
     refine ⟨_, _, .inl (by simpa [hL, el] using b3 _), by simp, ?_⟩
     simp
     refine ⟨_, _, .inl (by simpa using s1 _), by simp, ?_⟩
     simp
   · simp only [hM, hL, and_false, if_false] at s1
     have hL' : ¬ n.Lst.length = 0 := fun e => hL (List.length_eq_zero_iff.1 e)
     simp [hL, el]
     refine ⟨_, _, .inl (by simpa [el] using b1 _), by simp, ?_⟩
     simp
     refine ⟨_, _, .inl (by simpa using b2 _), by simp, ?_⟩
     simp
     refine ⟨_, _, .inl (by simpa using s1 _), by simp, ?_⟩
     simp
 · simp only [hM, Bool.true_eq_false, false_and, if_false] at s1
   simp
   refine ⟨_, _, .inl (by simpa [el] using b1 _), by simp, ?_⟩
   simp
   refine ⟨_, _, .inl (by simpa using b2 _), by simp, ?_⟩
   simp
   refine ⟨_, _, .inl (by simpa using s1 _), by simp, ?_⟩
   simp
end Go.Proofs.Ytfngaildaoahpaa

/- The exchange of databases, by the reference: a new start. -/
namespace Go.Proofs.Ytfngaildaoahpaa
open Go Go.Am
set_option maxHeartbeats 16000000 in
set_option maxRecDepth 10000 in
theorem x17f (n : Nbr) (self : Int) (db : List Lsa) (p : Pkt) (now : Int) (hw : inI (now + 5)) (hq0 : 0 ≤ n.Seq) (hq : n.Seq < 1099511627776) (hp : inI p.Seq)
   (c1 : p.Kind = 2) (c2 : 3 < n.State) (n1 : ¬ (n.Master = false ∧ p.Master = true ∧ p.Seq = n.Seq)) (n2 : ¬ (n.Master = true ∧ p.Master = false ∧ p.Seq < n.Seq ∧ p.Seq = n.Seq - 1)) (n3 : ¬ isSlav n p) (n4 : ¬ isMast n p) :
   CFun Try.prog 17 [encN n, .int .u32 self, .sl 15 (db.map encA) .sh, encPk p, .int .i64 now] [] (.tup [encN (startN n now), .sl 18 ([firstN (startN n now) self].map encPk) .sh, .int .i64 0]) [] := by
 refine CFun.intro (tr := [900001000051, 900002000051, 3500051, 900001000211, 900002000211, 3500211]) (fz := []) (n := 214) (rs := [.cell 10 26, .tmp 11, .tmp 12]) Try.func17 rfl (by kernel_rfl) rfl rfl mixed (by kernel_rfl) (by simp) (by simp) ?_
 have e1 : ¬ n.State < 3 := by omega
 have e2 : ¬ n.State = 3 := by omega
 have k := fun H => (x11 n self now hw).up' H rfl rfl
 have w1 : IntKind.i64.wrap (n.Seq - 1) = n.Seq - 1 := wrap_in (by omega)
 generalize firstN (startN n now) self = fq at *
 generalize startN n now = sn at *
 unfold isSlav at n3
 unfold isMast at n4
 by_cases hN : n.Master = true
 · by_cases hP : p.Master = true
   · simp [c1, e1, e2, hN, hP]
     by_cases h4 : n.State = 4
     · simp [h4]
       refine ⟨_, _, .inl (by simpa [hN, h4] using k _), by simp, ?_⟩
       simp
     · simp [h4]
       refine ⟨_, _, .inl (by simpa [hN, h4] using k _), by simp, ?_⟩
       simp
   · have hP' : p.Master = false := by simpa using hP
     have hs : ¬ (p.Seq < n.Seq ∧ p.Seq = n.Seq - 1) := fun h => n2 ⟨hN, hP', h⟩
     by_cases hlt : p.Seq < n.Seq
     · have hne : ¬ p.Seq = n.Seq - 1 := fun h => hs ⟨hlt, h⟩
       have hne2 : ¬ p.Seq = n.Seq := by omega
       simp [c1, e1, e2, hN, hP', hlt, hne, w1]
       by_cases h4 : n.State = 4
       · cases hI : p.Init
         · simp [h4, hne2]
           refine ⟨_, _, .inl (by simpa [hN, h4] using k _), by simp, ?_⟩
           simp
         · simp [h4]
           refine ⟨_, _, .inl (by simpa [hN, h4] using k _), by simp, ?_⟩
           simp
       · simp [h4]
         refine ⟨_, _, .inl (by simpa [hN, h4] using k _), by simp, ?_⟩
         simp
     · simp [c1, e1, e2, hN, hP', hlt]
       by_cases h4 : n.State = 4
       · cases hI : p.Init
         · have hne2 : ¬ p.Seq = n.Seq := fun h => n4 ⟨h4, hN, hP', hI, h⟩
           simp [h4, hne2]
           refine ⟨_, _, .inl (by simpa [hN, h4] using k _), by simp, ?_⟩
           simp
         · simp [h4]
           refine ⟨_, _, .inl (by simpa [hN, h4] using k _), by simp, ?_⟩
           simp
       · simp [h4]
         refine ⟨_, _, .inl (by simpa [hN, h4] using k _), by simp, ?_⟩
         simp
 · have hN' : n.Master = false := by simpa using hN
   by_cases hP : p.Master = true
   · have hne : ¬ p.Seq = n.Seq := fun h => n1 ⟨hN', hP, h⟩
     simp [c1, e1, e2, hN', hP, hne]
     by_cases h4 : n.State = 4
     · cases hI : p.Init
       · by_cases hgt : n.Seq < p.Seq
         · have hne2 : ¬ p.Seq - 1 = n.Seq := fun h => n3 ⟨h4, hN', hP, hI, hgt, h⟩
           have w2 : IntKind.i64.wrap (p.Seq - 1) = p.Seq - 1 := wrap_in (by unfold inI at hp; omega)
           simp [h4, hgt, w2, hne2]
           refine ⟨_, _, .inl (by simpa [hN', h4] using k _), by simp, ?_⟩
           simp
         · simp [h4, hgt]
           refine ⟨_, _, .inl (by simpa [hN', h4] using k _), by simp, ?_⟩
           simp
       · simp [h4]
         refine ⟨_, _, .inl (by simpa [hN', h4] using k _), by simp, ?_⟩
         simp
     · simp [h4]
       refine ⟨_, _, .inl (by simpa [hN', h4] using k _), by simp, ?_⟩
       simp
   · have hP' : p.Master = false := by simpa using hP
     simp [c1, e1, e2, hN', hP']
     by_cases h4 : n.State = 4
     · simp [h4]
       refine ⟨_, _, .inl (by simpa [hN', h4] using k _), by simp, ?_⟩
       simp
     · simp [h4]
       refine ⟨_, _, .inl (by simpa [hN', h4] using k _), by simp, ?_⟩
       simp
end Go.Proofs.Ytfngaildaoahpaa

/- The exchange of databases, by the reference: Receive. -/
namespace Go.Proofs.Ytfngaildaoahpaa
open Go Go.Am
theorem x17 (n : Nbr) (ok : okN n) (self : Int) (db : List Lsa) (p : Pkt) (now : Int) (hw : inI (now + 5)) (hq0 : 0 ≤ n.Seq) (hq : n.Seq < 1099511627776) (hp : inI p.Seq) (ha : ascH n.Req) (hsz : (n.Req.length + p.Heads.length) * 56 ≤ 140737488351232) (hdb : db.length * 136 ≤ 140737488351232) (hage : ∀ x ∈ db, inI x.H.Age) (hh : ∀ x ∈ p.Heads, inI x.Age) :
   CFun Try.prog 17 [encN n, .int .u32 self, .sl 15 (db.map encA) .sh, encPk p, .int .i64 now] [] (.tup [encN (recvA n self db p now).1, .sl 18 ((recvA n self db p now).2.1.map encPk) .sh, .int .i64 (recvA n self db p now).2.2]) [] := by
 have hq1 : inI (n.Seq + 1) := by unfold inI; omega
 have hq2 : inI (n.Seq - 1) := by unfold inI; omega
 have hq3 : inI n.Seq := by unfold inI; omega
 by_cases c0 : p.Kind ≠ 2 ∨ n.State ≤ 3
 · exact x17a n ok self db p now hw hq1 ha (by omega) hdb hage hh c0
 have c1 : p.Kind = 2 := Decidable.byContradiction fun h => c0 (.inl h)
 have c2 : 3 < n.State := by
   have : ¬ n.State ≤ 3 := fun h => c0 (.inr h)
   omega
 unfold recvA
 rw [if_neg (show ¬ p.Kind ≠ 2 from fun h => h c1), if_neg (show ¬ n.State < 3 by omega), if_neg (show ¬ n.State = 3 by omega)]
 by_cases n1 : n.Master = false ∧ p.Master = true ∧ p.Seq = n.Seq
 · rw [if_pos n1]
   exact x17b n ok self db p now c1 c2 n1.1 n1.2.1 n1.2.2
 rw [if_neg n1]
 by_cases n2 : n.Master = true ∧ p.Master = false ∧ p.Seq < n.Seq ∧ p.Seq = n.Seq - 1
 · rw [if_pos n2]
   exact x17c n self db p now c1 c2 hq2 n2.1 n2.2.1 n2.2.2.2
 rw [if_neg n2]
 by_cases n3 : isSlav n p
 · rw [if_pos n3]
   exact x17d n ok self db p now hw hq3 ha hsz hdb hage hh c1 n3
 rw [if_neg n3]
 by_cases n4 : isMast n p
 · rw [if_pos n4]
   exact x17e n ok self db p now hw hq1 ha hsz hdb hage hh c1 n4
 rw [if_neg n4]
 exact x17f n self db p now hw hq0 hq hp c1 c2 n1 n2 n3 n4
end Go.Proofs.Ytfngaildaoahpaa

/- The exchange of databases: a request that is answered. -/
namespace Go.Proofs.Ytfngaildaoahpaa
open Go Go.Am
theorem ordH_asc : ∀ {l : List Hdr}, ordH l = true → ascH l
 | [], _ => List.Pairwise.nil
 | [x], _ => by simp [ascH]
 | x :: y :: l, h => by
   simp only [ordH] at h
   split at h
   · cases h
   rename_i hc
   have hxy : ltY (keyH x) (keyH y) := by unfold ltY; omega
   have ih := ordH_asc h
   refine List.Pairwise.cons (fun z hz => ?_) ih
   rcases List.mem_cons.1 hz with rfl | hz
   · exact hxy
   · exact ltY_trans hxy (List.rel_of_pairwise_cons ih hz)
end Go.Proofs.Ytfngaildaoahpaa
