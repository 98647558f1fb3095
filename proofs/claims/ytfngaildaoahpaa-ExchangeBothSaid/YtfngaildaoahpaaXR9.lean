/- The exchange of databases, by the reference: insertion. -/
import Derived.Test.YtfngaildaoahpaaXR1
set_option linter.unusedSimpArgs false
set_option linter.unusedVariables false
namespace Go.Proofs.Ytfngaildaoahpaa
open Go Go.Am
end Go.Proofs.Ytfngaildaoahpaa

/- The exchange of databases, by the reference: the end, the record. -/
namespace Go.Proofs.Ytfngaildaoahpaa
open Go Go.Am
def finN (n : Nbr) : Nbr := if n.Req = [] then { n with State := 6 } else { n with State := 5 }
def finP (n : Nbr) (self : Int) (l : List Pkt) : List Pkt := if n.Req = [] then l else l ++ [reqN { n with State := 5 } self]
end Go.Proofs.Ytfngaildaoahpaa

/- The exchange of databases, by the reference: the record. -/
namespace Go.Proofs.Ytfngaildaoahpaa
open Go Go.Am
theorem recL_snoc (db : List Lsa) (hs : List Hdr) (x : Hdr) (l : List Hdr) : recL db (hs ++ [x]) l = if cmpD db x = 1 then putH x (recL db hs l) else recL db hs l := by
 simp [recL, List.foldl_append]
theorem recL_asc (db : List Lsa) : ∀ (hs : List Hdr) {l : List Hdr}, ascH l → ascH (recL db hs l)
 | [], _, h => h
 | x :: hs, l, h => by
   simp only [recL, List.foldl_cons]
   split
   · exact recL_asc db hs (putH_asc h)
   · exact recL_asc db hs h
theorem recL_len (db : List Lsa) : ∀ (hs : List Hdr) {l : List Hdr}, ascH l → (recL db hs l).length ≤ l.length + hs.length
 | [], l, h => by simp [recL]
 | x :: hs, l, h => by
   simp only [recL, List.foldl_cons]
   split
   · have h1 := recL_len db hs (putH_asc (l := x) h)
     have h2 := putH_len (l := x) h
     simp only [recL] at h1
     have h3 : (if fndH l (keyH x) = true then 0 else 1) ≤ 1 := by split <;> omega
     simp only [List.length_cons]
     omega
   · have h1 := recL_len db hs h
     simp only [recL] at h1
     simp only [List.length_cons]
     omega
end Go.Proofs.Ytfngaildaoahpaa

/- The exchange of databases, by the reference: the record's walk. -/
namespace Go.Proofs.Ytfngaildaoahpaa
open Go Go.Am
end Go.Proofs.Ytfngaildaoahpaa

/- The exchange of databases, by the reference: the first packet. -/
namespace Go.Proofs.Ytfngaildaoahpaa
open Go Go.Am
def firstM (n : Nbr) (db : List Lsa) (p : Pkt) (now : Int) : Nbr := settleN (batchN { n with State := 4, Master := false, Seq := p.Seq, Lst := youngD db }) now
def answM (n : Nbr) (db : List Lsa) (p : Pkt) (now : Int) : Nbr := settleN (batchN { recordN { n with State := 4, Lst := youngD db } db p with Seq := n.Seq + 1 }) now
def isFst (p : Pkt) (self : Int) : Bool := p.Init && (p.More && (p.Master && (decide (p.Heads = []) && decide (self < p.Router))))
def isAnsw (n : Nbr) (p : Pkt) (self : Int) : Bool := !p.Init && (!p.Master && (decide (p.Seq = n.Seq) && decide (p.Router < self)))
def firstA (n : Nbr) (self : Int) (db : List Lsa) (p : Pkt) (now : Int) : Nbr × List Pkt × Int :=
 if isFst p self = true then (firstM n db p now, [pendN (firstM n db p now) self], 0)
 else if isAnsw n p self = true then (answM n db p now, [pendN (answM n db p now) self], 0) else (nbr0, [], 14)
theorem youngD_len (db : List Lsa) : (youngD db).length ≤ db.length := by
 unfold youngD
 exact Nat.le_trans (List.length_filter_le _ _) (by simp)
end Go.Proofs.Ytfngaildaoahpaa

/- The exchange of databases: a batch is taken. -/
namespace Go.Proofs.Ytfngaildaoahpaa
open Go Go.Am
set_option maxHeartbeats 4000000 in
set_option maxRecDepth 10000 in
theorem x77 (n : Nbr) (hl : n.Lst.length * 56 ≤ 140737488351232) : CFun Try.prog 77 [encN n] [] (encN (batchN n)) [] := by
 refine CFun.intro (tr := []) (fz := []) (n := 21) (rs := [.cell 2 26]) Try.func77 rfl (by kernel_rfl) rfl rfl mixed (by kernel_rfl) (by simp) (by simp) ?_
 obtain ⟨m, hm⟩ : ∃ m, n.Lst.length = m := ⟨_, rfl⟩
 rw [hm] at hl
 obtain ⟨k, hk⟩ : ∃ k, min 16 m = k := ⟨_, rfl⟩
 have hmk : (if 16 < (m : Int) then (16 : Int) else m) = k := by split <;> omega
 have hkm : (k : Int) ≤ m := by omega
 have hkm' : k ≤ m := by omega
 have e1 : n.Lst.take 16 = n.Lst.take k := by
   by_cases q : 16 ≤ m
   · rw [show k = 16 by omega]
   · rw [List.take_of_length_le (by omega), List.take_of_length_le (by omega)]
 have e2 : n.Lst.drop 16 = n.Lst.drop k := by
   by_cases q : 16 ≤ m
   · rw [show k = 16 by omega]
   · rw [List.drop_of_length_le (by omega), List.drop_of_length_le (by omega)]
 have e3 : (n.Lst.map encH).take m = n.Lst.map encH := List.take_of_length_le (by simp; omega)
 have k1 := fun H => (ch_row (n.Lst.take k) (by simp; omega)).up' H rfl rfl
 have k2 := fun H => (ch_row (n.Lst.drop k) (by simp; omega)).up' H rfl rfl
 unfold batchN
 rw [e1, e2]
 simp [hm, hmk, hkm]
 refine ⟨_, _, .inl (by simpa [List.map_take] using k1 _), by simp, ?_⟩
 simp [hm, hkm, hkm', e3]
 refine ⟨_, _, .inl (by simpa [List.map_drop, e3] using k2 _), by simp, ?_⟩
 simp [List.map_take, List.map_drop]
end Go.Proofs.Ytfngaildaoahpaa

/- The exchange of databases, by the reference: what a packet brings about. -/
namespace Go.Proofs.Ytfngaildaoahpaa
open Go Go.Am
def slavM (n : Nbr) (db : List Lsa) (p : Pkt) : Nbr := batchN (recordN { n with Seq := p.Seq } db p)
def slavO (m : Nbr) (self : Int) (p : Pkt) : Nbr × List Pkt := if p.More = false ∧ m.Lst = [] then (finN m, finP m self [pendN m self]) else (m, [pendN m self])
def mastM (n : Nbr) (db : List Lsa) (p : Pkt) : Nbr := { recordN n db p with Seq := n.Seq + 1 }
def mastO (m : Nbr) (self : Int) (p : Pkt) : Nbr × List Pkt := if p.More = false ∧ m.Lst = [] then (finN m, finP m self []) else (batchN m, [pendN (batchN m) self])
def isSlav (n : Nbr) (p : Pkt) : Prop := n.State = 4 ∧ n.Master = false ∧ p.Master = true ∧ p.Init = false ∧ n.Seq < p.Seq ∧ p.Seq - 1 = n.Seq
def isMast (n : Nbr) (p : Pkt) : Prop := n.State = 4 ∧ n.Master = true ∧ p.Master = false ∧ p.Init = false ∧ p.Seq = n.Seq
instance (n : Nbr) (p : Pkt) : Decidable (isSlav n p) := by unfold isSlav; infer_instance
instance (n : Nbr) (p : Pkt) : Decidable (isMast n p) := by unfold isMast; infer_instance
def recvA (n : Nbr) (self : Int) (db : List Lsa) (p : Pkt) (now : Int) : Nbr × List Pkt × Int :=
 if p.Kind ≠ 2 then (nbr0, [], 15) else if n.State < 3 then (nbr0, [], 9) else if n.State = 3 then firstA n self db p now
 else if n.Master = false ∧ p.Master = true ∧ p.Seq = n.Seq then (n, [pendN n self], 0)
 else if n.Master = true ∧ p.Master = false ∧ p.Seq < n.Seq ∧ p.Seq = n.Seq - 1 then (n, [], 0)
 else if isSlav n p then (settleN (slavO (slavM n db p) self p).1 now, (slavO (slavM n db p) self p).2, 0)
 else if isMast n p then (settleN (mastO (mastM n db p) self p).1 now, (mastO (mastM n db p) self p).2, 0)
 else (startN n now, [firstN (startN n now) self], 0)
end Go.Proofs.Ytfngaildaoahpaa

/- The exchange of databases, by the reference: repetitions, the slave's case, a new start. -/
namespace Go.Proofs.Ytfngaildaoahpaa
open Go Go.Am
end Go.Proofs.Ytfngaildaoahpaa
