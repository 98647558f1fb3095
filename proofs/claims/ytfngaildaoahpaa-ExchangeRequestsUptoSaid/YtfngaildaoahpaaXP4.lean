/- The exchange of databases: a batch is taken. -/
import Derived.Test.YtfngaildaoahpaaXR6
import Derived.Test.YtfngaildaoahpaaXC5
set_option linter.unusedSimpArgs false
set_option linter.unusedVariables false
namespace Go.Proofs.Ytfngaildaoahpaa
open Go Go.Am
set_option maxHeartbeats 4000000 in
set_option maxRecDepth 10000 in
theorem x77 (n : Nbr) (hl : n.Lst.length * 56 ≤ 140737488351232) : CFun Try.prog 77 [encN n] [] (encN (batchN n)) [] := by
 refine CFun.intro (tr := []) (fz := []) (n := 21) (rs := [.cell 2 26]) Try.func77 rfl (by kernel_rfl) rfl rfl mixed (by kernel_rfl) (by simp) (by simp) ?_
 obtain ⟨m, hm⟩ : ∃ m, n.Lst.length = m := ⟨_, rfl⟩
 rw [hm] at hl
 obtain ⟨k, hk⟩ : ∃ k, min 16 m = k := ⟨_, rfl⟩
 have hmk : (if 16 < (m : Int) then (16 : Int) else m) = k := by split <;> omega
 have hkm : (k : Int) ≤ m := by omega
 have hkm' : k ≤ m := by omega
 have e1 : n.Lst.take 16 = n.Lst.take k := by
   by_cases q : 16 ≤ m
   · rw [show k = 16 by omega]
   · rw [List.take_of_length_le (by omega), List.take_of_length_le (by omega)]
 have e2 : n.Lst.drop 16 = n.Lst.drop k := by
   by_cases q : 16 ≤ m
   · rw [show k = 16 by omega]
   · rw [List.drop_of_length_le (by omega), List.drop_of_length_le (by omega)]
 have e3 : (n.Lst.map encH).take m = n.Lst.map encH := List.take_of_length_le (by simp; omega)
 have k1 := fun H => (ch_row (n.Lst.take k) (by simp; omega)).up' H rfl rfl
 have k2 := fun H => (ch_row (n.Lst.drop k) (by simp; omega)).up' H rfl rfl
 unfold batchN
 rw [e1, e2]
 simp [hm, hmk, hkm]
 refine ⟨_, _, .inl (by simpa [List.map_take] using k1 _), by simp, ?_⟩
 simp [hm, hkm, hkm', e3]
 refine ⟨_, _, .inl (by simpa [List.map_drop, e3] using k2 _), by simp, ?_⟩
 simp [List.map_take, List.map_drop]
end Go.Proofs.Ytfngaildaoahpaa

/- The exchange of databases, by the reference: what a packet brings about. -/
namespace Go.Proofs.Ytfngaildaoahpaa
open Go Go.Am
def slavM (n : Nbr) (db : List Lsa) (p : Pkt) : Nbr := batchN (recordN { n with Seq := p.Seq } db p)
def slavO (m : Nbr) (self : Int) (p : Pkt) : Nbr × List Pkt := if p.More = false ∧ m.Lst = [] then (finN m, finP m self [pendN m self]) else (m, [pendN m self])
def mastM (n : Nbr) (db : List Lsa) (p : Pkt) : Nbr := { recordN n db p with Seq := n.Seq + 1 }
def mastO (m : Nbr) (self : Int) (p : Pkt) : Nbr × List Pkt := if p.More = false ∧ m.Lst = [] then (finN m, finP m self []) else (batchN m, [pendN (batchN m) self])
def isSlav (n : Nbr) (p : Pkt) : Prop := n.State = 4 ∧ n.Master = false ∧ p.Master = true ∧ p.Init = false ∧ n.Seq < p.Seq ∧ p.Seq - 1 = n.Seq
def isMast (n : Nbr) (p : Pkt) : Prop := n.State = 4 ∧ n.Master = true ∧ p.Master = false ∧ p.Init = false ∧ p.Seq = n.Seq
instance (n : Nbr) (p : Pkt) : Decidable (isSlav n p) := by unfold isSlav; infer_instance
instance (n : Nbr) (p : Pkt) : Decidable (isMast n p) := by unfold isMast; infer_instance
def recvA (n : Nbr) (self : Int) (db : List Lsa) (p : Pkt) (now : Int) : Nbr × List Pkt × Int :=
 if p.Kind ≠ 2 then (nbr0, [], 15) else if n.State < 3 then (nbr0, [], 9) else if n.State = 3 then firstA n self db p now
 else if n.Master = false ∧ p.Master = true ∧ p.Seq = n.Seq then (n, [pendN n self], 0)
 else if n.Master = true ∧ p.Master = false ∧ p.Seq < n.Seq ∧ p.Seq = n.Seq - 1 then (n, [], 0)
 else if isSlav n p then (settleN (slavO (slavM n db p) self p).1 now, (slavO (slavM n db p) self p).2, 0)
 else if isMast n p then (settleN (mastO (mastM n db p) self p).1 now, (mastO (mastM n db p) self p).2, 0)
 else (startN n now, [firstN (startN n now) self], 0)
end Go.Proofs.Ytfngaildaoahpaa

/- The exchange of databases, by the reference: repetitions, the slave's case, a new start. -/
namespace Go.Proofs.Ytfngaildaoahpaa
open Go Go.Am
end Go.Proofs.Ytfngaildaoahpaa

/- The exchange of databases, by the reference: the master's case, a new start. -/
namespace Go.Proofs.Ytfngaildaoahpaa
open Go Go.Am
end Go.Proofs.Ytfngaildaoahpaa

/- The exchange of databases, by the reference: a new start. -/
namespace Go.Proofs.Ytfngaildaoahpaa
open Go Go.Am
end Go.Proofs.Ytfngaildaoahpaa

/- The exchange of databases, by the reference: Receive. -/
namespace Go.Proofs.Ytfngaildaoahpaa
open Go Go.Am
end Go.Proofs.Ytfngaildaoahpaa

/- The exchange of databases: a request that is answered. -/
namespace Go.Proofs.Ytfngaildaoahpaa
open Go Go.Am
theorem ordH_asc : ∀ {l : List Hdr}, ordH l = true → ascH l
 | [], _ => List.Pairwise.nil
 | [x], _ => by simp [ascH]
 | x :: y :: l, h => by
   simp only [ordH] at h
   split at h
   · cases h
   rename_i hc
   have hxy : ltY (keyH x) (keyH y) := by unfold ltY; omega
   have ih := ordH_asc h
   refine List.Pairwise.cons (fun z hz => ?_) ih
   rcases List.mem_cons.1 hz with rfl | hz
   · exact hxy
   · exact ltY_trans hxy (List.rel_of_pairwise_cons ih hz)
end Go.Proofs.Ytfngaildaoahpaa
