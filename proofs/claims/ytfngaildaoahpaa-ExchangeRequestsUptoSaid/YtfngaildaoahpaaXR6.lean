/- The exchange of databases: requests. -/
import Derived.Test.YtfngaildaoahpaaXC5
set_option linter.unusedSimpArgs false
set_option linter.unusedVariables false
namespace Go.Proofs.Ytfngaildaoahpaa
open Go Go.Am
@[simp] def cellsQ (self : Int) (ks : List LKey) : List AVal := [.int .i64 3, .int .u32 self, .int .u32 0, .int .u32 0, .int .i64 0, .int .i64 0, .int .i64 0, .int .i64 0, .int .u32 0, .int .u32 0, .sl 0 [] .full, .int .i64 0, .bool false, .bool false, .bool false, .sl 0 [] .full, .sl 4 (ks.map encY) .own, .sl 0 [] .full]
set_option maxHeartbeats 4000000 in
set_option maxRecDepth 10000 in
theorem x60 (n : Nbr) (hl : n.Req.length * 56 ≤ 140737488351232) (self : Int) : CFun Try.prog 60 [encN n, .int .u32 self] [] (encPk (reqN n self)) [] := by
 refine CFun.intro (tr := [23, 3000023]) (fz := []) (n := 31) (rs := [.cell 4 34]) Try.func60 rfl (by kernel_rfl) rfl rfl mixed (by kernel_rfl) (by simp) (by simp) ?_
 obtain ⟨m, hm⟩ : ∃ m, n.Req.length = m := ⟨_, rfl⟩
 obtain ⟨k, hk⟩ : ∃ k, min 16 m = k := ⟨_, rfl⟩
 have hk16 : k ≤ 16 := by omega
 have hmk : (if 16 < (m : Int) then (16 : Int) else m) = k := by split <;> omega
 have hkm : (k : Int) ≤ m := by omega
 have ht : n.Req.take 16 = n.Req.take k := by
   by_cases q : 16 ≤ m
   · rw [show k = 16 by omega]
   · rw [List.take_of_length_le (by omega), List.take_of_length_le (by omega)]
 unfold reqN
 rw [ht]
 have hrk : (n.Req.take k).length = k := by simp; omega
 have hmap : (n.Req.map encH).take k = (n.Req.take k).map encH := by simp [List.map_take]
 simp [hm, hmk, hkm]
 simp only [← List.map_take]
 generalize hr : n.Req.take k = r at *
 have hmin : min k m = k := by omega
 refine LoopK.intro (tr := [23, 3000023]) mixed (by kernel_rfl) (fun q : Nat × List LKey => [(2, .ptr 0 0), (4, .ptr 1 0), (5, .ptr 2 0), (16, .sl 7 (r.map encH) .sh), (17, .int .i64 k), (18, .int .i64 q.1)]) (fun q => [cellsN n, cellsPk pkt0, cellsQ self q.2]) (fun q => q.1 ≤ k ∧ q.2.length = q.1 ∧ q.2 = (r.take q.1).map keyH) (fun q => k - q.1) (0, []) ?_ ?_ ?_
 · simp
 · simp [pkt0, hel0, hmin]
 · rintro ⟨i, ks⟩ ⟨h1, h2, h3⟩
   simp only at h1 h2 h3
   by_cases hi : i < k
   · obtain ⟨x, hx, hd⟩ := get_drop (l := r) (i := i) (by omega)
     have w1 : IntKind.i64.wrap ((i : Int) + 1) = i + 1 := wrap_in (by omega)
     have h := fun H => (c25 x).up' H rfl rfl
     have htk : ks ++ [keyH x] = (r.take (i + 1)).map keyH := by rw [List.take_add_one, hx, h3]; simp
     clear hd h3
     have s1 : i + 1 ≤ 140737488355328 := by omega
     have s2 : (i + 1) * 32 ≤ 140737488355328 := by omega
     generalize keyH x = kx at *
     simp [hi, hx, gE hx]
     refine ⟨_, _, .inl (by simpa using h _), by simp, ?_⟩
     simp [h2, s1, s2, w1]
     refine ⟨i + 1, ks ++ [kx], ⟨by omega, by simp; omega, by simpa [List.map_take] using htk⟩, by omega, by simp⟩
   · have : i = k := by omega
     subst this
     have e : ks = r.map keyH := by rw [h3, List.take_of_length_le (by omega)]
     subst e
     simp [pkt0, hel0]
end Go.Proofs.Ytfngaildaoahpaa

/- The exchange of databases, by the reference: batches, young headers, insertion, records. -/
namespace Go.Proofs.Ytfngaildaoahpaa
open Go Go.Am
end Go.Proofs.Ytfngaildaoahpaa

/- The exchange of databases, by the reference: insertion. -/
namespace Go.Proofs.Ytfngaildaoahpaa
open Go Go.Am
end Go.Proofs.Ytfngaildaoahpaa

/- The exchange of databases, by the reference: the end, the record. -/
namespace Go.Proofs.Ytfngaildaoahpaa
open Go Go.Am
def finN (n : Nbr) : Nbr := if n.Req = [] then { n with State := 6 } else { n with State := 5 }
def finP (n : Nbr) (self : Int) (l : List Pkt) : List Pkt := if n.Req = [] then l else l ++ [reqN { n with State := 5 } self]
end Go.Proofs.Ytfngaildaoahpaa

/- The exchange of databases, by the reference: the record. -/
namespace Go.Proofs.Ytfngaildaoahpaa
open Go Go.Am
theorem recL_snoc (db : List Lsa) (hs : List Hdr) (x : Hdr) (l : List Hdr) : recL db (hs ++ [x]) l = if cmpD db x = 1 then putH x (recL db hs l) else recL db hs l := by
 simp [recL, List.foldl_append]
theorem recL_asc (db : List Lsa) : ∀ (hs : List Hdr) {l : List Hdr}, ascH l → ascH (recL db hs l)
 | [], _, h => h
 | x :: hs, l, h => by
   simp only [recL, List.foldl_cons]
   split
   · exact recL_asc db hs (putH_asc h)
   · exact recL_asc db hs h
theorem recL_len (db : List Lsa) : ∀ (hs : List Hdr) {l : List Hdr}, ascH l → (recL db hs l).length ≤ l.length + hs.length
 | [], l, h => by simp [recL]
 | x :: hs, l, h => by
   simp only [recL, List.foldl_cons]
   split
   · have h1 := recL_len db hs (putH_asc (l := x) h)
     have h2 := putH_len (l := x) h
     simp only [recL] at h1
     have h3 : (if fndH l (keyH x) = true then 0 else 1) ≤ 1 := by split <;> omega
     simp only [List.length_cons]
     omega
   · have h1 := recL_len db hs h
     simp only [recL] at h1
     simp only [List.length_cons]
     omega
end Go.Proofs.Ytfngaildaoahpaa

/- The exchange of databases, by the reference: the record's walk. -/
namespace Go.Proofs.Ytfngaildaoahpaa
open Go Go.Am
end Go.Proofs.Ytfngaildaoahpaa

/- The exchange of databases, by the reference: the first packet. -/
namespace Go.Proofs.Ytfngaildaoahpaa
open Go Go.Am
def firstM (n : Nbr) (db : List Lsa) (p : Pkt) (now : Int) : Nbr := settleN (batchN { n with State := 4, Master := false, Seq := p.Seq, Lst := youngD db }) now
def answM (n : Nbr) (db : List Lsa) (p : Pkt) (now : Int) : Nbr := settleN (batchN { recordN { n with State := 4, Lst := youngD db } db p with Seq := n.Seq + 1 }) now
def isFst (p : Pkt) (self : Int) : Bool := p.Init && (p.More && (p.Master && (decide (p.Heads = []) && decide (self < p.Router))))
def isAnsw (n : Nbr) (p : Pkt) (self : Int) : Bool := !p.Init && (!p.Master && (decide (p.Seq = n.Seq) && decide (p.Router < self)))
def firstA (n : Nbr) (self : Int) (db : List Lsa) (p : Pkt) (now : Int) : Nbr × List Pkt × Int :=
 if isFst p self = true then (firstM n db p now, [pendN (firstM n db p now) self], 0)
 else if isAnsw n p self = true then (answM n db p now, [pendN (answM n db p now) self], 0) else (nbr0, [], 14)
theorem youngD_len (db : List Lsa) : (youngD db).length ≤ db.length := by
 unfold youngD
 exact Nat.le_trans (List.length_filter_le _ _) (by simp)
end Go.Proofs.Ytfngaildaoahpaa
