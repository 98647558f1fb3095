import Derived.Test.YtfngaildaoahpaaXK13
import Derived.Test.YtfngaildaoahpaaXDS7
import Derived.Test.YtfngaildaoahpaaXE13
import Derived.Test.YtfngaildaoahpaaXE21
set_option linter.unusedSimpArgs false
set_option linter.unusedVariables false
namespace Go.Proofs.Ytfngaildaoahpaa
open Go Go.Am
structure okS (p : Pkt) : Prop where
  seen : p.E.Seen.length < 140737488355328
  keys : p.Keys.length < 8796093022208
  lsas : p.Lsas.length < 1099511627776
  heads : p.Heads.length < 8796093022208
  oka : ∀ x ∈ p.Lsas, okA x
end Go.Proofs.Ytfngaildaoahpaa

namespace Go.Proofs.Ytfngaildaoahpaa
open Go Go.Am
end Go.Proofs.Ytfngaildaoahpaa

/- The exchange of databases: what its functions answer. -/
namespace Go.Proofs.Ytfngaildaoahpaa
open Go Go.Am
structure Nbr where
  Router : Int
  Addr : Int
  Pri : Int
  DR : Int
  BDR : Int
  State : Int
  Til : Int
  Master : Bool
  Seq : Int
  Lst : List Hdr
  Sent : List Hdr
  More : Bool
  Req : List Hdr
  Una : List Hdr
  Rsd : Int
  deriving DecidableEq
@[simp] def cellsNx (n : Nbr) (x : AVal) : List AVal := [.int .u32 n.Router, .int .u32 n.Addr, .int .i64 n.Pri, .int .u32 n.DR, .int .u32 n.BDR, .int .i64 n.State, .int .i64 n.Til, .bool n.Master, .int .i64 n.Seq,
  .sl 7 (n.Lst.map encH) .sh, .sl 7 (n.Sent.map encH) .sh, .bool n.More, x, .sl 7 (n.Una.map encH) .sh, .int .i64 n.Rsd]
@[simp] def cellsN (n : Nbr) : List AVal := cellsNx n (.sl 7 (n.Req.map encH) .sh)
@[simp] def encN (n : Nbr) : AVal := .agg (cellsN n)
def nbr0 : Nbr := ⟨0, 0, 0, 0, 0, 0, 0, false, 0, [], [], false, [], [], 0⟩
def plainN (n : Nbr) : Nbr := { nbr0 with Router := n.Router, Addr := n.Addr, Pri := n.Pri, DR := n.DR, BDR := n.BDR, State := n.State, Til := n.Til }
def waitsN (n : Nbr) : Bool := decide (n.State = 3) || (decide (n.State = 4) && n.Master) || decide (n.State = 5)
def settleN (n : Nbr) (now : Int) : Nbr := if waitsN n = true then { n with Rsd := now + 5 } else if n.Una = [] then { n with Rsd := 0 } else n
def pendN (n : Nbr) (self : Int) : Pkt :=
 if n.State = 3 then { pkt0 with Kind := 2, Router := self, Seq := n.Seq, Init := true, More := true, Master := true }
 else { pkt0 with Kind := 2, Router := self, Seq := n.Seq, Heads := n.Sent, More := decide (0 < n.Lst.length), Master := n.Master }
def reqN (n : Nbr) (self : Int) : Pkt := { pkt0 with Kind := 3, Router := self, Keys := (n.Req.take 16).map keyH }
def startN (n : Nbr) (now : Int) : Nbr := { plainN n with State := 3, Master := true, Seq := (if 0 < now then now else 0) % 1073741824, Rsd := now + 5 }
def batchN (n : Nbr) : Nbr := { n with Sent := n.Lst.take 16, Lst := n.Lst.drop 16 }
end Go.Proofs.Ytfngaildaoahpaa

/- The start of an exchange. -/
namespace Go.Proofs.Ytfngaildaoahpaa
open Go Go.Am
def firstN (n : Nbr) (self : Int) : Pkt := { pkt0 with Kind := 2, Router := self, Seq := n.Seq, Init := true, More := true, Master := true }
set_option maxHeartbeats 2000000 in
set_option maxRecDepth 10000 in
theorem x35s (r a p d bd til seq rsd self : Int) : CFun Try.prog 35 [.agg [.int .u32 r, .int .u32 a, .int .i64 p, .int .u32 d, .int .u32 bd, .int .i64 3, .int .i64 til, .bool true, .int .i64 seq, .sl 0 [] .full, .sl 0 [] .full, .bool false, .sl 0 [] .full, .sl 0 [] .full, .int .i64 rsd], .int .u32 self] []
   (encPk { pkt0 with Kind := 2, Router := self, Seq := seq, Init := true, More := true, Master := true }) [] := by
 refine CFun.intro (tr := [900001000017, 900002000017, 3500017]) (fz := []) (n := 30) (rs := [.cell 4 34]) Try.func35 rfl (by kernel_rfl) rfl rfl mixed (by kernel_rfl) (by simp) (by simp) ?_
 simp [pkt0, hel0]
theorem startN_seq (now : Int) : (if now < 0 then 0 else now).tmod 1073741824 = (if 0 < now then now else 0) % 1073741824 := by
 rw [Int.tmod_eq_emod_of_nonneg (by split <;> omega)]
 congr 1
 split <;> split <;> omega
set_option maxHeartbeats 4000000 in
set_option maxRecDepth 10000 in
theorem x10 (n : Nbr) (self now : Int) (hw : inI (now + 5)) : CFun Try.prog 10 [encN n, .int .u32 self, .int .i64 now] [] (.tup [encN (startN n now), encPk (firstN (startN n now) self)]) [] := by
 refine CFun.intro (tr := []) (fz := []) (n := 34) (rs := [.cell 6 26, .cell 7 34]) Try.func10 rfl (by kernel_rfl) rfl rfl mixed (by kernel_rfl) (by simp) (by simp) ?_
 have w1 : IntKind.i64.wrap (now + 5) = now + 5 := wrap_in hw
 have e2 := startN_seq now
 have h1 := fun r a p d bd til seq rsd H => (x35s r a p d bd til seq rsd self).up' H rfl rfl
 simp [w1, e2]
 refine ⟨_, _, .inl (by simpa using h1 _ _ _ _ _ _ _ _ _), by simp, ?_⟩
 simp [startN, plainN, nbr0, firstN, pkt0, hel0]
end Go.Proofs.Ytfngaildaoahpaa

namespace Go.Proofs.Ytfngaildaoahpaa
open Go Go.Am
end Go.Proofs.Ytfngaildaoahpaa

/- What a neighbor brings as an argument; the law ExchangeStarts. -/
namespace Go.Proofs.Ytfngaildaoahpaa
open Go Go.Am
structure okN (n : Nbr) : Prop where
  router : inW n.Router
  seq : inI n.Seq
  lst : n.Lst.length * 56 ≤ 140737488351232
  sent : n.Sent.length * 56 ≤ 140737488351232
  req : n.Req.length * 56 ≤ 140737488351232
  una : n.Una.length * 56 ≤ 140737488351232
  hlst : ∀ h ∈ n.Lst, okH h
  hsent : ∀ h ∈ n.Sent, okH h
  hreq : ∀ h ∈ n.Req, okH h
  huna : ∀ h ∈ n.Una, okH h
end Go.Proofs.Ytfngaildaoahpaa

/- Headers in the order of their keys: what was shown of advertisements, shown of headers. -/
namespace Go.Proofs.Ytfngaildaoahpaa
open Go Go.Am
def ascH (db : List Hdr) : Prop := db.Pairwise fun x y => ltY (keyH x) (keyH y)
def posH (db : List Hdr) (k : LKey) : Nat := posF (fun x => !decide (ltY (keyH x) k)) db
def fndH (db : List Hdr) (k : LKey) : Bool := match db[posH db k]? with
 | some x => decide (keyH x = k)
 | none => false
def putRH (db : List Hdr) (l : Hdr) : List Hdr := if fndH db (keyH l) = true then db.set (posH db (keyH l)) l else insL db (posH db (keyH l)) l
def putH (l : Hdr) : List Hdr → List Hdr
 | [] => [l]
 | x :: xs => if ltY (keyH l) (keyH x) then l :: x :: xs else if keyH l = keyH x then l :: xs else x :: putH l xs
theorem putH_R (l : Hdr) : ∀ {db : List Hdr}, ascH db → putRH db l = putH l db := by
 intro db
 induction db with
 | nil => intro _; rfl
 | cons x xs ih =>
   intro h
   simp only [ascH, List.pairwise_cons] at h
   simp only [putH]
   unfold putRH fndH posH
   rw [posF_cons]
   rcases ltY_tri (keyH l) (keyH x) with h1 | h1 | h1
   · have h2 := ltY_asymm h1
     have h3 : ¬ keyH x = keyH l := fun e => ltY_ne h1 e.symm
     simp [h1, h2, h3, insL]
   · simp [h1, ltY_irrefl]
   · have h2 := ltY_asymm h1
     have h3 : ¬ keyH l = keyH x := fun e => ltY_ne h1 e.symm
     rw [if_neg h2, if_neg h3, ← ih h.2]
     unfold putRH fndH posH
     simp [h1, insL]
     split
     · split <;> rfl
     · rfl
theorem putH_mem {l : Hdr} : ∀ {db : List Hdr}, ascH db → ∀ y, y ∈ putH l db ↔ y = l ∨ (y ∈ db ∧ keyH y ≠ keyH l) := by
 intro db
 induction db with
 | nil => intro _ y; simp [putH]
 | cons x xs ih =>
   intro h y
   simp only [ascH, List.pairwise_cons] at h
   simp only [putH]
   split
   · rename_i h1
     have hx : ∀ z ∈ x :: xs, keyH z ≠ keyH l := by
       intro z hz
       rcases List.mem_cons.1 hz with rfl | hz
       · exact fun e => ltY_ne h1 e.symm
       · exact fun e => ltY_ne (ltY_trans h1 (h.1 z hz)) e.symm
     constructor
     · intro hy
       rcases List.mem_cons.1 hy with rfl | hy
       · exact .inl rfl
       · exact .inr ⟨hy, hx y hy⟩
     · rintro (rfl | ⟨hy, _⟩)
       · simp
       · exact List.mem_cons_of_mem _ hy
   · split
     · rename_i h1 h2
       constructor
       · intro hy
         rcases List.mem_cons.1 hy with rfl | hy
         · exact .inl rfl
         · exact .inr ⟨List.mem_cons_of_mem _ hy, by rw [h2]; exact fun e => ltY_ne (h.1 y hy) e.symm⟩
       · rintro (rfl | ⟨hy, hk⟩)
         · simp
         · rcases List.mem_cons.1 hy with rfl | hy
           · exact (hk h2.symm).elim
           · exact List.mem_cons_of_mem _ hy
     · rename_i h1 h2
       rw [List.mem_cons, ih h.2]
       constructor
       · rintro (rfl | rfl | ⟨hy, hk⟩)
         · exact .inr ⟨by simp, fun e => h2 e.symm⟩
         · exact .inl rfl
         · exact .inr ⟨List.mem_cons_of_mem _ hy, hk⟩
       · rintro (rfl | ⟨hy, hk⟩)
         · exact .inr (.inl rfl)
         · rcases List.mem_cons.1 hy with rfl | hy
           · exact .inl rfl
           · exact .inr (.inr ⟨hy, hk⟩)
theorem putH_asc {l : Hdr} : ∀ {db : List Hdr}, ascH db → ascH (putH l db) := by
 intro db
 induction db with
 | nil => intro _; simp [putH, ascH]
 | cons x xs ih =>
   intro h
   have h0 := h
   simp only [ascH, List.pairwise_cons] at h
   simp only [putH]
   split
   · rename_i h1
     simp only [ascH]
     rw [List.pairwise_cons]
     refine ⟨fun z hz => ?_, h0⟩
     rcases List.mem_cons.1 hz with rfl | hz
     · exact h1
     · exact ltY_trans h1 (h.1 z hz)
   · split
     · rename_i h1 h2
       simp only [ascH]
       rw [List.pairwise_cons]
       exact ⟨fun z hz => by rw [h2]; exact h.1 z hz, h.2⟩
     · rename_i h1 h2
       simp only [ascH]
       rw [List.pairwise_cons]
       refine ⟨fun z hz => ?_, ih h.2⟩
       rcases (putH_mem h.2 z).1 hz with rfl | ⟨hz, _⟩
       · rcases ltY_tri (keyH z) (keyH x) with k | k | k
         · exact (h1 k).elim
         · exact (h2 k).elim
         · exact k
       · exact h.1 z hz
theorem putH_len {l : Hdr} : ∀ {db : List Hdr}, ascH db → (putH l db).length = db.length + if fndH db (keyH l) = true then 0 else 1 := by
 intro db h
 rw [← putH_R l h]
 unfold putRH
 split
 · simp
 · exact insL_len (posF_le _ _)
end Go.Proofs.Ytfngaildaoahpaa

/- The exchange of databases: rows in order, searches. -/
namespace Go.Proofs.Ytfngaildaoahpaa
open Go Go.Am
end Go.Proofs.Ytfngaildaoahpaa
