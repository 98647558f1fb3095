import Derived.Test.YtfngaildaoahpaaXE17
import Derived.Test.YtfngaildaoahpaaXE1
set_option linter.unusedSimpArgs false
set_option linter.unusedVariables false
namespace Go.Proofs.Ytfngaildaoahpaa
open Go Go.Am

theorem okL_of {l : Lsa} (h : okD l) : okL l := ⟨h.2.1, h.2.2⟩
theorem okP_of {l : Lsa} (h : okD l) : okP l := by
  obtain ⟨_, a, b⟩ := h
  exact ⟨by omega, by omega⟩
/-! What the example of the document brings. -/
def lz : Lsa := ⟨⟨3, 167772160, 8, 1, 4, 3500, 0⟩, false, false, [], [], 7, false, 0, 0⟩
theorem lz_ok : okA lz := by simp [okA, okH, lz, inI, inW]
theorem lz_chk : chkA lz = 0 := by decide +kernel
theorem lz_seal : ∃ b : Lsa, sealL lz = (b, 0) ∧ sealE b = 0 ∧ okA b ∧ okL b ∧ b.H.Age = 3500 := by
  obtain ⟨h1, h2, h3⟩ := sealed_seal lz_ok lz_chk
  exact ⟨sealA lz, by simp [sealL, lz_chk], sealE_of h2 h3, h1, by simp [okL, sealA, lz], rfl⟩
theorem put0 {b : Lsa} (h : sealE b = 0) : putD [] b = ([b], 0) := by
  simp [putD, h, putR, fndD, posD, posF, insL]
-- routinglaw25.lives
theorem put_mem {db : List Lsa} {l x : Lsa} (h : x ∈ (putD db l).1) : x = l ∨ x ∈ db := by
  unfold putD at h
  split at h
  · cases h
  · split at h
    · cases h
    · simp only [putR] at h
      split at h
      · rcases List.mem_or_eq_of_mem_set h with h | h
        · exact .inr h
        · exact .inl h
      · simp only [insL, List.mem_append, List.mem_cons] at h
        rcases h with h | h | h
        · exact .inr (List.mem_of_mem_take h)
        · exact .inl h
        · exact .inr (List.mem_of_mem_drop h)
theorem put_len (db : List Lsa) (l : Lsa) : (putD db l).1.length ≤ db.length + 1 := by
  unfold putD
  split
  · simp
  · split
    · simp
    · simp only [putR]
      split
      · simp
      · exact Nat.le_of_eq (insL_len (pos_le db (keyA l)))
-- LsdbPuts
end Go.Proofs.Ytfngaildaoahpaa

namespace Go.Proofs.Ytfngaildaoahpaa
open Go Go.Am

theorem get_in {db : List Lsa} {q : Lsa → Prop} (h0 : q lsa0) (h : ∀ x ∈ db, q x) (k : LKey) : q (getD_ db k).1 := by
  unfold getD_
  split
  · rename_i l hl
    exact h l (List.mem_of_find?_eq_some hl)
  · exact h0
theorem okP0 : okP lsa0 := by simp [okP, lsa0]
-- LsdbAsks
theorem put_err {db : List Lsa} {l : Lsa} (h : (putD db l).2 ≠ 0) : (putD db l).1 = [] := by
  unfold putD at h ⊢
  split
  · rfl
  · rename_i h1
    rw [if_neg h1] at h
    split
    · rfl
    · rename_i h2
      rw [if_neg h2] at h
      exact (h rfl).elim
theorem put_ok {db : List Lsa} {l : Lsa} (hs : asc db) (h : (putD db l).2 = 0) : (putD db l).1 = putW l db ∧ sealE l = 0 ∧ (fndD db (keyA l) = true ∨ db.length < 2000) := by
  unfold putD at h ⊢
  split at h
  · rename_i h1; exact (h1 h).elim
  · rename_i h1
    rw [if_neg h1]
    split at h
    · cases h
    · rename_i h2
      rw [if_neg h2]
      refine ⟨putW_R l hs, Decidable.not_not.1 h1, ?_⟩
      cases hf : fndD db (keyA l)
      · right
        have := not_and.1 h2 hf
        omega
      · exact .inl rfl
theorem put_valid {db : List Lsa} {l : Lsa} (hv : chkD db = 0) (h : (putD db l).2 = 0) : chkD (putD db l).1 = 0 := by
  obtain ⟨v1, v2, v3⟩ := chkD_ok hv
  obtain ⟨p1, p2, p3⟩ := put_ok v3 h
  rw [p1]
  refine chkD_of ?_ ?_ (putW_asc v3)
  · rw [putW_len v3]
    split
    · omega
    · rename_i hf
      rcases p3 with p3 | p3
      · exact (hf p3).elim
      · omega
  · intro x hx
    rcases (putW_mem v3 x).1 hx with rfl | ⟨hx, _⟩
    · exact p2
    · exact v2 x hx
theorem get_put {db : List Lsa} {l : Lsa} (hs : asc db) : getD_ (putW l db) (keyA l) = (l, true) := by
  have := (find_mem (putW_asc (l := l) hs) (k := keyA l) (x := l)).2 ⟨(putW_mem hs l).2 (.inl rfl), rfl⟩
  simp [getD_, this]
theorem get_other {db : List Lsa} {l : Lsa} (hs : asc db) {k : LKey} (hk : k ≠ keyA l) : getD_ (putW l db) k = getD_ db k := by
  have : (putW l db).find? (hasK k) = db.find? (hasK k) := by
    cases hf : db.find? (hasK k) with
    | none =>
      have h := find_none.1 hf
      refine find_none.2 fun x hx => ?_
      rcases (putW_mem hs x).1 hx with rfl | ⟨hx, _⟩
      · exact fun e => hk e.symm
      · exact h x hx
    | some y =>
      obtain ⟨hy, ey⟩ := (find_mem hs).1 hf
      exact (find_mem (putW_asc hs)).2 ⟨(putW_mem hs y).2 (.inr ⟨hy, by rw [ey]; exact hk⟩), ey⟩
  simp only [getD_, this]
-- LsdbKeeps
end Go.Proofs.Ytfngaildaoahpaa

namespace Go.Proofs.Ytfngaildaoahpaa
open Go Go.Am

def apart (a b : Lsa) : Prop := ¬ (keyA a = keyA b ∧ a.H.Seq = b.H.Seq)
theorem pw_eq : ∀ {l : List Lsa}, l.Pairwise apart → ∀ {x y : Lsa}, x ∈ l → y ∈ l → keyA x = keyA y → x.H.Seq = y.H.Seq → x = y
  | [], _, _, _, hx, _, _, _ => by cases hx
  | z :: zs, h, x, y, hx, hy, e1, e2 => by
    rw [List.pairwise_cons] at h
    rcases List.mem_cons.1 hx with ex | hx'
    · rcases List.mem_cons.1 hy with ey | hy'
      · rw [ex, ey]
      · exact (h.1 y hy' ⟨by rw [← ex]; exact e1, by rw [← ex]; exact e2⟩).elim
    · rcases List.mem_cons.1 hy with ey | hy'
      · exact (h.1 x hx' ⟨by rw [← ey]; exact e1.symm, by rw [← ey]; exact e2.symm⟩).elim
      · exact pw_eq h.2 hx' hy' e1 e2
def dbs (l : List Lsa) (i : Nat) : List Lsa := (l.take i).foldl stepN []
theorem dbs_next {l : List Lsa} {i : Nat} {x : Lsa} (h : l[i]? = some x) : dbs l (i + 1) = stepN (dbs l i) x := by
  have ht : l.take (i + 1) = l.take i ++ [x] := by rw [List.take_add_one, h]; rfl
  simp only [dbs, ht, List.foldl_append, List.foldl_cons, List.foldl_nil]
theorem seen_dbs {l : List Lsa} (h : l.Pairwise apart) : ∀ i, i ≤ l.length → SeenN (l.take i) (dbs l i) := by
  intro i
  induction i with
  | zero => intro _; exact SeenN.nil
  | succ i ih =>
    intro hi
    obtain ⟨x, hx, _⟩ := get_drop (l := l) (i := i) (by omega)
    have ht : l.take (i + 1) = l.take i ++ [x] := by rw [List.take_add_one, hx]; rfl
    have hp : (l.take i ++ [x]).Pairwise apart := by rw [← ht]; exact h.sublist (List.take_sublist _ _)
    rw [dbs_next hx, ht]
    refine (ih (by omega)).step fun y hy => ?_
    exact (List.pairwise_append.1 hp).2.2 y hy x (by simp)
-- LsdbNewest
end Go.Proofs.Ytfngaildaoahpaa

namespace Go.Proofs.Ytfngaildaoahpaa
open Go Go.Am

/-! What arguments bring. -/
def tyD : Bool × List CTy := (false, [.sl true 136 csA])
def tyK : Bool × List CTy := (false, [.int .u32])
theorem rd_AD {x : AVal} (h : RdA tyA x) : ∃ l : Lsa, x = encA l ∧ okD l := by
  obtain ⟨cs, h1, h2⟩ := h
  have h3 : Rds (csA ++ []) cs := by rw [List.append_nil]; exact h2
  obtain ⟨l, r, rfl, ok, k⟩ := dec_A h3
  obtain rfl := Rds_nil k
  refine ⟨l, ?_, ok⟩
  rw [if_pos (show tyA.1 = true from rfl), List.append_nil] at h1
  exact h1
theorem rd_D {x : AVal} (h : RdA tyD x) : ∃ l : List Lsa, x = .sl 15 (l.map encA) .sh ∧ (∀ a ∈ l, okD a) ∧ l.length * 136 ≤ 140737488351232 := by
  obtain ⟨cs, h1, h2⟩ := h
  obtain ⟨l, r, rfl, k, z⟩ := Rds_sl (enc := fun x : { x : Lsa // okD x } => encA x.1) h2 (fun y cs e h => by
    obtain ⟨a, ha, oka⟩ := rd_AD (x := y) ⟨cs, e, h⟩
    exact ⟨⟨a, oka⟩, ha⟩)
  obtain rfl := Rds_nil k
  simp [tyD] at h1
  refine ⟨l.map (·.1), ?_, fun a ha => ?_, by simpa [reachBytes] using z⟩
  · rw [← h1]
    simp [csA, csH, Function.comp_def]
  · obtain ⟨y, _, rfl⟩ := List.mem_map.1 ha
    exact y.2
theorem rd_k {x : AVal} (h : RdA tyK x) : ∃ n : Int, x = .int .u32 n ∧ inW n := by
  obtain ⟨cs, h1, h⟩ := h
  obtain ⟨a1, r, rfl, h, w1⟩ := Rds_int h
  obtain rfl := Rds_nil h
  simp [tyK] at h1
  exact ⟨a1, h1.symm, wf_u32 w1⟩
end Go.Proofs.Ytfngaildaoahpaa

namespace Go.Proofs.Ytfngaildaoahpaa
end Go.Proofs.Ytfngaildaoahpaa

namespace Go.Proofs.Ytfngaildaoahpaa
open Go Go.Am

/-! Packets. -/
structure Hel where
  Len : Int
  Hello : Int
  Dead : Int
  Pri : Int
  DR : Int
  BDR : Int
  Seen : List Int
  deriving DecidableEq
@[simp] def cellsE (h : Hel) : List AVal := [.int .i64 h.Len, .int .i64 h.Hello, .int .i64 h.Dead, .int .i64 h.Pri, .int .u32 h.DR, .int .u32 h.BDR, .sl 1 (h.Seen.map enc32) .sh]
@[simp] def encE (h : Hel) : AVal := .agg (cellsE h)
structure Pkt where
  Kind : Int
  Router : Int
  Area : Int
  Addr : Int
  E : Hel
  Seq : Int
  Init : Bool
  More : Bool
  Master : Bool
  Heads : List Hdr
  Keys : List LKey
  Lsas : List Lsa
  deriving DecidableEq
@[simp] def cellsPk (p : Pkt) : List AVal := [.int .i64 p.Kind, .int .u32 p.Router, .int .u32 p.Area, .int .u32 p.Addr,
  .int .i64 p.E.Len, .int .i64 p.E.Hello, .int .i64 p.E.Dead, .int .i64 p.E.Pri, .int .u32 p.E.DR, .int .u32 p.E.BDR, .sl 1 (p.E.Seen.map enc32) .sh,
  .int .i64 p.Seq, .bool p.Init, .bool p.More, .bool p.Master, .sl 7 (p.Heads.map encH) .sh, .sl 4 (p.Keys.map encY) .sh, .sl 15 (p.Lsas.map encA) .sh]
@[simp] def encPk (p : Pkt) : AVal := .agg (cellsPk p)
def hel0 : Hel := ⟨0, 0, 0, 0, 0, 0, []⟩
def pkt0 : Pkt := ⟨0, 0, 0, 0, hel0, 0, false, false, false, [], [], []⟩
/-- The first error of rows of any kind. -/
def rowsG {α : Type} (chk : α → Int) (key : α → LKey) : Option α → List α → Int
  | _, [] => 0
  | p, x :: xs => if chk x ≠ 0 then chk x else if (match p with | some y => decide (0 ≤ cmpY (key y) (key x)) | none => false) = true then 16 else rowsG chk key (some x) xs
def listG {α : Type} (chk : α → Int) (key : α → LKey) (l : List α) : Int := if 64 < l.length then 4 else rowsG chk key none l
def prevG {α : Type} (l : List α) : Nat → Option α
  | 0 => none
  | i + 1 => l[i]?
theorem rowsG_E : ∀ (l : List Lsa) (p : Option Lsa), rowsG sealE keyA p l = rowsE p l
  | [], p => by cases p <;> rfl
  | x :: xs, p => by
    cases p <;> simp only [rowsG, rowsE, rowsG_E xs (some x)]
def chkY (k : LKey) : Int := if inR k.Ty 1 5 = false then 15 else if k.Router = 0 ∨ inR k.Len 0 32 = false then 5 else 0
def seenE : Int → List Int → Int
  | _, [] => 0
  | z, x :: xs => if x ≤ z then 16 else seenE x xs
def chkE (h : Hel) : Int := if inR h.Len 0 32 = false ∨ inR h.Hello 1 65535 = false ∨ inR h.Dead 1 65535 = false ∨ inR h.Pri 0 255 = false then 5 else if 64 < h.Seen.length then 4 else seenE 0 h.Seen
def forP (p : Pkt) : Bool :=
  (decide (p.Kind ≠ 1) && !decide (p.E = hel0)) || (decide (p.Kind ≠ 2) && (decide (p.Seq ≠ 0) || p.Init || p.More || p.Master)) || (decide (p.Kind ≠ 3) && !decide (p.Keys = [])) || (decide (p.Kind ≠ 4) && !decide (p.Lsas = [])) ||
  (decide (p.Kind ≠ 2) && decide (p.Kind ≠ 5) && !decide (p.Heads = []))
def chkP (p : Pkt) : Int :=
  if inR p.Kind 1 5 = false then 15 else if p.Router = 0 then 5 else if forP p = true then 1
  else if p.Kind = 1 then chkE p.E else if p.Kind = 3 then listG chkY id p.Keys else if p.Kind = 4 then listG sealE keyA p.Lsas
  else if p.Kind = 2 ∧ inR p.Seq 0 2147483647 = false then 5 else listG chkH keyH p.Heads
end Go.Proofs.Ytfngaildaoahpaa
