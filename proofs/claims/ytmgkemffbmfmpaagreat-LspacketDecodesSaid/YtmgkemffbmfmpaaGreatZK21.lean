/- Packets as texts: what a packet's body is read from, and what it is printed as. -/
import Derived.Test.YtmgkemffbmfmpaaGreatZKP1
set_option linter.unusedSimpArgs false
set_option linter.unusedVariables false
namespace Go.Proofs.YtmgkemffbmfmpaaGreat
open Go Go.Am

def nxI (n : Nat) : Sr → Int × Sr := mapP I64 (nx n)
def nxW : Sr → Int × Sr := mapP W32 (nx 4)
theorem I64_id {x : Int} (h : 0 ≤ x ∧ x < 4294967296) : I64 x = x := wrap_i x (by omega) (by omega)
theorem W32_id {x : Int} (h : 0 ≤ x ∧ x < 4294967296) : W32 x = x := u32_id h
theorem nxI_prs (n : Nat) (hn : n ≤ 4) : Prs (nxI n) (fun x => numB n (U x)) (fun x => 0 ≤ x ∧ x < 256 ^ n) := by
  have hp : (256 : Int) ^ n ≤ 4294967296 := by
    have : n = 0 ∨ n = 1 ∨ n = 2 ∨ n = 3 ∨ n = 4 := by omega
    rcases this with rfl | rfl | rfl | rfl | rfl <;> decide
  refine (nx_prs n).iso I64 _ _ id (fun x hx => ?_) (fun y hy => ?_)
  · rw [I64_id (by omega), u64_id (by omega)]; exact ⟨rfl, hx⟩
  · exact ⟨I64_id (by simp only [id]; omega), hy⟩
theorem nxW_prs : Prs nxW seenB inW := by
  refine (nx_prs 4).iso W32 _ _ id (fun x hx => ?_) (fun y hy => ?_)
  · have hx' : 0 ≤ x ∧ x < 4294967296 := hx
    rw [W32_id hx', seenB, u64_id (by omega)]; exact ⟨rfl, by unfold inW; omega⟩
  · unfold inW at hy
    exact ⟨W32_id (by simp only [id]; omega), by simp only [id]; exact ⟨hy.1, by omega⟩⟩

def hdr0 : Hdr := ⟨0, 0, 0, 0, 0, 0, 0⟩
def hdP (s : Sr) : Hdr × Sr := if s.2 ≠ 0 then (hdr0, s) else if (decH s.1).2 ≠ 0 then ((decH s.1).1, (s.1, (decH s.1).2)) else ((decH s.1).1, (s.1.drop 18, 0))
def lsP (s : Sr) : Lsa × Sr := if s.2 ≠ 0 then (lsa0, s) else ((decL s.1).1, (s.1.drop (decL s.1).2.1, (decL s.1).2.2))
theorem decH_ok {b : List Int} (h : (decH b).2 = 0) : 18 ≤ b.length ∧ chkH (hdrAt b) = 0 ∧ decH b = (hdrAt b, 0) := by
  unfold decH at h ⊢
  by_cases e1 : b.length < 18
  · rw [if_pos e1] at h; simp at h
  rw [if_neg e1] at h ⊢
  by_cases e2 : chkH (hdrAt b) = 0
  · rw [if_neg (by simp [e2])]; exact ⟨by omega, e2, rfl⟩
  · rw [if_pos e2] at h; exact (e2 h).elim
def okHr (h : Hdr) : Prop := chkH h = 0 ∧ inW h.ID ∧ inW h.Router
theorem hdP_prs : Prs hdP hdrB okHr := by
  constructor
  · intro s h
    unfold hdP at h
    by_cases e : s.2 = 0
    · exact e
    · rw [if_pos e] at h; exact h
  · intro s h
    unfold hdP
    repeat' split
    · exact h
    · exact h
    · exact isB_drop h 18
  · intro r hb h
    unfold hdP at h ⊢
    simp only [ne_eq, not_true_eq_false, if_false] at h ⊢
    by_cases e : (decH r).2 = 0
    · rw [if_neg (by simp [e])]
      obtain ⟨h1, h2, h3⟩ := decH_ok e
      rw [h3]
      simp only
      refine ⟨?_, h2, hdrAt_W r, (okH_hdrAt r).2.2.2.1⟩
      rw [hdrB_hdrAt hb h1, List.take_append_drop]
    · rw [if_pos e] at h; exact (e h).elim
  · rintro x rest ⟨h1, h2, h3⟩
    unfold hdP
    simp only [ne_eq, not_true_eq_false, if_false]
    rw [decH_hdrB h1 h2 h3 rest]
    simp only [not_true_eq_false, if_false]
    rw [List.drop_append_of_le_length (by simp [hdrB_len]), List.drop_of_length_le (by simp [hdrB_len]), List.nil_append]
theorem sealE_iff (l : Lsa) : sealE l = 0 ↔ chkA l = 0 ∧ l.H.Sum = sumA l := by
  unfold sealE
  by_cases h : chkA l = 0
  · by_cases h2 : l.H.Sum = sumA l <;> simp [h, h2]
  · simp [h]
theorem lsP_prs : Prs lsP bytesA (fun l => okA l ∧ sealE l = 0) := by
  constructor
  · intro s h
    unfold lsP at h
    by_cases e : s.2 = 0
    · exact e
    · rw [if_pos e] at h; exact h
  · intro s h
    unfold lsP
    split
    · exact h
    · exact isB_drop h _
  · intro r hb h
    unfold lsP at h ⊢
    simp only [ne_eq, not_true_eq_false, if_false] at h ⊢
    obtain ⟨h1, h2, h3, h4, h5, h6, h7⟩ := decL_ok hb h
    have hd := bytesA_dec hb h
    rw [h7]
    simp only
    refine ⟨?_, okA_bodyR (okH_hdrAt r) (isB_bodyAt hb), (sealE_iff _).2 ⟨h5, h6⟩⟩
    rw [hd, List.take_append_drop]
  · rintro x rest ⟨h1, h2⟩
    obtain ⟨h3, h4⟩ := (sealE_iff x).1 h2
    unfold lsP
    simp only [ne_eq, not_true_eq_false, if_false]
    rw [decL_bytesA h1 h3 h4 rest]
    simp only
    rw [List.drop_append_of_le_length (Nat.le_refl _), List.drop_of_length_le (Nat.le_refl _), List.nil_append]

def kyP : Sr → LKey × Sr := mapP (fun x => ⟨x.1, x.2.1, x.2.2.1, x.2.2.2⟩) (andP (nxI 1) (andP nxW (andP (nxI 1) nxW)))
def okYr (k : LKey) : Prop := (0 ≤ k.Ty ∧ k.Ty < 256) ∧ inW k.ID ∧ (0 ≤ k.Len ∧ k.Len < 256) ∧ inW k.Router
theorem kyP_prs : Prs kyP keyBt okYr := by
  refine ((nxI_prs 1 (by omega)).pair (nxW_prs.pair ((nxI_prs 1 (by omega)).pair nxW_prs))).iso _ _ _ (fun k => (k.Ty, k.ID, k.Len, k.Router)) ?_ ?_
  · rintro ⟨a, b, c, d⟩ ⟨h1, h2, h3, h4⟩
    exact ⟨by simp [keyBt, seenB], h1, h2, h3, h4⟩
  · rintro ⟨a, b, c, d⟩ ⟨h1, h2, h3, h4⟩
    exact ⟨rfl, h1, h2, h3, h4⟩

def helP : Sr → Hel × Sr := mapP (fun x => ⟨x.1, x.2.1, x.2.2.1, x.2.2.2.1, x.2.2.2.2.1, x.2.2.2.2.2.1, x.2.2.2.2.2.2⟩)
  (andP (nxI 1) (andP (nxI 2) (andP (nxI 2) (andP (nxI 1) (andP nxW (andP nxW (manyP nxW)))))))
def okEr (h : Hel) : Prop := (0 ≤ h.Len ∧ h.Len < 256) ∧ (0 ≤ h.Hello ∧ h.Hello < 65536) ∧ (0 ≤ h.Dead ∧ h.Dead < 65536) ∧ (0 ≤ h.Pri ∧ h.Pri < 256) ∧ inW h.DR ∧ inW h.BDR ∧ h.Seen.length < 256 ∧ ∀ x ∈ h.Seen, inW x
theorem helP_prs : Prs helP (fun h => helB h ++ (h.Seen.map seenB).flatten) okEr := by
  have n1 := nxI_prs 1 (by omega)
  have n2 := nxI_prs 2 (by omega)
  refine (n1.pair (n2.pair (n2.pair (n1.pair (nxW_prs.pair (nxW_prs.pair nxW_prs.many)))))).iso _ _ _ (fun h => (h.Len, h.Hello, h.Dead, h.Pri, h.DR, h.BDR, h.Seen)) ?_ ?_
  · rintro ⟨a, b, c, d, e, f, g⟩ ⟨h1, h2, h3, h4, h5, h6, h7, h8⟩
    exact ⟨by simp [helB, seenB], h1, h2, h3, h4, h5, h6, h7, h8⟩
  · rintro ⟨a, b, c, d, e, f, g⟩ ⟨h1, h2, h3, h4, h5, h6, h7, h8⟩
    exact ⟨rfl, h1, h2, h3, h4, h5, h6, h7, h8⟩

def bits3 (x : Int) : Bool × Bool × Bool := (decide (x % 2 = 1), decide (x / 2 % 2 = 1), decide (x / 4 % 2 = 1))
def flP (s : Sr) : (Bool × Bool × Bool) × Sr := (bits3 (nx 1 s).1, if 7 < (nx 1 s).1 then ((nx 1 s).2.1, 2) else (nx 1 s).2)
def flB (x : Bool × Bool × Bool) : Int := bitP x.1 1 + bitP x.2.1 2 + bitP x.2.2 4
theorem flP_prs : Prs flP (fun x => numB 1 (flB x)) (fun _ => True) := by
  have h1 := nx_prs 1
  constructor
  · intro s h
    unfold flP at h
    simp only at h
    split at h
    · simp at h
    · exact h1.err s h
  · intro s h
    unfold flP
    simp only
    split
    · exact h1.isb s h
    · exact h1.isb s h
  · intro r hb h
    unfold flP at h ⊢
    simp only at h ⊢
    by_cases e : 7 < (nx 1 (r, 0)).1
    · rw [if_pos e] at h; simp at h
    · rw [if_neg e] at h ⊢
      obtain ⟨b1, b2⟩ := h1.back r hb h
      refine ⟨?_, trivial⟩
      have : flB (bits3 (nx 1 (r, 0)).1) = (nx 1 (r, 0)).1 := by
        generalize (nx 1 (r, 0)).1 = v at b2 e
        have : v = 0 ∨ v = 1 ∨ v = 2 ∨ v = 3 ∨ v = 4 ∨ v = 5 ∨ v = 6 ∨ v = 7 := by omega
        rcases this with rfl | rfl | rfl | rfl | rfl | rfl | rfl | rfl <;> decide
      rw [this]
      exact b1
  · rintro ⟨a, b, c⟩ rest _
    have e : 0 ≤ flB (a, b, c) ∧ flB (a, b, c) ≤ 7 ∧ bits3 (flB (a, b, c)) = (a, b, c) := by cases a <;> cases b <;> cases c <;> decide
    unfold flP
    rw [h1.fwd _ rest ⟨e.1, by omega⟩]
    simp only
    rw [if_neg (by omega), e.2.2]

def dbP : Sr → (Int × (Bool × Bool × Bool) × List Hdr) × Sr := andP (nxI 4) (andP flP (manyP hdP))
theorem dbP_prs : Prs dbP (fun x => numB 4 (U x.1) ++ (numB 1 (flB x.2.1) ++ headsB x.2.2)) (fun x => (0 ≤ x.1 ∧ x.1 < 4294967296) ∧ True ∧ x.2.2.length < 256 ∧ ∀ h ∈ x.2.2, okHr h) :=
  (nxI_prs 4 (by omega)).pair (flP_prs.pair hdP_prs.many)

/-- A packet's body is read into it. -/
def rdP (p : Pkt) (s : Sr) : Pkt × Sr :=
  if p.Kind = 1 then ({ p with E := (helP s).1 }, (helP s).2)
  else if p.Kind = 2 then ({ p with Seq := (dbP s).1.1, Init := (dbP s).1.2.1.1, More := (dbP s).1.2.1.2.1, Master := (dbP s).1.2.1.2.2, Heads := (dbP s).1.2.2 }, (dbP s).2)
  else if p.Kind = 3 then ({ p with Keys := (manyP kyP s).1 }, (manyP kyP s).2)
  else if p.Kind = 4 then ({ p with Lsas := (manyP lsP s).1 }, (manyP lsP s).2)
  else ({ p with Heads := (manyP hdP s).1 }, (manyP hdP s).2)
def pkA (k r a d : Int) : Pkt := { pkt0 with Kind := k, Router := r, Area := a, Addr := d }
theorem rdP_isb {p : Pkt} {s : Sr} (h : isB s.1) : isB (rdP p s).2.1 := by
  unfold rdP
  repeat' split
  · exact helP_prs.isb s h
  · exact dbP_prs.isb s h
  · exact kyP_prs.many.isb s h
  · exact lsP_prs.many.isb s h
  · exact hdP_prs.many.isb s h
theorem rdP_back {k r a d : Int} {b : List Int} (hb : isB b) (h : (rdP (pkA k r a d) (b, 0)).2.2 = 0) : b = bodyP (rdP (pkA k r a d) (b, 0)).1 ++ (rdP (pkA k r a d) (b, 0)).2.1 ∧
    (rdP (pkA k r a d) (b, 0)).1.Kind = k ∧ (rdP (pkA k r a d) (b, 0)).1.Router = r ∧ (rdP (pkA k r a d) (b, 0)).1.Area = a ∧ (rdP (pkA k r a d) (b, 0)).1.Addr = d := by
  unfold rdP at h ⊢
  by_cases h1 : k = 1
  · subst h1
    have := (helP_prs.back b hb h).1
    exact ⟨this, rfl, rfl, rfl, rfl⟩
  by_cases h2 : k = 2
  · subst h2
    have e : (pkA 2 r a d).Kind = 2 := rfl
    rw [if_neg (by rw [e]; decide), if_pos e] at h ⊢
    have := (dbP_prs.back b hb h).1
    refine ⟨?_, rfl, rfl, rfl, rfl⟩
    simpa [bodyP, pkA, flB, flagsP] using this
  have e : (pkA k r a d).Kind = k := rfl
  rw [if_neg (by rw [e]; exact h1), if_neg (by rw [e]; exact h2)] at h ⊢
  by_cases h3 : k = 3
  · subst h3
    have := (kyP_prs.many.back b hb h).1
    exact ⟨this, rfl, rfl, rfl, rfl⟩
  rw [if_neg (by rw [e]; exact h3)] at h ⊢
  by_cases h4 : k = 4
  · subst h4
    have := (lsP_prs.many.back b hb h).1
    exact ⟨this, rfl, rfl, rfl, rfl⟩
  rw [if_neg (by rw [e]; exact h4)] at h ⊢
  have := (hdP_prs.many.back b hb h).1
  refine ⟨?_, rfl, rfl, rfl, rfl⟩
  simpa [bodyP, pkA, h1, h2, h3, h4, headsB] using this
end Go.Proofs.YtmgkemffbmfmpaaGreat

/- Packets as texts: a packet is read from its print, and what is read is printed as what was read; damage is noticed. -/
namespace Go.Proofs.YtmgkemffbmfmpaaGreat
open Go Go.Am

theorem forP_fields {p : Pkt} (h : forP p = false) : (p.Kind ≠ 1 → p.E = hel0) ∧ (p.Kind ≠ 2 → p.Seq = 0 ∧ p.Init = false ∧ p.More = false ∧ p.Master = false) ∧ (p.Kind ≠ 3 → p.Keys = []) ∧ (p.Kind ≠ 4 → p.Lsas = []) ∧
    (p.Kind ≠ 2 → p.Kind ≠ 5 → p.Heads = []) := by
  simp only [forP, Bool.or_eq_false_iff, Bool.and_eq_false_iff, Bool.not_eq_false', decide_eq_false_iff_not, decide_eq_true_eq, ne_eq, Decidable.not_not] at h
  obtain ⟨⟨⟨⟨h1, h2⟩, h3⟩, h4⟩, h5⟩ := h
  refine ⟨fun k => ?_, fun k => ?_, fun k => ?_, fun k => ?_, fun k k' => ?_⟩
  · rcases h1 with h1 | h1
    · exact (k h1).elim
    · exact h1
  · rcases h2 with h2 | h2
    · exact (k h2).elim
    · exact ⟨h2.1.1.1, h2.1.1.2, h2.1.2, h2.2⟩
  · rcases h3 with h3 | h3
    · exact (k h3).elim
    · exact h3
  · rcases h4 with h4 | h4
    · exact (k h4).elim
    · exact h4
  · rcases h5 with (h5 | h5) | h5
    · exact (k h5).elim
    · exact (k' h5).elim
    · exact h5
theorem rowsG_all {α : Type} {chk : α → Int} {key : α → LKey} : ∀ {l : List α} {p : Option α}, rowsG chk key p l = 0 → ∀ x ∈ l, chk x = 0
  | [], _, _ => by simp
  | x :: xs, p, h => by
    unfold rowsG at h
    by_cases e : chk x = 0
    case neg => rw [if_pos e] at h; exact (e h).elim
    rw [if_neg (by simp [e])] at h
    have h' : rowsG chk key (some x) xs = 0 := by
      cases p with
      | none => simpa using h
      | some z =>
        simp only [decide_eq_true_eq] at h
        split at h
        · simp at h
        · exact h
    intro y hy
    rcases List.mem_cons.1 hy with rfl | hy
    · exact e
    · exact rowsG_all h' y hy
theorem listG_all {α : Type} {chk : α → Int} {key : α → LKey} {l : List α} (h : listG chk key l = 0) : l.length ≤ 64 ∧ ∀ x ∈ l, chk x = 0 := by
  unfold listG at h
  split at h
  · simp at h
  · exact ⟨by omega, rowsG_all h⟩
theorem chkE_ok {h : Hel} (e : chkE h = 0) : (0 ≤ h.Len ∧ h.Len ≤ 32) ∧ (1 ≤ h.Hello ∧ h.Hello ≤ 65535) ∧ (1 ≤ h.Dead ∧ h.Dead ≤ 65535) ∧ (0 ≤ h.Pri ∧ h.Pri ≤ 255) ∧ h.Seen.length ≤ 64 := by
  unfold chkE at e
  split at e
  · simp at e
  rename_i h1
  split at e
  · simp at e
  simp only [not_or, Bool.not_eq_false, inR_iff] at h1
  exact ⟨h1.1, h1.2.1, h1.2.2.1, h1.2.2.2, by omega⟩
theorem chkY_ok {k : LKey} (e : chkY k = 0) : (1 ≤ k.Ty ∧ k.Ty ≤ 5) ∧ (0 ≤ k.Len ∧ k.Len ≤ 32) := by
  unfold chkY at e
  split at e
  · simp at e
  rename_i h1
  split at e
  · simp at e
  rename_i h2
  simp only [not_or, Bool.not_eq_false, inR_iff] at h1 h2
  exact ⟨h1, h2.2⟩
theorem chkP_ok {p : Pkt} (e : chkP p = 0) : (1 ≤ p.Kind ∧ p.Kind ≤ 5) ∧ forP p = false ∧ (p.Kind = 1 → chkE p.E = 0) ∧ (p.Kind = 3 → listG chkY id p.Keys = 0) ∧ (p.Kind = 4 → listG sealE keyA p.Lsas = 0) ∧
    (p.Kind = 2 → 0 ≤ p.Seq ∧ p.Seq ≤ 2147483647) ∧ (p.Kind = 2 ∨ p.Kind = 5 → listG chkH keyH p.Heads = 0) := by
  unfold chkP at e
  by_cases h1 : inR p.Kind 1 5 = false
  · rw [if_pos h1] at e; simp at e
  rw [if_neg h1] at e
  by_cases h2 : p.Router = 0
  · rw [if_pos h2] at e; simp at e
  rw [if_neg h2] at e
  by_cases h3 : forP p = true
  · rw [if_pos h3] at e; simp at e
  rw [if_neg h3] at e
  simp only [Bool.not_eq_false, inR_iff, Bool.not_eq_true] at h1 h3
  refine ⟨h1, h3, fun k => ?_, fun k => ?_, fun k => ?_, fun k => ?_, fun k => ?_⟩
  · rw [if_pos k] at e; exact e
  · rw [if_neg (by omega), if_pos k] at e; exact e
  · rw [if_neg (by omega), if_neg (by omega), if_pos k] at e; exact e
  · rw [if_neg (by omega), if_neg (by omega), if_neg (by omega)] at e
    split at e
    · simp at e
    · rename_i h
      simp only [k, true_and, Bool.not_eq_false, inR_iff] at h
      exact h
  · rw [if_neg (by omega), if_neg (by omega), if_neg (by omega)] at e
    split at e
    · simp at e
    · exact e

/-- The words of a packet are words. -/
structure okPq (p : Pkt) : Prop where
  router : inW p.Router
  area : inW p.Area
  addr : inW p.Addr
  edr : inW p.E.DR
  ebdr : inW p.E.BDR
  eseen : ∀ x ∈ p.E.Seen, inW x
  hs : ∀ h ∈ p.Heads, inW h.ID ∧ inW h.Router
  ks : ∀ k ∈ p.Keys, inW k.ID ∧ inW k.Router
  ls : ∀ x ∈ p.Lsas, okA x
theorem pkt_eta (p : Pkt) : p = ⟨p.Kind, p.Router, p.Area, p.Addr, p.E, p.Seq, p.Init, p.More, p.Master, p.Heads, p.Keys, p.Lsas⟩ := rfl
theorem rdP_fwd {p : Pkt} (ok : okPq p) (h : chkP p = 0) : rdP (pkA p.Kind p.Router p.Area p.Addr) (bodyP p, 0) = (p, ([], 0)) := by
  obtain ⟨h1, h2, h3, h4, h5, h6, h7⟩ := chkP_ok h
  obtain ⟨f1, f2, f3, f4, f5⟩ := forP_fields h2
  have o1 := ok.eseen
  have o2 := ok.hs
  have o3 := ok.ks
  have o4 := ok.ls
  have o5 := ok.edr
  have o6 := ok.ebdr
  clear ok h h2
  obtain ⟨k, r, a, d, e, q, i, m, s, hs, ks, ls⟩ := p
  simp only at *
  unfold rdP bodyP
  simp only [pkA]
  by_cases k1 : k = 1
  · obtain ⟨c1, c2, c3, c4, c5⟩ := chkE_ok (h3 k1)
    obtain ⟨z1, z2, z3, z4⟩ := f2 (by omega)
    have z5 := f3 (by omega)
    have z6 := f4 (by omega)
    have z7 := f5 (by omega) (by omega)
    subst z1 z2 z3 z4 z5 z6 z7
    have := helP_prs.fwd e [] ⟨by omega, by omega, by omega, by omega, o5, o6, by omega, o1⟩
    rw [List.append_nil] at this
    simp only [k1, if_true, this, pkt0]
  have z0 := f1 k1
  simp only [k1, if_false]
  by_cases k2 : k = 2
  · obtain ⟨c1, c2⟩ := listG_all (h7 (.inl k2))
    have c3 := h6 k2
    have z5 := f3 (by omega)
    have z6 := f4 (by omega)
    subst z5 z6 z0
    have := dbP_prs.fwd (q, (i, m, s), hs) [] ⟨⟨c3.1, by omega⟩, trivial, by simp only; omega, fun x hx => ⟨c2 x hx, o2 x hx⟩⟩
    rw [List.append_nil] at this
    simp only [k2, if_true, pkt0, flagsP, if_neg (show ¬ ((2 : Int) = 3) by decide), if_neg (show ¬ ((2 : Int) = 4) by decide)]
    simp only [flB] at this
    rw [List.append_assoc, this]
  obtain ⟨z1, z2, z3, z4⟩ := f2 k2
  simp only [k2, if_false]
  by_cases k3 : k = 3
  · obtain ⟨c1, c2⟩ := listG_all (h4 k3)
    have z6 := f4 (by omega)
    have z7 := f5 (by omega) (by omega)
    subst z0 z1 z2 z3 z4 z6 z7
    have := kyP_prs.many.fwd ks [] ⟨by omega, fun x hx => ⟨by have := (chkY_ok (c2 x hx)).1; omega, (o3 x hx).1, by have := (chkY_ok (c2 x hx)).2; omega, (o3 x hx).2⟩⟩
    rw [List.append_nil] at this
    simp only [k3, if_true, pkt0, this]
  have z5 := f3 k3
  simp only [k3, if_false]
  by_cases k4 : k = 4
  · obtain ⟨c1, c2⟩ := listG_all (h5 k4)
    have z7 := f5 (by omega) (by omega)
    subst z0 z1 z2 z3 z4 z5 z7
    have := lsP_prs.many.fwd ls [] ⟨by omega, fun x hx => ⟨o4 x hx, c2 x hx⟩⟩
    rw [List.append_nil] at this
    simp only [k4, if_true, pkt0, this]
  have z6 := f4 k4
  simp only [k4, if_false]
  obtain ⟨c1, c2⟩ := listG_all (h7 (.inr (by omega)))
  subst z0 z1 z2 z3 z4 z5 z6
  have := hdP_prs.many.fwd hs [] ⟨by omega, fun x hx => ⟨c2 x hx, o2 x hx⟩⟩
  rw [List.append_nil] at this
  simp only [headsB, pkt0, this]

/-- The first 16 bytes of a packet. -/
def headP (p : Pkt) (n : Nat) : List Int := numB 1 1 ++ numB 1 (U p.Kind) ++ numB 2 (U (18 + n : Nat)) ++ numB 4 (U p.Router) ++ numB 4 (U p.Area) ++ numB 4 (U p.Addr)
def frameP (p : Pkt) (body : List Int) : List Int := headP p body.length ++ (numB 2 (U (inet (headP p body.length ++ [0, 0] ++ body))) ++ body)
def encB (p : Pkt) : List Int := frameP p (bodyP p)
def encQ (p : Pkt) : List Int × Int := if chkP p ≠ 0 then ([], chkP p) else (encB p, 0)
def blankP (b : List Int) : List Int := b.take 16 ++ [0, 0] ++ b.drop 18
def frontP (b : List Int) : Int := if b.length < 18 then 3 else if b.getD 0 0 ≠ 1 then 12 else if (b.length : Int) < numAt b 2 2 then 3 else if numAt b 2 2 < b.length then 2 else
  if numAt b 16 2 ≠ inet (blankP b) then 13 else if inR (b.getD 1 0) 1 5 = false then 15 else 0
def readP (b : List Int) : Pkt × Sr := rdP (pkA (b.getD 1 0) (W32 (numAt b 4 4)) (W32 (numAt b 8 4)) (W32 (numAt b 12 4))) (b.drop 18, 0)
def decP (b : List Int) : Pkt × Int :=
  if frontP b ≠ 0 then (pkt0, frontP b) else if (readP b).2.2 ≠ 0 then (pkt0, (readP b).2.2) else if (readP b).2.1 ≠ [] then (pkt0, 2) else if chkP (readP b).1 ≠ 0 then (pkt0, chkP (readP b).1) else ((readP b).1, 0)

theorem headP_len (p : Pkt) (n : Nat) : (headP p n).length = 16 := by simp [headP, numB_len]
theorem inet_in (b : List Int) : 0 ≤ inet b ∧ inet b ≤ 65535 := by unfold inet; split <;> omega
theorem flat_leF {α : Type} (l : List α) (f : α → List Int) (s : Nat) : (∀ x ∈ l, (f x).length ≤ s) → (l.map f).flatten.length ≤ s * l.length := by
  induction l with
  | nil => simp
  | cons x l ih =>
    intro h
    have h1 := ih (fun y hy => h y (by simp [hy]))
    have h2 := h x (by simp)
    simp only [List.map_cons, List.flatten_cons, List.length_append, List.length_cons, Nat.mul_add]
    omega
theorem bodyP_len {p : Pkt} (h : chkP p = 0) : (bodyP p).length ≤ 46465 := by
  obtain ⟨h1, h2, h3, h4, h5, h6, h7⟩ := chkP_ok h
  have hh : p.Kind = 2 ∨ p.Kind = 5 → (headsB p.Heads).length ≤ 1153 := fun k => by
    have c1 := (listG_all (h7 k)).1
    have := flat_leF p.Heads hdrB 18 (fun x _ => by rw [hdrB_len]; omega)
    simp only [headsB, List.length_append, cntB_len]; omega
  unfold bodyP
  split
  · rename_i k
    have c := (chkE_ok (h3 k)).2.2.2.2
    have := flat_leF p.E.Seen seenB 4 (fun x _ => by rw [seenB_len]; omega)
    simp only [List.length_append, helB_len]; omega
  split
  · rename_i k
    have c := (listG_all (h4 k)).1
    have := flat_leF p.Keys keyBt 10 (fun x _ => by rw [keyBt_len]; omega)
    simp only [List.length_append, cntB_len]; omega
  split
  · rename_i k
    obtain ⟨c, c2⟩ := listG_all (h5 k)
    have := flat_leF p.Lsas bytesA 726 (fun x hx => by
      obtain ⟨g1, g2⟩ := chkA_len ((sealE_iff x).1 (c2 x hx)).1
      exact bytesA_len x g1 g2)
    simp only [List.length_append, cntB_len]; omega
  split
  · rename_i k
    have := hh (.inl k)
    simp only [List.length_append, numB_len]; omega
  · have := hh (by omega)
    omega

theorem frame_len (p : Pkt) (t : List Int) : (frameP p t).length = 18 + t.length := by simp only [frameP, List.length_append, headP_len, numB_len]; omega
end Go.Proofs.YtmgkemffbmfmpaaGreat

/- Packets as texts: encoding and decoding belong together; damage is noticed. -/
namespace Go.Proofs.YtmgkemffbmfmpaaGreat
open Go Go.Am

theorem drop_at {α : Type} (a b : List α) (n : Nat) (h : a.length = n) : (a ++ b).drop n = b := by
  rw [List.drop_append_of_le_length (by omega), List.drop_of_length_le (by omega), List.nil_append]
theorem take_at {α : Type} (a b : List α) (n : Nat) (h : a.length = n) : (a ++ b).take n = a := by
  rw [List.take_append_of_le_length (by omega), List.take_of_length_le (by omega)]
theorem headP_one (p : Pkt) (n : Nat) (hk : 1 ≤ p.Kind ∧ p.Kind ≤ 5) : headP p n = [1, p.Kind] ++ numB 2 (U (18 + n : Nat)) ++ numB 4 (U p.Router) ++ numB 4 (U p.Area) ++ numB 4 (U p.Addr) := by
  unfold headP
  rw [u64_id (x := p.Kind) (by omega), one_byte (x := 1) (by omega), one_byte (x := p.Kind) (by omega)]
  rfl
section
variable (p : Pkt) (t : List Int)
theorem frame_drop : (frameP p t).drop 18 = t := by
  unfold frameP
  rw [← List.append_assoc]
  exact drop_at _ _ _ (by rw [List.length_append, headP_len, numB_len])
theorem frame_blank : blankP (frameP p t) = headP p t.length ++ [0, 0] ++ t := by
  rw [blankP, frame_drop, show (frameP p t).take 16 = headP p t.length from take_at _ _ _ (headP_len p _)]
theorem frame_sum : numAt (frameP p t) 16 2 = inet (headP p t.length ++ [0, 0] ++ t) := by
  unfold frameP
  have h := inet_in (headP p t.length ++ [0, 0] ++ t)
  rw [numAt_app _ _ _ _ _ (headP_len p _), u64_id (by omega)]
  omega
theorem frame_size (h : t.length ≤ 60000) : numAt (frameP p t) 2 2 = (18 + t.length : Nat) := by
  have e : frameP p t = (numB 1 1 ++ numB 1 (U p.Kind)) ++ (numB 2 (U (18 + t.length : Nat)) ++ (numB 4 (U p.Router) ++ numB 4 (U p.Area) ++ numB 4 (U p.Addr) ++ (numB 2 (U (inet (headP p t.length ++ [0, 0] ++ t))) ++ t))) := by
    simp only [frameP, headP, List.append_assoc]
  rw [e, numAt_app _ _ _ _ _ (by simp [numB_len]), u64_id (by omega)]
  omega
theorem frame_router (h : inW p.Router) : W32 (numAt (frameP p t) 4 4) = p.Router := by
  have e : frameP p t = (numB 1 1 ++ numB 1 (U p.Kind) ++ numB 2 (U (18 + t.length : Nat))) ++ (numB 4 (U p.Router) ++ (numB 4 (U p.Area) ++ numB 4 (U p.Addr) ++ (numB 2 (U (inet (headP p t.length ++ [0, 0] ++ t))) ++ t))) := by
    simp only [frameP, headP, List.append_assoc]
  unfold inW at h
  rw [e, numAt_app _ _ _ _ _ (by simp [numB_len]), u64_id (by omega), W32_id (by omega)]
  omega
theorem frame_area (h : inW p.Area) : W32 (numAt (frameP p t) 8 4) = p.Area := by
  have e : frameP p t = (numB 1 1 ++ numB 1 (U p.Kind) ++ numB 2 (U (18 + t.length : Nat)) ++ numB 4 (U p.Router)) ++ (numB 4 (U p.Area) ++ (numB 4 (U p.Addr) ++ (numB 2 (U (inet (headP p t.length ++ [0, 0] ++ t))) ++ t))) := by
    simp only [frameP, headP, List.append_assoc]
  unfold inW at h
  rw [e, numAt_app _ _ _ _ _ (by simp [numB_len]), u64_id (by omega), W32_id (by omega)]
  omega
theorem frame_addr (h : inW p.Addr) : W32 (numAt (frameP p t) 12 4) = p.Addr := by
  have e : frameP p t = (numB 1 1 ++ numB 1 (U p.Kind) ++ numB 2 (U (18 + t.length : Nat)) ++ numB 4 (U p.Router) ++ numB 4 (U p.Area)) ++ (numB 4 (U p.Addr) ++ (numB 2 (U (inet (headP p t.length ++ [0, 0] ++ t))) ++ t)) := by
    simp only [frameP, headP, List.append_assoc]
  unfold inW at h
  rw [e, numAt_app _ _ _ _ _ (by simp [numB_len]), u64_id (by omega), W32_id (by omega)]
  omega
theorem frame_0 (hk : 1 ≤ p.Kind ∧ p.Kind ≤ 5) : (frameP p t).getD 0 0 = 1 ∧ (frameP p t).getD 1 0 = p.Kind := by
  unfold frameP
  rw [headP_one p _ hk]
  exact ⟨rfl, rfl⟩

end
theorem decP_encB {p : Pkt} (ok : okPq p) (h : chkP p = 0) : frontP (encB p) = 0 ∧ decP (encB p) = (p, 0) := by
  have hk := (chkP_ok h).1
  have hl := bodyP_len h
  obtain ⟨g0, g1⟩ := frame_0 p (bodyP p) hk
  have hf : frontP (encB p) = 0 := by
    unfold frontP encB
    rw [frame_len, g0, g1, frame_size p _ (by omega), frame_sum, frame_blank]
    have hk' : inR p.Kind 1 5 = true := (inR_iff _ _ _).2 hk
    rw [if_neg (by omega), if_neg (by simp), if_neg (by omega), if_neg (by omega), if_neg (by simp), if_neg (by simp [hk'])]
  have hr : readP (encB p) = (p, ([], 0)) := by
    unfold readP encB
    rw [g1, frame_router p _ ok.router, frame_area p _ ok.area, frame_addr p _ ok.addr, frame_drop]
    exact rdP_fwd ok h
  refine ⟨hf, ?_⟩
  unfold decP
  rw [hf, hr]
  simp [h]

theorem decP_front {b : List Int} (h : (decP b).2 = 0) : frontP b = 0 := by
  unfold decP at h
  by_cases e : frontP b = 0
  · exact e
  · rw [if_pos e] at h; exact h
theorem frontP_ok {b : List Int} (h : frontP b = 0) : 18 ≤ b.length ∧ b.getD 0 0 = 1 ∧ numAt b 2 2 = b.length ∧ numAt b 16 2 = inet (blankP b) ∧ (1 ≤ b.getD 1 0 ∧ b.getD 1 0 ≤ 5) := by
  unfold frontP at h
  by_cases h1 : b.length < 18
  · rw [if_pos h1] at h; simp at h
  rw [if_neg h1] at h
  by_cases h2 : b.getD 0 0 = 1
  case neg => rw [if_pos h2] at h; simp at h
  rw [if_neg (fun k => k h2)] at h
  by_cases h3 : (b.length : Int) < numAt b 2 2
  · rw [if_pos h3] at h; simp at h
  rw [if_neg h3] at h
  by_cases h4 : numAt b 2 2 < b.length
  · rw [if_pos h4] at h; simp at h
  rw [if_neg h4] at h
  by_cases h5 : numAt b 16 2 = inet (blankP b)
  case neg => rw [if_pos h5] at h; simp at h
  rw [if_neg (fun k => k h5)] at h
  by_cases h6 : inR (b.getD 1 0) 1 5 = false
  · rw [if_pos h6] at h; simp at h
  simp only [Bool.not_eq_false, inR_iff] at h6
  exact ⟨by omega, h2, by omega, h5, h6⟩
/-- What is decoded. -/
theorem decP_ok {b : List Int} (hb : isB b) (h : (decP b).2 = 0) : chkP (decP b).1 = 0 ∧ encB (decP b).1 = b ∧ decP b = ((readP b).1, 0) := by
  have hf := decP_front h
  obtain ⟨f1, f2, f3, f4, f5⟩ := frontP_ok hf
  have e : (readP b).2.2 = 0 ∧ (readP b).2.1 = [] ∧ chkP (readP b).1 = 0 ∧ decP b = ((readP b).1, 0) := by
    unfold decP at h ⊢
    rw [if_neg (by simp [hf])] at h ⊢
    by_cases e1 : (readP b).2.2 = 0
    case neg => rw [if_pos e1] at h; exact (e1 h).elim
    rw [if_neg (by simp [e1])] at h ⊢
    by_cases e2 : (readP b).2.1 = []
    case neg => rw [if_pos e2] at h; simp at h
    rw [if_neg (by simp [e2])] at h ⊢
    by_cases e3 : chkP (readP b).1 = 0
    case neg => rw [if_pos e3] at h; exact (e3 h).elim
    rw [if_neg (by simp [e3])]
    exact ⟨e1, e2, e3, rfl⟩
  obtain ⟨e1, e2, e3, e4⟩ := e
  rw [e4]
  refine ⟨e3, ?_, rfl⟩
  obtain ⟨b1, b2, b3, b4, b5⟩ := rdP_back (isB_drop hb 18) e1
  have b0 : (readP b).2.1 = [] := e2
  unfold readP at b0
  rw [b0, List.append_nil] at b1
  show encB (readP b).1 = b
  have hq : (readP b).1 = (rdP (pkA (b.getD 1 0) (W32 (numAt b 4 4)) (W32 (numAt b 8 4)) (W32 (numAt b 12 4))) (b.drop 18, 0)).1 := rfl
  rw [← hq] at b1 b2 b3 b4 b5
  generalize (readP b).1 = q at *
  have n4 := numAt_in hb 4 4
  have n8 := numAt_in hb 8 4
  have n12 := numAt_in hb 12 4
  have n16 := numAt_in hb 16 2
  have n2 := numAt_in hb 2 2
  have hd : headP q (bodyP q).length = b.take 16 := by
    rw [headP_one q _ (by rw [b2]; exact f5), b2, b3, b4, b5]
    have el : ((18 + (bodyP q).length : Nat) : Int) = numAt b 2 2 := by
      rw [f3, ← b1, List.length_drop]; omega
    rw [el, u64_id (x := numAt b 2 2) (by omega), W32_id (x := numAt b 4 4) (by omega), W32_id (x := numAt b 8 4) (by omega), W32_id (x := numAt b 12 4) (by omega), u64_id (x := numAt b 4 4) (by omega), u64_id (x := numAt b 8 4) (by omega), u64_id (x := numAt b 12 4) (by omega)]
    rw [numB_numAt hb 2 2 (by omega), numB_numAt hb 4 4 (by omega), numB_numAt hb 8 4 (by omega), numB_numAt hb 12 4 (by omega)]
    have e2 : [1, b.getD 1 0] = b.take 2 := by
      match b, f1, f2 with
      | x :: y :: r, _, f2 =>
        simp at f2
        simp [f2]
    rw [e2, take_parts, take_parts, take_parts, take_parts]
  unfold encB frameP
  rw [hd, ← b1]
  have hbl : b.take 16 ++ [0, 0] ++ b.drop 18 = blankP b := rfl
  rw [hbl, ← f4, u64_id (x := numAt b 16 2) (by omega), numB_numAt hb 16 2 (by omega), ← List.append_assoc, take_parts, List.take_append_drop]

theorem numAt_take (b : List Int) (m at_ : Nat) : ∀ n, at_ + n ≤ m → numAt (b.take m) at_ n = numAt b at_ n
  | 0, _ => rfl
  | n + 1, h => by
    have : (b.take m).getD (at_ + n) 0 = b.getD (at_ + n) 0 := by
      simp only [List.getD_eq_getElem?_getD]
      rw [List.getElem?_take_of_lt (by omega)]
    simp only [numAt, numAt_take b m at_ n (by omega), this]
theorem decP_cut {b : List Int} (hf : frontP b = 0) {at_ : Nat} (h : at_ < b.length) : (decP (b.take at_)).2 ≠ 0 := by
  intro e
  obtain ⟨f1, f2, f3, f4, f5⟩ := frontP_ok hf
  obtain ⟨g1, g2, g3, g4, g5⟩ := frontP_ok (decP_front e)
  rw [List.length_take] at g1
  rw [numAt_take b at_ 2 2 (by omega), f3, List.length_take] at g3
  omega
theorem wsum_set (x : Int) : ∀ (s : Bool) (b : List Int) (i : Nat), i < b.length → wsum s (b.set i x) = wsum s b + (x - b.getD i 0) * (if s = (decide (i % 2 = 0)) then 256 else 1)
  | s, [], i, h => by simp at h
  | true, y :: b, 0, _ => by simp [wsum]; omega
  | false, y :: b, 0, _ => by simp [wsum]; omega
  | true, y :: b, i + 1, h => by
    have ih := wsum_set x false b i (by simpa using h)
    simp only [List.set_cons_succ, wsum, ih, List.getD_cons_succ]
    by_cases e : i % 2 = 0
    · have e' : ¬ (i + 1) % 2 = 0 := by omega
      simp [e, e']; omega
    · have e' : (i + 1) % 2 = 0 := by omega
      simp [e, e']; omega
  | false, y :: b, i + 1, h => by
    have ih := wsum_set x true b i (by simpa using h)
    simp only [List.set_cons_succ, wsum, ih, List.getD_cons_succ]
    by_cases e : i % 2 = 0
    · have e' : ¬ (i + 1) % 2 = 0 := by omega
      simp [e, e']; omega
    · have e' : (i + 1) % 2 = 0 := by omega
      simp [e, e']; omega
theorem wsum_pos {b : List Int} (hb : isB b) : ∀ s, 0 ≤ wsum s b := by
  induction b with
  | nil => intro s; cases s <;> simp [wsum]
  | cons y b ih =>
    intro s
    have h1 := hb y (by simp)
    have h2 := ih (fun z hz => hb z (by simp [hz]))
    cases s
    · have := h2 true; simp only [wsum]; omega
    · have := h2 false; simp only [wsum]; omega
theorem wsum_first {b : List Int} (hb : isB b) (h : b.getD 0 0 = 1) : 256 ≤ wsum true b := by
  cases b with
  | nil => simp at h
  | cons y b =>
    have h2 := wsum_pos (b := b) (fun z hz => hb z (by simp [hz])) false
    simp at h
    subst h
    simp only [wsum]; omega
theorem blank_getD {b : List Int} (h : 18 ≤ b.length) (i : Nat) : (blankP b).getD i 0 = if i = 16 ∨ i = 17 then 0 else b.getD i 0 := by
  unfold blankP
  simp only [List.getD_eq_getElem?_getD]
  by_cases h1 : i < 16
  · rw [if_neg (by omega), List.append_assoc, List.getElem?_append_left (by rw [List.length_take]; omega), List.getElem?_take_of_lt h1]
  · by_cases h2 : i < 18
    · rw [if_pos (by omega), List.getElem?_append_left (by simp; omega), List.getElem?_append_right (by rw [List.length_take]; omega), List.length_take, Nat.min_eq_left (by omega)]
      have : i = 16 ∨ i = 17 := by omega
      rcases this with rfl | rfl <;> rfl
    · rw [if_neg (by omega), List.getElem?_append_right (by simp; omega), List.getElem?_drop]
      congr 2
      simp
      omega
theorem blank_len {b : List Int} (h : 18 ≤ b.length) : (blankP b).length = b.length := by
  simp [blankP]; omega
theorem ext_getD {a b : List Int} (h : a.length = b.length) (e : ∀ i, i < a.length → a.getD i 0 = b.getD i 0) : a = b := by
  apply List.ext_getElem h
  intro i h1 h2
  have := e i h1
  simpa [List.getD_eq_getElem?_getD, h1, h2] using this
theorem isB_blank {b : List Int} (hb : isB b) : isB (blankP b) := by
  unfold blankP
  refine isB_app (isB_app (isB_take hb _) ?_) (isB_drop hb _)
  intro x hx
  simp at hx
  omega
theorem set_getD (b : List Int) (at_ i : Nat) (x : Int) (h : at_ < b.length) : (b.set at_ x).getD i 0 = if i = at_ then x else b.getD i 0 := by
  simp only [List.getD_eq_getElem?_getD, List.getElem?_set]
  by_cases e : at_ = i
  · subst e; simp [h]
  · rw [if_neg e, if_neg (fun k => e k.symm)]
theorem isB_set {b : List Int} (hb : isB b) (i : Nat) {x : Int} (hx : 0 ≤ x ∧ x ≤ 255) : isB (b.set i x) := by
  intro y hy
  rcases List.mem_or_eq_of_mem_set hy with h | h
  · exact hb y h
  · rw [h]; exact hx
theorem decP_changed {b : List Int} (hb : isB b) (hf : frontP b = 0) {at_ : Nat} (h : at_ < b.length) {x : Int} (hx : 0 ≤ x ∧ x ≤ 255) (hne : b.getD at_ 0 ≠ x) : (decP (b.set at_ x)).2 ≠ 0 := by
  intro e
  obtain ⟨f1, f2, f3, f4, f5⟩ := frontP_ok hf
  obtain ⟨g1, g2, g3, g4, g5⟩ := frontP_ok (decP_front e)
  have hc := isB_set hb at_ hx
  have sg := fun i => set_getD b at_ i x h
  have hlen : (b.set at_ x).length = b.length := List.length_set
  have hb0 := getD_in hb at_
  by_cases e1 : at_ = 2 ∨ at_ = 3
  · have k : numAt (b.set at_ x) 2 2 = numAt b 2 2 := by rw [g3, f3, hlen]
    have h2 := getD_in hb 2
    have h3 := getD_in hb 3
    simp only [numAt, sg] at k
    rcases e1 with rfl | rfl
    · simp [-List.getD_eq_getElem?_getD] at k; omega
    · simp [-List.getD_eq_getElem?_getD] at k; omega
  by_cases e2 : at_ = 16 ∨ at_ = 17
  · have kb : blankP (b.set at_ x) = blankP b := by
      apply ext_getD
      · rw [blank_len g1, blank_len f1, hlen]
      · intro i _
        rw [blank_getD g1, blank_getD f1, sg]
        by_cases ei : i = 16 ∨ i = 17
        · rw [if_pos ei, if_pos ei]
        · rw [if_neg ei, if_neg ei, if_neg (by omega)]
    have k : numAt (b.set at_ x) 16 2 = numAt b 16 2 := by rw [g4, f4, kb]
    have h2 := getD_in hb 16
    have h3 := getD_in hb 17
    simp only [numAt, sg] at k
    rcases e2 with rfl | rfl
    · simp [-List.getD_eq_getElem?_getD] at k; omega
    · simp [-List.getD_eq_getElem?_getD] at k; omega
  have kb : blankP (b.set at_ x) = (blankP b).set at_ x := by
    have hbl : at_ < (blankP b).length := by rw [blank_len f1]; exact h
    apply ext_getD
    · rw [blank_len g1, hlen, List.length_set, blank_len f1]
    · intro i _
      rw [blank_getD g1, sg, set_getD _ _ _ _ hbl, blank_getD f1]
      by_cases ei : i = 16 ∨ i = 17
      · rw [if_pos ei, if_pos ei, if_neg (by omega)]
      · rw [if_neg ei, if_neg ei]
  have k : numAt (b.set at_ x) 16 2 = numAt b 16 2 := by
    simp only [numAt, sg]
    rw [if_neg (by omega), if_neg (by omega)]
  rw [g4, f4, kb] at k
  have w1 := wsum_set x true (blankP b) at_ (by rw [blank_len f1]; exact h)
  have w2 := wsum_first (isB_blank hb) (by rw [blank_getD f1]; simpa using f2)
  have w3 := wsum_first (isB_blank hc) (by rw [blank_getD g1]; simpa using g2)
  rw [kb] at w3
  rw [blank_getD f1, if_neg (by omega)] at w1
  unfold inet at k
  rw [if_neg (by omega), if_neg (by omega)] at k
  generalize wsum true ((blankP b).set at_ x) = u at *
  generalize wsum true (blankP b) = v at *
  generalize b.getD at_ 0 = y at *
  split at w1 <;> omega
end Go.Proofs.YtmgkemffbmfmpaaGreat

namespace Go.Proofs.YtmgkemffbmfmpaaGreat
open Go Go.Am

-- lspacket.body$1: put
set_option maxHeartbeats 1000000 in
set_option maxRecDepth 10000 in
theorem f111 (b : List Int) (hb : b.length < 1099511627000) (n : Nat) (hn : n ≤ 8) (x : Int) : CFun Tryz.prog 71 [.int .i64 n, .int .u64 x, .ptr 0 0] [[.sl 1 (b.map enc8) .own]] (.tup []) [[.sl 1 ((b ++ numB n x).map enc8) .own]] := by
  refine CFun.intro (tr := []) (fz := []) (n := 9) (rs := []) Tryz.func71 rfl (by kernel_rfl) rfl rfl mixed (by kernel_rfl) (by simp) (by simp) ?_
  have h70 := fun H => (c88 b hb n hn x).up' H rfl rfl
  simp
  refine ⟨_, _, .inl (by simpa using h70 _), by simp, ?_⟩
  simp
theorem put111 {H : List (List AVal)} {id : Nat} {b : List Int} (hid : H[id]? = some [.sl 1 (b.map enc8) .own]) (hb : b.length < 1099511627000) (n : Nat) (hn : n ≤ 8) (x : Int) :
    CFun Tryz.prog 71 [.int .i64 n, .int .u64 x, .ptr id 0] H (.tup []) (H.set id [.sl 1 ((b ++ numB n x).map enc8) .own]) :=
  (f111 b hb n hn x).at hid rfl rfl rfl rfl
end Go.Proofs.YtmgkemffbmfmpaaGreat

namespace Go.Proofs.YtmgkemffbmfmpaaGreat
open Go Go.Am

-- put onto nothing
set_option maxHeartbeats 1000000 in
set_option maxRecDepth 10000 in
theorem f111z (n : Nat) (hn : n ≤ 8) (x : Int) : CFun Tryz.prog 71 [.int .i64 n, .int .u64 x, .ptr 0 0] [[.sl 0 [] .full]] (.tup []) [[.sl 1 ((numB n x).map enc8) .own]] := by
  refine CFun.intro (tr := []) (fz := []) (n := 9) (rs := []) Tryz.func71 rfl (by kernel_rfl) rfl rfl mixed (by kernel_rfl) (by simp) (by simp) ?_
  have h70 := fun H => ((c88 [] (by simp) n hn x).wk [.sl 0 [] .full, .int .i64 n, .int .u64 x] (by simp) (by simp [All2, LeS])).up' H rfl rfl
  simp only [List.nil_append] at h70
  simp
  refine ⟨_, _, .inl (by simpa using h70 _), by simp, ?_⟩
  simp
theorem put111z {H : List (List AVal)} {id : Nat} (hid : H[id]? = some [.sl 0 [] .full]) (n : Nat) (hn : n ≤ 8) (x : Int) :
    CFun Tryz.prog 71 [.int .i64 n, .int .u64 x, .ptr id 0] H (.tup []) (H.set id [.sl 1 ((numB n x).map enc8) .own]) :=
  (f111z n hn x).at hid rfl rfl rfl rfl
end Go.Proofs.YtmgkemffbmfmpaaGreat

namespace Go.Proofs.YtmgkemffbmfmpaaGreat
open Go Go.Am

theorem flats_take {α : Type} {l : List α} {i : Nat} {x : α} (f : α → List Int) (h : l[i]? = some x) : ((l.take (i + 1)).map f).flatten = ((l.take i).map f).flatten ++ f x := by
  rw [List.take_add_one, h]; simp
/-- A row of texts, one after the other. -/
theorem run_rows {α : Type} (l : List α) (f : α → List Int) (B : List Int) (k : Nat) (hk : ∀ x ∈ l, (f x).length ≤ k) (n : Nat) (hn : l.length = n) :
    ∃ R : Nat → List Int, R 0 = B ∧ (∀ i x, l[i]? = some x → R (i + 1) = R i ++ f x) ∧ R n = B ++ (l.map f).flatten ∧ ∀ i, (R i).length ≤ B.length + k * i := by
  refine ⟨fun i => B ++ ((l.take i).map f).flatten, by simp, fun i x h => ?_, ?_, fun i => ?_⟩
  · simp only [flats_take f h, List.append_assoc]
  · simp only
    rw [List.take_of_length_le (by omega)]
  · have := flat_leF (l.take i) f k (fun x hx => hk x (List.mem_of_mem_take hx))
    have h2 : (l.take i).length ≤ i := by rw [List.length_take]; omega
    have h3 := Nat.mul_le_mul_left k h2
    simp only [List.length_append]
    omega
-- lspacket.body$2: headers
set_option maxHeartbeats 4000000 in
set_option maxRecDepth 10000 in
theorem f112 (p : Pkt) (n : Nat) (hn : p.Heads.length = n) (hlen : n < 1000000) (hc : ∀ x ∈ p.Heads, chkH x = 0) (c0 : AVal) (b : List Int) (hb : b.length < 1000)
    (hput : ∀ (H : List (List AVal)) (x : Int), H[1]? = some [c0] → CFun Tryz.prog 71 [.int .i64 1, .int .u64 x, .ptr 1 0] H (.tup []) (H.set 1 [.sl 1 ((b ++ numB 1 x).map enc8) .own])) :
    CFun Tryz.prog 72 [.ptr 2 0, .ptr 0 0, .ptr 1 0] [cellsPk p, [c0], [.fn 71 [] [.ptr 1 0]]] (.tup []) [cellsPk p, [.sl 1 ((b ++ headsB p.Heads).map enc8) .own], [.fn 71 [] [.ptr 1 0]]] := by
  refine CFun.intro (tr := [25]) (fz := []) (n := 29) (rs := []) Tryz.func72 rfl (by kernel_rfl) rfl rfl mixed (by kernel_rfl) (by simp) (by simp) ?_
  obtain ⟨R, r0, rs, rn, rl⟩ := run_rows p.Heads hdrB (b ++ numB 1 (IntKind.u64.wrap n)) 18 (fun x _ => by rw [hdrB_len]; omega) n hn
  have hl0 : (b ++ numB 1 (IntKind.u64.wrap n)).length ≤ 1000 := by simp only [List.length_append, numB_len]; omega
  have hB : b ++ headsB p.Heads = R n := by rw [rn]; simp [headsB, cntB, hn, U]
  rw [hB]
  simp [hn]
  refine ⟨_, _, .inl (hput _ _ rfl), by simp, ?_⟩
  simp [hn, -List.map_append, -List.append_assoc]
  rw [← r0] at rl hl0 ⊢
  refine LoopK.intro (tr := [25]) mixed (by kernel_rfl) (fun i : Nat => [(0, .ptr 2 0), (1, .ptr 0 0), (2, .ptr 1 0), (14, .sl 7 (p.Heads.map encH) .sh), (15, .int .i64 n), (16, .int .i64 i)])
    (fun i => [cellsPk p, [.sl 1 ((R i).map enc8) .own], [.fn 71 [] [.ptr 1 0]]]) (fun i => i ≤ n) (fun i => n - i) 0 ?_ ?_ ?_
  · simp
  · simp
  · rintro i h1
    by_cases hi : i < n
    · obtain ⟨x, hx, hd⟩ := get_drop (l := p.Heads) (i := i) (by omega)
      have w1 : IntKind.i64.wrap ((i : Int) + 1) = i + 1 := wrap_in (by omega)
      have h2 := fun H => (c33 x).up' H rfl rfl
      have he : ehL x = (hdrB x, 0) := by unfold ehL; rw [if_neg (by simp [hc x (List.mem_of_getElem? hx)])]
      rw [he] at h2
      have hl2 := hdrB_len x
      have hri := rl i
      have hrs := rs i x hx
      have s1 : (R i).length + 18 ≤ 140737488355328 := by omega
      simp [hi, hx, gE hx, hn]
      refine ⟨_, _, .inl (by simpa using h2 _), by simp, ?_⟩
      simp [hl2, s1, w1]
      exact ⟨i + 1, by omega, by omega, by simp [hrs]⟩
    · have : i = n := by omega
      subst this
      simp [hn]
end Go.Proofs.YtmgkemffbmfmpaaGreat
