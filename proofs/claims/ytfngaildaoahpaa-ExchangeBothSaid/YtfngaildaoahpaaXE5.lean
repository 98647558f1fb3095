import Derived.Test.YtfngaildaoahpaaXDS39
import Derived.Test.YtfngaildaoahpaaAmY
set_option linter.unusedSimpArgs false
set_option linter.unusedVariables false
namespace Go.Proofs.Ytfngaildaoahpaa
open Go Go.Am
set_option linter.unusedSimpArgs false
end Go.Proofs.Ytfngaildaoahpaa

namespace Go.Proofs.Ytfngaildaoahpaa
open Go Go.Am
theorem cmpH_less (a b : Hdr) (h : a.Seq < b.Seq) : cmpH a b ≠ 1 := by
 have : cmpI a.Seq b.Seq = -1 := by unfold cmpI; rw [if_pos h]
 simp [cmpH, orL_two, this]
theorem cmpY_zero (a b : LKey) : cmpY a b = 0 ↔ a = b := by
 obtain ⟨a1, a2, a3, a4⟩ := a
 obtain ⟨b1, b2, b3, b4⟩ := b
 have z1 := cmpI_zero a1 b1
 have z2 := cmpI_zero a2 b2
 have z3 := cmpI_zero a3 b3
 have z4 := cmpI_zero a4 b4
 simp only [cmpY, orL, LKey.mk.injEq]
 by_cases h1 : cmpI a1 b1 = 0
 · by_cases h2 : cmpI a2 b2 = 0
   · by_cases h3 : cmpI a3 b3 = 0
     · by_cases h4 : cmpI a4 b4 = 0
       · simp_all
       · simp_all
     · simp_all
   · simp_all
 · simp_all
theorem cmpY_neg (a b : LKey) : cmpY b a = - cmpY a b := by
 simp only [cmpY, orL]
 rw [cmpI_neg a.Ty b.Ty, cmpI_neg a.ID b.ID, cmpI_neg a.Len b.Len, cmpI_neg a.Router b.Router]
 simp only [Int.neg_eq_zero]
 split
 · split
   · split
     · split <;> simp_all
     · rfl
   · rfl
 · rfl
theorem cmpI_lt {a b : Int} : cmpI a b < 0 ↔ a < b := by
 unfold cmpI; split
 · omega
 · split <;> omega
def ltY (a b : LKey) : Prop := cmpY a b < 0
instance (a b : LKey) : Decidable (ltY a b) := inferInstanceAs (Decidable (_ < _))
theorem ltY_iff (a b : LKey) : ltY a b ↔ a.Ty < b.Ty ∨ (a.Ty = b.Ty ∧ (a.ID < b.ID ∨ (a.ID = b.ID ∧ (a.Len < b.Len ∨ (a.Len = b.Len ∧ a.Router < b.Router))))) := by
 simp only [ltY, cmpY, orL]
 have z := fun a b => cmpI_zero a b
 have l := fun a b => @cmpI_lt a b
 split
 · rename_i h1; rw [z] at h1
   split
   · rename_i h2; rw [z] at h2
     split
     · rename_i h3; rw [z] at h3
       split
       · rename_i h4; rw [z] at h4; omega
       · rw [l]; omega
     · rename_i h3; rw [z] at h3; rw [l]; omega
   · rename_i h2; rw [z] at h2; rw [l]; omega
 · rename_i h1; rw [z] at h1; rw [l]; omega
theorem ltY_trans {a b c : LKey} (h : ltY a b) (k : ltY b c) : ltY a c := by
 rw [ltY_iff] at *; omega
theorem ltY_irrefl (a : LKey) : ¬ ltY a a := by rw [ltY_iff]; omega
theorem ltY_ne {a b : LKey} (h : ltY a b) : a ≠ b := by rintro rfl; exact ltY_irrefl _ h
theorem ltY_tri (a b : LKey) : ltY a b ∨ a = b ∨ ltY b a := by
 by_cases h : ltY a b
 · exact .inl h
 · by_cases e : a = b
   · exact .inr (.inl e)
   · refine .inr (.inr ?_)
     have h0 : cmpY a b ≠ 0 := fun x => e ((cmpY_zero a b).1 x)
     have h1 : cmpY b a = - cmpY a b := cmpY_neg a b
     unfold ltY at *
     omega
theorem ltY_asymm {a b : LKey} (h : ltY a b) : ¬ ltY b a := fun k => ltY_irrefl _ (ltY_trans h k)
def keyA (l : Lsa) : LKey := keyH l.H
def asc (db : List Lsa) : Prop := db.Pairwise fun x y => ltY (keyA x) (keyA y)
def sealE (l : Lsa) : Int := if chkA l ≠ 0 then chkA l else if l.H.Sum ≠ sumA l then 13 else 0
def rowsE : Option Lsa → List Lsa → Int
 | _, [] => 0
 | p, x :: xs => if sealE x ≠ 0 then sealE x else if (match p with | some y => decide (0 ≤ cmpY (keyA y) (keyA x)) | none => false) = true then 16 else rowsE (some x) xs
def chkD (db : List Lsa) : Int := if 2000 < db.length then 4 else rowsE none db
theorem rowsE_iff : ∀ (db : List Lsa) (p : Option Lsa), rowsE p db = 0 ↔ (∀ x ∈ db, sealE x = 0) ∧ asc (p.toList ++ db) ∧ True := by
 intro db
 induction db with
 | nil =>
   intro p
   cases p <;> simp [rowsE, asc]
 | cons x xs ih =>
   intro p
   simp only [rowsE]
   by_cases h1 : sealE x = 0
   case neg => simp [h1]
   rw [if_neg (by simpa using h1)]
   cases p with
   | none =>
     simp only [Bool.false_eq_true, if_false]
     rw [ih]
     simp [h1]
   | some y =>
     simp only [decide_eq_true_eq]
     by_cases h2 : ltY (keyA y) (keyA x)
     · rw [if_neg (by unfold ltY at h2; omega), ih]
       simp only [Option.toList_some, List.singleton_append, List.mem_cons, forall_eq_or_imp, h1, true_and, and_true]
       refine and_congr Iff.rfl ?_
       simp only [asc, List.pairwise_cons, List.mem_cons, forall_eq_or_imp]
       constructor
       · rintro ⟨a, b⟩
         exact ⟨⟨h2, fun z hz => ltY_trans h2 (a z hz)⟩, a, b⟩
       · rintro ⟨_, a, b⟩
         exact ⟨a, b⟩
     · rw [if_pos (by unfold ltY at h2; omega)]
       simp [asc, List.pairwise_cons, h2]
theorem chkD_ok {db : List Lsa} (h : chkD db = 0) : db.length ≤ 2000 ∧ (∀ x ∈ db, sealE x = 0) ∧ asc db := by
 unfold chkD at h
 split at h
 · simp at h
 · have := (rowsE_iff db none).1 h
   exact ⟨by omega, this.1, by simpa using this.2.1⟩
theorem asc_inj {db : List Lsa} (h : asc db) {x y : Lsa} (hx : x ∈ db) (hy : y ∈ db) (e : keyA x = keyA y) : x = y := by
 induction db with
 | nil => cases hx
 | cons z zs ih =>
   simp only [asc, List.pairwise_cons] at h
   rcases List.mem_cons.1 hx with rfl | hx
   · rcases List.mem_cons.1 hy with rfl | hy
     · rfl
     · exact absurd (h.1 y hy) (by rw [e]; exact ltY_irrefl _)
   · rcases List.mem_cons.1 hy with e2 | hy
     · exact absurd (h.1 x hx) (by rw [e, e2]; exact ltY_irrefl _)
     · exact ih h.2 hx hy
def hasK (k : LKey) (l : Lsa) : Bool := decide (keyA l = k)
def getD_ (db : List Lsa) (k : LKey) : Lsa × Bool := match db.find? (hasK k) with
 | some l => (l, true)
 | none => (lsa0, false)
def putW (l : Lsa) : List Lsa → List Lsa
 | [] => [l]
 | x :: xs => if ltY (keyA l) (keyA x) then l :: x :: xs else if keyA l = keyA x then l :: xs else x :: putW l xs
theorem posF_cons {α : Type} (p : α → Bool) (x : α) (xs : List α) : posF p (x :: xs) = if p x = true then 0 else posF p xs + 1 := by
 unfold posF
 rw [List.takeWhile_cons]
 cases p x <;> simp
theorem putW_mem {l : Lsa} : ∀ {db : List Lsa}, asc db → ∀ y, y ∈ putW l db ↔ y = l ∨ (y ∈ db ∧ keyA y ≠ keyA l) := by
 intro db
 induction db with
 | nil => intro _ y; simp [putW]
 | cons x xs ih =>
   intro h y
   simp only [asc, List.pairwise_cons] at h
   simp only [putW]
   split
   · rename_i h1
     have hx : ∀ z ∈ x :: xs, keyA z ≠ keyA l := by
       intro z hz
       rcases List.mem_cons.1 hz with rfl | hz
       · exact fun e => ltY_ne h1 e.symm
       · exact fun e => ltY_ne (ltY_trans h1 (h.1 z hz)) e.symm
     constructor
     · intro hy
       rcases List.mem_cons.1 hy with rfl | hy
       · exact .inl rfl
       · exact .inr ⟨hy, hx y hy⟩
     · rintro (rfl | ⟨hy, _⟩)
       · simp
       · exact List.mem_cons_of_mem _ hy
   · split
     · rename_i h1 h2
       constructor
       · intro hy
         rcases List.mem_cons.1 hy with rfl | hy
         · exact .inl rfl
         · exact .inr ⟨List.mem_cons_of_mem _ hy, by rw [h2]; exact fun e => ltY_ne (h.1 y hy) e.symm⟩
       · rintro (rfl | ⟨hy, hk⟩)
         · simp
         · rcases List.mem_cons.1 hy with rfl | hy
           · exact (hk h2.symm).elim
           · exact List.mem_cons_of_mem _ hy
     · rename_i h1 h2
       rw [List.mem_cons, ih h.2]
       constructor
       · rintro (rfl | rfl | ⟨hy, hk⟩)
         · exact .inr ⟨by simp, fun e => h2 e.symm⟩
         · exact .inl rfl
         · exact .inr ⟨List.mem_cons_of_mem _ hy, hk⟩
       · rintro (rfl | ⟨hy, hk⟩)
         · exact .inr (.inl rfl)
         · rcases List.mem_cons.1 hy with rfl | hy
           · exact .inl rfl
           · exact .inr (.inr ⟨hy, hk⟩)
theorem putW_asc {l : Lsa} : ∀ {db : List Lsa}, asc db → asc (putW l db) := by
 intro db
 induction db with
 | nil => intro _; simp [putW, asc]
 | cons x xs ih =>
   intro h
   have h0 := h
   simp only [asc, List.pairwise_cons] at h
   simp only [putW]
   split
   · rename_i h1
     simp only [asc]
     rw [List.pairwise_cons]
     refine ⟨fun z hz => ?_, h0⟩
     rcases List.mem_cons.1 hz with rfl | hz
     · exact h1
     · exact ltY_trans h1 (h.1 z hz)
   · split
     · rename_i h1 h2
       simp only [asc]
       rw [List.pairwise_cons]
       exact ⟨fun z hz => by rw [h2]; exact h.1 z hz, h.2⟩
     · rename_i h1 h2
       simp only [asc]
       rw [List.pairwise_cons]
       refine ⟨fun z hz => ?_, ih h.2⟩
       rcases (putW_mem h.2 z).1 hz with rfl | ⟨hz, _⟩
       · rcases ltY_tri (keyA z) (keyA x) with k | k | k
         · exact (h1 k).elim
         · exact (h2 k).elim
         · exact k
       · exact h.1 z hz
theorem find_mem {db : List Lsa} (h : asc db) {k : LKey} {x : Lsa} : db.find? (hasK k) = some x ↔ x ∈ db ∧ keyA x = k := by
 constructor
 · intro e
   exact ⟨List.mem_of_find?_eq_some e, by simpa [hasK] using List.find?_some e⟩
 · rintro ⟨hx, e⟩
   cases hf : db.find? (hasK k) with
   | none =>
     have := List.find?_eq_none.1 hf x hx
     simp [hasK, e] at this
   | some y =>
     have hy := List.mem_of_find?_eq_some hf
     have ky : keyA y = k := by simpa [hasK] using List.find?_some hf
     rw [asc_inj h hx hy (e.trans ky.symm)]
theorem find_none {db : List Lsa} {k : LKey} : db.find? (hasK k) = none ↔ ∀ x ∈ db, keyA x ≠ k := by
 rw [List.find?_eq_none]
 simp [hasK]
def ageS (s a : Int) : Int := if 0 < s ∧ a < 3600 then (if 3600 - a ≤ s then 3600 else a + s) else a
def cmpD (db : List Lsa) (h : Hdr) : Int := match db.find? (hasK (keyH h)) with
 | some x => cmpH h x.H
 | none => 1
def stepN (db : List Lsa) (x : Lsa) : List Lsa := if cmpD db x.H = 1 then putW x db else db
structure SeenN (done db : List Lsa) : Prop where
  asc : asc db
  mem : ∀ x ∈ db, x ∈ done
  cov : ∀ y ∈ done, ∃ x ∈ db, keyA x = keyA y ∧ y.H.Seq ≤ x.H.Seq
theorem SeenN.nil : SeenN [] [] := ⟨by simp [Proofs.Ytfngaildaoahpaa.asc], by simp, by simp⟩
theorem SeenN.step {done db : List Lsa} (h : SeenN done db) {x : Lsa} (hne : ∀ y ∈ done, ¬ (keyA y = keyA x ∧ y.H.Seq = x.H.Seq)) : SeenN (done ++ [x]) (stepN db x) := by
 unfold stepN cmpD
 cases hf : db.find? (hasK (keyH x.H)) with
 | none =>
   have hn : ∀ y ∈ db, keyA y ≠ keyA x := find_none.1 hf
   simp only [if_true]
   refine ⟨putW_asc h.asc, fun y hy => ?_, fun y hy => ?_⟩
   · rcases (putW_mem h.asc y).1 hy with rfl | ⟨hy, _⟩
     · simp
     · simp [h.mem y hy]
   · rcases List.mem_append.1 hy with hy | hy
     · obtain ⟨z, hz, e1, e2⟩ := h.cov y hy
       exact ⟨z, (putW_mem h.asc z).2 (.inr ⟨hz, hn z hz⟩), e1, e2⟩
     · obtain rfl := List.mem_singleton.1 hy
       exact ⟨y, (putW_mem h.asc y).2 (.inl rfl), rfl, Int.le_refl _⟩
 | some z =>
   obtain ⟨hz, ez⟩ := (find_mem h.asc).1 hf
   have ez : keyA z = keyA x := ez
   have hs : z.H.Seq ≠ x.H.Seq := fun e => hne z (h.mem z hz) ⟨ez, e⟩
   simp only
   by_cases hc : cmpH x.H z.H = 1
   · rw [if_pos hc]
     have hlt : z.H.Seq < x.H.Seq := by
       rcases Int.lt_or_gt_of_ne hs with k | k
       · exact k
       · exact (cmpH_less _ _ k hc).elim
     refine ⟨putW_asc h.asc, fun y hy => ?_, fun y hy => ?_⟩
     · rcases (putW_mem h.asc y).1 hy with rfl | ⟨hy, _⟩
       · simp
       · simp [h.mem y hy]
     · rcases List.mem_append.1 hy with hy | hy
       · obtain ⟨u, hu, e1, e2⟩ := h.cov y hy
         by_cases e : keyA u = keyA x
         · obtain rfl := asc_inj h.asc hu hz (e.trans ez.symm)
           exact ⟨x, (putW_mem h.asc x).2 (.inl rfl), e.symm.trans e1, by omega⟩
         · exact ⟨u, (putW_mem h.asc u).2 (.inr ⟨hu, e⟩), e1, e2⟩
       · obtain rfl := List.mem_singleton.1 hy
         exact ⟨y, (putW_mem h.asc y).2 (.inl rfl), rfl, Int.le_refl _⟩
   · rw [if_neg hc]
     have hlt : x.H.Seq < z.H.Seq := by
       rcases Int.lt_or_gt_of_ne hs with k | k
       · exact (hc (cmpH_seq _ _ k)).elim
       · exact k
     refine ⟨h.asc, fun y hy => by simp [h.mem y hy], fun y hy => ?_⟩
     rcases List.mem_append.1 hy with hy | hy
     · exact h.cov y hy
     · obtain rfl := List.mem_singleton.1 hy
       exact ⟨z, hz, ez, by omega⟩
theorem nodup_len {α : Type} [DecidableEq α] : ∀ (a b : List α), a.Pairwise (· ≠ ·) → (∀ x ∈ a, x ∈ b) → a.length ≤ b.length
 | [], _, _, _ => Nat.zero_le _
 | x :: xs, b, h, k => by
   rw [List.pairwise_cons] at h
   have hx := k x (by simp)
   have := nodup_len xs (b.erase x) h.2 (fun y hy => (List.mem_erase_of_ne (h.1 y hy).symm).2 (k y (List.mem_cons_of_mem _ hy)))
   rw [List.length_erase_of_mem hx] at this
   have hp : 0 < b.length := List.length_pos_of_mem hx
   simp only [List.length_cons]
   omega
theorem SeenN.len {done db : List Lsa} (h : SeenN done db) : db.length ≤ done.length := by
 exact nodup_len db done (h.asc.imp fun {a b} k => fun e => ltY_ne k (by rw [e])) h.mem
def okD (l : Lsa) : Prop := okA l ∧ l.Links.length * 24 ≤ 140737488355328 ∧ l.Att.length * 4 ≤ 140737488355328
theorem dec_A {ts : List CTy} {cs : List AVal} (h : Rds (csA ++ ts) cs) : ∃ (x : Lsa) (r : List AVal), cs = cellsA x ++ r ∧ okD x ∧ Rds ts r := by
 have h2 : Rds (csH ++ ([.bool, .bool, .sl true 24 csL, .sl false 4 [.int .u32], .int .i64, .bool, .int .u32, .int .i64] ++ ts)) cs := by simpa [csA] using h
 obtain ⟨hd, r, rfl, okh, k0⟩ := dec_H h2
 obtain ⟨b1, r, rfl, k1⟩ := Rds_bool k0
 obtain ⟨b2, r, rfl, k2⟩ := Rds_bool k1
 obtain ⟨ls, r, rfl, k3, z1⟩ := Rds_sl (enc := fun x : { x : Lnk // okK x } => encK x.1) k2 (fun y cs e h => by
   obtain ⟨x, hx⟩ := dec_K h
   exact ⟨x, e.trans hx⟩)
 obtain ⟨at_, r, rfl, k4, z2⟩ := Rds_sl (enc := fun x : { x : Int // inW x } => enc32 x.1) k3 (fun y cs e h => by
   obtain ⟨a, r, rfl, h3, w⟩ := Rds_int h
   obtain rfl := Rds_nil h3
   simp at e
   exact ⟨⟨a, wf_u32 w⟩, e.symm⟩)
 obtain ⟨co, r, rfl, k5, w1⟩ := Rds_int k4
 obtain ⟨se, r, rfl, k6⟩ := Rds_bool k5
 obtain ⟨fw, r, rfl, k7, w2⟩ := Rds_int k6
 obtain ⟨tg, r, rfl, k8, w3⟩ := Rds_int k7
 refine ⟨⟨hd, b1, b2, ls.map (·.1), at_.map (·.1), co, se, fw, tg⟩, r, ?_, ⟨⟨okh, fun x hx => ?_, fun x hx => ?_, wf_i64 w1, wf_u32 w2, wf_i64 w3, by simp only [reachBytes] at z1; simp; omega, by simp only [reachBytes] at z2; simp; omega⟩, by simp only [reachBytes] at z1; simp; omega, by simp only [reachBytes] at z2; simp; omega⟩, k8⟩
 · simp [csL, Function.comp_def]
 · obtain ⟨y, _, rfl⟩ := List.mem_map.1 hx
   exact y.2
 · obtain ⟨y, _, rfl⟩ := List.mem_map.1 hx
   exact y.2
theorem eA : Enc cellsA 15 where
  pos := by omega
  len x := rfl
  dis x := rfl
  tree x := by
    simp [AVal.tree]
end Go.Proofs.Ytfngaildaoahpaa

namespace Go.Proofs.Ytfngaildaoahpaa
open Go Go.Am
set_option maxHeartbeats 1000000 in
set_option maxRecDepth 10000 in
theorem c55b (l : List Lnk) (s1 : l.length * 24 ≤ 140737488355328) : CFun Try.prog 101 [.sl 4 (l.map encK) .sh] [] (.sl 4 (l.map encK) .sh) [] := by
 refine CFun.intro (tr := []) (fz := []) (n := 8) (rs := [.tmp 2]) Try.func101 rfl (by kernel_rfl) rfl rfl mixed (by kernel_rfl) (by simp) (by simp) ?_
 have s2 : l.length ≤ 140737488355328 := by omega
 cases l with
 | nil => simp
 | cons x xs =>
   simp only [List.length_cons] at s1 s2
   simp [s1, s2]
set_option maxHeartbeats 1000000 in
set_option maxRecDepth 10000 in
theorem c56b (l : List Int) (s1 : l.length * 4 ≤ 140737488355328) : CFun Try.prog 102 [.sl 1 (l.map enc32) .sh] [] (.sl 1 (l.map enc32) .sh) [] := by
 refine CFun.intro (tr := []) (fz := []) (n := 8) (rs := [.tmp 2]) Try.func102 rfl (by kernel_rfl) rfl rfl mixed (by kernel_rfl) (by simp) (by simp) ?_
 have s2 : l.length ≤ 140737488355328 := by omega
 cases l with
 | nil => simp
 | cons x xs =>
   simp only [List.length_cons] at s1 s2
   simp [s1, s2]
def okL (l : Lsa) : Prop := l.Links.length * 24 ≤ 140737488355328 ∧ l.Att.length * 4 ≤ 140737488355328
set_option maxHeartbeats 2000000 in
set_option maxRecDepth 10000 in
theorem f86 (l : Lsa) (ok : okL l) : CFun Try.prog 85 [encA l] [] (encA l) [] := by
 refine CFun.intro (tr := []) (fz := []) (n := 12) (rs := [.cell 2 80]) Try.func85 rfl (by kernel_rfl) rfl rfl mixed (by kernel_rfl) (by simp) (by simp) ?_
 have h1 := fun H => (c55b l.Links ok.1).up' H rfl rfl
 have h2 := fun H => (c56b l.Att ok.2).up' H rfl rfl
 simp
 refine ⟨_, _, .inl (h1 _), by simp, ?_⟩
 simp
 refine ⟨_, _, .inl (h2 _), by simp, ?_⟩
 simp
theorem keyY_iff (a b : LKey) : ((a.Ty == b.Ty) && ((a.ID == b.ID) && ((a.Len == b.Len) && (a.Router == b.Router)))) = decide (a = b) := by
 cases a; cases b
 rw [Bool.eq_iff_iff]
 simp
set_option maxHeartbeats 2000000 in
set_option maxRecDepth 10000 in
theorem f98 (k : LKey) (l : Lsa) : CFun Try.prog 84 [.agg (cellsY k), encA l] [] (.bool (hasK k l)) [] := by
 refine CFun.intro (tr := []) (fz := []) (n := 11) (rs := [.tmp 4]) Try.func84 rfl (by kernel_rfl) rfl rfl mixed (by kernel_rfl) (by simp) (by simp) ?_
 have h1 := fun H => (c25 l.H).up' H rfl rfl
 have hk : hasK k l = _ := (keyY_iff (keyH l.H) k).symm
 rw [hk]
 generalize keyH l.H = q at h1
 simp
 refine ⟨_, _, .inl (h1 _), by simp, ?_⟩
 simp
end Go.Proofs.Ytfngaildaoahpaa

namespace Go.Proofs.Ytfngaildaoahpaa
open Go Go.Am
end Go.Proofs.Ytfngaildaoahpaa

namespace Go.Proofs.Ytfngaildaoahpaa
open Go Go.Am
def ceA (l : Lsa) : List AVal := cellsA l
theorem eA' : Enc ceA 15 := eA
set_option maxHeartbeats 4000000 in
set_option maxRecDepth 10000 in
theorem f97_ix (l : List Lsa) (n : Nat) (hn : l.length = n) (hlen : n < 1099511627776) (p : Lsa → Bool) (f : FuncId) (fs cs : List AVal) (H : List (List AVal)) (hf : low H.length (.fn f fs cs) = true) (hH : LeBoxes H.length H H)
   (hp : ∀ x ∈ l, CFun Try.prog f (fs ++ [.agg (ceA x)] ++ cs) H (.bool (p x)) H) : CFun Try.prog 83 [.sl 15 (l.map fun x => AVal.agg (ceA x)) .sh, .fn f fs cs] H (.int .i64 (idxL p l 0)) H := by
 refine CFun.intro (tr := []) (fz := []) (n := 19) (rs := [.tmp 4]) Try.func83 rfl (by kernel_rfl) rfl rfl mixed (by kernel_rfl) (by simp) (by simp) ?_
 simp
 refine LoopK.intro (tr := []) mixed (by kernel_rfl) (fun i : Nat => [(0, .sl 15 (l.map fun x => AVal.agg (ceA x)) .sh), (1, .fn f fs cs), (7, .int .i64 n), (8, .int .i64 i)]) (fun _ => H) (fun i => i ≤ n ∧ idxL p l 0 = idxL p (l.drop i) i) (fun i => n - i) 0 ?_ ?_ ?_
 · simp
 · simp [hn, hH]
   simpa [low] using hf
 · rintro i ⟨h1, h2⟩
   by_cases hi : i < n
   · obtain ⟨x, hx, hd⟩ := get_drop (l := l) (i := i) (by omega)
     have hpx := hp x (List.mem_of_getElem? hx)
     rw [hd] at h2
     clear hd hn
     have w1 : IntKind.i64.wrap ((i : Int) + 1) = i + 1 := wrap_in (by omega)
     have hl := (eA').len x
     have ht := List.all_eq_true.1 ((eA').tree x)
     have hdis := (eA').dis x
     have htk : (List.take 15 (ceA x)) = ceA x := List.take_of_length_le (by omega)
     simp [hi, hx, hl, ht, hdis, htk]
     refine ⟨_, _, .inl (by simpa [cargs] using hpx), by simp, ?_⟩
     simp only [idxL] at h2
     by_cases hpb : p x = true
     · simp [hpb, hH, h2]
     · rw [if_neg hpb] at h2
       simp [hpb, w1, hH]
       refine ⟨i + 1, ⟨by omega, h2⟩, by omega, ?_⟩
       simp
       simpa [low] using hf
   · have : i = n := by omega
     subst this
     rw [List.drop_eq_nil_of_le (by omega)] at h2
     simp [h2, idxL, hH]
end Go.Proofs.Ytfngaildaoahpaa

namespace Go.Proofs.Ytfngaildaoahpaa
open Go Go.Am
end Go.Proofs.Ytfngaildaoahpaa

namespace Go.Proofs.Ytfngaildaoahpaa
open Go Go.Am
theorem gE {α : Type} {l : List α} {i : Nat} {x : α} (hx : l[i]? = some x) (h : i < l.length) : l[i]'h = x := by
 rw [List.getElem?_eq_getElem h] at hx
 injection hx
end Go.Proofs.Ytfngaildaoahpaa

namespace Go.Proofs.Ytfngaildaoahpaa
open Go Go.Am
set_option maxHeartbeats 4000000 in
set_option maxRecDepth 10000 in
theorem f87 (l : List Lsa) (n : Nat) (hn : l.length = n) (hlen : n < 1099511627776) (k : LKey) : CFun Try.prog 53 [.sl 15 (l.map encA) .sh, encY k] [] (.int .i64 (idxL (hasK k) l 0)) [] := by
 refine CFun.intro (tr := []) (fz := []) (n := 21) (rs := [.tmp 4]) Try.func53 rfl (by kernel_rfl) rfl rfl mixed (by kernel_rfl) (by simp) (by simp) ?_
 simp
 refine LoopK.intro (tr := []) mixed (by kernel_rfl) (fun i : Nat => [(0, .sl 15 (l.map encA) .sh), (3, .ptr 0 0), (5, .int .i64 i)]) (fun _ => [cellsY k]) (fun i => i ≤ n ∧ idxL (hasK k) l 0 = idxL (hasK k) (l.drop i) i) (fun i => n - i) 0 ?_ ?_ ?_
 · simp
 · simp
 · rintro i ⟨h1, h2⟩
   by_cases hi : i < n
   · obtain ⟨x, hx, hd⟩ := get_drop (l := l) (i := i) (by omega)
     rw [hd] at h2
     simp only [idxL] at h2
     have w1 : IntKind.i64.wrap ((i : Int) + 1) = i + 1 := wrap_in (by omega)
     have h := fun H => (c26 x.H).up' H rfl rfl
     have hk := keyY_iff (keyH x.H) k
     have hh : hasK k x = decide (keyH x.H = k) := rfl
     rw [hh] at h2
     generalize keyH x.H = q at h hk h2
     clear hd hh
     simp [hi, hn, hx, gE hx]
     refine ⟨_, _, .inl (by simpa using h _), by simp, ?_⟩
     by_cases hb : q = k
     · subst hb
       simp at h2
       simp [h2]
     · rw [if_neg (by simpa using hb)] at h2
       rw [decide_eq_false hb] at hk
       simp only [Bool.and_eq_false_iff, beq_eq_false_iff_ne] at hk
       have hk2 : ¬ (q.Ty = k.Ty ∧ q.ID = k.ID ∧ q.Len = k.Len ∧ q.Router = k.Router) := by
         rintro ⟨r1, r2, r3, r4⟩
         cases q; cases k; simp_all
       simp [hk2, w1]
       exact ⟨i + 1, ⟨by omega, h2⟩, by omega, by simp⟩
   · have : i = n := by omega
     subst this
     rw [List.drop_eq_nil_of_le (by omega)] at h2
     simp [hn, h2, idxL]
theorem idx_get (l : List Lsa) (k : LKey) : (idxL (hasK k) l 0 = -1 ∧ getD_ l k = (lsa0, false)) ∨ ∃ i x, idxL (hasK k) l 0 = ((i : Nat) : Int) ∧ l[i]? = some x ∧ i < l.length ∧ getD_ l k = (x, true) := by
 rcases idxL_find (hasK k) l 0 with ⟨h1, h2, _⟩ | ⟨i, x, h1, h2, h3⟩
 · exact .inl ⟨h1, by simp [getD_, h2]⟩
 · refine .inr ⟨i, x, by simpa using h1, h2, (List.getElem?_eq_some_iff.1 h2).1, ?_⟩
   have : l.find? (hasK k) = some x := by
     first | exact h3 | exact h3.1
   simp [getD_, this]
set_option maxHeartbeats 4000000 in
set_option maxRecDepth 10000 in
theorem f39 (l : List Lsa) (n : Nat) (hn : l.length = n) (hlen : n < 1099511627776) (k : LKey) : CFun Try.prog 69 [.sl 15 (l.map encA) .sh, encY k] [] (.tup [encA (getD_ l k).1, .bool (getD_ l k).2]) [] := by
 refine CFun.intro (tr := []) (fz := []) (n := 17) (rs := [.cell 4 80, .tmp 5]) Try.func69 rfl (by kernel_rfl) rfl rfl mixed (by kernel_rfl) (by simp) (by simp) ?_
 have h := fun H => (f87 l n hn hlen k).up' H rfl rfl
 simp
 refine ⟨_, _, .inl (by simpa using h _), by simp, ?_⟩
 rcases idx_get l k with ⟨h1, h2⟩ | ⟨i, x, h1, h2, h3, h4⟩
 · simp [h1, h2, lsa0]
 · rw [h1, h4]
   have h5 : ¬ ((i : Int) < 0) := by omega
   have h6 : i < n := by omega
   simp [h5, h2, gE h2, hn, h6]
set_option maxHeartbeats 4000000 in
set_option maxRecDepth 10000 in
theorem f37 (l : List Lsa) (n : Nat) (hn : l.length = n) (hlen : n < 1099511627776) (ok : ∀ x ∈ l, okL x) (k : LKey) : CFun Try.prog 57 [.sl 15 (l.map encA) .sh, encY k] [] (.tup [encA (getD_ l k).1, .bool (getD_ l k).2]) [] := by
 refine CFun.intro (tr := []) (fz := []) (n := 20) (rs := [.cell 4 80, .tmp 5]) Try.func57 rfl (by kernel_rfl) rfl rfl mixed (by kernel_rfl) (by simp) (by simp) ?_
 have h : ∀ (H : List (List AVal)), LeBoxes H.length H H → CFun Try.prog 83 [.sl 15 (l.map encA) .sh, .fn 84 [.agg (cellsY k)] []] H (.int .i64 (idxL (hasK k) l 0)) H := fun H hH => f97_ix l n hn hlen (hasK k) 84 [.agg (cellsY k)] [] H (by simp [low, low0]) hH (fun x _ => (f98 k x).up' H rfl rfl)
 simp
 refine ⟨_, _, .inl (by simpa using h [cellsY k, [.int .i64 0, .int .u32 0, .int .i64 0, .int .u32 0, .int .i64 0, .int .i64 0, .int .i64 0, .bool false, .bool false, .sl 0 [] .full, .sl 0 [] .full, .int .i64 0, .bool false, .int .u32 0, .int .i64 0]] (by simp)), by simp, ?_⟩
 rcases idx_get l k with ⟨h1, h2⟩ | ⟨i, x, h1, h2, h3, h4⟩
 · simp [h1, h2, lsa0]
 · rw [h1, h4]
   have h5 : ¬ ((i : Int) < 0) := by omega
   have h6 : i < n := by omega
   have h86 := fun H => (f86 x (ok x (List.mem_of_getElem? h2))).up' H rfl rfl
   simp [h5, h2, gE h2, hn, h6]
   refine ⟨_, _, .inl (by simpa using h86 _), by simp, ?_⟩
   simp
def cmpG (l : List Lsa) (h : Hdr) : Int := if (getD_ l (keyH h)).2 = true then cmpH h (getD_ l (keyH h)).1.H else 1
theorem cmpG_D (l : List Lsa) (h : Hdr) : cmpG l h = cmpD l h := by
 unfold cmpG cmpD getD_
 cases l.find? (hasK (keyH h)) <;> rfl
set_option maxHeartbeats 4000000 in
set_option maxRecDepth 10000 in
theorem f36 (l : List Lsa) (n : Nat) (hn : l.length = n) (hlen : n < 1099511627776) (ok : ∀ x ∈ l, okL x) (h : Hdr) : CFun Try.prog 97 [.sl 15 (l.map encA) .sh, encH h] [] (.int .i64 (cmpD l h)) [] := by
 refine CFun.intro (tr := []) (fz := []) (n := 20) (rs := [.tmp 4]) Try.func97 rfl (by kernel_rfl) rfl rfl mixed (by kernel_rfl) (by simp) (by simp) ?_
 have hk := fun H => (c25 h).up' H rfl rfl
 have hg := fun H => (f37 l n hn hlen ok (keyH h)).up' H rfl rfl
 have hc := fun H => (c16 h (getD_ l (keyH h)).1.H).up' H rfl rfl
 rw [← cmpG_D, cmpG]
 generalize getD_ l (keyH h) = g at hg hc ⊢
 generalize keyH h = q at hk hg
 simp
 refine ⟨_, _, .inl (by simpa using hk _), by simp, ?_⟩
 simp
 refine ⟨_, _, .inl (by simpa using hg _), by simp, ?_⟩
 cases hb : g.2
 · simp
 · simp
   refine ⟨_, _, .inl (by simpa using hc _), by simp, ?_⟩
   simp
set_option maxHeartbeats 4000000 in
set_option maxRecDepth 10000 in
theorem f49 (l : List Lsa) (n : Nat) (hn : l.length = n) (hlen : n < 1099511627776) (h : Hdr) (ha : inI h.Age) (hl : ∀ x ∈ l, inI x.H.Age) : CFun Try.prog 22 [.sl 15 (l.map encA) .sh, encH h] [] (.int .i64 (cmpD l h)) [] := by
 refine CFun.intro (tr := []) (fz := []) (n := 19) (rs := [.tmp 4]) Try.func22 rfl (by kernel_rfl) rfl rfl mixed (by kernel_rfl) (by simp) (by simp) ?_
 have hk := fun H => (c26 h).up' H rfl rfl
 have hg := fun H => (f87 l n hn hlen (keyH h)).up' H rfl rfl
 rw [← cmpG_D, cmpG]
 generalize keyH h = q at hk hg ⊢
 simp
 refine ⟨_, _, .inl (by simpa using hk _), by simp, ?_⟩
 simp
 refine ⟨_, _, .inl (by simpa using hg _), by simp, ?_⟩
 rcases idx_get l q with ⟨h1, h2⟩ | ⟨i, x, h1, h2, h3, h4⟩
 · simp [h1, h2]
 · rw [h1, h4]
   have h5 : ¬ ((i : Int) < 0) := by omega
   have h6 : i < n := by omega
   have hc := fun H => (c17 h x.H ha (hl x (List.mem_of_getElem? h2))).up' H rfl rfl
   simp [h5, h2, gE h2, hn, h6]
   refine ⟨_, _, .inl (by simpa using hc _), by simp, ?_⟩
   simp
end Go.Proofs.Ytfngaildaoahpaa
