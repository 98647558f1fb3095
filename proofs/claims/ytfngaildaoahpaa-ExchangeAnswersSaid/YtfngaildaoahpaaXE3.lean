import Derived.Test.YtfngaildaoahpaaXDS39
import Derived.Test.YtfngaildaoahpaaAmY
set_option linter.unusedSimpArgs false
set_option linter.unusedVariables false
namespace Go.Proofs.Ytfngaildaoahpaa
open Go Go.Am
set_option linter.unusedSimpArgs false
end Go.Proofs.Ytfngaildaoahpaa

namespace Go.Proofs.Ytfngaildaoahpaa
open Go Go.Am
theorem cmpI_lt {a b : Int} : cmpI a b < 0 ↔ a < b := by
 unfold cmpI; split
 · omega
 · split <;> omega
def ltY (a b : LKey) : Prop := cmpY a b < 0
instance (a b : LKey) : Decidable (ltY a b) := inferInstanceAs (Decidable (_ < _))
theorem ltY_iff (a b : LKey) : ltY a b ↔ a.Ty < b.Ty ∨ (a.Ty = b.Ty ∧ (a.ID < b.ID ∨ (a.ID = b.ID ∧ (a.Len < b.Len ∨ (a.Len = b.Len ∧ a.Router < b.Router))))) := by
 simp only [ltY, cmpY, orL]
 have z := fun a b => cmpI_zero a b
 have l := fun a b => @cmpI_lt a b
 split
 · rename_i h1; rw [z] at h1
   split
   · rename_i h2; rw [z] at h2
     split
     · rename_i h3; rw [z] at h3
       split
       · rename_i h4; rw [z] at h4; omega
       · rw [l]; omega
     · rename_i h3; rw [z] at h3; rw [l]; omega
   · rename_i h2; rw [z] at h2; rw [l]; omega
 · rename_i h1; rw [z] at h1; rw [l]; omega
theorem ltY_trans {a b c : LKey} (h : ltY a b) (k : ltY b c) : ltY a c := by
 rw [ltY_iff] at *; omega
theorem ltY_irrefl (a : LKey) : ¬ ltY a a := by rw [ltY_iff]; omega
theorem ltY_ne {a b : LKey} (h : ltY a b) : a ≠ b := by rintro rfl; exact ltY_irrefl _ h
def keyA (l : Lsa) : LKey := keyH l.H
def asc (db : List Lsa) : Prop := db.Pairwise fun x y => ltY (keyA x) (keyA y)
def sealE (l : Lsa) : Int := if chkA l ≠ 0 then chkA l else if l.H.Sum ≠ sumA l then 13 else 0
def rowsE : Option Lsa → List Lsa → Int
 | _, [] => 0
 | p, x :: xs => if sealE x ≠ 0 then sealE x else if (match p with | some y => decide (0 ≤ cmpY (keyA y) (keyA x)) | none => false) = true then 16 else rowsE (some x) xs
def chkD (db : List Lsa) : Int := if 2000 < db.length then 4 else rowsE none db
theorem rowsE_iff : ∀ (db : List Lsa) (p : Option Lsa), rowsE p db = 0 ↔ (∀ x ∈ db, sealE x = 0) ∧ asc (p.toList ++ db) ∧ True := by
 intro db
 induction db with
 | nil =>
   intro p
   cases p <;> simp [rowsE, asc]
 | cons x xs ih =>
   intro p
   simp only [rowsE]
   by_cases h1 : sealE x = 0
   case neg => simp [h1]
   rw [if_neg (by simpa using h1)]
   cases p with
   | none =>
     simp only [Bool.false_eq_true, if_false]
     rw [ih]
     simp [h1]
   | some y =>
     simp only [decide_eq_true_eq]
     by_cases h2 : ltY (keyA y) (keyA x)
     · rw [if_neg (by unfold ltY at h2; omega), ih]
       simp only [Option.toList_some, List.singleton_append, List.mem_cons, forall_eq_or_imp, h1, true_and, and_true]
       refine and_congr Iff.rfl ?_
       simp only [asc, List.pairwise_cons, List.mem_cons, forall_eq_or_imp]
       constructor
       · rintro ⟨a, b⟩
         exact ⟨⟨h2, fun z hz => ltY_trans h2 (a z hz)⟩, a, b⟩
       · rintro ⟨_, a, b⟩
         exact ⟨a, b⟩
     · rw [if_pos (by unfold ltY at h2; omega)]
       simp [asc, List.pairwise_cons, h2]
theorem chkD_ok {db : List Lsa} (h : chkD db = 0) : db.length ≤ 2000 ∧ (∀ x ∈ db, sealE x = 0) ∧ asc db := by
 unfold chkD at h
 split at h
 · simp at h
 · have := (rowsE_iff db none).1 h
   exact ⟨by omega, this.1, by simpa using this.2.1⟩
def hasK (k : LKey) (l : Lsa) : Bool := decide (keyA l = k)
def getD_ (db : List Lsa) (k : LKey) : Lsa × Bool := match db.find? (hasK k) with
 | some l => (l, true)
 | none => (lsa0, false)
structure SeenN (done db : List Lsa) : Prop where
  asc : asc db
  mem : ∀ x ∈ db, x ∈ done
  cov : ∀ y ∈ done, ∃ x ∈ db, keyA x = keyA y ∧ y.H.Seq ≤ x.H.Seq
theorem nodup_len {α : Type} [DecidableEq α] : ∀ (a b : List α), a.Pairwise (· ≠ ·) → (∀ x ∈ a, x ∈ b) → a.length ≤ b.length
 | [], _, _, _ => Nat.zero_le _
 | x :: xs, b, h, k => by
   rw [List.pairwise_cons] at h
   have hx := k x (by simp)
   have := nodup_len xs (b.erase x) h.2 (fun y hy => (List.mem_erase_of_ne (h.1 y hy).symm).2 (k y (List.mem_cons_of_mem _ hy)))
   rw [List.length_erase_of_mem hx] at this
   have hp : 0 < b.length := List.length_pos_of_mem hx
   simp only [List.length_cons]
   omega
theorem SeenN.len {done db : List Lsa} (h : SeenN done db) : db.length ≤ done.length := by
 exact nodup_len db done (h.asc.imp fun {a b} k => fun e => ltY_ne k (by rw [e])) h.mem
def okD (l : Lsa) : Prop := okA l ∧ l.Links.length * 24 ≤ 140737488355328 ∧ l.Att.length * 4 ≤ 140737488355328
theorem dec_A {ts : List CTy} {cs : List AVal} (h : Rds (csA ++ ts) cs) : ∃ (x : Lsa) (r : List AVal), cs = cellsA x ++ r ∧ okD x ∧ Rds ts r := by
 have h2 : Rds (csH ++ ([.bool, .bool, .sl true 24 csL, .sl false 4 [.int .u32], .int .i64, .bool, .int .u32, .int .i64] ++ ts)) cs := by simpa [csA] using h
 obtain ⟨hd, r, rfl, okh, k0⟩ := dec_H h2
 obtain ⟨b1, r, rfl, k1⟩ := Rds_bool k0
 obtain ⟨b2, r, rfl, k2⟩ := Rds_bool k1
 obtain ⟨ls, r, rfl, k3, z1⟩ := Rds_sl (enc := fun x : { x : Lnk // okK x } => encK x.1) k2 (fun y cs e h => by
   obtain ⟨x, hx⟩ := dec_K h
   exact ⟨x, e.trans hx⟩)
 obtain ⟨at_, r, rfl, k4, z2⟩ := Rds_sl (enc := fun x : { x : Int // inW x } => enc32 x.1) k3 (fun y cs e h => by
   obtain ⟨a, r, rfl, h3, w⟩ := Rds_int h
   obtain rfl := Rds_nil h3
   simp at e
   exact ⟨⟨a, wf_u32 w⟩, e.symm⟩)
 obtain ⟨co, r, rfl, k5, w1⟩ := Rds_int k4
 obtain ⟨se, r, rfl, k6⟩ := Rds_bool k5
 obtain ⟨fw, r, rfl, k7, w2⟩ := Rds_int k6
 obtain ⟨tg, r, rfl, k8, w3⟩ := Rds_int k7
 refine ⟨⟨hd, b1, b2, ls.map (·.1), at_.map (·.1), co, se, fw, tg⟩, r, ?_, ⟨⟨okh, fun x hx => ?_, fun x hx => ?_, wf_i64 w1, wf_u32 w2, wf_i64 w3, by simp only [reachBytes] at z1; simp; omega, by simp only [reachBytes] at z2; simp; omega⟩, by simp only [reachBytes] at z1; simp; omega, by simp only [reachBytes] at z2; simp; omega⟩, k8⟩
 · simp [csL, Function.comp_def]
 · obtain ⟨y, _, rfl⟩ := List.mem_map.1 hx
   exact y.2
 · obtain ⟨y, _, rfl⟩ := List.mem_map.1 hx
   exact y.2
theorem eA : Enc cellsA 15 where
  pos := by omega
  len x := rfl
  dis x := rfl
  tree x := by
    simp [AVal.tree]
end Go.Proofs.Ytfngaildaoahpaa

namespace Go.Proofs.Ytfngaildaoahpaa
open Go Go.Am
set_option maxHeartbeats 1000000 in
set_option maxRecDepth 10000 in
theorem c55b (l : List Lnk) (s1 : l.length * 24 ≤ 140737488355328) : CFun Try.prog 101 [.sl 4 (l.map encK) .sh] [] (.sl 4 (l.map encK) .sh) [] := by
 refine CFun.intro (tr := []) (fz := []) (n := 8) (rs := [.tmp 2]) Try.func101 rfl (by kernel_rfl) rfl rfl mixed (by kernel_rfl) (by simp) (by simp) ?_
 have s2 : l.length ≤ 140737488355328 := by omega
 cases l with
 | nil => simp
 | cons x xs =>
   simp only [List.length_cons] at s1 s2
   simp [s1, s2]
set_option maxHeartbeats 1000000 in
set_option maxRecDepth 10000 in
theorem c56b (l : List Int) (s1 : l.length * 4 ≤ 140737488355328) : CFun Try.prog 102 [.sl 1 (l.map enc32) .sh] [] (.sl 1 (l.map enc32) .sh) [] := by
 refine CFun.intro (tr := []) (fz := []) (n := 8) (rs := [.tmp 2]) Try.func102 rfl (by kernel_rfl) rfl rfl mixed (by kernel_rfl) (by simp) (by simp) ?_
 have s2 : l.length ≤ 140737488355328 := by omega
 cases l with
 | nil => simp
 | cons x xs =>
   simp only [List.length_cons] at s1 s2
   simp [s1, s2]
def okL (l : Lsa) : Prop := l.Links.length * 24 ≤ 140737488355328 ∧ l.Att.length * 4 ≤ 140737488355328
set_option maxHeartbeats 2000000 in
set_option maxRecDepth 10000 in
theorem f86 (l : Lsa) (ok : okL l) : CFun Try.prog 85 [encA l] [] (encA l) [] := by
 refine CFun.intro (tr := []) (fz := []) (n := 12) (rs := [.cell 2 80]) Try.func85 rfl (by kernel_rfl) rfl rfl mixed (by kernel_rfl) (by simp) (by simp) ?_
 have h1 := fun H => (c55b l.Links ok.1).up' H rfl rfl
 have h2 := fun H => (c56b l.Att ok.2).up' H rfl rfl
 simp
 refine ⟨_, _, .inl (h1 _), by simp, ?_⟩
 simp
 refine ⟨_, _, .inl (h2 _), by simp, ?_⟩
 simp
theorem keyY_iff (a b : LKey) : ((a.Ty == b.Ty) && ((a.ID == b.ID) && ((a.Len == b.Len) && (a.Router == b.Router)))) = decide (a = b) := by
 cases a; cases b
 rw [Bool.eq_iff_iff]
 simp
set_option maxHeartbeats 2000000 in
set_option maxRecDepth 10000 in
theorem f98 (k : LKey) (l : Lsa) : CFun Try.prog 84 [.agg (cellsY k), encA l] [] (.bool (hasK k l)) [] := by
 refine CFun.intro (tr := []) (fz := []) (n := 11) (rs := [.tmp 4]) Try.func84 rfl (by kernel_rfl) rfl rfl mixed (by kernel_rfl) (by simp) (by simp) ?_
 have h1 := fun H => (c25 l.H).up' H rfl rfl
 have hk : hasK k l = _ := (keyY_iff (keyH l.H) k).symm
 rw [hk]
 generalize keyH l.H = q at h1
 simp
 refine ⟨_, _, .inl (h1 _), by simp, ?_⟩
 simp
end Go.Proofs.Ytfngaildaoahpaa

namespace Go.Proofs.Ytfngaildaoahpaa
open Go Go.Am
end Go.Proofs.Ytfngaildaoahpaa
