/- The law ExchangeRequests: what Receive requests. -/
import Derived.Test.YtfngaildaoahpaaXU3
import Derived.Test.YtfngaildaoahpaaAmTU
import Derived.Test.YtfngaildaoahpaaXDSFacts
import Derived.Test.YtfngaildaoahpaaRows
import Derived.JoinedCond
import Derived.Test.YtfngaildaoahpaaXK5
set_option linter.unusedSimpArgs false
set_option linter.unusedVariables false
namespace Go.Proofs.Ytfngaildaoahpaa
open Go Go.Am
end Go.Proofs.Ytfngaildaoahpaa

/- The law ExchangeRequests, its walk. -/
namespace Go.Proofs.Ytfngaildaoahpaa
open Go Go.Am
end Go.Proofs.Ytfngaildaoahpaa

/- The second form: what the bound on the arguments' bulk gives. -/
namespace Go.Proofs.Ytfngaildaoahpaa
open Go Go.Am
theorem bulk_one {H : Type} (d : DataW H) : 1 ≤ Rows.uptoBulk d := by
 cases d with
 | lit l => cases l <;> simp [Rows.uptoBulk]
 | nil => simp [Rows.uptoBulk]
 | ptr d => simp [Rows.uptoBulk]
 | slice elems spare => simp [Rows.uptoBulk]
 | agg parts => simp [Rows.uptoBulk]
 | iface t d => simp [Rows.uptoBulk]
 | map entries => simp [Rows.uptoBulk]
 | held h => simp [Rows.uptoBulk]
theorem bulk_len {H : Type} (l : List (DataW H)) : l.length ≤ Rows.uptoBulkAll l := by
 induction l with
 | nil => simp [Rows.uptoBulkAll]
 | cons x r ih => have := bulk_one x; simp only [Rows.uptoBulkAll, List.length_cons]; omega
theorem bulk_part {H : Type} {d : DataW H} {l : List (DataW H)} (h : d ∈ l) : Rows.uptoBulk d ≤ Rows.uptoBulkAll l := by
 induction l with
 | nil => cases h
 | cons x r ih =>
   simp only [Rows.uptoBulkAll]
   cases List.mem_cons.1 h with
   | inl e => subst e; omega
   | inr e => have := ih e; omega
def okB (P : Program) (B : Nat) : Nat → TypeId → Bool
 | 0, _ => false
 | n + 1, t => match P.underlying t with
   | some .bool => true
   | some (.int _) => true
   | some (.slice e) => decide (P.bytesOf e ≤ B) && okB P B n e
   | some (.struct fs) => (fs.toList.map (·.type)).all (okB P B n)
   | some (.array _ e) => okB P B n e
   | _ => false
theorem mem_all {H : Type} {P : Program} {e : TypeId} {m : Nat} : ∀ {ds : List (DataW H)}, m ∈ DataW.weightsAll P e ds → ∃ d ∈ ds, m ∈ d.weights P e
 | [], h => by simp [DataW.weightsAll] at h
 | d :: r, h => by
   simp only [DataW.weightsAll, List.mem_append] at h
   rcases h with h | h
   · exact ⟨d, by simp, h⟩
   · obtain ⟨x, h1, h2⟩ := mem_all h
     exact ⟨x, by simp [h1], h2⟩
theorem mem_each {H : Type} {P : Program} {m : Nat} : ∀ {ts : List TypeId} {ds : List (DataW H)}, m ∈ DataW.weightsEach P ts ds → ∃ t ∈ ts, ∃ d ∈ ds, m ∈ d.weights P t
 | [], ds, h => by cases ds <;> simp [DataW.weightsEach] at h
 | t :: ts, [], h => by simp [DataW.weightsEach] at h
 | t :: ts, d :: r, h => by
   simp only [DataW.weightsEach, List.mem_append] at h
   rcases h with h | h
   · exact ⟨t, by simp, d, by simp, h⟩
   · obtain ⟨u, h1, x, h2, h3⟩ := mem_each h
     exact ⟨u, by simp [h1], x, by simp [h2], h3⟩
theorem wb {H : Type} (P : Program) (B : Nat) (h1 : 1 ≤ B) : ∀ (n : Nat) (t : TypeId), okB P B n t = true → ∀ (d : DataW H) (m : Nat), m ∈ d.weights P t → m ≤ Rows.uptoBulk d * (2 * B) := by
 have up : ∀ {a b : Nat} {m : Nat}, m ≤ a * (2 * B) → a ≤ b → m ≤ b * (2 * B) := fun h h2 => Nat.le_trans h (Nat.mul_le_mul_right _ h2)
 have one : ∀ a : Nat, a ≤ a * (2 * B) := fun a => Nat.le_mul_of_pos_right _ (by omega)
 intro n
 induction n with
 | zero => intro t h; simp [okB] at h
 | succ n ih =>
   intro t h d m hm
   simp only [okB] at h
   cases d with
   | lit l =>
     cases l with
     | string bytes =>
       simp only [DataW.weights, List.mem_singleton] at hm
       subst hm
       exact up (one _) (by simp [Rows.uptoBulk])
     | _ => simp [DataW.weights] at hm
   | nil => simp [DataW.weights] at hm
   | ptr d =>
     simp only [DataW.weights] at hm
     split at hm
     · rename_i e hu
       rw [hu] at h
       simp at h
     · simp at hm
   | slice elems spare =>
     simp only [DataW.weights] at hm
     split at hm
     · rename_i e hu
       rw [hu] at h
       simp only [Bool.and_eq_true, decide_eq_true_eq] at h
       simp only [List.mem_cons, List.mem_append] at hm
       have l1 := bulk_len elems
       have l2 := bulk_len spare
       rcases hm with rfl | hm | hm
       · refine Nat.mul_le_mul ?_ (Nat.le_trans h.1 (by omega))
         simp only [Rows.uptoBulk]; omega
       · obtain ⟨x, hx, hm⟩ := mem_all hm
         have := bulk_part hx
         exact up (ih e h.2 x m hm) (by simp only [Rows.uptoBulk]; omega)
       · obtain ⟨x, hx, hm⟩ := mem_all hm
         have := bulk_part hx
         exact up (ih e h.2 x m hm) (by simp only [Rows.uptoBulk]; omega)
     · simp at hm
   | agg parts =>
     simp only [DataW.weights] at hm
     split at hm
     · rename_i fs hu
       rw [hu] at h
       simp only at h
       obtain ⟨u, hu2, x, hx, hm⟩ := mem_each hm
       have := bulk_part hx
       exact up (ih u (List.all_eq_true.1 h u hu2) x m hm) (by simp only [Rows.uptoBulk]; omega)
     · rename_i k e hu
       rw [hu] at h
       simp only at h
       obtain ⟨x, hx, hm⟩ := mem_all hm
       have := bulk_part hx
       exact up (ih e h x m hm) (by simp only [Rows.uptoBulk]; omega)
     · simp at hm
   | iface t d => simp [DataW.weights] at hm
   | map entries =>
     simp only [DataW.weights] at hm
     split at hm
     · rename_i k e hu
       rw [hu] at h
       simp at h
     · simp at hm
   | held h => simp [DataW.weights] at hm
theorem short_rows {H : Type} {ts : List TypeId} {ds : List (DataW H)} (n : Nat) (ht : ts.all (okB Try.prog 2048 n) = true) (hk : Rows.uptoSmall H ds = true) : (DataW.weightsEach Try.prog ts ds).all (· ≤ AmU.reachU) = true := by
 have h : Rows.uptoBulkAll ds ≤ 1048576 := of_decide_eq_true hk
 rw [List.all_eq_true]
 intro m hm
 obtain ⟨t, h1, d, h2, hm⟩ := mem_each hm
 have := wb Try.prog 2048 (by decide) n t (List.all_eq_true.1 ht t h1) d m hm
 have hb := bulk_part h2
 have h3 : m ≤ 4294967296 := by omega
 exact decide_eq_true h3
end Go.Proofs.Ytfngaildaoahpaa

/- The exchange of databases: neighbors and packets as arguments of the second form. -/
namespace Go.Proofs.Ytfngaildaoahpaa
open Go Go.Am
def csPk : List CTy := [.int .i64, .int .u32, .int .u32, .int .u32, .int .i64, .int .i64, .int .i64, .int .i64, .int .u32, .int .u32, .sl false 4 [.int .u32], .int .i64, .bool, .bool, .bool, .sl true 56 csH, .sl true 32 tyY.2, .sl true 136 csA]
def tyPk : Bool × List CTy := (true, csPk)
theorem rd_Pk {x : AVal} (h : RdA tyPk x) : ∃ p : Pkt, x = encPk p ∧ inI p.Seq ∧ p.Keys.length * 32 ≤ 140737488351232 ∧ p.Heads.length * 56 ≤ 140737488351232 ∧ (∀ x ∈ p.Heads, okH x) := by
 obtain ⟨cs, h1, h⟩ := h
 obtain ⟨a1, r, rfl, h, w1⟩ := Rds_int h
 obtain ⟨a2, r, rfl, h, w2⟩ := Rds_int h
 obtain ⟨a3, r, rfl, h, w3⟩ := Rds_int h
 obtain ⟨a4, r, rfl, h, w4⟩ := Rds_int h
 obtain ⟨e1, r, rfl, h, v1⟩ := Rds_int h
 obtain ⟨e2, r, rfl, h, v2⟩ := Rds_int h
 obtain ⟨e3, r, rfl, h, v3⟩ := Rds_int h
 obtain ⟨e4, r, rfl, h, v4⟩ := Rds_int h
 obtain ⟨e5, r, rfl, h, v5⟩ := Rds_int h
 obtain ⟨e6, r, rfl, h, v6⟩ := Rds_int h
 obtain ⟨e7, r, rfl, h, z7⟩ := Rds_sl (enc := fun x : { x : Int // inW x } => enc32 x.1) h (fun y cs e h => by
   obtain ⟨a, r, rfl, h3, w⟩ := Rds_int h
   obtain rfl := Rds_nil h3
   simp at e
   exact ⟨⟨a, wf_u32 w⟩, e.symm⟩)
 obtain ⟨f1, r, rfl, h, w5⟩ := Rds_int h
 obtain ⟨f2, r, rfl, k1⟩ := Rds_bool h
 obtain ⟨f3, r, rfl, k2⟩ := Rds_bool k1
 obtain ⟨f4, r, rfl, k3⟩ := Rds_bool k2
 obtain ⟨g1, r, rfl, h, z1⟩ := Rds_sl (enc := fun x : { x : Hdr // okH x } => encH x.1) k3 (fun y cs e h => by
   obtain ⟨a, ha, ok⟩ := rd_H (x := y) ⟨cs, e, h⟩
   exact ⟨⟨a, ok⟩, ha⟩)
 obtain ⟨g2, r, rfl, h, z2⟩ := Rds_sl (enc := encY) h (fun y cs e h => rd_Y (x := y) ⟨cs, e, h⟩)
 obtain ⟨g3, r, rfl, h, z3⟩ := Rds_sl (enc := fun x : { x : Lsa // okD x } => encA x.1) h (fun y cs e h => by
   obtain ⟨a, ha, ok⟩ := rd_AD (x := y) ⟨cs, e, h⟩
   exact ⟨⟨a, ok⟩, ha⟩)
 obtain rfl := Rds_nil h
 simp only [reachBytes] at z7 z1 z2 z3
 refine ⟨⟨a1, a2, a3, a4, ⟨e1, e2, e3, e4, e5, e6, e7.map (·.1)⟩, f1, f2, f3, f4, g1.map (·.1), g2, g3.map (·.1)⟩, ?_, wf_i64 w5, by simp; omega, by simp; omega, fun x hx => ?_⟩
 · rw [if_pos (show tyPk.1 = true from rfl)] at h1
   rw [h1]
   simp [Function.comp_def, csH, csA, tyY]
 · obtain ⟨y, _, rfl⟩ := List.mem_map.1 hx
   exact y.2
theorem u_N {x : AVal} (h : AmU.RdA tyN x) : ∃ n : Nbr, x = encN n ∧ okN n ∧ n.Req.length * 56 ≤ 4294967296 := by
 obtain ⟨n, rfl, ok⟩ := rd_N (AmU.RdA_up h)
 refine ⟨n, rfl, ok, ?_⟩
 obtain ⟨cs, h1, h2⟩ := h
 rw [if_pos (show tyN.1 = true from rfl)] at h1
 have e : cs = cellsN n := by
   have := AVal.agg.inj h1
   exact this.symm
 subst e
 have := AmU.Rds_short (ag := true) (b := 56) (e := csH) 12 h2 rfl (k := 7) (ys := n.Req.map encH) (md := .sh) rfl
 simpa [AmU.reachU] using this
theorem u_Pk {x : AVal} (h : AmU.RdA tyPk x) : ∃ p : Pkt, x = encPk p ∧ inI p.Seq ∧ (∀ x ∈ p.Heads, okH x) ∧ p.Heads.length * 56 ≤ 4294967296 := by
 obtain ⟨p, rfl, hs, _, _, hh⟩ := rd_Pk (AmU.RdA_up h)
 refine ⟨p, rfl, hs, hh, ?_⟩
 obtain ⟨cs, h1, h2⟩ := h
 rw [if_pos (show tyPk.1 = true from rfl)] at h1
 have e : cs = cellsPk p := by
   have := AVal.agg.inj h1
   exact this.symm
 subst e
 have := AmU.Rds_short (ag := true) (b := 56) (e := csH) 15 h2 rfl (k := 7) (ys := p.Heads.map encH) (md := .sh) rfl
 simpa [AmU.reachU] using this
theorem u_sum {a b : Nat} (h : a * 56 ≤ 4294967296) (k : b * 56 ≤ 4294967296) : (a + b + 1) * 56 ≤ 140737488351232 ∧ a + b < 1099511627776 := by
 have h1 : a ≤ 76695845 := Nat.le_of_not_lt fun c => absurd (Nat.le_trans (Nat.mul_le_mul_right 56 c) h) (by decide)
 have h2 : b ≤ 76695845 := Nat.le_of_not_lt fun c => absurd (Nat.le_trans (Nat.mul_le_mul_right 56 c) k) (by decide)
 have h3 : a + b + 1 ≤ 153391691 := by omega
 exact ⟨Nat.le_trans (Nat.mul_le_mul_right 56 h3) (by decide), by omega⟩
theorem law4 : ∀ xs, AmU.RdAs [tyN, tyK, tyD, tyPk, tyI] xs → CFun Try.prog 4 xs [] (.bool true) [] := by
 rintro xs ⟨a, r, rfl, ha, b, r, rfl, hb, c, r, rfl, hc, d, r, rfl, hd, e, r, rfl, he, rfl⟩
 obtain ⟨n, rfl, ok, h1⟩ := u_N ha
 obtain ⟨s, rfl, _⟩ := rd_k (AmU.RdA_up hb)
 obtain ⟨db, rfl, okd, h2⟩ := rd_D (AmU.RdA_up hc)
 obtain ⟨p, rfl, hs, hh, h3⟩ := u_Pk hd
 obtain ⟨t, rfl, _⟩ := rd_i (AmU.RdA_up he)
 obtain ⟨s1, s2⟩ := u_sum h1 h3
 exact x4 n ok s db okd p hs hh t s1 h2 s2
end Go.Proofs.Ytfngaildaoahpaa
