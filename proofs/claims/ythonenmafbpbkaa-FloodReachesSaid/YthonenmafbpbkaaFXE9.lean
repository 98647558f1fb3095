import Derived.Test.YthonenmafbpbkaaFXE2
set_option linter.unusedSimpArgs false
set_option linter.unusedVariables false
namespace Go.Proofs.Ythonenmafbpbkaa
open Go Go.Am
end Go.Proofs.Ythonenmafbpbkaa

namespace Go.Proofs.Ythonenmafbpbkaa
open Go Go.Am
def ceA (l : Lsa) : List AVal := cellsA l
theorem eA' : Enc ceA 15 := eA
set_option maxHeartbeats 4000000 in
set_option maxRecDepth 10000 in
theorem f97_ix (l : List Lsa) (n : Nat) (hn : l.length = n) (hlen : n < 1099511627776) (p : Lsa → Bool) (f : FuncId) (fs cs : List AVal) (H : List (List AVal)) (hf : low H.length (.fn f fs cs) = true) (hH : LeBoxes H.length H H)
   (hp : ∀ x ∈ l, CFun Try.prog f (fs ++ [.agg (ceA x)] ++ cs) H (.bool (p x)) H) : CFun Try.prog 94 [.sl 15 (l.map fun x => AVal.agg (ceA x)) .sh, .fn f fs cs] H (.int .i64 (idxL p l 0)) H := by
 refine CFun.intro (tr := []) (fz := []) (n := 19) (rs := [.tmp 4]) Try.func94 rfl (by kernel_rfl) rfl rfl mixed (by kernel_rfl) (by simp) (by simp) ?_
 simp
 refine LoopK.intro (tr := []) mixed (by kernel_rfl) (fun i : Nat => [(0, .sl 15 (l.map fun x => AVal.agg (ceA x)) .sh), (1, .fn f fs cs), (7, .int .i64 n), (8, .int .i64 i)]) (fun _ => H) (fun i => i ≤ n ∧ idxL p l 0 = idxL p (l.drop i) i) (fun i => n - i) 0 ?_ ?_ ?_
 · simp
 · simp [hn, hH]
   simpa [low] using hf
 · rintro i ⟨h1, h2⟩
   by_cases hi : i < n
   · obtain ⟨x, hx, hd⟩ := get_drop (l := l) (i := i) (by omega)
     have hpx := hp x (List.mem_of_getElem? hx)
     rw [hd] at h2
     clear hd hn
     have w1 : IntKind.i64.wrap ((i : Int) + 1) = i + 1 := wrap_in (by omega)
     have hl := (eA').len x
     have ht := List.all_eq_true.1 ((eA').tree x)
     have hdis := (eA').dis x
     have htk : (List.take 15 (ceA x)) = ceA x := List.take_of_length_le (by omega)
     simp [hi, hx, hl, ht, hdis, htk]
     refine ⟨_, _, .inl (by simpa [cargs] using hpx), by simp, ?_⟩
     simp only [idxL] at h2
     by_cases hpb : p x = true
     · simp [hpb, hH, h2]
     · rw [if_neg hpb] at h2
       simp [hpb, w1, hH]
       refine ⟨i + 1, ⟨by omega, h2⟩, by omega, ?_⟩
       simp
       simpa [low] using hf
   · have : i = n := by omega
     subst this
     rw [List.drop_eq_nil_of_le (by omega)] at h2
     simp [h2, idxL, hH]
end Go.Proofs.Ythonenmafbpbkaa

namespace Go.Proofs.Ythonenmafbpbkaa
open Go Go.Am
end Go.Proofs.Ythonenmafbpbkaa

namespace Go.Proofs.Ythonenmafbpbkaa
open Go Go.Am
theorem gE {α : Type} {l : List α} {i : Nat} {x : α} (hx : l[i]? = some x) (h : i < l.length) : l[i]'h = x := by
 rw [List.getElem?_eq_getElem h] at hx
 injection hx
end Go.Proofs.Ythonenmafbpbkaa

namespace Go.Proofs.Ythonenmafbpbkaa
open Go Go.Am
theorem idx_get (l : List Lsa) (k : LKey) : (idxL (hasK k) l 0 = -1 ∧ getD_ l k = (lsa0, false)) ∨ ∃ i x, idxL (hasK k) l 0 = ((i : Nat) : Int) ∧ l[i]? = some x ∧ i < l.length ∧ getD_ l k = (x, true) := by
 rcases idxL_find (hasK k) l 0 with ⟨h1, h2, _⟩ | ⟨i, x, h1, h2, h3⟩
 · exact .inl ⟨h1, by simp [getD_, h2]⟩
 · refine .inr ⟨i, x, by simpa using h1, h2, (List.getElem?_eq_some_iff.1 h2).1, ?_⟩
   have : l.find? (hasK k) = some x := by
     first | exact h3 | exact h3.1
   simp [getD_, this]
set_option maxHeartbeats 4000000 in
set_option maxRecDepth 10000 in
theorem f37 (l : List Lsa) (n : Nat) (hn : l.length = n) (hlen : n < 1099511627776) (ok : ∀ x ∈ l, okL x) (k : LKey) : CFun Try.prog 65 [.sl 15 (l.map encA) .sh, encY k] [] (.tup [encA (getD_ l k).1, .bool (getD_ l k).2]) [] := by
 refine CFun.intro (tr := []) (fz := []) (n := 20) (rs := [.cell 4 61, .tmp 5]) Try.func65 rfl (by kernel_rfl) rfl rfl mixed (by kernel_rfl) (by simp) (by simp) ?_
 have h : ∀ (H : List (List AVal)), LeBoxes H.length H H → CFun Try.prog 94 [.sl 15 (l.map encA) .sh, .fn 95 [.agg (cellsY k)] []] H (.int .i64 (idxL (hasK k) l 0)) H := fun H hH => f97_ix l n hn hlen (hasK k) 95 [.agg (cellsY k)] [] H (by simp [low, low0]) hH (fun x _ => (f98 k x).up' H rfl rfl)
 simp
 refine ⟨_, _, .inl (by simpa using h [cellsY k, [.int .i64 0, .int .u32 0, .int .i64 0, .int .u32 0, .int .i64 0, .int .i64 0, .int .i64 0, .bool false, .bool false, .sl 0 [] .full, .sl 0 [] .full, .int .i64 0, .bool false, .int .u32 0, .int .i64 0]] (by simp)), by simp, ?_⟩
 rcases idx_get l k with ⟨h1, h2⟩ | ⟨i, x, h1, h2, h3, h4⟩
 · simp [h1, h2, lsa0]
 · rw [h1, h4]
   have h5 : ¬ ((i : Int) < 0) := by omega
   have h6 : i < n := by omega
   have h86 := fun H => (f86 x (ok x (List.mem_of_getElem? h2))).up' H rfl rfl
   simp [h5, h2, gE h2, hn, h6]
   refine ⟨_, _, .inl (by simpa using h86 _), by simp, ?_⟩
   simp
def cmpG (l : List Lsa) (h : Hdr) : Int := if (getD_ l (keyH h)).2 = true then cmpH h (getD_ l (keyH h)).1.H else 1
theorem cmpG_D (l : List Lsa) (h : Hdr) : cmpG l h = cmpD l h := by
 unfold cmpG cmpD getD_
 cases l.find? (hasK (keyH h)) <;> rfl
set_option maxHeartbeats 4000000 in
set_option maxRecDepth 10000 in
theorem f36 (l : List Lsa) (n : Nat) (hn : l.length = n) (hlen : n < 1099511627776) (ok : ∀ x ∈ l, okL x) (h : Hdr) : CFun Try.prog 64 [.sl 15 (l.map encA) .sh, encH h] [] (.int .i64 (cmpD l h)) [] := by
 refine CFun.intro (tr := []) (fz := []) (n := 20) (rs := [.tmp 4]) Try.func64 rfl (by kernel_rfl) rfl rfl mixed (by kernel_rfl) (by simp) (by simp) ?_
 have hk := fun H => (c25 h).up' H rfl rfl
 have hg := fun H => (f37 l n hn hlen ok (keyH h)).up' H rfl rfl
 have hc := fun H => (c16 h (getD_ l (keyH h)).1.H).up' H rfl rfl
 rw [← cmpG_D, cmpG]
 generalize getD_ l (keyH h) = g at hg hc ⊢
 generalize keyH h = q at hk hg
 simp
 refine ⟨_, _, .inl (by simpa using hk _), by simp, ?_⟩
 simp
 refine ⟨_, _, .inl (by simpa using hg _), by simp, ?_⟩
 cases hb : g.2
 · simp
 · simp
   refine ⟨_, _, .inl (by simpa using hc _), by simp, ?_⟩
   simp
end Go.Proofs.Ythonenmafbpbkaa

namespace Go.Proofs.Ythonenmafbpbkaa
open Go Go.Am
end Go.Proofs.Ythonenmafbpbkaa

namespace Go.Proofs.Ythonenmafbpbkaa
open Go Go.Am
end Go.Proofs.Ythonenmafbpbkaa
