import Derived.Test.YtmgkemffbmfmpaaGreatZDS6
import Derived.Test.YtmgkemffbmfmpaaGreatAmU
import Derived.JoinedOf
import Derived.Test.YtmgkemffbmfmpaaGreatRows
set_option linter.unusedSimpArgs false
set_option linter.unusedVariables false
namespace Go.Proofs.YtmgkemffbmfmpaaGreat
open Go Go.Am

theorem bodyB_len (l : Lsa) (hl : l.Links.length ≤ 64) (ha : l.Att.length ≤ 64) : (bodyB l).length ≤ 706 := by
  have h1 : ((l.Links.map linkB).flatten).length = l.Links.length * 11 := by
    induction l.Links with
    | nil => rfl
    | cons x xs ih => simp only [List.map_cons, List.flatten_cons, List.length_append, linkB_len, List.length_cons, ih]; omega
  have h2 : ((l.Att.map attB).flatten).length = l.Att.length * 4 := by
    induction l.Att with
    | nil => rfl
    | cons x xs ih => simp only [List.map_cons, List.flatten_cons, List.length_append, attB_len, List.length_cons, ih]; omega
  unfold bodyB
  split
  · simp only [List.length_append, numB_len, h1]; omega
  · split
    · simp only [List.length_append, numB_len, h2]; omega
    · split
      · simp [numB_len]
      · split <;> simp [numB_len]
def bytesA (l : Lsa) : List Int := hdrB l.H ++ numB 2 (U (bodyB l).length) ++ bodyB l
theorem bytesA_len (l : Lsa) (hl : l.Links.length ≤ 64) (ha : l.Att.length ≤ 64) : (bytesA l).length ≤ 726 := by
  have := bodyB_len l hl ha
  simp only [bytesA, List.length_append, hdrB_len, numB_len]; omega

set_option maxHeartbeats 1000000 in
set_option maxRecDepth 10000 in
theorem c59 (l : Lsa) (hl : l.Links.length ≤ 64) (ha : l.Att.length ≤ 64) : CFun Tryz.prog 87 [encA l] [] (encBs (bytesA l)) [] := by
  refine CFun.intro (tr := []) (fz := []) (n := 15) (rs := [.tmp 2]) Tryz.func87 rfl (by kernel_rfl) rfl rfl mixed (by kernel_rfl) (by simp) (by simp) ?_
  have h87 := (c87 l hl ha).up' [cellsA l] rfl rfl
  have h69 := (c69 l.H).up' [cellsA l] rfl rfl
  have hb := bodyB_len l hl ha
  have h88 := (c88 (hdrB l.H) (by rw [hdrB_len]; omega) 2 (by omega) (U (bodyB l).length)).up' [cellsA l] rfl rfl
  have s1 : (hdrB l.H).length + 2 + (bodyB l).length ≤ 140737488355328 := by rw [hdrB_len]; omega
  have hbc : ((bodyB l).length : Int) = ((bodyB l).length : Nat) := rfl
  simp
  refine ⟨_, _, .inl h87, trivial, ?_⟩
  simp
  refine ⟨_, _, .inl h69, trivial, ?_⟩
  simp
  refine ⟨_, _, .inl (by simpa [cargs] using h88), by simp, ?_⟩
  simp [numB_len, s1, bytesA]

def resI (n : Int) : Int := IntKind.i64.wrap ((IntKind.i64.wrap ((IntKind.i64.wrap (n - 1)).tmod 255 + 255)).tmod 255 + 1)
theorem c98 (n : Int) : CFun Tryz.prog 118 [.int .i64 n] [] (.int .i64 (resI n)) [] := by
  refine CFun.intro (tr := []) (fz := []) (n := 9) (rs := [.tmp 2]) Tryz.func118 rfl (by kernel_rfl) rfl rfl mixed (by kernel_rfl) (by simp) (by simp) ?_
  simp [resI]

def sumStep (n : Int) (skip : Int) (i : Nat) (s : Int × Int) (b : Int) : Int × Int :=
  if 0 ≤ skip ∧ ((i : Int) = skip ∨ (i : Int) = IntKind.i64.wrap (skip + 1)) then s else
  ((IntKind.i64.wrap (s.1 + IntKind.i64.wrap b)).tmod 255, (IntKind.i64.wrap (s.2 + IntKind.i64.wrap ((IntKind.i64.wrap (n - i)).tmod 255 * IntKind.i64.wrap b))).tmod 255)
def sumsL (n : Int) (skip : Int) : List Int → Nat → Int × Int → Int × Int
  | [], _, s => s
  | b :: bs, i, s => sumsL n skip bs (i + 1) (sumStep n skip i s b)

set_option maxHeartbeats 2000000 in
set_option maxRecDepth 10000 in
theorem c97 (b : List Int) (n : Nat) (hn : (b.length : Int) = n) (hlen : n < 1099511627776) (skip : Int) : CFun Tryz.prog 117 [encBs b, .int .i64 skip] [] (.agg [.int .i64 (sumsL n skip b 0 (0, 0)).1, .int .i64 (sumsL n skip b 0 (0, 0)).2]) [] := by
  refine CFun.intro (tr := []) (fz := []) (n := 53) (rs := [.cell 4 155]) Tryz.func117 rfl (by kernel_rfl) rfl rfl mixed (by kernel_rfl) (by simp) (by simp) ?_
  simp [hn]
  refine LoopK.intro (tr := []) mixed (by kernel_rfl) (fun q : Nat × Int × Int => [(0, encBs b), (1, .int .i64 skip), (4, .ptr 0 0), (5, .ptr 1 0), (8, .int .i64 n), (9, .int .i64 q.1)]) (fun q => [[.int .i64 0, .int .i64 0], [.int .i64 q.2.1, .int .i64 q.2.2]])
    (fun q => q.1 ≤ n ∧ sumsL n skip b 0 (0, 0) = sumsL n skip (b.drop q.1) q.1 q.2) (fun q => n - q.1) (0, 0, 0) ?_ ?_ ?_
  · simp
  · simp
  · rintro ⟨i, s0, s1⟩ ⟨h1, h2⟩
    simp only at h1 h2
    by_cases hi : i < n
    · obtain ⟨x, hx, hd⟩ := get_drop (l := b) (i := i) (by omega)
      rw [hd] at h2
      have w1 : IntKind.i64.wrap ((i : Int) + 1) = i + 1 := wrap_in (by omega)
      simp only [sumsL, sumStep] at h2
      clear hd
      by_cases k0 : 0 ≤ skip
      · by_cases k1 : (i : Int) = skip
        · subst k1
          simp [k0] at h2
          simp [hi, w1]
          exact ⟨i + 1, s0, s1, ⟨by omega, h2⟩, by omega, by simp, rfl, rfl⟩
        · by_cases k2 : (i : Int) = IntKind.i64.wrap (skip + 1)
          · rw [if_pos ⟨k0, .inr k2⟩] at h2
            have b1 : ((i : Int) == skip) = false := by simpa using k1
            have b2 : ((i : Int) == IntKind.i64.wrap (skip + 1)) = true := by simpa using k2
            simp [hi, k0, b1, b2, w1]
            exact ⟨i + 1, s0, s1, ⟨by omega, h2⟩, by omega, by simp, rfl, rfl⟩
          · rw [if_neg (by rintro ⟨_, h | h⟩ <;> contradiction)] at h2
            have b1 : ((i : Int) == skip) = false := by simpa using k1
            have b2 : ((i : Int) == IntKind.i64.wrap (skip + 1)) = false := by simpa using k2
            simp [hi, k0, b1, b2, hx, hn, w1]
            exact ⟨i + 1, _, _, ⟨by omega, h2⟩, by omega, by simp, rfl, rfl⟩
      · rw [if_neg (by omega)] at h2
        simp [hi, k0, hx, hn, w1]
        exact ⟨i + 1, _, _, ⟨by omega, h2⟩, by omega, by simp, rfl, rfl⟩
    · have e : b.drop i = [] := List.drop_of_length_le (by omega)
      rw [e] at h2
      simp [sumsL] at h2
      simp [hi, h2]

/-- The Fletcher checksum, its place given. -/
def fletch (b : List Int) (at_ : Int) : Int × Bool :=
  if at_ < 0 ∨ IntKind.i64.wrap ((b.length : Int) - 1) ≤ at_ then (0, false) else
  let s := sumsL b.length at_ b 0 (0, 0)
  let x := resI (IntKind.i64.wrap (IntKind.i64.wrap ((IntKind.i64.wrap (IntKind.i64.wrap ((b.length : Int) - at_) - 1)).tmod 255 * s.1) - s.2))
  let y := resI (IntKind.i64.wrap (IntKind.i64.wrap (0 - s.1) - x))
  (IntKind.i64.wrap (IntKind.i64.wrap (256 * x) + y), true)

set_option maxHeartbeats 2000000 in
set_option maxRecDepth 10000 in
theorem c85 (b : List Int) (hlen : b.length < 1099511627776) (at_ : Int) : CFun Tryz.prog 104 [encBs b, .int .i64 at_] [] (.tup [.int .i64 (fletch b at_).1, .bool (fletch b at_).2]) [] := by
  refine CFun.intro (tr := []) (fz := []) (n := 44) (rs := [.tmp 4, .tmp 5]) Tryz.func104 rfl (by kernel_rfl) rfl rfl mixed (by kernel_rfl) (by simp) (by simp) ?_
  by_cases h1 : at_ < 0
  · simp [h1, fletch]
  by_cases h2 : IntKind.i64.wrap ((b.length : Int) - 1) ≤ at_
  · simp [h1, h2, fletch]
  have h97 := c97 b b.length rfl hlen at_
  have h98 : ∀ n H, CFun Tryz.prog 118 [.int .i64 n] H (.int .i64 (resI n)) H := fun n H => (c98 n).up' H rfl rfl
  simp only [fletch, if_neg (show ¬ (at_ < 0 ∨ IntKind.i64.wrap ((b.length : Int) - 1) ≤ at_) by rintro (h | h) <;> contradiction)]
  generalize sumsL b.length at_ b 0 (0, 0) = s at h97 ⊢
  simp [h1, h2]
  refine ⟨_, _, .inl h97, trivial, ?_⟩
  simp
  refine ⟨_, _, .inl (h98 _ _), by simp, ?_⟩
  simp
  refine ⟨_, _, .inl (h98 _ _), by simp, ?_⟩
  simp

def sumA (l : Lsa) : Int := (fletch ((bytesA l).drop 2) 14).1
set_option maxHeartbeats 1000000 in
set_option maxRecDepth 10000 in
theorem c54 (l : Lsa) (hl : l.Links.length ≤ 64) (ha : l.Att.length ≤ 64) : CFun Tryz.prog 83 [encA l] [] (.int .i64 (sumA l)) [] := by
  refine CFun.intro (tr := []) (fz := []) (n := 13) (rs := [.tmp 2]) Tryz.func83 rfl (by kernel_rfl) rfl rfl mixed (by kernel_rfl) (by simp) (by simp) ?_
  have h59 := (c59 l hl ha).up' [cellsA l] rfl rfl
  have hlen := bytesA_len l hl ha
  have hlo : 20 ≤ (bytesA l).length := by simp only [bytesA, List.length_append, hdrB_len, numB_len]; omega
  have h85 := (c85 ((bytesA l).drop 2) (by simp; omega) 14).up' [cellsA l] rfl rfl
  rw [sumA]
  generalize bytesA l = b at h59 h85 hlen hlo ⊢
  have z1 : (2 : Int) ≤ b.length := by omega
  have z2 : 2 ≤ b.length := by omega
  generalize fletch (b.drop 2) 14 = r at h85 ⊢
  simp
  refine ⟨_, _, .inl h59, trivial, ?_⟩
  have ht : (b.map enc8).take b.length = b.map enc8 := List.take_of_length_le (by simp)
  simp [z1, z2, ht]
  refine ⟨_, _, .inl (by simpa [cargs] using h85), by simp, ?_⟩
  simp
end Go.Proofs.YtmgkemffbmfmpaaGreat

namespace Go.Proofs.YtmgkemffbmfmpaaGreat
open Go Go.Am

set_option maxRecDepth 10000 in
theorem c78 (ts : List Int) (hts : ts.length < 1099511627776) (ty : Int) (rest : List AVal) (hr : LeCells 1 rest rest) : CFun Tryz.prog 112 [.sl 1 (ts.map encI) .sh, .ptr 0 0] [.int .i64 ty :: rest] (.bool (memL ts ty)) [.int .i64 ty :: rest] := by
  refine CFun.intro (tr := []) (fz := []) (n := 9) (rs := [.tmp 3]) Tryz.func112 rfl (by kernel_rfl) rfl rfl mixed (by kernel_rfl) (by simp) (by simp) ?_
  simp
  refine ⟨_, _, .inl ((c79 ts hts ty).up' _ rfl rfl), by simp, ?_⟩
  simpa using hr

def forB (l : Lsa) : Bool :=
  if memL [1] l.H.Ty = false ∧ (l.Border = true ∨ l.Boundary = true ∨ 0 < l.Links.length) then true else
  if memL [2] l.H.Ty = false ∧ 0 < l.Att.length then true else
  if memL [3, 4, 5] l.H.Ty = false ∧ l.Cost ≠ 0 then true else
  !memL [5] l.H.Ty && (l.Second || decide (l.Fwd ≠ 0) || decide (l.Tag ≠ 0))

set_option maxHeartbeats 2000000 in
set_option maxRecDepth 10000 in
theorem c41 (l : Lsa) : CFun Tryz.prog 101 [encA l] [] (.bool (forB l)) [] := by
  refine CFun.intro (tr := []) (fz := []) (n := 63) (rs := [.tmp 2]) Tryz.func101 rfl (by kernel_rfl) rfl rfl mixed (by kernel_rfl) (by simp) (by simp) ?_
  have h78 : ∀ (ts : List Int) (rest : List AVal), ts.length < 1099511627776 → LeCells 1 rest rest → CFun Tryz.prog 112 [.sl 1 (ts.map encI) .full, .ptr 0 0] [.int .i64 l.H.Ty :: rest] (.bool (memL ts l.H.Ty)) [.int .i64 l.H.Ty :: rest] :=
    fun ts rest hts hr => (c78 ts hts l.H.Ty rest hr).wk _ (by simp) ⟨whole, rfl, trivial⟩
  have h1 := fun rest => h78 [1] rest (by simp)
  have h2 := fun rest => h78 [2] rest (by simp)
  have h3 := fun rest => h78 [3, 4, 5] rest (by simp)
  have h5 := fun rest => h78 [5] rest (by simp)
  simp only [List.map_cons, List.map_nil, encI] at h1 h2 h3 h5
  rw [forB]
  generalize memL [1] l.H.Ty = m1 at h1 ⊢
  generalize memL [2] l.H.Ty = m2 at h2 ⊢
  generalize memL [3, 4, 5] l.H.Ty = m3 at h3 ⊢
  generalize memL [5] l.H.Ty = m5 at h5 ⊢
  have hL : (0 : Int) < l.Links.length ↔ 0 < l.Links.length := by omega
  have hT : (0 : Int) < l.Att.length ↔ 0 < l.Att.length := by omega
  simp
  refine ⟨_, _, .inl (h1 _ (by simp)), trivial, ?_⟩
  by_cases g1 : m1 = false ∧ (l.Border = true ∨ l.Boundary = true ∨ 0 < l.Links.length)
  · obtain ⟨rfl, g⟩ := g1
    by_cases b1 : l.Border = true
    · simp [b1]
    · by_cases b2 : l.Boundary = true
      · simp [b1, b2]
      · have b3 : 0 < l.Links.length := by rcases g with g | g | g <;> first | contradiction | exact g
        simp [b1, b2, hL, b3]
  have step : m1 = true ∨ (m1 = false ∧ l.Border = false ∧ l.Boundary = false ∧ ¬ 0 < l.Links.length) := by
    cases m1
    · right
      refine ⟨rfl, ?_, ?_, ?_⟩
      · cases h : l.Border <;> simp_all
      · cases h : l.Boundary <;> simp_all
      · intro h; exact g1 ⟨rfl, .inr (.inr h)⟩
    · exact .inl rfl
  rcases step with rfl | ⟨rfl, q1, q2, q3⟩
  all_goals first | simp [q1, q2, q3] | simp
  all_goals
    refine ⟨_, _, .inl (h2 _ (by simp)), trivial, ?_⟩
    by_cases g2 : m2 = false ∧ 0 < l.Att.length
    · simp [g2.1, g2.2]
    have s2 : m2 = true ∨ (m2 = false ∧ ¬ 0 < l.Att.length) := by
      cases m2
      · exact .inr ⟨rfl, fun h => g2 ⟨rfl, h⟩⟩
      · exact .inl rfl
    rcases s2 with rfl | ⟨rfl, r1⟩
    all_goals first | simp [r1] | simp
    all_goals
      refine ⟨_, _, .inl (h3 _ (by simp)), trivial, ?_⟩
      by_cases g3 : m3 = false ∧ l.Cost ≠ 0
      · simp [g3.1, g3.2]
      have s3 : m3 = true ∨ (m3 = false ∧ l.Cost = 0) := by
        cases m3
        · refine .inr ⟨rfl, ?_⟩
          by_cases h : l.Cost = 0
          · exact h
          · exact (g3 ⟨rfl, h⟩).elim
        · exact .inl rfl
      rcases s3 with rfl | ⟨rfl, r2⟩
      all_goals first | simp [r2] | simp
      all_goals
        refine ⟨_, _, .inl (h5 _ (by simp)), trivial, ?_⟩
        cases m5
        · cases e1 : l.Second
          · by_cases e2 : l.Fwd = 0
            · by_cases e3 : l.Tag = 0 <;> simp [e1, e2, e3]
            · simp [e1, e2]
          · simp [e1]
        · simp

theorem memL1 (a x : Int) : memL [a] x = decide (x = a) := by simp [memL]
def chkA (l : Lsa) : Int :=
  if chkH l.H ≠ 0 then chkH l.H else if forB l = true then 1 else
  if l.H.Ty = 1 then chkLinks l.Links l.H.Router else if l.H.Ty = 2 then chkAtt l.Att l.H.Router else
  if inR l.Cost 0 16777216 = false ∨ inR l.Tag 0 4294967295 = false then 5 else 0

theorem chkA_len {l : Lsa} (h : chkA l = 0) : l.Links.length ≤ 64 ∧ l.Att.length ≤ 64 := by
  unfold chkA at h
  split at h
  · contradiction
  · split at h
    · cases h
    · rename_i h2
      have hL : l.H.Ty ≠ 1 → l.Links.length = 0 := by
        intro hne
        by_cases e : 0 < l.Links.length
        · exact (h2 (by simp [forB, memL1, hne, e])).elim
        · omega
      have hA : l.H.Ty ≠ 2 → l.Att.length = 0 := by
        intro hne
        by_cases e : 0 < l.Att.length
        · refine (h2 ?_).elim
          unfold forB
          split
          · rfl
          · rw [if_pos ⟨by simp [memL1, hne], e⟩]
        · omega
      split at h
      · rename_i t1
        have := hA (by omega)
        unfold chkLinks at h
        split at h
        · cases h
        · omega
      · rename_i t1
        have := hL t1
        split at h
        · unfold chkAtt at h
          split at h
          · cases h
          · omega
        · rename_i t2
          have := hA t2
          omega

set_option maxHeartbeats 2000000 in
set_option maxRecDepth 10000 in
theorem c13 (l : Lsa) : CFun Tryz.prog 82 [encA l] [] (.int .i64 (chkA l)) [] := by
  refine CFun.intro (tr := []) (fz := []) (n := 41) (rs := [.tmp 2]) Tryz.func82 rfl (by kernel_rfl) rfl rfl mixed (by kernel_rfl) (by simp) (by simp) ?_
  have h40 := (c40 l.H).up' [cellsA l] rfl rfl
  have h41 := (c41 l).up' [cellsA l] rfl rfl
  have h42 : ∀ H, CFun Tryz.prog 102 [.sl 4 (l.Links.map encK) .sh, .int .u32 l.H.Router] H (.int .i64 (chkLinks l.Links l.H.Router)) H := fun H => (c42 l.Links _ rfl l.H.Router).up' H rfl rfl
  have h43 : ∀ H, CFun Tryz.prog 103 [.sl 1 (l.Att.map enc32) .sh, .int .u32 l.H.Router] H (.int .i64 (chkAtt l.Att l.H.Router)) H := fun H => (c43 l.Att _ rfl l.H.Router).up' H rfl rfl
  have h44 : ∀ n lo hi H, CFun Tryz.prog 80 [.int .i64 n, .int .i64 lo, .int .i64 hi] H (.bool (inR n lo hi)) H := fun n lo hi H => (c44 n lo hi).up' H rfl rfl
  rw [chkA]
  generalize chkLinks l.Links l.H.Router = v42 at h42 ⊢
  generalize chkAtt l.Att l.H.Router = v43 at h43 ⊢
  generalize forB l = v41 at h41 ⊢
  generalize chkH l.H = v40 at h40 ⊢
  simp
  refine ⟨_, _, .inl h40, trivial, ?_⟩
  by_cases e0 : v40 = 0
  · subst e0
    simp
    refine ⟨_, _, .inl h41, trivial, ?_⟩
    cases v41
    · by_cases t1 : l.H.Ty = 1
      · simp [t1]
        refine ⟨_, _, .inl (h42 _), trivial, ?_⟩
        simp
      · by_cases t2 : l.H.Ty = 2
        · simp [t2]
          refine ⟨_, _, .inl (h43 _), trivial, ?_⟩
          simp
        · simp [t1, t2]
          refine ⟨_, _, .inl (h44 _ _ _ _), trivial, ?_⟩
          cases e1 : inR l.Cost 0 16777216
          · simp
          · simp
            refine ⟨_, _, .inl (h44 _ _ _ _), trivial, ?_⟩
            cases e2 : inR l.Tag 0 4294967295 <;> simp
    · simp
  · simp [e0]
end Go.Proofs.YtmgkemffbmfmpaaGreat

namespace Go.Proofs.YtmgkemffbmfmpaaGreat
open Go Go.Am

def ageGap (a b : Hdr) : Int := IntKind.u64.wrap (IntKind.u64.wrap (if a.Age < b.Age then b.Age else a.Age) - IntKind.u64.wrap (if b.Age < a.Age then b.Age else a.Age))
def cmpH (a b : Hdr) : Int :=
  if orL [cmpI a.Seq b.Seq, cmpI a.Sum b.Sum] ≠ 0 then orL [cmpI a.Seq b.Seq, cmpI a.Sum b.Sum] else
  if a.Age = 3600 ∧ b.Age ≠ 3600 then 1 else if b.Age = 3600 ∧ a.Age ≠ 3600 then -1 else
  if ageGap a b ≤ 900 then 0 else cmpI b.Age a.Age

def sealA (l : Lsa) : Lsa := { l with H := { l.H with Sum := sumA l } }
def sealL (l : Lsa) : Lsa × Int := if chkA l ≠ 0 then (⟨⟨0, 0, 0, 0, 0, 0, 0⟩, false, false, [], [], 0, false, 0, 0⟩, chkA l) else (sealA l, 0)

def encL (l : Lsa) : List Int × Int := if chkA l ≠ 0 then ([], chkA l) else if l.H.Sum ≠ sumA l then ([], 13) else (bytesA l, 0)
set_option maxHeartbeats 2000000 in
set_option maxRecDepth 10000 in
theorem c21 (l : Lsa) : CFun Tryz.prog 63 [encA l] [] (.tup [encBs (encL l).1, .int .i64 (encL l).2]) [] := by
  refine CFun.intro (tr := []) (fz := []) (n := 18) (rs := [.tmp 2, .tmp 3]) Tryz.func63 rfl (by kernel_rfl) rfl rfl mixed (by kernel_rfl) (by simp) (by simp) ?_
  have h13 := (c13 l).up' [cellsA l] rfl rfl
  rw [encL]
  by_cases e : chkA l = 0
  · obtain ⟨hl, ha⟩ := chkA_len e
    have h54 := (c54 l hl ha).up' [cellsA l] rfl rfl
    have h59 := (c59 l hl ha).up' [cellsA l] rfl rfl
    rw [e] at h13
    simp
    refine ⟨_, _, .inl h13, trivial, ?_⟩
    simp
    refine ⟨_, _, .inl h54, by simp, ?_⟩
    by_cases e2 : l.H.Sum = sumA l
    · have b2 : (l.H.Sum == sumA l) = true := by simpa using e2
      have b3 : (l.H.Sum != sumA l) = false := by simp [e2]
      simp [b2, b3]
      refine ⟨_, _, .inl h59, by simp, ?_⟩
      simp [e, e2]
    · simp [e, e2]
  · simp
    refine ⟨_, _, .inl h13, trivial, ?_⟩
    simp [e]
end Go.Proofs.YtmgkemffbmfmpaaGreat

namespace Go.Proofs.YtmgkemffbmfmpaaGreat
open Go Go.Am

def smp : Lsa := ⟨⟨3, 167772160, 8, 1, 4, 0, 0⟩, false, false, [], [], 7, false, 0, 0⟩
def smpS : Lsa := ⟨⟨3, 167772160, 8, 1, 4, 0, sumA smp⟩, false, false, [], [], 7, false, 0, 0⟩
def h1 : Hdr := ⟨1, 1, 0, 1, 4, 100, 0⟩
def h2 : Hdr := ⟨1, 1, 0, 1, 3, 100, 0⟩
def h3 : Hdr := ⟨1, 1, 0, 1, 4, 1100, 0⟩
def h4 : Hdr := ⟨1, 1, 0, 1, 4, 1000, 0⟩

theorem v1 : sealL smp = (smpS, 0) := by decide +kernel
theorem v2 : (encL smpS).2 = 0 ∧ (encL smpS).1.length = 24 := by decide +kernel
theorem v3 : cmpH h1 h2 = 1 ∧ cmpH h1 h3 = 1 ∧ cmpH h1 h4 = 0 := by decide +kernel

end Go.Proofs.YtmgkemffbmfmpaaGreat

namespace Go.Proofs.YtmgkemffbmfmpaaGreat
open Go Go.Am

theorem cmpI_zero (a b : Int) : cmpI a b = 0 ↔ a = b := by
  unfold cmpI; split
  · omega
  · split <;> omega
theorem c52 (a b : Int) : CFun Tryz.prog 91 [.int .i64 a, .int .i64 b] [] (.int .i64 (cmpI a b)) [] := by
  refine CFun.intro (tr := []) (fz := []) (n := 11) (rs := [.tmp 4]) Tryz.func91 rfl (by kernel_rfl) rfl rfl mixed (by kernel_rfl) (by simp) (by simp) ?_
  by_cases h : a < b
  · simp [h, cmpI]
  · by_cases h2 : b < a <;> simp [h, h2, cmpI]

def inI (x : Int) : Prop := -9223372036854775808 ≤ x ∧ x ≤ 9223372036854775807

theorem wrap_u64 (x : Int) : IntKind.u64.wrap x = x % 18446744073709551616 := rfl
end Go.Proofs.YtmgkemffbmfmpaaGreat

namespace Go.Proofs.YtmgkemffbmfmpaaGreat
open Go Go.Am

theorem Rds_int {k : IntKind} {ts : List CTy} {cs : List AVal} (h : Rds (.int k :: ts) cs) : ∃ n r, cs = .int k n :: r ∧ Rds ts r ∧ (Lit.int k n).wf = true := by
  simp only [Rds, Rd] at h
  obtain ⟨x, r, rfl, ⟨n, rfl, hn⟩, h2⟩ := h
  exact ⟨n, r, rfl, h2, hn⟩
theorem Rds_nil {cs : List AVal} (h : Rds [] cs) : cs = [] := h

/-- A list of values, each of which encodes something. -/
theorem decAll {α : Type} {enc : α → AVal} : ∀ (xs : List AVal), (∀ y ∈ xs, ∃ a, y = enc a) → ∃ l : List α, xs = l.map enc := by
  intro xs
  induction xs with
  | nil => intro _; exact ⟨[], rfl⟩
  | cons x xs ih =>
    intro h
    obtain ⟨a, rfl⟩ := h x (by simp)
    obtain ⟨l, rfl⟩ := ih fun y hy => h y (by simp [hy])
    exact ⟨a :: l, rfl⟩
def inW (x : Int) : Prop := 0 ≤ x ∧ x ≤ 4294967295
def okH (h : Hdr) : Prop := inI h.Ty ∧ inW h.ID ∧ inI h.Len ∧ inW h.Router ∧ inI h.Seq ∧ inI h.Age ∧ inI h.Sum
theorem own : ownKnob Tryz.prog.godebug = none := by kernel_rfl
end Go.Proofs.YtmgkemffbmfmpaaGreat
