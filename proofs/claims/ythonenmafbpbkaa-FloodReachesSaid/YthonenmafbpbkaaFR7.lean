/- Flooding through a net: the graph's checks by the reference; Seal. -/
import Derived.Test.YthonenmafbpbkaaFO3
import Derived.Test.YthonenmafbpbkaaFXDS28
set_option linter.unusedSimpArgs false
set_option linter.unusedVariables false
namespace Go.Proofs.Ythonenmafbpbkaa
open Go Go.Am
structure Edg where
  From : Int
  To : Int
  Cost : Int
@[simp] def cellsE (e : Edg) : List AVal := [.int .i64 e.From, .int .i64 e.To, .int .i64 e.Cost]
@[simp] def encE (e : Edg) : AVal := .agg (cellsE e)
@[simp] def cellsGr (R M : Int) (l : List Edg) : List AVal := [.int .i64 R, .int .i64 M, .sl 3 (l.map encE) .sh]
@[simp] def encGr (R M : Int) (l : List Edg) : AVal := .agg (cellsGr R M l)
def sizeG (R M : Int) : Int := if R < 0 ∨ M < 0 then 5 else if 128 < R ∨ 128 - R < M then 4 else 0
def nodeG (R M x : Int) : Bool := decide (0 ≤ x) && (decide (x < R) || decide (x - R < M))
def alwG (R M : Int) (e : Edg) : Int :=
 if nodeG R M e.From = false ∨ nodeG R M e.To = false then 5 else if e.From = e.To ∨ (R ≤ e.From ∧ R ≤ e.To) then 1 else
 if (R ≤ e.From ∧ e.Cost ≠ 0) ∨ (e.From < R ∧ (e.Cost < 1 ∨ 65535 < e.Cost)) then 1 else 0
def befG (a b : Edg) : Bool := decide (a.From < b.From) || (decide (a.From = b.From) && decide (a.To < b.To))
def rowG (R M : Int) : Option Edg → List Edg → Int
 | _, [] => 0
 | p, e :: l => if alwG R M e ≠ 0 then alwG R M e else if (match p with | none => true | some x => befG x e) = false then 16 else rowG R M (some e) l
def chkG (R M : Int) (l : List Edg) : Int := if sizeG R M ≠ 0 then sizeG R M else if 1024 < l.length then 4 else rowG R M none l
set_option maxHeartbeats 2000000 in
set_option maxRecDepth 10000 in
theorem h71 (R M : Int) (l : List Edg) : CFun Try.prog 71 [encGr R M l] [] (.int .i64 (sizeG R M)) [] := by
 refine CFun.intro (tr := []) (fz := []) (n := 22) (rs := [.tmp 2]) Try.func71 rfl (by kernel_rfl) rfl rfl mixed (by kernel_rfl) (by simp) (by simp) ?_
 unfold sizeG
 by_cases c1 : R < 0
 · simp [c1]
 by_cases c2 : M < 0
 · simp [c1, c2]
 by_cases c3 : 128 < R
 · simp [c1, c2, c3]
 have w : IntKind.i64.wrap (128 - R) = 128 - R := wrap_in (by omega)
 by_cases c4 : 128 - R < M
 · simp [c1, c2, c3, w, c4]
 · simp [c1, c2, c3, w, c4]
set_option maxHeartbeats 2000000 in
set_option maxRecDepth 10000 in
theorem h104 (R M : Int) (hR : 0 ≤ R ∧ R ≤ 128) (l : List Edg) (x : Int) (hx : inI x) : CFun Try.prog 104 [encGr R M l, .int .i64 x] [] (.bool (nodeG R M x)) [] := by
 refine CFun.intro (tr := []) (fz := []) (n := 22) (rs := [.tmp 4]) Try.func104 rfl (by kernel_rfl) rfl rfl mixed (by kernel_rfl) (by simp) (by simp) ?_
 unfold nodeG
 unfold inI at hx
 by_cases c1 : 0 ≤ x
 · have w : IntKind.i64.wrap (x - R) = x - R := wrap_in (by omega)
   by_cases c2 : x < R
   · simp [c1, c2]
   · by_cases c3 : x - R < M
     · simp [c1, c2, w, c3]
     · simp [c1, c2, w, c3]
 · simp [c1]
set_option maxHeartbeats 8000000 in
set_option maxRecDepth 10000 in
theorem h72 (R M : Int) (hR : 0 ≤ R ∧ R ≤ 128) (l : List Edg) (e : Edg) (h1 : inI e.From) (h2 : inI e.To) : CFun Try.prog 72 [encGr R M l, encE e] [] (.int .i64 (alwG R M e)) [] := by
 refine CFun.intro (tr := []) (fz := []) (n := 63) (rs := [.tmp 4]) Try.func72 rfl (by kernel_rfl) rfl rfl mixed (by kernel_rfl) (by simp) (by simp) ?_
 have k1 := fun H => (h104 R M hR l e.From h1).up' H rfl rfl
 have k2 := fun H => (h104 R M hR l e.To h2).up' H rfl rfl
 unfold alwG
 generalize nodeG R M e.From = a at *
 generalize nodeG R M e.To = b at *
 simp
 refine ⟨_, _, .inl (by simpa using k1 _), by simp, ?_⟩
 cases a with
 | false => simp
 | true =>
   simp
   refine ⟨_, _, .inl (by simpa using k2 _), by simp, ?_⟩
   cases b with
   | false => simp
   | true =>
     by_cases c1 : e.From = e.To
     · simp [c1]
     by_cases c2 : R ≤ e.From
     · have c2' : ¬ e.From < R := by omega
       by_cases c3 : R ≤ e.To
       · simp [c1, c2, c3]
       by_cases c4 : e.Cost = 0
       · simp [c1, c2, c2', c3, c4]
       · simp [c1, c2, c2', c3, c4]
     · have c2' : e.From < R := by omega
       by_cases c4 : e.Cost < 1
       · simp [c1, c2, c2', c4]
       by_cases c5 : 65535 < e.Cost
       · simp [c1, c2, c2', c4, c5]
       · simp [c1, c2, c2', c4, c5]
set_option maxHeartbeats 2000000 in
set_option maxRecDepth 10000 in
theorem h73 (a b : Edg) : CFun Try.prog 73 [encE a, encE b] [] (.bool (befG a b)) [] := by
 refine CFun.intro (tr := []) (fz := []) (n := 24) (rs := [.tmp 4]) Try.func73 rfl (by kernel_rfl) rfl rfl mixed (by kernel_rfl) (by simp) (by simp) ?_
 unfold befG
 by_cases c1 : a.From < b.From
 · simp [c1]
 by_cases c2 : a.From = b.From
 · by_cases c3 : a.To < b.To
   · simp [c1, c2, c3]
   · simp [c1, c2, c3]
 · simp [c1, c2]
set_option maxHeartbeats 1000000 in
set_option maxRecDepth 10000 in
theorem h70 (l : Lsa) (hl : l.Links.length ≤ 64) (ha : l.Att.length ≤ 64) : CFun Try.prog 70 [encA l] [] (encA l) [] := by
 refine CFun.intro (tr := []) (fz := []) (n := 14) (rs := [.cell 2 61]) Try.func70 rfl (by kernel_rfl) rfl rfl mixed (by kernel_rfl) (by simp) (by simp) ?_
 have s1 : l.Links.length * 24 ≤ 140737488355328 := by omega
 have s2 : l.Att.length * 4 ≤ 140737488355328 := by omega
 have s3 : l.Links.length ≤ 140737488355328 := by omega
 have s4 : l.Att.length ≤ 140737488355328 := by omega
 simp [s1, s2, s3, s4]
set_option maxHeartbeats 2000000 in
set_option maxRecDepth 10000 in
theorem h28 (l : Lsa) (ok : okA l) : CFun Try.prog 28 [encA l] [] (.tup [encA (sealL l).1, .int .i64 (sealL l).2]) [] := by
 refine CFun.intro (tr := []) (fz := []) (n := 17) (rs := [.cell 2 61, .tmp 3]) Try.func28 rfl (by kernel_rfl) rfl rfl mixed (by kernel_rfl) (by simp) (by simp) ?_
 have h14 := fun rest => (c14 l ok).up' (cellsA l :: rest) rfl rfl
 rw [sealL]
 by_cases e : chkA l = 0
 · obtain ⟨hl, ha⟩ := chkA_len e
   have h57 := fun rest => (c57 l hl ha).up' (cellsA l :: rest) rfl rfl
   have h58 := fun H => (h70 (sealA l) hl ha).up' H rfl rfl
   rw [e] at h14
   simp
   refine ⟨_, _, .inl (h14 _), trivial, ?_⟩
   simp
   refine ⟨_, _, .inl (h57 _), trivial, ?_⟩
   simp
   refine ⟨_, _, .inl (by simpa [sealA] using h58 _), by simp, ?_⟩
   simp [e, sealA]
 · simp
   refine ⟨_, _, .inl (h14 _), trivial, ?_⟩
   simp [e]
end Go.Proofs.Ythonenmafbpbkaa

/- Flooding through a net: Check, Find and Cost by the reference; an interface; what is linked. -/
namespace Go.Proofs.Ythonenmafbpbkaa
open Go Go.Am
def prevG (l : List Edg) : Nat → Option Edg
 | 0 => none
 | k + 1 => l[k]?
set_option maxHeartbeats 8000000 in
set_option maxRecDepth 10000 in
theorem h29 (R M : Int) (l : List Edg) (L : Nat) (hL : l.length = L) (hL2 : L < 140737488355328) (ok : ∀ e ∈ l, inI e.From ∧ inI e.To) : CFun Try.prog 29 [encGr R M l] [] (.int .i64 (chkG R M l)) [] := by
 refine CFun.intro (tr := []) (fz := []) (n := 49) (rs := [.tmp 2]) Try.func29 rfl (by kernel_rfl) rfl rfl mixed (by kernel_rfl) (by simp) (by simp) ?_
 have k71 := fun H => (h71 R M l).up' H rfl rfl
 generalize hu : chkG R M l = u
 unfold chkG at hu
 by_cases c1 : sizeG R M = 0
 case neg =>
   rw [if_pos c1] at hu
   subst hu
   generalize sizeG R M = z at *
   simp
   refine ⟨_, _, .inl (by simpa using k71 _), by simp, ?_⟩
   simp [c1]
 have hR : 0 ≤ R ∧ R ≤ 128 := by
   unfold sizeG at c1
   split at c1
   · cases c1
   · split at c1
     · cases c1
     · omega
 rw [if_neg (by rw [c1]; simp), hL] at hu
 rw [c1] at k71
 by_cases c2 : 1024 < L
 · have c2' : (1024 : Int) < L := by omega
   rw [if_pos c2] at hu
   subst hu
   simp
   refine ⟨_, _, .inl (by simpa using k71 _), by simp, ?_⟩
   simp [hL, c2, c2']
 · have c2' : ¬ (1024 : Int) < L := by omega
   rw [if_neg c2] at hu
   simp
   refine ⟨_, _, .inl (by simpa using k71 _), by simp, ?_⟩
   simp [hL, c2, c2']
   refine LoopK.intro (tr := []) mixed (by kernel_rfl) (fun i : Nat => [(1, .ptr 0 0), (4, .int .i64 i)]) (fun _ => [cellsGr R M l]) (fun i => i ≤ L ∧ rowG R M (prevG l i) (l.drop i) = u) (fun i => L - i) 0 ?_ ?_ ?_
   · exact ⟨Nat.zero_le _, by simpa [prevG] using hu⟩
   · simp
   rintro i ⟨i1, i2⟩
   by_cases hi : i < L
   · have hil : i < l.length := by omega
     obtain ⟨e, he, hd⟩ := get_drop (l := l) (i := i) hil
     obtain ⟨o1, o2⟩ := ok e (List.mem_of_getElem? he)
     have w1 : IntKind.i64.wrap ((i : Int) + 1) = i + 1 := wrap_in (by omega)
     have k72 := fun H => (h72 R M hR l e o1 o2).up' H rfl rfl
     rw [hd] at i2
     simp only [rowG] at i2
     have hnx : prevG l (i + 1) = some e := he
     generalize alwG R M e = a at *
     by_cases c3 : a = 0
     · subst c3
       rw [if_neg (by simp)] at i2
       cases i with
       | zero =>
         simp only [prevG, Bool.true_eq_false, if_false] at i2
         have hL0 : 0 < L := hi
         simp [hL0, hL, he, gE he, hil]
         refine ⟨_, _, .inl (by simpa using k72 _), by simp, ?_⟩
         simp [hL0, hL, he, gE he, hil]
         have wz : IntKind.i64.wrap 1 = 1 := wrap_in (by omega)
         exact ⟨1, ⟨hi, by rw [hnx]; exact i2⟩, by omega, by simp [wz]⟩
       | succ k =>
         have hkl : k < l.length := by omega
         obtain ⟨p, hp⟩ : ∃ p, l[k]? = some p := ⟨_, List.getElem?_eq_getElem hkl⟩
         have k73 := fun H => (h73 p e).up' H rfl rfl
         have wk : IntKind.i64.wrap (k : Int) = k := wrap_in (by omega)
         have kp : (0 : Int) < (k : Int) + 1 := by omega
         have w1' : IntKind.i64.wrap ((k : Int) + 1 + 1) = (k : Int) + 1 + 1 := wrap_in (by omega)
         have hkL : (k : Int) + 1 < L := by omega
         have hkL2 : (k : Int) < L := by omega
         have hk3 : (k : Int) + 1 = ((k + 1 : Nat) : Int) := rfl
         have htn : ((k : Int) + 1).toNat = k + 1 := by omega
         have hkl1 : k + 1 < L := hi
         have hkl2 : k < L := by omega
         have hp0 : (0 : Int) ≤ (k : Int) + 1 := by omega
         simp only [prevG, hp] at i2
         generalize befG p e = b at *
         simp [hi, hL, he, gE he, hil, hkL, hkL2, htn, hkl1, hkl2, hp0]
         refine ⟨_, _, .inl (by simpa using k72 _), by simp, ?_⟩
         simp [hi, hL, he, gE he, hil, hkL, hkL2, htn, hkl1, hkl2, hp, gE hp, kp, wk, hp0]
         refine ⟨_, _, .inl (by simpa using k73 _), by simp, ?_⟩
         cases b with
         | false =>
           simp at i2
           subst i2
           simp
         | true =>
           simp at i2
           simp [w1']
           exact ⟨k + 1 + 1, ⟨hi, by rw [hnx]; exact i2⟩, by omega, by simp⟩
     · rw [if_pos c3] at i2
       subst i2
       simp [hi, hL, he, gE he, hil]
       refine ⟨_, _, .inl (by simpa using k72 _), by simp, ?_⟩
       simp [c3]
   · rw [List.drop_eq_nil_of_le (by omega)] at i2
     have i3 : (0 : Int) = u := by
       have : rowG R M (prevG l i) [] = 0 := by unfold rowG; rfl
       rw [← this]; exact i2
     subst i3
     simp [hi, hL]
def findE (a b : Int) : List Edg → Nat → Int
 | [], _ => -1
 | x :: l, i => if x.From = a ∧ x.To = b then i else findE a b l (i + 1)
def isEg (a b : Int) (x : Edg) : Bool := decide (x.From = a) && decide (x.To = b)
theorem findE_cases (a b : Int) : ∀ (l : List Edg) (i : Nat), (findE a b l i = -1 ∧ l.find? (isEg a b) = none) ∨ ∃ k x, findE a b l i = ((i + k : Nat) : Int) ∧ l[k]? = some x ∧ l.find? (isEg a b) = some x
 | [], _ => .inl ⟨rfl, rfl⟩
 | x :: l, i => by
   by_cases h : x.From = a ∧ x.To = b
   · exact .inr ⟨0, x, by simp [findE, h], rfl, by simp [isEg, h.1, h.2]⟩
   · have h2 : isEg a b x = false := by
       unfold isEg
       by_cases g : x.From = a
       · have : ¬ x.To = b := fun q => h ⟨g, q⟩
         simp [g, this]
       · simp [g]
     rcases findE_cases a b l (i + 1) with ⟨e1, e2⟩ | ⟨k, y, e1, e2, e3⟩
     · exact .inl ⟨by simp [findE, h, e1], by rw [List.find?_cons, h2]; exact e2⟩
     · exact .inr ⟨k + 1, y, by simp only [findE, if_neg h, e1]; omega, e2, by rw [List.find?_cons, h2]; exact e3⟩
set_option maxHeartbeats 8000000 in
set_option maxRecDepth 10000 in
theorem h74 (R M : Int) (l : List Edg) (L : Nat) (hL : l.length = L) (hL2 : L ≤ 1024) (a b : Int) : CFun Try.prog 74 [encGr R M l, .int .i64 a, .int .i64 b] [] (.int .i64 (findE a b l 0)) [] := by
 refine CFun.intro (tr := []) (fz := []) (n := 34) (rs := [.tmp 6]) Try.func74 rfl (by kernel_rfl) rfl rfl mixed (by kernel_rfl) (by simp) (by simp) ?_
 generalize hu : findE a b l 0 = u
 simp
 refine LoopK.intro (tr := []) mixed (by kernel_rfl)
   (fun i : Nat => [(1, .int .i64 a), (2, .int .i64 b), (3, .ptr 0 0), (7, .int .i64 i)])
   (fun _ => [cellsGr R M l]) (fun i => i ≤ L ∧ findE a b (l.drop i) i = u) (fun i => L - i) 0 ?_ ?_ ?_
 · exact ⟨Nat.zero_le _, by simpa using hu⟩
 · simp
 · rintro i ⟨iL, hi0⟩
   by_cases hi : i < L
   · have hil : i < l.length := by omega
     obtain ⟨x, hx, hd⟩ := get_drop (l := l) (i := i) hil
     have hxi := gE hx
     have w1 : IntKind.i64.wrap ((i : Int) + 1) = i + 1 := wrap_in (by omega)
     rw [hd] at hi0
     unfold findE at hi0
     generalize hQ : LoopPost _ _ _ _ _ _ _ = Q
     by_cases g : x.From = a ∧ x.To = b
     · rw [if_pos g] at hi0
       subst hi0
       simp [hi, hL, hx, hxi, hil, g.1, g.2]
       rw [← hQ]
       simp [LoopPost]
     · rw [if_neg g] at hi0
       by_cases g1 : x.From = a
       · have g2 : ¬ x.To = b := fun c => g ⟨g1, c⟩
         simp [hi, hL, hx, hxi, hil, g1, g2, w1]
         rw [← hQ]
         simp only [LoopPost]
         refine ⟨i + 1, ⟨hi, hi0⟩, by omega, ?_⟩
         simp
       · simp [hi, hL, hx, hxi, hil, g1, w1]
         rw [← hQ]
         simp only [LoopPost]
         refine ⟨i + 1, ⟨hi, hi0⟩, by omega, ?_⟩
         simp
   · have : l.drop i = [] := List.drop_eq_nil_of_le (by omega)
     rw [this] at hi0
     unfold findE at hi0
     subst hi0
     simp [hi, hL]
def costE (l : List Edg) (a b : Int) : Int := match l.find? (isEg a b) with | none => 0 | some x => x.Cost
set_option maxHeartbeats 8000000 in
set_option maxRecDepth 10000 in
theorem h30 (R M : Int) (l : List Edg) (L : Nat) (hL : l.length = L) (hL2 : L ≤ 1024) (a b : Int) : CFun Try.prog 30 [encGr R M l, .int .i64 a, .int .i64 b] [] (.tup [.int .i64 (costE l a b), .bool (l.find? (isEg a b)).isSome]) [] := by
 refine CFun.intro (tr := []) (fz := []) (n := 21) (rs := [.tmp 6, .tmp 7]) Try.func30 rfl (by kernel_rfl) rfl rfl mixed (by kernel_rfl) (by simp) (by simp) ?_
 have k1 := fun H => (h74 R M l L hL hL2 a b).up' H rfl rfl
 simp
 refine ⟨_, _, .inl (by simpa using k1 _), by simp, ?_⟩
 unfold costE
 rcases findE_cases a b l 0 with ⟨h1, h2⟩ | ⟨k, x, h1, h2, h3⟩
 · simp [h1, h2]
 · have hkl : k < l.length := (List.getElem?_eq_some_iff.1 h2).1
   have hxi := gE h2
   have g : ¬ ((k : Int) < 0) := by omega
   rw [Nat.zero_add] at h1
   simp [h1, h2, h3, hxi, hkl, g]
def LtV (x y : AVal) : Prop := ∀ (F : Frz) (v : Value), RepT F x v → RepT F y v
theorem LtV.refl (x : AVal) : LtV x x := fun _ _ h => h
theorem LtV.nil (k k' : Nat) (m : Am.Mode) : LtV (.sl k [] m) (.sl k' [] .sh) := by
 intro F v h
 cases h with
 | slnil => exact .slnil _ _
 | sl _ _ _ a len cap val hl hc ha hk hm hx h1 hF h =>
   have h0 : len = 0 := hl
   subst h0
   exact .sl _ _ _ a 0 cap val rfl (Nat.zero_le _) (fun e => absurd rfl e) (fun e => absurd rfl e) (fun e => by cases e) (fun _ e => by cases e) (fun _ e => by cases e) (fun j hj => by omega) (fun i j x c e => by simp at e)
theorem LtV.agg {cs ds : List AVal} (hl : ds.length = cs.length) (h1 : ∀ c ∈ ds, c.scalar = true) (h : ∀ (i : Nat) (c d : AVal), cs[i]? = some c → ds[i]? = some d → LtV c d) : LtV (.agg cs) (.agg ds) := by
 intro F v hv
 cases hv with
 | agg _ arr hs _ hx =>
   refine .agg _ _ (by omega) h1 fun i d v hd hv => ?_
   have hi : i < cs.length := by have := (List.getElem?_eq_some_iff.1 hd).1; omega
   exact h i _ d (List.getElem?_eq_getElem hi) hd F v (hx i _ v (List.getElem?_eq_getElem hi) hv)
theorem LtV.sl {k : Nat} {xs ys : List AVal} {m : Am.Mode} (hl : ys.length = xs.length) (hk : ∀ y ∈ ys, y.cells.length = k) (h1 : ∀ y ∈ ys, ∀ c ∈ y.cells, c.scalar = true)
   (h : ∀ (i : Nat) (x y : AVal), xs[i]? = some x → ys[i]? = some y → x.cells.length = y.cells.length → ∀ (j : Nat) (c d : AVal), x.cells[j]? = some c → y.cells[j]? = some d → LtV c d) : LtV (.sl k xs m) (.sl k ys .sh) := by
 intro F v hv
 cases hv with
 | slnil =>
   have : ys = [] := List.eq_nil_of_length_eq_zero (by simpa using hl)
   subst this
   exact .slnil _ _
 | sl _ _ _ a len cap val hl2 hc ha hk2 hm hx hs hF hx2 =>
   have hne : ys ≠ [] → xs ≠ [] := fun e q => e (List.eq_nil_of_length_eq_zero (by rw [hl, q]; rfl))
   refine .sl _ _ _ a len cap val (by omega) hc (fun e => ha (hne e)) (fun e => hk2 (hne e)) (fun e => by cases e) hk h1 hF fun i j y d hy hd => ?_
   have hi : i < xs.length := by have := (List.getElem?_eq_some_iff.1 hy).1; omega
   have hxi : xs[i]? = some xs[i] := List.getElem?_eq_getElem hi
   have e1 := hx xs[i] (List.getElem_mem hi)
   have e2 := hk y (List.mem_of_getElem? hy)
   have hj : j < xs[i].cells.length := by have := (List.getElem?_eq_some_iff.1 hd).1; omega
   exact h i _ y hxi hy (by omega) j _ d (List.getElem?_eq_getElem hj) hd F _ (hx2 i j _ _ hxi (List.getElem?_eq_getElem hj))
theorem CFun.lt {P : Program} {f : FuncId} {args : List AVal} {H : List (List AVal)} {cs ds : List AVal} {H' : List (List AVal)} (h : CFun P f args H (.agg cs) H') (hl : LtV (.agg cs) (.agg ds)) : CFun P f args H (.agg ds) H' := by
 refine ⟨h.1, fun G w cargs hs h1 h2 hz hr => (h.2 G w cargs hs h1 h2 hz hr).mono ?_⟩
 rintro e w' ⟨v, G', rfl, g1, g2, g3, g4, g5, g6⟩
 refine ⟨v, G', rfl, g1, g2, ?_, OwnAt.of_not rfl, g5, g6⟩
 cases g3 with
 | tree _ _ ht => exact .tree _ _ (hl _ _ ht)
def nbrF (x : Int) : Nbr := ⟨x, 0, 0, 0, 0, 6, 0, false, 0, [], [], false, [], [], 0⟩
def ifF (x : Int) : Ifs := ⟨1, 0, 0, 0, 0, 0, 0, 0, 0, true, 0, 0, 0, 0, [nbrF x]⟩
@[simp] def nbZ (x : Int) : AVal := .agg [.int .u32 x, .int .u32 0, .int .i64 0, .int .u32 0, .int .u32 0, .int .i64 6, .int .i64 0, .bool false, .int .i64 0, .sl 0 [] .full, .sl 0 [] .full, .bool false, .sl 0 [] .full, .sl 0 [] .full, .int .i64 0]
theorem ifF_lt (x : Int) : LtV (.agg (cellsIx (ifF x) (.sl 15 [nbZ x] .sh))) (encIf (ifF x)) := by
 refine LtV.agg rfl (by simp [ifF, AVal.scalar]) ?_
 intro i c d hc hd
 match i with
 | 0 | 1 | 2 | 3 | 4 | 5 | 6 | 7 | 8 | 9 | 10 | 11 | 12 | 13 =>
   simp [ifF] at hc hd
   subst hc hd
   exact LtV.refl _
 | 14 =>
   simp [ifF] at hc hd
   subst hc hd
   refine LtV.sl (k := 15) (xs := [nbZ x]) (ys := [encN (nbrF x)]) (m := .sh) rfl (by simp [AVal.cells]) (by simp [nbrF, AVal.cells, AVal.scalar]) ?_
   intro i c d hc hd _ j a b ha hb
   match i with
   | 0 =>
     simp at hc hd
     subst hc hd
     simp only [AVal.cells] at ha hb
     match j with
     | 0 | 1 | 2 | 3 | 4 | 5 | 6 | 7 | 8 | 11 | 14 =>
       simp [nbrF] at ha hb
       subst ha hb
       exact LtV.refl _
     | 9 | 10 | 12 | 13 =>
       simp [nbrF] at ha hb
       subst ha hb
       exact LtV.nil _ _ _
     | j + 15 => simp at ha
   | i + 1 => simp at hc
 | i + 15 => simp at hc
set_option maxHeartbeats 8000000 in
set_option maxRecDepth 10000 in
theorem h31 (x : Int) : CFun Try.prog 31 [.int .i64 1, .sl 1 [.int .u32 x] .sh] [] (encIf (ifF x)) [] := by
 refine CFun.lt (cs := cellsIx (ifF x) (.sl 15 [nbZ x] .sh)) ?_ (ifF_lt x)
 refine CFun.intro (tr := [18]) (fz := []) (n := 26) (rs := [.cell 4 56]) Try.func31 rfl (by kernel_rfl) rfl rfl mixed (by kernel_rfl) (by simp) (by simp) ?_
 have wz : IntKind.i64.wrap 1 = 1 := wrap_in (by omega)
 simp
 refine LoopK.intro (tr := [18]) mixed (by kernel_rfl) (fun i : Nat => [(4, .ptr 0 0), (5, .ptr 1 0), (11, .sl 1 [.int .u32 x] .sh), (12, .int .i64 1), (13, .int .i64 i)]) (fun i => [cellsIx ⟨0, 0, 0, 0, 0, 0, 0, 0, 0, false, 0, 0, 0, 0, []⟩ (.sl 0 [] .full), cellsIx (ifF x) (.sl 15 (List.replicate i (nbZ x)) .own)]) (fun i => i ≤ 1) (fun i => 1 - i) 0 (Nat.zero_le _) ?_ ?_
 · simp [LeV, LeS, ifF]
 intro i hi
 by_cases h0 : i = 0
 · subst h0
   simp [ifF]
   exact ⟨1, by omega, by omega, by simp [wz, LeV, LeS, ifF]⟩
 · have : i = 1 := by omega
   subst this
   simp [ifF, LeV, LeS]
end Go.Proofs.Ythonenmafbpbkaa

/- Flooding through a net: what is linked. -/
namespace Go.Proofs.Ythonenmafbpbkaa
open Go Go.Am
def lnkB (l : List Edg) (e : Edg) : Bool := (l.find? (isEg e.To e.From)).isSome
def relaxB (l : List Edg) (bs : List Bool) (e : Edg) : List Bool := if lnkB l e = true ∧ bs[e.From.toNat]? = some true then bs.set e.To.toNat true else bs
def itB (l : List Edg) : Nat → List Bool → List Bool
 | 0, bs => bs
 | k + 1, bs => itB l k (l.foldl (relaxB l) bs)
def startB (N s : Nat) : List Bool := (List.replicate N false).set s true
theorem relaxB_len (l : List Edg) (bs : List Bool) (e : Edg) : (relaxB l bs e).length = bs.length := by
 unfold relaxB; split <;> simp
theorem foldB_len (l : List Edg) : ∀ (es : List Edg) (bs : List Bool), (es.foldl (relaxB l) bs).length = bs.length
 | [], _ => rfl
 | e :: es, bs => by rw [List.foldl_cons, foldB_len, relaxB_len]
theorem bools_le (n : Nat) (bs : List Bool) : LeCells n (bs.map .bool) (bs.map .bool) := treeCells_le n (by
 rw [List.all_eq_true]
 intro c hc
 obtain ⟨b, _, rfl⟩ := List.mem_map.1 hc
 rfl)
theorem bools_tree {bs : List Bool} {x : AVal} (hx : x ∈ bs.map AVal.bool) : x.tree = true := by
 obtain ⟨b, _, rfl⟩ := List.mem_map.1 hx
 rfl
theorem chunkB (bs : List Bool) (n : Nat) (h : bs.length = n) : chunk false (bs.map .bool) 0 1 n = bs.map .bool := by
 subst h
 unfold chunk
 apply List.ext_getElem?
 intro q
 simp only [List.getElem?_map]
 by_cases hq : q < bs.length
 · rw [List.getElem?_range hq]
   simp [List.getD_eq_getElem?_getD, List.getElem?_eq_getElem hq, AVal.dis]
 · rw [List.getElem?_eq_none (by simpa using hq), List.getElem?_eq_none (by omega)]
   rfl
def okE (N : Nat) (e : Edg) : Prop := 0 ≤ e.From ∧ e.From < N ∧ 0 ≤ e.To ∧ e.To < N
set_option maxHeartbeats 8000000 in
set_option maxRecDepth 10000 in
theorem h34 (N : Nat) (hN : N ≤ 20) (s : Nat) (hs : s < N) (M : Int) (l : List Edg) (L : Nat) (hL : l.length = L) (hL2 : L ≤ 1024) (ok : ∀ e ∈ l, okE N e) : CFun Try.prog 34 [encGr N M l, .int .i64 s] [] (.sl 1 ((itB l N (startB N s)).map .bool) .sh) [] := by
 refine CFun.intro (tr := [100012]) (fz := [(4, 1, false)]) (n := 55) (rs := [.tmp 4]) Try.func34 rfl (by kernel_rfl) rfl rfl mixed (by kernel_rfl) (by simp) (by simp) ?_
 have hsI : (s : Int) < N := by omega
 have m1 : N ≤ 140737488355328 := by omega
 have m2 : (N : Int) ≤ 9223372036854775807 := by omega
 have m0 : ¬ (N : Int) < 0 := by omega
 obtain ⟨Z, hZ⟩ : ∃ Z, Z = itB l N (startB N s) := ⟨_, rfl⟩
 rw [← hZ]
 have hB : (List.replicate N (AVal.bool false)).set s (.bool true) = (startB N s).map .bool := by
   unfold startB
   rw [List.map_set, List.map_replicate]
 have hl0 : (startB N s).length = N := by simp [startB]
 have m3 : 0 < N := by omega
 have m4 : N ≤ 281474976710656 := by omega
 have m5 : s + 1 ≤ N := hs
 simp [m1, m2, m0, m3, m4, hs, hsI, m5]
 rw [hB]
 refine LoopK.intro (tr := [100012]) mixed (by kernel_rfl) (fun q : Nat × List Bool => [(2, .ptr 0 0), (5, .osl 1 0 N (some N) 1), (17, .int .i64 N), (18, .int .i64 q.1)]) (fun q => [cellsGr N M l, q.2.map .bool])
   (fun q => q.1 ≤ N ∧ q.2.length = N ∧ itB l (N - q.1) q.2 = Z) (fun q => N - q.1) (0, startB N s) ?_ ?_ ?_
 · exact ⟨Nat.zero_le _, hl0, hZ.symm⟩
 · simp [bools_le]
 rintro ⟨i, bs⟩ ⟨i1, i2, i3⟩
 simp only at i1 i2 i3 ⊢
 by_cases hi : i < N
 · have hiI : (i : Int) < N := by omega
   have w1 : IntKind.i64.wrap ((i : Int) + 1) = i + 1 := wrap_in (by omega)
   obtain ⟨T, hT⟩ : ∃ T, T = l.foldl (relaxB l) bs := ⟨_, rfl⟩
   have e1 : N - i = (N - (i + 1)) + 1 := by omega
   rw [e1] at i3
   simp only [itB] at i3
   rw [← hT] at i3
   have hTl : T.length = N := by rw [hT, foldB_len, i2]
   generalize hQ : LoopPost _ _ _ _ _ _ _ = Q
   simp [hi, hiI, hL]
   refine LoopK.intro (tr := [100012]) mixed (by kernel_rfl) (fun q : Nat × List Bool => [(2, .ptr 0 0), (5, .osl 1 0 N (some N) 1), (17, .int .i64 N), (18, .int .i64 i), (22, .int .i64 L), (23, .int .i64 q.1)]) (fun q => [cellsGr N M l, q.2.map .bool])
     (fun q => q.1 ≤ L ∧ q.2.length = N ∧ (l.drop q.1).foldl (relaxB l) q.2 = T) (fun q => L - q.1) (0, bs) ?_ ?_ ?_
   · exact ⟨Nat.zero_le _, i2, by simpa using hT.symm⟩
   · simp [bools_le]
   rintro ⟨j, cs⟩ ⟨j1, j2, j3⟩
   simp only at j1 j2 j3 ⊢
   by_cases hj : j < L
   · have hjI : (j : Int) < L := by omega
     have hjl : j < l.length := by omega
     obtain ⟨e, he, hd⟩ := get_drop (l := l) (i := j) hjl
     rw [hd, List.foldl_cons] at j3
     obtain ⟨o1, o2, o3, o4⟩ := ok e (List.mem_of_getElem? he)
     obtain ⟨a, ha⟩ := Int.eq_ofNat_of_zero_le o1
     obtain ⟨b, hb⟩ := Int.eq_ofNat_of_zero_le o3
     have haN : a < N := by omega
     have hbN : b < N := by omega
     have haI : (a : Int) < N := by omega
     have hbI : (b : Int) < N := by omega
     have w2 : IntKind.i64.wrap ((j : Int) + 1) = j + 1 := wrap_in (by omega)
     have k30 := fun H => (h30 N M l L hL hL2 e.To e.From).up' H rfl rfl
     have hlk : (l.find? (isEg e.To e.From)).isSome = lnkB l e := rfl
     rw [hlk, ha, hb] at k30
     obtain ⟨v, hv⟩ : ∃ v, cs[a]? = some v := ⟨_, List.getElem?_eq_getElem (by omega)⟩
     have hrx : relaxB l cs e = if lnkB l e = true ∧ v = true then cs.set b true else cs := by
       unfold relaxB
       rw [ha, hb]
       simp [hv]
     rw [hrx] at j3
     generalize lnkB l e = lk at *
     have hal : a < cs.length := by omega
     have hbl : b < cs.length := by omega
     have haN1 : a + 1 ≤ N := haN
     have hbN1 : b + 1 ≤ N := hbN
     have hal1 : a + 1 ≤ cs.length := hal
     have hbl1 : b + 1 ≤ cs.length := hbl
     simp [hj, hjI, hL, he, gE he, hjl, ha, hb]
     refine ⟨_, _, .inl (by simpa using k30 _), by simp, ?_⟩
     cases lk with
     | false =>
       simp at j3
       simp [w2]
       exact ⟨j + 1, cs, ⟨hj, j2, j3⟩, by omega, by simp [hb, ha, bools_le]⟩
     | true =>
       cases v with
       | false =>
         simp at j3
         simp [w2, haN, haI, hv, gE hv, hal, haN1, hal1, j2]
         exact ⟨j + 1, cs, ⟨hj, j2, j3⟩, by omega, by simp, bools_le _ _⟩
       | true =>
         simp at j3
         simp [w2, haN, haI, hbN, hbI, hv, gE hv, hal, hbl, haN1, hbN1, hal1, hbl1, j2]
         exact ⟨j + 1, cs.set b true, ⟨hj, by simpa using j2, j3⟩, by omega, by simp, by rw [List.map_set]; rw [← List.map_set]; exact bools_le _ _⟩
   · have hjL : j = L := by omega
     rw [List.drop_eq_nil_of_le (by omega)] at j3
     simp at j3
     subst j3
     simp [hjL]
     rw [← hQ]
     simp only [LoopPost]
     simp [w1]
     exact ⟨i + 1, cs, ⟨hi, j2, i3⟩, by omega, by simp, bools_le _ _⟩
 · have : i = N := by omega
   subst this
   simp [itB] at i3
   subst i3
   have q1 : List.take i (bs.map AVal.bool) = bs.map .bool := List.take_of_length_le (by simp [i2])
   have q2 : 0 < bs.length := by omega
   have q3 : i ≤ bs.length := by omega
   have q4 : ∀ x : AVal, x ∈ bs.map AVal.bool → x.tree = true := fun x hx => bools_tree hx
   have q5 := chunkB bs i i2
   have q6 : (bs.map AVal.bool).all AVal.tree = true := List.all_eq_true.2 q4
   simp [-List.all_eq_true, -List.mem_map, -List.all_map, q1, q2, q3, q5, q6]
end Go.Proofs.Ythonenmafbpbkaa

/- Flooding through a net: what Spread answers for interfaces with nothing unacknowledged. No program. -/
namespace Go.Proofs.Ythonenmafbpbkaa
open Go Go.Am
def prisL (bs : List Nat) : List Ifs := bs.map fun b : Nat => ifF ((b : Int) + 1)
def sentF (x : Int) (h : Hdr) (now : Int) : Ifs := { ifF x with Nb := [insN (nbrF x) h now] }
theorem rem_nbrF (x : Int) (h : Hdr) : remN (nbrF x) h = nbrF x := by
 simp [remN, losN, nbrF]
theorem req_nbrF (x : Int) (h : Hdr) : reqN (nbrF x) h = (nbrF x, false) := reqN_none rfl
theorem spr_ifF (fr : Bool) (snd : Int) (h : Hdr) (now x : Int) : sprI [0] fr snd h now (ifF x) = if fr = true ∧ x = snd then (ifF x, false) else (sentF x h now, true) := by
 have e1 : outB [0] (ifF x) = false := by simp [outB, ifF]
 have e2 : skipB fr snd (ifF x) = false := by simp [skipB, ifF]
 have e3 : (ifF x).Nb = [nbrF x] := rfl
 have e4 : givP fr snd h now (nbrF x) = if fr = true ∧ x = snd then (nbrF x, false) else (insN (nbrF x) h now, true) := by
   unfold givP
   have hS : ¬ (nbrF x).State < 4 := by simp [nbrF]
   have hr : (nbrF x).Router = x := rfl
   rw [if_neg hS, req_nbrF, hr]
   simp only [Bool.false_eq_true, if_false]
 unfold sprI
 rw [if_neg (by rw [e1]; simp), if_neg (by rw [e2]; simp), e3]
 simp only [List.map_cons, List.map_nil, List.any_cons, List.any_nil, Bool.or_false, rem_nbrF, e4]
 by_cases c : fr = true ∧ x = snd
 · rw [if_pos c, if_pos c]
   rfl
 · rw [if_neg c, if_neg c]
   rfl
def rtI (s : Ifs) : Int := match s.Nb with | n :: _ => n.Router | [] => 0
theorem spr_rt (fr : Bool) (snd : Int) (h : Hdr) (now x : Int) : rtI (sprI [0] fr snd h now (ifF x)).1 = x ∧ (sprI [0] fr snd h now (ifF x)).1.Nb.length = 1 := by
 rw [spr_ifF]
 split <;> exact ⟨rfl, rfl⟩
theorem spr_pris {fr snd : Int} {h : Hdr} {now : Int} : ∀ {bs : List Nat} {i : Nat}, (∀ (j b : Nat), bs[j]? = some b → (b : Int) + 1 = snd → ((i + j : Nat) : Int) = fr) →
   ((sprL [0] fr snd h now i (prisL bs)).1.map rtI = bs.map fun b : Nat => ((b : Int) + 1)) ∧ (∀ s ∈ (sprL [0] fr snd h now i (prisL bs)).1, s.Nb.length = 1) ∧
   ∀ pre : List Nat, pre.length = i → (sprL [0] fr snd h now i (prisL bs)).2.map (fun u => (pre ++ bs)[u]?) = (bs.filter fun b : Nat => decide (¬ (b : Int) + 1 = snd)).map some
 | [], i, _ => by simp [prisL, sprL]
 | b :: bs, i, hf => by
   have ih := spr_pris (fr := fr) (snd := snd) (h := h) (now := now) (bs := bs) (i := i + 1) (fun j c hc e => by
     have := hf (j + 1) c (by simpa using hc) e
     rw [← this]
     congr 1
     omega)
   have hfb := fun e => hf 0 b rfl e
   obtain ⟨r1, r2⟩ := spr_rt (decide ((i : Int) = fr)) snd h now ((b : Int) + 1)
   obtain ⟨i1, i2, i3⟩ := ih
   have hP : prisL (b :: bs) = ifF ((b : Int) + 1) :: prisL bs := rfl
   rw [hP]
   simp only [sprL]
   refine ⟨by rw [List.map_cons, r1, i1]; rfl, ?_, ?_⟩
   · intro s hs
     rcases List.mem_cons.1 hs with rfl | hs
     · exact r2
     · exact i2 s hs
   · intro pre hp
     have i4 := i3 (pre ++ [b]) (by simp [hp])
     have e1 : pre ++ [b] ++ bs = pre ++ b :: bs := by simp
     rw [e1] at i4
     have es := spr_ifF (decide ((i : Int) = fr)) snd h now ((b : Int) + 1)
     by_cases hb : (b : Int) + 1 = snd
     · have h1 : (i : Int) = fr := by simpa using hfb hb
       rw [if_pos ⟨decide_eq_true h1, hb⟩] at es
       rw [es]
       simp only [Bool.false_eq_true, if_false]
       rw [i4, List.filter_cons]
       simp [hb]
     · rw [if_neg (fun q => hb q.2)] at es
       rw [es]
       simp only [if_true]
       rw [List.map_cons, i4, List.filter_cons]
       simp only [hb, not_false_eq_true, decide_true, if_true, List.map_cons]
       rw [← hp]
       simp
def netC (m : Am.Mode) (net : List (List Lsa × List Ifs)) : List AVal := net.flatMap fun r => [.sl 15 (r.1.map encA) .sh, .sl 15 (r.2.map encIf) m]
theorem netC_len (m : Am.Mode) : ∀ net : List (List Lsa × List Ifs), (netC m net).length = net.length * 2
 | [] => rfl
 | r :: net => by
   have := netC_len m net
   simp only [netC, List.flatMap_cons, List.length_append, List.length_cons, List.length_nil] at this ⊢
   omega
theorem netC_get (m : Am.Mode) : ∀ {net : List (List Lsa × List Ifs)} {a : Nat} {r : List Lsa × List Ifs}, net[a]? = some r → (netC m net)[a * 2]? = some (.sl 15 (r.1.map encA) .sh) ∧ (netC m net)[a * 2 + 1]? = some (.sl 15 (r.2.map encIf) m)
 | [], a, r, h => by simp at h
 | q :: net, 0, r, h => by
   simp at h
   subst h
   simp [netC]
 | q :: net, a + 1, r, h => by
   simp only [List.getElem?_cons_succ] at h
   have ih := netC_get m h
   have e : (a + 1) * 2 = a * 2 + 2 := by omega
   simp only [netC, List.flatMap_cons] at ih ⊢
   rw [e]
   exact ⟨by simpa using ih.1, by simpa using ih.2⟩
theorem netC_set (m : Am.Mode) : ∀ {net : List (List Lsa × List Ifs)} {a : Nat} {r : List Lsa × List Ifs}, net[a]? = some r → (∀ db : List Lsa, (netC m net).set (a * 2) (.sl 15 (db.map encA) .sh) = netC m (net.set a (db, r.2))) ∧ ∀ l : List Ifs, (netC m net).set (a * 2 + 1) (.sl 15 (l.map encIf) m) = netC m (net.set a (r.1, l))
 | [], a, r, h => by simp at h
 | q :: net, 0, r, h => by
   simp at h
   subst h
   simp [netC]
 | q :: net, a + 1, r, h => by
   simp only [List.getElem?_cons_succ] at h
   have ih := netC_set m h
   have e : (a + 1) * 2 = a * 2 + 2 := by omega
   simp only [netC, List.flatMap_cons, List.set_cons_succ] at ih ⊢
   rw [e]
   exact ⟨fun db => by simpa using ih.1 db, fun l => by simpa using ih.2 l⟩
theorem netC_le (n : Nat) (m : Am.Mode) (net : List (List Lsa × List Ifs)) : LeCells n (netC m net) (netC m net) := treeCells_le n (by
 rw [List.all_eq_true]
 intro c hc
 obtain ⟨r, _, hr⟩ := List.mem_flatMap.1 hc
 simp only [List.mem_cons, List.not_mem_nil, or_false] at hr
 rcases hr with rfl | rfl <;> rfl)
end Go.Proofs.Ythonenmafbpbkaa

/- Flooding through a net: spread, by the program. -/
namespace Go.Proofs.Ythonenmafbpbkaa
open Go Go.Am
@[simp] def cellsT (l : Lsa) (p : Int × Int) : List AVal := .int .i64 p.1 :: .int .u32 p.2 :: cellsA l
@[simp] def encT (l : Lsa) (p : Int × Int) : AVal := .agg (cellsT l p)
set_option maxHeartbeats 8000000 in
set_option maxRecDepth 10000 in
theorem h32 (net : List (List Lsa × List Ifs)) (N : Nat) (hN : net.length = N) (hN2 : N ≤ 20) (a : Nat) (ha : a < N) (db : List Lsa) (bs : List Nat) (hbs : bs.length ≤ 20) (hbN : ∀ b ∈ bs, b < 20) (hna : net[a]? = some (db, prisL bs)) (l : Lsa) (fr snd now : Int) (hnow : 0 ≤ now ∧ now ≤ 1099511627776)
   (hfr : ∀ (j b : Nat), bs[j]? = some b → (b : Int) + 1 = snd → (j : Int) = fr) :
   ∃ A : List Ifs, CFun Try.prog 32 [.osl 0 0 N (some N) 2, .int .i64 a, .int .i64 fr, .int .u32 snd, encA l, .int .i64 now] [netC .sh net] (.sl 17 (((bs.filter fun b : Nat => decide (¬ (b : Int) + 1 = snd)).map fun b : Nat => ((b : Int), (a : Int) + 1)).map (encT l)) .own) [netC .sh (net.set a (db, A))] := by
 obtain ⟨p1, p2, p3⟩ := spr_pris (fr := fr) (snd := snd) (h := l.H) (now := now) (bs := bs) (i := 0) (by simpa using hfr)
 have p4 := p3 [] rfl
 have okp : ∀ s ∈ prisL bs, okIf s := by
   intro s hs
   obtain ⟨b, hb, rfl⟩ := List.mem_map.1 hs
   have := hbN b hb
   refine ⟨by simp [ifF, inW], by simp [ifF, inW], by simp [ifF, inW], by simp [ifF, inI], by simp [ifF], fun n hn => ?_⟩
   have : n = nbrF ((b : Int) + 1) := by simpa [ifF] using hn
   subst this
   exact ⟨by simp [nbrF, inW]; omega, by simp [nbrF, inI], by simp [nbrF], by simp [nbrF], by simp [nbrF], by simp [nbrF], by simp [nbrF], by simp [nbrF], by simp [nbrF], by simp [nbrF]⟩
 have ascp : ∀ s ∈ prisL bs, ∀ n ∈ s.Nb, ascH n.Una := by
   intro s hs n hn
   obtain ⟨b, hb, rfl⟩ := List.mem_map.1 hs
   have : n = nbrF ((b : Int) + 1) := by simpa [ifF] using hn
   subst this
   simp [nbrF, ascH]
 have hPl : (prisL bs).length = bs.length := by simp [prisL]
 have k11 := fun H => (r11a (prisL bs) (by rw [hPl]; omega) okp ascp [0] (by simp) fr snd l.H now hnow).up' H rfl rfl
 obtain ⟨s1, s2, _⟩ := sprL_ok (areas := [0]) (fr := fr) (snd := snd) (h := l.H) (now := now) (l := prisL bs) (i := 0) okp
 obtain ⟨R, hR⟩ : ∃ R, R = sprL [0] fr snd l.H now 0 (prisL bs) := ⟨_, rfl⟩
 rw [← hR] at p1 p2 p4 k11 s1 s2
 obtain ⟨A, U⟩ := R
 simp only [List.nil_append] at p1 p2 p4 k11 s1 s2
 refine ⟨A, ?_⟩
 obtain ⟨g0, g1⟩ := netC_get .sh hna
 obtain ⟨_, t1⟩ := netC_set .sh hna
 have hCl := netC_len .sh net
 simp only at g0 g1 t1
 obtain ⟨C, hC⟩ : ∃ C, C = netC .sh net := ⟨_, rfl⟩
 rw [← hC] at g0 g1 t1 hCl ⊢
 rw [← t1 A]
 have hCle : ∀ n, LeCells n C C := fun n => by rw [hC]; exact netC_le n .sh net
 have haI : (a : Int) < N := by omega
 rw [hPl] at s1 s2
 have c1 : a * 2 + 1 < C.length := by omega
 have c2 : a * 2 + 2 ≤ C.length := by omega
 have c3 : a + 1 ≤ N := ha
 refine CFun.intro (tr := [74, 114]) (fz := []) (n := 115) (rs := [.tmp 12]) Try.func32 rfl (by kernel_rfl) rfl rfl mixed (by kernel_rfl) (by simp) (by simp) ?_
 have k11' := fun H => (k11 H).wk [.sl 15 ((prisL bs).map encIf) .sh, .sl 1 [.int .u32 0] .full, .int .i64 fr, .int .u32 snd, encH l.H, .int .i64 now] rfl (by simp [All2, LeS])
 obtain ⟨F, hF⟩ : ∃ F, F = bs.filter fun b : Nat => decide (¬ (b : Int) + 1 = snd) := ⟨_, rfl⟩
 rw [← hF] at p4 ⊢
 obtain ⟨m, hm⟩ : ∃ m, m = U.length := ⟨_, rfl⟩
 have hm' := hm.symm
 have hFm : F.length = m := by
   have := congrArg List.length p4
   simpa [hm'] using this.symm
 obtain ⟨n, hn⟩ : ∃ n, n = bs.length := ⟨_, rfl⟩
 rw [← hn] at s1 s2 hbs
 have hFb : ∀ b ∈ F, b < 20 := fun b hb => hbN b (List.mem_filter.1 (by rw [hF] at hb; exact hb)).1
 obtain ⟨LT, hLT⟩ : ∃ LT : Nat → List AVal, LT = fun q => ((F.take q).map fun b : Nat => ((b : Int), (a : Int) + 1)).map (encT l) := ⟨_, rfl⟩
 have l0 : LT 0 = [] := by rw [hLT]; rfl
 have lm : (F.map fun b : Nat => ((b : Int), (a : Int) + 1)).map (encT l) = LT m := by
   rw [hLT]
   simp only
   rw [List.take_of_length_le (by omega)]
 have ll : ∀ q, q ≤ m → (LT q).length = q := fun q hq => by rw [hLT]; simp; omega
 have ls : ∀ (q b : Nat), F[q]? = some b → LT (q + 1) = LT q ++ [encT l ((b : Int), (a : Int) + 1)] := fun q b hb => by
   rw [hLT]
   simp only
   rw [List.take_add_one, hb]
   simp
 rw [lm]
 clear lm hLT
 simp [ha, haI, c1, c2, c3, g1, gE g1]
 refine ⟨_, _, .inl (by simpa using k11' _), by simp, ?_⟩
 simp [ha, haI, c1, c2, c3, g1, gE g1, s1, hPl, ← hn, hm']
 refine LoopK.intro (tr := [74, 114]) mixed (by kernel_rfl) (fun q : Nat => [(0, .osl 0 0 N (some N) 2), (1, .int .i64 a), (10, .ptr 1 0), (13, .sl 15 (A.map encIf) .sh), (14, .sl 1 (U.map fun i => .int .i64 (i : Nat)) .sh), (15, .sl 17 (LT q) .own), (44, .int .i64 m), (45, .int .i64 q)]) (fun _ => [C, cellsA l])
   (fun q => q ≤ m) (fun q => m - q) 0 (Nat.zero_le _) ?_ ?_
 · simp [hCle, LeV, LeS, l0]
 intro k hk
 by_cases hkm : k < m
 · have hkI : (k : Int) < m := by omega
   have hkU : k < U.length := by omega
   obtain ⟨u, hu⟩ : ∃ u, U[k]? = some u := ⟨_, List.getElem?_eq_getElem hkU⟩
   obtain ⟨b, hb⟩ : ∃ b, F[k]? = some b := ⟨_, List.getElem?_eq_getElem (by omega)⟩
   have hbu : bs[u]? = some b := by
     have := congrArg (fun z : List (Option Nat) => z[k]?) p4
     simpa [hu, hb] using this
   have hun : u < n := by have := (List.getElem?_eq_some_iff.1 hbu).1; omega
   have hunI : (u : Int) < n := by omega
   have huA : u < A.length := by omega
   obtain ⟨s, hs⟩ : ∃ s, A[u]? = some s := ⟨_, List.getElem?_eq_getElem huA⟩
   have hrt : rtI s = (b : Int) + 1 := by
     have := congrArg (fun z : List Int => z[u]?) p1
     simpa [hs, hbu] using this
   have hs1 := p2 s (List.mem_of_getElem? hs)
   obtain ⟨x, hx⟩ : ∃ x, s.Nb = [x] := List.length_eq_one_iff.1 hs1
   have hxr : x.Router = (b : Int) + 1 := by
     unfold rtI at hrt
     rw [hx] at hrt
     exact hrt
   have hb20 := hFb b (List.mem_of_getElem? hb)
   have w1 : IntKind.i64.wrap ((k : Int) + 1) = k + 1 := wrap_in (by omega)
   have w2 : IntKind.i64.wrap ((b : Int) + 1) = b + 1 := wrap_in (by omega)
   have w3 : IntKind.i64.wrap (b : Int) = b := wrap_in (by omega)
   have w4 : IntKind.u32.wrap (a : Int) = a := by simp [IntKind.wrap, IntKind.signed, IntKind.bits]; omega
   have w5 : IntKind.u32.wrap ((a : Int) + 1) = a + 1 := by simp [IntKind.wrap, IntKind.signed, IntKind.bits]; omega
   have tl := ll k hk
   have b1 : (k + 1) * 152 ≤ 140737488355328 := by omega
   have b2 : k ≤ 140737488355327 := by omega
   simp [hkm, hkI, hm', hkU, hu, gE hu, s1, hunI, hun, huA, hs, gE hs, hx, hxr, w2, w3, w4, w5, tl, b1, b2, w1]
   refine ⟨k + 1, hkm, by omega, ?_⟩
   simp [hCle, ls k b hb]
 · have hkm' : k = m := by omega
   simp [hkm', hm']
   refine LoopK.intro (tr := [74, 114]) mixed (by kernel_rfl) (fun q : Nat => [(0, .osl 0 0 N (some N) 2), (1, .int .i64 a), (13, .sl 15 (A.map encIf) .sh), (15, .sl 17 (LT m) .own), (97, .int .i64 n), (98, .int .i64 q)]) (fun _ => [C])
     (fun q => q ≤ n) (fun q => n - q) 0 (Nat.zero_le _) ?_ ?_
   · simp [hCle, s1]
   intro q hq
   by_cases hqn : q < n
   · have hqI : (q : Int) < n := by omega
     have hqA : q < A.length := by omega
     obtain ⟨s, hs⟩ : ∃ s, A[q]? = some s := ⟨_, List.getElem?_eq_getElem hqA⟩
     have hs1 := p2 s (List.mem_of_getElem? hs)
     have w1 : IntKind.i64.wrap ((q : Int) + 1) = q + 1 := wrap_in (by omega)
     simp [hqn, hqI, hqA, s1, hs, gE hs, hs1, w1]
     exact ⟨q + 1, hqn, by omega, by simp [hCle]⟩
   · have : q = n := by omega
     simp [this, haI, ha, c1, c2, c3]
     rw [t1 A]
     exact netC_le _ _ _
end Go.Proofs.Ythonenmafbpbkaa

/- Flooding through a net: the law FloodReaches, by the program. -/
namespace Go.Proofs.Ythonenmafbpbkaa
open Go Go.Am
def adjT (l es : List Edg) (a : Nat) : List Nat := (es.filter fun e => decide (e.From = (a : Int)) && lnkB l e).map fun e => e.To.toNat
theorem adjT_in {N : Nat} {l es : List Edg} (h : ∀ e ∈ es, okE N e) {a b : Nat} (hb : b ∈ adjT l es a) : b < N := by
 obtain ⟨e, he, rfl⟩ := List.mem_map.1 hb
 obtain ⟨_, _, o3, o4⟩ := h e (List.mem_filter.1 he).1
 omega
theorem rowG_ok {N : Nat} : ∀ {l : List Edg} {p : Option Edg}, rowG N 0 p l = 0 → (∀ e ∈ l, okE N e ∧ e.From ≠ e.To) ∧ (l.Pairwise fun x y => befG x y = true) ∧ ∀ x, p = some x → ∀ e ∈ l, befG x e = true
 | [], p, _ => ⟨fun e he => (by cases he), List.Pairwise.nil, fun x _ e he => (by cases he)⟩
 | e :: l, p, h => by
   simp only [rowG] at h
   by_cases c1 : alwG N 0 e = 0
   case neg => rw [if_pos c1] at h; exact absurd h c1
   rw [if_neg (by rw [c1]; simp)] at h
   have hp : rowG N 0 (some e) l = 0 ∧ ∀ x, p = some x → befG x e = true := by
     cases p with
     | none =>
       simp only [Bool.true_eq_false, if_false] at h
       exact ⟨h, fun x hx => (by cases hx)⟩
     | some y =>
       cases hb : befG y e with
       | false => simp [hb] at h
       | true =>
         simp [hb] at h
         refine ⟨h, fun x hx => ?_⟩
         injection hx with hx
         subst hx
         exact hb
   obtain ⟨h, hpe⟩ := hp
   obtain ⟨i1, i2, i3⟩ := rowG_ok h
   have i4 := i3 e rfl
   have he : okE N e ∧ e.From ≠ e.To := by
     unfold alwG at c1
     split at c1
     · cases c1
     · rename_i g
       split at c1
       · cases c1
       · rename_i g2
         simp only [not_or, Bool.not_eq_false, nodeG, Bool.and_eq_true, Bool.or_eq_true, decide_eq_true_eq] at g g2
         refine ⟨⟨?_, ?_, ?_, ?_⟩, g2.1⟩ <;> omega
   refine ⟨fun x hx => ?_, List.Pairwise.cons i4 i2, fun x hx y hy => ?_⟩
   · rcases List.mem_cons.1 hx with rfl | hx
     · exact he
     · exact i1 x hx
   · subst hx
     have hxe : befG x e = true := hpe x rfl
     rcases List.mem_cons.1 hy with rfl | hy
     · exact hxe
     · have hey := i4 y hy
       unfold befG at hxe hey ⊢
       simp only [Bool.or_eq_true, Bool.and_eq_true, decide_eq_true_eq] at hxe hey ⊢
       omega
theorem chkG_ok {N : Nat} {l : List Edg} (h : chkG N 0 l = 0) : l.length ≤ 1024 ∧ (∀ e ∈ l, okE N e ∧ e.From ≠ e.To) ∧ l.Pairwise fun x y => befG x y = true := by
 unfold chkG at h
 by_cases c1 : sizeG N 0 = 0
 case neg => rw [if_pos c1] at h; exact absurd h c1
 rw [if_neg (by rw [c1]; simp)] at h
 by_cases c2 : 1024 < l.length
 case pos => rw [if_pos c2] at h; cases h
 rw [if_neg c2] at h
 obtain ⟨i1, i2, _⟩ := rowG_ok h
 exact ⟨by omega, i1, i2⟩
def netR (N : Nat) (g : Nat → List Lsa × List Ifs) : List (List Lsa × List Ifs) := (List.range N).map g
theorem netR_get {N a : Nat} (g : Nat → List Lsa × List Ifs) (h : a < N) : (netR N g)[a]? = some (g a) := by
 unfold netR
 rw [List.getElem?_map, List.getElem?_range h]
 rfl
theorem netR_set {N a : Nat} (g : Nat → List Lsa × List Ifs) (v : List Lsa × List Ifs) : (netR N g).set a v = netR N fun i => if i = a then v else g i := by
 unfold netR
 apply List.ext_getElem?
 intro i
 rw [List.getElem?_set]
 by_cases hi : i < N
 · rw [List.getElem?_map, List.getElem?_map, List.getElem?_range hi]
   by_cases e : a = i
   · subst e; simp [hi]
   · have e' : ¬ i = a := fun q => e q.symm
     simp [e, e']
 · rw [List.getElem?_eq_none (by simp; omega), List.getElem?_eq_none (by simp; omega)]
   simp
   omega
theorem netR_len (N : Nat) (g : Nat → List Lsa × List Ifs) : (netR N g).length = N := by simp [netR]
theorem z_le (n : Nat) (m : Am.Mode) : ∀ N : Nat, LeCells n (List.replicate N [AVal.sl 0 [] .full, .sl 0 [] .full]).flatten (netC m (List.replicate N ([], [])))
 | 0 => by simp [netC, LeCells]
 | N + 1 => by
   have ih := z_le n m N
   simp only [List.replicate_succ, List.flatten_cons, netC, List.flatMap_cons] at ih ⊢
   refine LeCells_app ?_ rfl ih
   cases m <;> simp [LeCells, LeV, LeS, low, low0]
theorem netC_dis (n : Nat) : ∀ net : List (List Lsa × List Ifs), LeCells n (netC .own net) (netC .sh net)
 | [] => by simp [netC, LeCells]
 | r :: net => by
   have ih := netC_dis n net
   simp only [netC, List.flatMap_cons] at ih ⊢
   refine LeCells_app ?_ rfl ih
   simp [LeCells, LeV, LeS, low, low0]
theorem LeCells_set {n : Nat} {y x : AVal} (h1 : LeV y x) (h2 : low n x = true) : ∀ {ys xs : List AVal} (i : Nat), LeCells n ys xs → LeCells n (ys.set i y) (xs.set i x)
 | ys, [], i, h => by
   cases ys <;> cases i <;> simp [LeCells]
 | [], x' :: xs, i, h => by simp [LeCells] at h
 | y' :: ys, x' :: xs, 0, h => by
   simp only [LeCells, List.set_cons_zero] at h ⊢
   exact ⟨h1, h2, h.2.2⟩
 | y' :: ys, x' :: xs, i + 1, h => by
   simp only [LeCells, List.set_cons_succ] at h ⊢
   exact ⟨h.1, h.2.1, LeCells_set h1 h2 i h.2.2⟩
theorem h32at (net : List (List Lsa × List Ifs)) (N : Nat) (hN : net.length = N) (hN2 : N ≤ 20) (a : Nat) (ha : a < N) (db : List Lsa) (bs : List Nat) (hbs : bs.length ≤ 20) (hbN : ∀ b ∈ bs, b < 20) (hna : net[a]? = some (db, prisL bs)) (l : Lsa) (fr snd now : Int) (hnow : 0 ≤ now ∧ now ≤ 1099511627776)
   (hfr : ∀ (j b : Nat), bs[j]? = some b → (b : Int) + 1 = snd → (j : Int) = fr) :
   ∃ A : List Ifs, ∀ (H : List (List AVal)) (id : Nat), H[id]? = some (netC .sh net) → CFun Try.prog 32 [.osl id 0 N (some N) 2, .int .i64 a, .int .i64 fr, .int .u32 snd, encA l, .int .i64 now] H (.sl 17 (((bs.filter fun b : Nat => decide (¬ (b : Int) + 1 = snd)).map fun b : Nat => ((b : Int), (a : Int) + 1)).map (encT l)) .own) (H.set id (netC .sh (net.set a (db, A)))) := by
 obtain ⟨A, h⟩ := h32 net N hN hN2 a ha db bs hbs hbN hna l fr snd now hnow hfr
 refine ⟨A, fun H id hid => ?_⟩
 have hno : ∀ net : List (List Lsa × List Ifs), (netC .sh net).all noid0 = true := fun net => by
   rw [List.all_eq_true]
   intro c hc
   obtain ⟨r, _, hr⟩ := List.mem_flatMap.1 hc
   simp only [List.mem_cons, List.not_mem_nil, or_false] at hr
   rcases hr with rfl | rfl <;> rfl
 have := h.at (H := H) (id := id) hid (hno _) (hno _) (by simp [low, low0]) rfl
 simpa [ren, ren0] using this
end Go.Proofs.Ythonenmafbpbkaa

/- Flooding through a net: what is reached. No program. -/
namespace Go.Proofs.Ythonenmafbpbkaa
open Go Go.Am
theorem asc_len {N : Nat} : ∀ {l : List Nat} {c : Nat}, c ≤ N → (∀ x ∈ l, c ≤ x ∧ x < N) → l.Pairwise (· < ·) → l.length + c ≤ N
 | [], c, hc, _, _ => by simpa using hc
 | x :: l, c, hc, h, hp => by
   rw [List.pairwise_cons] at hp
   have hx := h x (by simp)
   have ih := asc_len (N := N) (l := l) (c := x + 1) (by omega) (fun y hy => ⟨hp.1 y hy, (h y (List.mem_cons_of_mem _ hy)).2⟩) hp.2
   simp only [List.length_cons]
   omega
theorem adjT_asc {N : Nat} {l es : List Edg} (h : ∀ e ∈ es, okE N e) (hp : es.Pairwise fun x y => befG x y = true) (a : Nat) : (adjT l es a).Pairwise (· < ·) := by
 unfold adjT
 rw [List.pairwise_map]
 have h1 : (es.filter fun e => decide (e.From = (a : Int)) && lnkB l e).Pairwise fun x y => befG x y = true := hp.filter _
 refine h1.imp_of_mem ?_
 intro x y hx hy hb
 obtain ⟨x1, x2⟩ := List.mem_filter.1 hx
 obtain ⟨y1, y2⟩ := List.mem_filter.1 hy
 simp only [Bool.and_eq_true, decide_eq_true_eq] at x2 y2
 obtain ⟨_, _, o1, _⟩ := h x x1
 obtain ⟨_, _, o2, _⟩ := h y y1
 unfold befG at hb
 simp only [Bool.or_eq_true, Bool.and_eq_true, decide_eq_true_eq] at hb
 omega
theorem adjT_mem {l : List Edg} {N : Nat} (h : ∀ e ∈ l, okE N e) {a b : Nat} : b ∈ adjT l l a ↔ ∃ e ∈ l, e.From = (a : Int) ∧ e.To = (b : Int) ∧ lnkB l e = true := by
 unfold adjT
 constructor
 · intro hb
   obtain ⟨e, he, e2⟩ := List.mem_map.1 hb
   obtain ⟨h1, h2⟩ := List.mem_filter.1 he
   simp only [Bool.and_eq_true, decide_eq_true_eq] at h2
   obtain ⟨_, _, o3, _⟩ := h e h1
   exact ⟨e, h1, h2.1, by omega, h2.2⟩
 · rintro ⟨e, h1, h2, h3, h4⟩
   refine List.mem_map.2 ⟨e, List.mem_filter.2 ⟨h1, by simp [h2, h4]⟩, ?_⟩
   omega
inductive Rch (adj : Nat → List Nat) (st : Nat) : Nat → Prop
 | base : Rch adj st st
 | step {a b : Nat} (h : Rch adj st a) (hb : b ∈ adj a) : Rch adj st b
def cntI : Nat → (Nat → Bool) → Nat
 | 0, _ => 0
 | n + 1, f => cntI n f + (if f n = true then 1 else 0)
def putI (f : Nat → Bool) (a : Nat) : Nat → Bool := fun i => if i = a then true else f i
theorem cntI_le (f : Nat → Bool) : ∀ n, cntI n f ≤ n
 | 0 => Nat.le_refl _
 | n + 1 => by
   have := cntI_le f n
   simp only [cntI]
   split <;> omega
theorem cntI_same {f : Nat → Bool} {a : Nat} : ∀ {n : Nat}, n ≤ a → cntI n (putI f a) = cntI n f
 | 0, _ => rfl
 | n + 1, h => by
   simp only [cntI]
   rw [cntI_same (n := n) (by omega)]
   have e : ¬ n = a := by omega
   simp [putI, e]
theorem cntI_put {f : Nat → Bool} {a : Nat} (hf : f a = false) : ∀ {n : Nat}, a < n → cntI n (putI f a) = cntI n f + 1
 | 0, h => by omega
 | n + 1, h => by
   simp only [cntI]
   by_cases e : n = a
   · subst e
     rw [cntI_same (Nat.le_refl _)]
     simp [putI, hf]
   · rw [cntI_put hf (n := n) (by omega)]
     simp [putI, e]
     omega
structure Fl (N : Nat) (adj : Nat → List Nat) (st : Nat) (f : Nat → Bool) (Q : List (Nat × Nat)) (k : Nat) : Prop where
  kle : k ≤ Q.length
  q : ∀ p ∈ Q, p.1 < N ∧ p.2 < N ∧ p.1 ∈ adj p.2 ∧ f p.2 = true
  start : f st = true
  pend : ∀ a, f a = true → ∀ b ∈ adj a, f b = true ∨ ∃ p ∈ Q.drop k, p.1 = b
  rch : ∀ a, f a = true → Rch adj st a
  len : Q.length ≤ 20 * cntI N f
theorem Fl.skip {N : Nat} {adj : Nat → List Nat} {st : Nat} {f : Nat → Bool} {Q : List (Nat × Nat)} {k : Nat} (h : Fl N adj st f Q k) {p : Nat × Nat} (hp : Q[k]? = some p) (hf : f p.1 = true) : Fl N adj st f Q (k + 1) := by
 have hk := (List.getElem?_eq_some_iff.1 hp).1
 refine ⟨hk, h.q, h.start, fun a ha b hb => ?_, h.rch, h.len⟩
 rcases h.pend a ha b hb with h1 | ⟨p', h1, h2⟩
 · exact .inl h1
 · obtain ⟨x, hx, hd⟩ := get_drop (l := Q) (i := k) hk
   rw [hp] at hx
   obtain rfl := Option.some.inj hx
   rw [hd] at h1
   rcases List.mem_cons.1 h1 with rfl | h1
   · exact .inl (by rw [← h2]; exact hf)
   · exact .inr ⟨p', h1, h2⟩
theorem Fl.take {N : Nat} {adj : Nat → List Nat} {st : Nat} {f : Nat → Bool} {Q : List (Nat × Nat)} {k : Nat} (h : Fl N adj st f Q k) {p : Nat × Nat} (hp : Q[k]? = some p) (hf : f p.1 = false) (hl : (adj p.1).length ≤ 20) (hN : ∀ b ∈ adj p.1, b < N) :
   Fl N adj st (putI f p.1) (Q ++ ((adj p.1).filter fun b => decide (¬ b = p.2)).map fun b => (b, p.1)) (k + 1) := by
 have hk := (List.getElem?_eq_some_iff.1 hp).1
 obtain ⟨q1, q2, q3, q4⟩ := h.q p (List.mem_of_getElem? hp)
 have hmono : ∀ a, f a = true → putI f p.1 a = true := fun a ha => by unfold putI; split <;> simp [ha]
 refine ⟨by simp; omega, ?_, hmono _ h.start, ?_, ?_, ?_⟩
 · intro x hx
   rcases List.mem_append.1 hx with hx | hx
   · obtain ⟨a1, a2, a3, a4⟩ := h.q x hx
     exact ⟨a1, a2, a3, hmono _ a4⟩
   · obtain ⟨b, hb, rfl⟩ := List.mem_map.1 hx
     have hb' := (List.mem_filter.1 hb).1
     exact ⟨hN b hb', q1, hb', by simp [putI]⟩
 · intro a ha b hb
   rw [List.drop_append_of_le_length (by omega)]
   by_cases e : a = p.1
   · subst e
     by_cases e2 : b = p.2
     · exact .inl (by rw [e2]; exact hmono _ q4)
     · exact .inr ⟨(b, p.1), List.mem_append.2 (.inr (List.mem_map.2 ⟨b, List.mem_filter.2 ⟨hb, by simpa using e2⟩, rfl⟩)), rfl⟩
   · have ha' : f a = true := by simpa [putI, e] using ha
     rcases h.pend a ha' b hb with h1 | ⟨p', h1, h2⟩
     · exact .inl (hmono _ h1)
     · obtain ⟨x, hx, hd⟩ := get_drop (l := Q) (i := k) hk
       rw [hp] at hx
       obtain rfl := Option.some.inj hx
       rw [hd] at h1
       rcases List.mem_cons.1 h1 with rfl | h1
       · exact .inl (by rw [← h2]; simp [putI])
       · exact .inr ⟨p', List.mem_append.2 (.inl h1), h2⟩
 · intro a ha
   by_cases e : a = p.1
   · subst e
     exact .step (h.rch _ q4) q3
   · exact h.rch a (by simpa [putI, e] using ha)
 · rw [cntI_put hf q1, List.length_append, List.length_map]
   have := h.len
   have h2 := List.length_filter_le (fun b => decide (¬ b = p.2)) (adj p.1)
   omega
theorem Fl.fin {N : Nat} {adj : Nat → List Nat} {st : Nat} {f : Nat → Bool} {Q : List (Nat × Nat)} {k : Nat} (h : Fl N adj st f Q k) (hk : k = Q.length) (a : Nat) : f a = true ↔ Rch adj st a := by
 refine ⟨h.rch a, fun hr => ?_⟩
 induction hr with
 | base => exact h.start
 | step _ hb ih =>
   rcases h.pend _ ih _ hb with h1 | ⟨p, h1, _⟩
   · exact h1
   · rw [hk, List.drop_length] at h1
     cases h1
theorem Fl.start0 {N : Nat} {adj : Nat → List Nat} {st : Nat} (hst : st < N) (hl : (adj st).length ≤ 20) (hN : ∀ b ∈ adj st, b < N) : Fl N adj st (putI (fun _ => false) st) ((adj st).map fun b => (b, st)) 0 := by
 refine ⟨Nat.zero_le _, ?_, by simp [putI], ?_, ?_, ?_⟩
 · intro p hp
   obtain ⟨b, hb, rfl⟩ := List.mem_map.1 hp
   exact ⟨hN b hb, hst, hb, by simp [putI]⟩
 · intro a ha b hb
   have e : a = st := by simpa [putI] using ha
   subst e
   exact .inr ⟨(b, a), List.mem_map.2 ⟨b, hb, rfl⟩, rfl⟩
 · intro a ha
   have e : a = st := by simpa [putI] using ha
   subst e
   exact .base
 · rw [List.length_map, cntI_put rfl hst]
   omega
end Go.Proofs.Ythonenmafbpbkaa
