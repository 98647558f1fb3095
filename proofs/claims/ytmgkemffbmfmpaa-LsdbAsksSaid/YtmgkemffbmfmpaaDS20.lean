import Derived.Test.YtmgkemffbmfmpaaDS16
set_option linter.unusedSimpArgs false
set_option linter.unusedVariables false
namespace Go.Proofs.Ytmgkemffbmfmpaa
open Go Go.Am

def prevI (l : List Int) : Nat → Option Int
  | 0 => some 0
  | i + 1 => l[i]?

/-- Was the router met? -/
def hasR (l : Lsa) (i : Nat) : Bool := decide (l.H.Router ∈ l.Att.take i)
theorem hasR_succ {l : Lsa} {i : Nat} {x : Int} (hx : l.Att[i]? = some x) : hasR l (i + 1) = (hasR l i || decide (x = l.H.Router)) := by
  have htk : l.Att.take (i + 1) = l.Att.take i ++ [x] := by rw [List.take_add_one, hx]; rfl
  unfold hasR
  rw [htk]
  by_cases e : x = l.H.Router
  · simp [e]
  · have e' : ¬ l.H.Router = x := fun h => e h.symm
    simp [e, e']

set_option maxHeartbeats 4000000 in
set_option maxRecDepth 10000 in
theorem c47 (l : Lsa) (n : Nat) (hn : l.Att.length = n) (hok : ∀ x ∈ l.Att, inW x) : CFun Try.prog 93 [encA l] [] (.int .i64 (chkAtt l.Att l.H.Router)) [] := by
  refine CFun.intro (tr := []) (fz := []) (n := 51) (rs := [.tmp 2]) Try.func93 rfl (by kernel_rfl) rfl rfl mixed (by kernel_rfl) (by simp) (by simp) ?_
  have hc : (l.Att.length : Int) = n := by omega
  by_cases h64 : (64 : Int) < n
  · have : 64 < l.Att.length := by omega
    simp [hc, h64, chkAtt, this]
  have hs : chkAtt l.Att l.H.Router = if attL 0 l.Att = false then 16 else if memL l.Att l.H.Router = false then 14 else 0 := by rw [chkAtt, if_neg (by omega)]
  rw [hs]
  simp [hc, h64]
  refine LoopK.intro (tr := []) mixed (by kernel_rfl) (fun i : Nat => [(1, .ptr 0 0), (3, .bool (hasR l i)), (4, .int .i64 i)]) (fun _ => [cellsA l])
    (fun i => i ≤ n ∧ ∃ last, prevI l.Att i = some last ∧ attL 0 l.Att = attL last (l.Att.drop i)) (fun i => n - i) 0 ?_ ?_ ?_
  · exact ⟨by simp, 0, rfl, by simp⟩
  · simp [hasR]
  · rintro i ⟨i1, last, i3, i4⟩
    by_cases hi : i < n
    · obtain ⟨x, hx, hd⟩ := get_drop (l := l.Att) (i := i) (by omega)
      obtain ⟨ok1, ok2⟩ := hok x (List.mem_of_getElem? hx)
      rw [hd] at i4
      simp only [attL] at i4
      have w1 : IntKind.i64.wrap ((i : Int) + 1) = i + 1 := wrap_in (by omega)
      have hsu := hasR_succ hx
      clear hd hn
      -- behind the test of the order
      have fin : attL 0 l.Att = attL x (l.Att.drop (i + 1)) → (i + 1 ≤ n ∧ ∃ last, prevI l.Att (i + 1) = some last ∧ attL 0 l.Att = attL last (l.Att.drop (i + 1))) :=
        fun h => ⟨by omega, x, hx, h⟩
      cases i with
      | zero =>
        simp only [prevI, Option.some.injEq] at i3
        subst i3
        by_cases e0 : x = 0
        · rw [if_pos (by omega)] at i4
          simp [hc, hi, hx, e0, i4]
        · rw [if_neg (by omega)] at i4
          have b0 : (x == 0) = false := by simpa using e0
          have w0 : IntKind.i64.wrap 1 = 1 := by decide
          by_cases er : x = l.H.Router
          · have br : (x == l.H.Router) = true := by simpa using er
            simp [hc, hi, hx, b0, br, w0]
            exact ⟨1, fin i4, by omega, by rw [hsu]; simp [er], by simp⟩
          · have br : (x == l.H.Router) = false := by simpa using er
            simp [hc, hi, hx, b0, br, w0]
            exact ⟨1, fin i4, by omega, by rw [hsu]; simp [er], by simp⟩
      | succ j =>
        simp only [prevI] at i3
        obtain ⟨lk1, lk2⟩ := hok last (List.mem_of_getElem? i3)
        have w2 : IntKind.i64.wrap (j : Int) = j := wrap_in (by omega)
        have h0 : (0 : Int) < ((j + 1 : Nat) : Int) := by omega
        simp only [Int.natCast_add, Int.natCast_one] at h0 w1
        have hj1 : (j : Int) + 1 < n := by omega
        have hj2 : (0 : Int) ≤ (j : Int) + 1 := by omega
        by_cases e0 : x = 0
        · rw [if_pos (by omega)] at i4
          simp [hc, hi, hx, e0, i4, hj1, hj2]
        · have b0 : (x == 0) = false := by simpa using e0
          by_cases ho : x ≤ last
          · rw [if_pos ho] at i4
            simp [hc, hi, hx, hj1, hj2, b0, h0, w2, i3, ho, i4]
          · rw [if_neg ho] at i4
            by_cases er : x = l.H.Router
            · have br : (x == l.H.Router) = true := by simpa using er
              simp [hc, hi, hx, hj1, hj2, b0, h0, w2, i3, ho, br, w1]
              exact ⟨j + 1 + 1, fin i4, by omega, by rw [hsu]; simp [er], by simp⟩
            · have br : (x == l.H.Router) = false := by simpa using er
              simp [hc, hi, hx, hj1, hj2, b0, h0, w2, i3, ho, br, w1]
              exact ⟨j + 1 + 1, fin i4, by omega, by rw [hsu]; simp [er], by simp⟩
    · have e : l.Att.drop i = [] := List.drop_of_length_le (by omega)
      have ht : l.Att.take i = l.Att := List.take_of_length_le (by omega)
      rw [e] at i4
      simp [attL] at i4
      have hm : memL l.Att l.H.Router = hasR l i := by unfold hasR memL; rw [ht]
      generalize hasR l i = has at hm
      cases has <;> simp [hc, hi, i4, hm]

def okA (l : Lsa) : Prop := okH l.H ∧ (∀ x ∈ l.Links, okK x) ∧ (∀ x ∈ l.Att, inW x) ∧ inI l.Cost ∧ inW l.Fwd ∧ inI l.Tag ∧ l.Links.length < 8796093022208 ∧ l.Att.length < 140737488355328

set_option maxHeartbeats 2000000 in
set_option maxRecDepth 10000 in
theorem c14 (l : Lsa) (ok : okA l) : CFun Try.prog 33 [encA l] [] (.int .i64 (chkA l)) [] := by
  refine CFun.intro (tr := []) (fz := []) (n := 34) (rs := [.tmp 2]) Try.func33 rfl (by kernel_rfl) rfl rfl mixed (by kernel_rfl) (by simp) (by simp) ?_
  obtain ⟨okh, okl, oka, _⟩ := ok
  have h34 := (c34 l.H okh.2.1).up' [cellsA l] rfl rfl
  have h48 : ∀ n lo hi H, CFun Try.prog 94 [.int .i64 n, .int .i64 lo, .int .i64 hi] H (.bool (inR n lo hi)) H := fun n lo hi H => (c48 n lo hi).up' H rfl rfl
  have h46 := fun rest => (c46 l _ rfl okl).up' (cellsA l :: rest) rfl rfl
  have h47 := fun rest => (c47 l _ rfl oka).up' (cellsA l :: rest) rfl rfl
  by_cases e0 : chkH l.H = 0
  · have hty : inR l.H.Ty 1 5 = true := by
      cases hq : inR l.H.Ty 1 5
      · simp [chkH, hq] at e0
      · rfl
    have h45 := (c45 l hty).up' [cellsA l] rfl rfl
    rw [e0] at h34
    have hk : chkA l = if forB l = true then 1 else if l.H.Ty = 1 then chkLinks l.Links l.H.Router else if l.H.Ty = 2 then chkAtt l.Att l.H.Router else if inR l.Cost 0 16777216 = false ∨ inR l.Tag 0 4294967295 = false then 5 else 0 := by
      rw [chkA, e0]; rfl
    rw [hk]
    generalize chkLinks l.Links l.H.Router = v46 at h46 ⊢
    generalize chkAtt l.Att l.H.Router = v47 at h47 ⊢
    generalize forB l = v45 at h45 ⊢
    simp
    refine ⟨_, _, .inl h34, trivial, ?_⟩
    simp
    refine ⟨_, _, .inl h45, trivial, ?_⟩
    cases v45
    · by_cases t1 : l.H.Ty = 1
      · have b1 : (l.H.Ty == 1) = true := by simpa using t1
        simp [b1]
        refine ⟨_, _, .inl (h46 _), trivial, ?_⟩
        simp [t1]
      · have b1 : (l.H.Ty == 1) = false := by simpa using t1
        by_cases t2 : l.H.Ty = 2
        · have b2 : (l.H.Ty == 2) = true := by simpa using t2
          simp [b1, b2]
          refine ⟨_, _, .inl (h47 _), trivial, ?_⟩
          simp [t1, t2]
        · have b2 : (l.H.Ty == 2) = false := by simpa using t2
          simp [b1, b2]
          refine ⟨_, _, .inl (h48 _ _ _ _), trivial, ?_⟩
          cases e1 : inR l.Cost 0 16777216
          · simp [t1, t2]
          · simp
            refine ⟨_, _, .inl (h48 _ _ _ _), trivial, ?_⟩
            cases e2 : inR l.Tag 0 4294967295 <;> simp [t1, t2]
    · simp
  · have hk : chkA l = chkH l.H := by rw [chkA, if_pos e0]
    rw [hk]
    simp
    refine ⟨_, _, .inl h34, trivial, ?_⟩
    simp [e0]

def csL : List CTy := [.int .i64, .int .u32, .int .u32, .int .i64]
def csA : List CTy := csH ++ [.bool, .bool, .sl true 24 csL, .sl false 4 [.int .u32], .int .i64, .bool, .int .u32, .int .i64]
def tyA : Bool × List CTy := (true, csA)
theorem dec_K {cs : List AVal} (h : Rds csL cs) : ∃ x : { x : Lnk // okK x }, AVal.agg cs = encK x.1 := by
  obtain ⟨a1, r, rfl, h, _⟩ := Rds_int h
  obtain ⟨a2, r, rfl, h, w2⟩ := Rds_int h
  obtain ⟨a3, r, rfl, h, w3⟩ := Rds_int h
  obtain ⟨a4, r, rfl, h, _⟩ := Rds_int h
  obtain rfl := Rds_nil h
  exact ⟨⟨⟨a1, a2, a3, a4⟩, wf_u32 w2, wf_u32 w3⟩, rfl⟩
theorem rd_A {x : AVal} (h : RdA tyA x) : ∃ l : Lsa, x = encA l ∧ okA l := by
  obtain ⟨cs, h1, h2⟩ := h
  obtain ⟨hd, r, rfl, okh, k0⟩ := dec_H h2
  obtain ⟨b1, r, rfl, k1⟩ := Rds_bool k0
  obtain ⟨b2, r, rfl, k2⟩ := Rds_bool k1
  obtain ⟨ls, r, rfl, k3, z1⟩ := Rds_sl (enc := fun x : { x : Lnk // okK x } => encK x.1) k2 (fun y cs e h => by
    obtain ⟨x, hx⟩ := dec_K h
    exact ⟨x, e.trans hx⟩)
  obtain ⟨at_, r, rfl, k4, z2⟩ := Rds_sl (enc := fun x : { x : Int // inW x } => enc32 x.1) k3 (fun y cs e h => by
    obtain ⟨a, r, rfl, h3, w⟩ := Rds_int h
    obtain rfl := Rds_nil h3
    simp at e
    exact ⟨⟨a, wf_u32 w⟩, e.symm⟩)
  obtain ⟨co, r, rfl, k5, w1⟩ := Rds_int k4
  obtain ⟨se, r, rfl, k6⟩ := Rds_bool k5
  obtain ⟨fw, r, rfl, k7, w2⟩ := Rds_int k6
  obtain ⟨tg, r, rfl, k8, w3⟩ := Rds_int k7
  obtain rfl := Rds_nil k8
  refine ⟨⟨hd, b1, b2, ls.map (·.1), at_.map (·.1), co, se, fw, tg⟩, ?_, okh, fun x hx => ?_, fun x hx => ?_, wf_i64 w1, wf_u32 w2, wf_i64 w3, by simp only [reachBytes] at z1; simp; omega, by simp only [reachBytes] at z2; simp; omega⟩
  · rw [if_pos (show tyA.1 = true from rfl)] at h1
    rw [h1]
    simp [csL]
  · obtain ⟨y, _, rfl⟩ := List.mem_map.1 hx
    exact y.2
  · obtain ⟨y, _, rfl⟩ := List.mem_map.1 hx
    exact y.2
end Go.Proofs.Ytmgkemffbmfmpaa

namespace Go.Proofs.Ytmgkemffbmfmpaa
open Go Go.Am

set_option maxHeartbeats 2000000 in
set_option maxRecDepth 10000 in
theorem c64 (l q : List Lnk) (n : Nat) (hn : l.length = n) (m : Nat) (hm : q.length = m) (hlen : n < 8796093022208) : CFun Try.prog 136 [.sl 4 (l.map encK) .sh, .sl 4 (q.map encK) .sh] [] (.bool (decide (l = q))) [] := by
  refine CFun.intro (tr := []) (fz := []) (n := 26) (rs := [.tmp 4]) Try.func136 rfl (by kernel_rfl) rfl rfl mixed (by kernel_rfl) (by simp) (by simp) ?_
  by_cases hnm : n = m
  case neg =>
    have : l ≠ q := by rintro rfl; exact hnm (hn.symm.trans hm)
    have hnm' : ¬ (n : Int) = m := by omega
    simp [hn, hm, hnm', this]
  subst hnm
  simp [hn, hm]
  refine LoopK.intro (tr := []) mixed (by kernel_rfl) (fun i : Nat => [(0, .sl 4 (l.map encK) .sh), (1, .sl 4 (q.map encK) .sh), (12, .int .i64 n), (13, .int .i64 i)]) (fun _ => []) (fun i => i ≤ n ∧ (l = q ↔ l.drop i = q.drop i)) (fun i => n - i) 0 ?_ ?_ ?_
  · simp
  · simp
  · rintro i ⟨h1, h2⟩
    by_cases hi : i < n
    · obtain ⟨r, hx, hd⟩ := get_drop (l := l) (i := i) (by omega)
      obtain ⟨t, hy, he⟩ := get_drop (l := q) (i := i) (by omega)
      rw [hd, he, List.cons.injEq] at h2
      have w1 : IntKind.i64.wrap ((i : Int) + 1) = i + 1 := wrap_in (by omega)
      have hext : r = t ↔ r.Kind = t.Kind ∧ r.ID = t.ID ∧ r.Data = t.Data ∧ r.Cost = t.Cost := by
        cases r; cases t; simp
      clear hn hm hd he
      by_cases hrt : r = t
      · subst hrt
        simp [hi, hx, hy, w1]
        exact ⟨i + 1, ⟨by omega, by simpa using h2⟩, by omega, by simp⟩
      · have hne : ¬ (l = q) := by rw [h2]; simp [hrt]
        rw [hext] at hrt
        by_cases b1 : r.Kind = t.Kind <;> by_cases b2 : r.ID = t.ID <;> by_cases b3 : r.Data = t.Data <;> by_cases b4 : r.Cost = t.Cost <;> simp [b1, b2, b3, b4] at hrt <;>
          simp [hi, hx, hy, b1, b2, b3, b4, hne]
    · have e : l.drop i = [] := List.drop_of_length_le (by omega)
      have e' : q.drop i = [] := List.drop_of_length_le (by omega)
      rw [e, e'] at h2
      simp [hi, h2]
set_option maxHeartbeats 2000000 in
set_option maxRecDepth 10000 in
theorem c65 (l q : List Int) (n : Nat) (hn : l.length = n) (m : Nat) (hm : q.length = m) (hlen : n < 140737488355328) : CFun Try.prog 123 [.sl 1 (l.map enc32) .sh, .sl 1 (q.map enc32) .sh] [] (.bool (decide (l = q))) [] := by
  refine CFun.intro (tr := []) (fz := []) (n := 26) (rs := [.tmp 4]) Try.func123 rfl (by kernel_rfl) rfl rfl mixed (by kernel_rfl) (by simp) (by simp) ?_
  by_cases hnm : n = m
  case neg =>
    have : l ≠ q := by rintro rfl; exact hnm (hn.symm.trans hm)
    have hnm' : ¬ (n : Int) = m := by omega
    simp [hn, hm, hnm', this]
  subst hnm
  simp [hn, hm]
  refine LoopK.intro (tr := []) mixed (by kernel_rfl) (fun i : Nat => [(0, .sl 1 (l.map enc32) .sh), (1, .sl 1 (q.map enc32) .sh), (12, .int .i64 n), (13, .int .i64 i)]) (fun _ => []) (fun i => i ≤ n ∧ (l = q ↔ l.drop i = q.drop i)) (fun i => n - i) 0 ?_ ?_ ?_
  · simp
  · simp
  · rintro i ⟨h1, h2⟩
    by_cases hi : i < n
    · obtain ⟨r, hx, hd⟩ := get_drop (l := l) (i := i) (by omega)
      obtain ⟨t, hy, he⟩ := get_drop (l := q) (i := i) (by omega)
      rw [hd, he, List.cons.injEq] at h2
      have w1 : IntKind.i64.wrap ((i : Int) + 1) = i + 1 := wrap_in (by omega)
      clear hn hm hd he
      by_cases hrt : r = t
      · subst hrt
        simp [hi, hx, hy, w1]
        exact ⟨i + 1, ⟨by omega, by simpa using h2⟩, by omega, by simp⟩
      · have hne : ¬ (l = q) := by rw [h2]; simp [hrt]
        simp [hi, hx, hy, hrt, hne]
    · have e : l.drop i = [] := List.drop_of_length_le (by omega)
      have e' : q.drop i = [] := List.drop_of_length_le (by omega)
      rw [e, e'] at h2
      simp [hi, h2]

def sameB (a b : Lsa) : Bool := decide (keyH a.H = keyH b.H ∧ a.Border = b.Border ∧ a.Boundary = b.Boundary ∧ a.Links = b.Links ∧ a.Att = b.Att ∧ a.Cost = b.Cost ∧ a.Second = b.Second ∧ a.Fwd = b.Fwd ∧ a.Tag = b.Tag)
theorem keyH_iff (a b : Hdr) : keyH a = keyH b ↔ a.Ty = b.Ty ∧ a.ID = b.ID ∧ a.Len = b.Len ∧ a.Router = b.Router := by simp [keyH]
/-- The same of the key, cell by cell. -/
def keyE (a b : Hdr) : Bool := (a.Ty == b.Ty) && ((a.ID == b.ID) && ((a.Len == b.Len) && (a.Router == b.Router)))
theorem keyE_iff (a b : Hdr) : keyE a b = true ↔ keyH a = keyH b := by
  rw [keyH_iff]; simp [keyE]

set_option maxHeartbeats 4000000 in
set_option maxRecDepth 10000 in
theorem c29 (a b : Lsa) (hl : a.Links.length < 8796093022208) (ha : a.Att.length < 140737488355328) : CFun Try.prog 103 [encA a, encA b] [] (.bool (sameB a b)) [] := by
  refine CFun.intro (tr := []) (fz := []) (n := 68) (rs := [.tmp 4]) Try.func103 rfl (by kernel_rfl) rfl rfl mixed (by kernel_rfl) (by simp) (by simp) ?_
  have h25a := fun H => (c25 a.H).up' H rfl rfl
  have h25b := fun H => (c25 b.H).up' H rfl rfl
  have h64 := fun H => (c64 a.Links b.Links _ rfl _ rfl hl).up' H rfl rfl
  have h65 := fun H => (c65 a.Att b.Att _ rfl _ rfl ha).up' H rfl rfl
  simp only [keyH, encY, cellsY] at h25a h25b
  simp
  refine ⟨_, _, .inl (h25a _), by simp, ?_⟩
  simp
  refine ⟨_, _, .inl (h25b _), by simp, ?_⟩
  by_cases e1 : keyH a.H = keyH b.H
  case neg =>
    have hf : sameB a b = false := by simp [sameB, e1]
    have hk : keyE a.H b.H = false := by
      cases h : keyE a.H b.H
      · rfl
      · exact (e1 ((keyE_iff _ _).1 h)).elim
    simp only [keyE] at hk
    simp [hf, hk]
  have hk : keyE a.H b.H = true := (keyE_iff _ _).2 e1
  simp only [keyE] at hk
  simp [hk]
  by_cases e2 : a.Border = b.Border
  case neg => rw [if_neg e2]; simp [sameB, e2]
  rw [if_pos e2]
  by_cases e3 : a.Boundary = b.Boundary
  case neg => rw [if_neg e3]; simp [sameB, e3]
  rw [if_pos e3]
  refine ⟨_, _, .inl (h64 _), by simp, ?_⟩
  by_cases e4 : a.Links = b.Links
  case neg => simp [sameB, e4]
  rw [decide_eq_true e4]
  simp
  refine ⟨_, _, .inl (h65 _), by simp, ?_⟩
  by_cases e5 : a.Att = b.Att
  case neg => simp [sameB, e5]
  rw [decide_eq_true e5]
  by_cases e6 : a.Cost = b.Cost
  case neg => simp [sameB, e6]
  have b6 : (a.Cost == b.Cost) = true := by simpa using e6
  by_cases e7 : a.Second = b.Second
  case neg =>
    have b7 : (a.Second == b.Second) = false := by simpa using e7
    simp [b6, b7, sameB, e7]
  have b7 : (a.Second == b.Second) = true := by simpa using e7
  by_cases e8 : a.Fwd = b.Fwd
  case neg =>
    have b8 : (a.Fwd == b.Fwd) = false := by simpa using e8
    simp [b6, b7, b8, sameB, e8]
  have b8 : (a.Fwd == b.Fwd) = true := by simpa using e8
  by_cases e9 : a.Tag = b.Tag
  · have b9 : (a.Tag == b.Tag) = true := by simpa using e9
    simp [b6, b7, b8, b9, sameB, e1, e2, e3, e4, e5, e6, e7, e8, e9]
  · have b9 : (a.Tag == b.Tag) = false := by simpa using e9
    simp [b6, b7, b8, b9, sameB, e9]

set_option maxHeartbeats 4000000 in
set_option maxRecDepth 10000 in
theorem c30 (a b : Lsa) (hl : a.Links.length < 8796093022208) (ha : a.Att.length < 140737488355328) : CFun Try.prog 99 [encA a, encA b] [] (.bool (sameB a b)) [] := by
  refine CFun.intro (tr := []) (fz := []) (n := 110) (rs := [.tmp 4]) Try.func99 rfl (by kernel_rfl) rfl rfl mixed (by kernel_rfl) (by simp) (by simp) ?_
  have h26a := fun H => (c26 a.H).up' H rfl rfl
  have h26b := fun H => (c26 b.H).up' H rfl rfl
  simp only [keyH, encY, cellsY] at h26a h26b
  simp
  refine ⟨_, _, .inl (h26a _), by simp, ?_⟩
  simp
  refine ⟨_, _, .inl (h26b _), by simp, ?_⟩
  by_cases e1 : keyH a.H = keyH b.H
  case neg =>
    have hf : sameB a b = false := by simp [sameB, e1]
    have hk : keyE a.H b.H = false := by
      cases h : keyE a.H b.H
      · rfl
      · exact (e1 ((keyE_iff _ _).1 h)).elim
    simp only [keyE] at hk
    simp [hf, hk]
  have hk : keyE a.H b.H = true := (keyE_iff _ _).2 e1
  simp only [keyE] at hk
  simp [hk]
  by_cases e2 : a.Border = b.Border
  case neg => rw [if_neg e2]; simp [sameB, e2]
  rw [if_pos e2]
  by_cases e3 : a.Boundary = b.Boundary
  case neg => rw [if_neg e3]; simp [sameB, e3]
  rw [if_pos e3]
  by_cases e6 : a.Cost = b.Cost
  case neg => rw [if_neg e6]; simp [sameB, e6]
  rw [if_pos e6]
  by_cases e7 : a.Second = b.Second
  case neg => rw [if_neg e7]; simp [sameB, e7]
  rw [if_pos e7]
  by_cases e8 : a.Fwd = b.Fwd
  case neg => rw [if_neg e8]; simp [sameB, e8]
  rw [if_pos e8]
  by_cases e9 : a.Tag = b.Tag
  case neg => rw [if_neg e9]; simp [sameB, e9]
  rw [if_pos e9]
  by_cases l1 : (a.Links.length : Int) = b.Links.length
  case neg =>
    have hne : a.Links ≠ b.Links := fun h => l1 (by rw [h])
    rw [if_neg l1]; simp [sameB, hne]
  rw [if_pos l1]
  by_cases l2 : (a.Att.length : Int) = b.Att.length
  case neg =>
    have hne : a.Att ≠ b.Att := fun h => l2 (by rw [h])
    rw [if_neg l2]; simp [sameB, hne]
  rw [if_pos l2]
  have hS : sameB a b = decide (a.Links = b.Links ∧ a.Att = b.Att) := by simp [sameB, e1, e2, e3, e6, e7, e8, e9]
  rw [hS]
  obtain ⟨n, hn⟩ : ∃ n, a.Links.length = n := ⟨_, rfl⟩
  obtain ⟨m, hm⟩ : ∃ m, a.Att.length = m := ⟨_, rfl⟩
  have hcn : (a.Links.length : Int) = n := by omega
  have hcm : (a.Att.length : Int) = m := by omega
  refine LoopK.intro (tr := []) mixed (by kernel_rfl) (fun i : Nat => [(2, .ptr 0 0), (3, .ptr 1 0), (5, .int .i64 i)]) (fun _ => [cellsA a, cellsA b]) (fun i => i ≤ n ∧ (a.Links = b.Links ↔ a.Links.drop i = b.Links.drop i)) (fun i => n - i) 0 ?_ ?_ ?_
  · simp
  · simp
  · rintro i ⟨h1, h2⟩
    by_cases hi : i < n
    · obtain ⟨r, hx, hd⟩ := get_drop (l := a.Links) (i := i) (by omega)
      obtain ⟨t, hy, he⟩ := get_drop (l := b.Links) (i := i) (by omega)
      rw [hd, he, List.cons.injEq] at h2
      have w1 : IntKind.i64.wrap ((i : Int) + 1) = i + 1 := wrap_in (by omega)
      have hext : r = t ↔ r.Kind = t.Kind ∧ r.ID = t.ID ∧ r.Data = t.Data ∧ r.Cost = t.Cost := by
        cases r; cases t; simp
      clear hd he
      by_cases hrt : r = t
      · subst hrt
        simp [hcn, hi, hx, hy, w1]
        exact ⟨i + 1, ⟨by omega, by simpa using h2⟩, by omega, by simp⟩
      · have hne : ¬ (a.Links = b.Links) := by rw [h2]; simp [hrt]
        rw [hext] at hrt
        by_cases b1 : r.Kind = t.Kind <;> by_cases b2 : r.ID = t.ID <;> by_cases b3 : r.Data = t.Data <;> by_cases b4 : r.Cost = t.Cost <;> simp [b1, b2, b3, b4] at hrt <;>
          simp [hcn, hi, hx, hy, b1, b2, b3, b4, hne]
    · have e : a.Links.drop i = [] := List.drop_of_length_le (by omega)
      have e' : b.Links.drop i = [] := List.drop_of_length_le (by omega)
      rw [e, e'] at h2
      have hL : a.Links = b.Links := h2.2 rfl
      simp [hcn, hi]
      refine LoopK.intro (tr := []) mixed (by kernel_rfl) (fun j : Nat => [(2, .ptr 0 0), (3, .ptr 1 0), (6, .int .i64 j)]) (fun _ => [cellsA a, cellsA b]) (fun j => j ≤ m ∧ (a.Att = b.Att ↔ a.Att.drop j = b.Att.drop j)) (fun j => m - j) 0 ?_ ?_ ?_
      · simp
      · simp
      · rintro j ⟨j1, j2⟩
        by_cases hj : j < m
        · obtain ⟨r, hx, hd⟩ := get_drop (l := a.Att) (i := j) (by omega)
          obtain ⟨t, hy, he⟩ := get_drop (l := b.Att) (i := j) (by omega)
          rw [hd, he, List.cons.injEq] at j2
          have w1 : IntKind.i64.wrap ((j : Int) + 1) = j + 1 := wrap_in (by omega)
          clear hd he
          by_cases hrt : r = t
          · subst hrt
            simp [hcm, hj, hx, hy, w1]
            exact ⟨j + 1, ⟨by omega, by simpa using j2⟩, by omega, by simp⟩
          · have hne : ¬ (a.Att = b.Att) := by rw [j2]; simp [hrt]
            simp [hcm, hj, hx, hy, hrt, hne]
        · have e : a.Att.drop j = [] := List.drop_of_length_le (by omega)
          have e' : b.Att.drop j = [] := List.drop_of_length_le (by omega)
          rw [e, e'] at j2
          have hA : a.Att = b.Att := j2.2 rfl
          simp [hcm, hj]
          exact ⟨hL, hA⟩
end Go.Proofs.Ytmgkemffbmfmpaa

namespace Go.Proofs.Ytmgkemffbmfmpaa
open Go Go.Am

theorem and_mask_val (A k : Nat) (hA : A < 2 ^ 32) (hk : k ≤ 32) : A &&& ((4294967295 * 2 ^ k) % 2 ^ 32) = A / 2 ^ k * 2 ^ k := by
  apply Nat.eq_of_testBit_eq
  intro i
  rw [Nat.testBit_and, mask_bits k i hk, Nat.testBit_mul_two_pow]
  by_cases h2 : k ≤ i
  · have e : (A / 2 ^ k).testBit (i - k) = A.testBit i := by
      rw [Nat.testBit_div_two_pow]
      congr 1; omega
    by_cases h1 : i < 32
    · simp [h1, h2, e]
    · have : A.testBit i = false := Nat.testBit_lt_two_pow (Nat.lt_of_lt_of_le hA (Nat.pow_le_pow_right (by omega) (by omega)))
      simp [h2, e, this]
  · simp [h2]
theorem keep_val (A m : Nat) (hA : A < 2 ^ 32) (hm : m ≤ 32) : keepI A m = ((A / 2 ^ (32 - m) * 2 ^ (32 - m) : Nat) : Int) := by
  rw [keep_nat A m hA hm, and_mask_val A (32 - m) hA (by omega)]

theorem and_pow (B s : Nat) : B &&& 2 ^ s = (B.testBit s).toNat * 2 ^ s := by
  apply Nat.eq_of_testBit_eq
  intro i
  rw [Nat.testBit_and, Nat.testBit_two_pow]
  by_cases h : s = i
  · subst h
    cases hb : B.testBit s <;> simp
  · cases hb : B.testBit s <;> simp [h, Nat.testBit_two_pow]

end Go.Proofs.Ytmgkemffbmfmpaa

namespace Go.Proofs.Ytmgkemffbmfmpaa
open Go Go.Am

@[simp] def encP (p : Int × Int) : AVal := .agg [.int .u32 p.1, .int .i64 p.2]
def mkP (a n : Int) : (Int × Int) × Int := if n < 0 ∨ 32 < n then ((0, 0), 5) else ((keepI a n, n), 0)
def pfxL (l : Lsa) : (Int × Int) × Bool := if hasP l.H.Ty = false then ((0, 0), false) else if l.H.Len < 0 ∨ 32 < l.H.Len then ((0, 0), false) else ((keepI l.H.ID l.H.Len, l.H.Len), true)
theorem chkA_head {l : Lsa} (h : chkA l = 0) : chkH l.H = 0 := by
  unfold chkA at h
  split at h
  · exact h
  · rename_i h1; simpa using h1
theorem head_ok {h : Hdr} (hc : chkH h = 0) : (1 ≤ h.Ty ∧ h.Ty ≤ 5) ∧ (0 ≤ h.Len ∧ h.Len ≤ 32) ∧ (h.Ty = 3 ∨ h.Ty = 5 → validP h.ID h.Len = true) := by
  unfold chkH at hc
  by_cases p1 : inR h.Ty 1 5 = false
  · rw [if_pos p1] at hc; cases hc
  rw [if_neg p1] at hc
  by_cases p2 : h.Router = 0 ∨ inR h.Seq 1 2147483647 = false ∨ inR h.Age 0 3600 = false ∨ inR h.Sum 0 65535 = false ∨ inR h.Len 0 (if hasP h.Ty = true then 32 else 0) = false
  · rw [if_pos p2] at hc; cases hc
  rw [if_neg p2] at hc
  by_cases p3 : h.Ty = 1 ∧ h.ID ≠ h.Router
  · rw [if_pos p3] at hc; cases hc
  rw [if_neg p3] at hc
  by_cases p4 : (h.Ty = 3 ∨ h.Ty = 5) ∧ validP h.ID h.Len = false
  · rw [if_pos p4] at hc; cases hc
  have a1 : inR h.Ty 1 5 = true := by simpa using p1
  rw [inR_iff] at a1
  have a2 : inR h.Len 0 (if hasP h.Ty = true then 32 else 0) = true := by
    cases hq : inR h.Len 0 (if hasP h.Ty = true then 32 else 0)
    · exact (p2 (.inr (.inr (.inr (.inr hq))))).elim
    · rfl
  rw [inR_iff] at a2
  refine ⟨a1, ⟨a2.1, by split at a2 <;> omega⟩, fun ht => ?_⟩
  cases hq : validP h.ID h.Len
  · exact (p4 ⟨ht, hq⟩).elim
  · rfl

theorem sameB_self (a : Lsa) : sameB a a = true := by simp [sameB]

end Go.Proofs.Ytmgkemffbmfmpaa
