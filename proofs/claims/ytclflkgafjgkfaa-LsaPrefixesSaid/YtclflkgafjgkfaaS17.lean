import Derived.Test.YtclflkgafjgkfaaS16
set_option linter.unusedSimpArgs false
set_option linter.unusedVariables false
namespace Go.Proofs.Ytclflkgafjgkfaa
open Go Go.Am

def prevI (l : List Int) : Nat → Option Int
  | 0 => some 0
  | i + 1 => l[i]?

/-- Was the router met? -/
def hasR (l : Lsa) (i : Nat) : Bool := decide (l.H.Router ∈ l.Att.take i)
theorem hasR_succ {l : Lsa} {i : Nat} {x : Int} (hx : l.Att[i]? = some x) : hasR l (i + 1) = (hasR l i || decide (x = l.H.Router)) := by
  have htk : l.Att.take (i + 1) = l.Att.take i ++ [x] := by rw [List.take_add_one, hx]; rfl
  unfold hasR
  rw [htk]
  by_cases e : x = l.H.Router
  · simp [e]
  · have e' : ¬ l.H.Router = x := fun h => e h.symm
    simp [e, e']

set_option maxHeartbeats 4000000 in
set_option maxRecDepth 10000 in
theorem c47 (l : Lsa) (n : Nat) (hn : l.Att.length = n) (hok : ∀ x ∈ l.Att, inW x) : CFun Try.prog 47 [encA l] [] (.int .i64 (chkAtt l.Att l.H.Router)) [] := by
  refine CFun.intro (tr := []) (fz := []) (n := 51) (rs := [.tmp 2]) Try.func47 rfl (by kernel_rfl) rfl rfl mixed (by kernel_rfl) (by simp) (by simp) ?_
  have hc : (l.Att.length : Int) = n := by omega
  by_cases h64 : (64 : Int) < n
  · have : 64 < l.Att.length := by omega
    simp [hc, h64, chkAtt, this]
  have hs : chkAtt l.Att l.H.Router = if attL 0 l.Att = false then 16 else if memL l.Att l.H.Router = false then 14 else 0 := by rw [chkAtt, if_neg (by omega)]
  rw [hs]
  simp [hc, h64]
  refine LoopK.intro (tr := []) mixed (by kernel_rfl) (fun i : Nat => [(1, .ptr 0 0), (3, .bool (hasR l i)), (4, .int .i64 i)]) (fun _ => [cellsA l])
    (fun i => i ≤ n ∧ ∃ last, prevI l.Att i = some last ∧ attL 0 l.Att = attL last (l.Att.drop i)) (fun i => n - i) 0 ?_ ?_ ?_
  · exact ⟨by simp, 0, rfl, by simp⟩
  · simp [hasR]
  · rintro i ⟨i1, last, i3, i4⟩
    by_cases hi : i < n
    · obtain ⟨x, hx, hd⟩ := get_drop (l := l.Att) (i := i) (by omega)
      obtain ⟨ok1, ok2⟩ := hok x (List.mem_of_getElem? hx)
      rw [hd] at i4
      simp only [attL] at i4
      have w1 : IntKind.i64.wrap ((i : Int) + 1) = i + 1 := wrap_in (by omega)
      have hsu := hasR_succ hx
      clear hd hn
      -- behind the test of the order
      have fin : attL 0 l.Att = attL x (l.Att.drop (i + 1)) → (i + 1 ≤ n ∧ ∃ last, prevI l.Att (i + 1) = some last ∧ attL 0 l.Att = attL last (l.Att.drop (i + 1))) :=
        fun h => ⟨by omega, x, hx, h⟩
      cases i with
      | zero =>
        simp only [prevI, Option.some.injEq] at i3
        subst i3
        by_cases e0 : x = 0
        · rw [if_pos (by omega)] at i4
          simp [hc, hi, hx, e0, i4]
        · rw [if_neg (by omega)] at i4
          have b0 : (x == 0) = false := by simpa using e0
          have w0 : IntKind.i64.wrap 1 = 1 := by decide
          by_cases er : x = l.H.Router
          · have br : (x == l.H.Router) = true := by simpa using er
            simp [hc, hi, hx, b0, br, w0]
            exact ⟨1, fin i4, by omega, by rw [hsu]; simp [er], by simp⟩
          · have br : (x == l.H.Router) = false := by simpa using er
            simp [hc, hi, hx, b0, br, w0]
            exact ⟨1, fin i4, by omega, by rw [hsu]; simp [er], by simp⟩
      | succ j =>
        simp only [prevI] at i3
        obtain ⟨lk1, lk2⟩ := hok last (List.mem_of_getElem? i3)
        have w2 : IntKind.i64.wrap (j : Int) = j := wrap_in (by omega)
        have h0 : (0 : Int) < ((j + 1 : Nat) : Int) := by omega
        simp only [Int.natCast_add, Int.natCast_one] at h0 w1
        have hj1 : (j : Int) + 1 < n := by omega
        have hj2 : (0 : Int) ≤ (j : Int) + 1 := by omega
        by_cases e0 : x = 0
        · rw [if_pos (by omega)] at i4
          simp [hc, hi, hx, e0, i4, hj1, hj2]
        · have b0 : (x == 0) = false := by simpa using e0
          by_cases ho : x ≤ last
          · rw [if_pos ho] at i4
            simp [hc, hi, hx, hj1, hj2, b0, h0, w2, i3, ho, i4]
          · rw [if_neg ho] at i4
            by_cases er : x = l.H.Router
            · have br : (x == l.H.Router) = true := by simpa using er
              simp [hc, hi, hx, hj1, hj2, b0, h0, w2, i3, ho, br, w1]
              exact ⟨j + 1 + 1, fin i4, by omega, by rw [hsu]; simp [er], by simp⟩
            · have br : (x == l.H.Router) = false := by simpa using er
              simp [hc, hi, hx, hj1, hj2, b0, h0, w2, i3, ho, br, w1]
              exact ⟨j + 1 + 1, fin i4, by omega, by rw [hsu]; simp [er], by simp⟩
    · have e : l.Att.drop i = [] := List.drop_of_length_le (by omega)
      have ht : l.Att.take i = l.Att := List.take_of_length_le (by omega)
      rw [e] at i4
      simp [attL] at i4
      have hm : memL l.Att l.H.Router = hasR l i := by unfold hasR memL; rw [ht]
      generalize hasR l i = has at hm
      cases has <;> simp [hc, hi, i4, hm]

def okA (l : Lsa) : Prop := okH l.H ∧ (∀ x ∈ l.Links, okK x) ∧ (∀ x ∈ l.Att, inW x) ∧ inI l.Cost ∧ inW l.Fwd ∧ inI l.Tag ∧ l.Links.length < 8796093022208 ∧ l.Att.length < 140737488355328

set_option maxHeartbeats 2000000 in
set_option maxRecDepth 10000 in
theorem c14 (l : Lsa) (ok : okA l) : CFun Try.prog 14 [encA l] [] (.int .i64 (chkA l)) [] := by
  refine CFun.intro (tr := []) (fz := []) (n := 34) (rs := [.tmp 2]) Try.func14 rfl (by kernel_rfl) rfl rfl mixed (by kernel_rfl) (by simp) (by simp) ?_
  obtain ⟨okh, okl, oka, _⟩ := ok
  have h34 := (c34 l.H okh.2.1).up' [cellsA l] rfl rfl
  have h48 : ∀ n lo hi H, CFun Try.prog 48 [.int .i64 n, .int .i64 lo, .int .i64 hi] H (.bool (inR n lo hi)) H := fun n lo hi H => (c48 n lo hi).up' H rfl rfl
  have h46 := fun rest => (c46 l _ rfl okl).up' (cellsA l :: rest) rfl rfl
  have h47 := fun rest => (c47 l _ rfl oka).up' (cellsA l :: rest) rfl rfl
  by_cases e0 : chkH l.H = 0
  · have hty : inR l.H.Ty 1 5 = true := by
      cases hq : inR l.H.Ty 1 5
      · simp [chkH, hq] at e0
      · rfl
    have h45 := (c45 l hty).up' [cellsA l] rfl rfl
    rw [e0] at h34
    have hk : chkA l = if forB l = true then 1 else if l.H.Ty = 1 then chkLinks l.Links l.H.Router else if l.H.Ty = 2 then chkAtt l.Att l.H.Router else if inR l.Cost 0 16777216 = false ∨ inR l.Tag 0 4294967295 = false then 5 else 0 := by
      rw [chkA, e0]; rfl
    rw [hk]
    generalize chkLinks l.Links l.H.Router = v46 at h46 ⊢
    generalize chkAtt l.Att l.H.Router = v47 at h47 ⊢
    generalize forB l = v45 at h45 ⊢
    simp
    refine ⟨_, _, .inl h34, trivial, ?_⟩
    simp
    refine ⟨_, _, .inl h45, trivial, ?_⟩
    cases v45
    · by_cases t1 : l.H.Ty = 1
      · have b1 : (l.H.Ty == 1) = true := by simpa using t1
        simp [b1]
        refine ⟨_, _, .inl (h46 _), trivial, ?_⟩
        simp [t1]
      · have b1 : (l.H.Ty == 1) = false := by simpa using t1
        by_cases t2 : l.H.Ty = 2
        · have b2 : (l.H.Ty == 2) = true := by simpa using t2
          simp [b1, b2]
          refine ⟨_, _, .inl (h47 _), trivial, ?_⟩
          simp [t1, t2]
        · have b2 : (l.H.Ty == 2) = false := by simpa using t2
          simp [b1, b2]
          refine ⟨_, _, .inl (h48 _ _ _ _), trivial, ?_⟩
          cases e1 : inR l.Cost 0 16777216
          · simp [t1, t2]
          · simp
            refine ⟨_, _, .inl (h48 _ _ _ _), trivial, ?_⟩
            cases e2 : inR l.Tag 0 4294967295 <;> simp [t1, t2]
    · simp
  · have hk : chkA l = chkH l.H := by rw [chkA, if_pos e0]
    rw [hk]
    simp
    refine ⟨_, _, .inl h34, trivial, ?_⟩
    simp [e0]

set_option maxHeartbeats 2000000 in
set_option maxRecDepth 10000 in
theorem c3 (l : Lsa) (ok : okA l) : CFun Try.prog 3 [encA l] [] (.bool true) [] := by
  refine CFun.intro (tr := []) (fz := []) (n := 11) (rs := [.tmp 2]) Try.func3 rfl (by kernel_rfl) rfl rfl mixed (by kernel_rfl) (by simp) (by simp) ?_
  have h13 := fun H => (c13 l).up' H rfl rfl
  have h14 := fun H => (c14 l ok).up' H rfl rfl
  have h15 := fun H => c15.up' H rfl rfl
  generalize chkA l = c at h13 h14
  simp
  refine ⟨_, _, .inl (h13 _), by simp, ?_⟩
  simp
  refine ⟨_, _, .inl (h14 _), by simp, ?_⟩
  simp
  refine ⟨_, _, .inl (h15 _), by simp, ?_⟩
  simp

def csL : List CTy := [.int .i64, .int .u32, .int .u32, .int .i64]
def csA : List CTy := csH ++ [.bool, .bool, .sl true 24 csL, .sl false 4 [.int .u32], .int .i64, .bool, .int .u32, .int .i64]
def tyA : Bool × List CTy := (true, csA)
theorem dec_K {cs : List AVal} (h : Rds csL cs) : ∃ x : { x : Lnk // okK x }, AVal.agg cs = encK x.1 := by
  obtain ⟨a1, r, rfl, h, _⟩ := Rds_int h
  obtain ⟨a2, r, rfl, h, w2⟩ := Rds_int h
  obtain ⟨a3, r, rfl, h, w3⟩ := Rds_int h
  obtain ⟨a4, r, rfl, h, _⟩ := Rds_int h
  obtain rfl := Rds_nil h
  exact ⟨⟨⟨a1, a2, a3, a4⟩, wf_u32 w2, wf_u32 w3⟩, rfl⟩
theorem rd_A {x : AVal} (h : RdA tyA x) : ∃ l : Lsa, x = encA l ∧ okA l := by
  obtain ⟨cs, h1, h2⟩ := h
  obtain ⟨hd, r, rfl, okh, k0⟩ := dec_H h2
  obtain ⟨b1, r, rfl, k1⟩ := Rds_bool k0
  obtain ⟨b2, r, rfl, k2⟩ := Rds_bool k1
  obtain ⟨ls, r, rfl, k3, z1⟩ := Rds_sl (enc := fun x : { x : Lnk // okK x } => encK x.1) k2 (fun y cs e h => by
    obtain ⟨x, hx⟩ := dec_K h
    exact ⟨x, e.trans hx⟩)
  obtain ⟨at_, r, rfl, k4, z2⟩ := Rds_sl (enc := fun x : { x : Int // inW x } => enc32 x.1) k3 (fun y cs e h => by
    obtain ⟨a, r, rfl, h3, w⟩ := Rds_int h
    obtain rfl := Rds_nil h3
    simp at e
    exact ⟨⟨a, wf_u32 w⟩, e.symm⟩)
  obtain ⟨co, r, rfl, k5, w1⟩ := Rds_int k4
  obtain ⟨se, r, rfl, k6⟩ := Rds_bool k5
  obtain ⟨fw, r, rfl, k7, w2⟩ := Rds_int k6
  obtain ⟨tg, r, rfl, k8, w3⟩ := Rds_int k7
  obtain rfl := Rds_nil k8
  refine ⟨⟨hd, b1, b2, ls.map (·.1), at_.map (·.1), co, se, fw, tg⟩, ?_, okh, fun x hx => ?_, fun x hx => ?_, wf_i64 w1, wf_u32 w2, wf_i64 w3, by simp only [reachBytes] at z1; simp; omega, by simp only [reachBytes] at z2; simp; omega⟩
  · rw [if_pos (show tyA.1 = true from rfl)] at h1
    rw [h1]
    simp [csL]
  · obtain ⟨y, _, rfl⟩ := List.mem_map.1 hx
    exact y.2
  · obtain ⟨y, _, rfl⟩ := List.mem_map.1 hx
    exact y.2
end Go.Proofs.Ytclflkgafjgkfaa
