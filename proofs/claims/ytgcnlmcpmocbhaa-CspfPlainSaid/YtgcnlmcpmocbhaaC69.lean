/- A path that fits is no better than the one that is found. No program. -/
import Derived.Test.YtgcnlmcpmocbhaaC62
import Derived.Test.YtgcnlmcpmocbhaaC46
set_option linter.unusedSimpArgs false
set_option linter.unusedVariables false
namespace Go.Proofs.Ytgcnlmcpmocbhaa
open Go Go.Am Go.Wk

theorem cmpI_swap : ∀ a b : List Int, cmpI b a = - cmpI a b
  | [], [] => rfl
  | [], _ :: _ => rfl
  | _ :: _, [] => rfl
  | x :: a, y :: b => by
    simp only [cmpI]
    rw [cmpI_swap a b]
    split <;> split <;> first | rfl | omega
theorem fitsR_inv {N : Int} {l : List Lnk} {p : List Int} {c : Con} (h : fitsR N l p c = true) : checkE N l c = 0 ∧ p ≠ [] ∧ p.any (outN N) = false ∧ repB p = false ∧ ¬ (0 < c.Hops ∧ c.Hops < (p.length : Int) - 1) ∧ goR l c none 0 p = true := by
  unfold fitsR at h
  by_cases g1 : checkE N l c = 0
  case neg => rw [if_pos g1] at h; cases h
  rw [if_neg (by simpa using g1)] at h
  by_cases g2 : p.length = 0
  · rw [if_pos g2] at h; cases h
  rw [if_neg g2] at h
  by_cases g3 : p.any (outN N) = true
  · rw [if_pos g3] at h; cases h
  rw [if_neg g3] at h
  by_cases g4 : repB p = true
  · rw [if_pos g4] at h; cases h
  rw [if_neg g4] at h
  by_cases g5 : 0 < c.Hops ∧ c.Hops < (p.length : Int) - 1
  · rw [if_pos g5] at h; cases h
  rw [if_neg g5] at h
  exact ⟨g1, by intro e; simp [e] at g2, by simpa using g3, by simpa using g4, g5, h⟩
theorem best_law {N : Int} {l : List Lnk} {path : List Int} {c : Con} (hf : fitsR N l path c = true) {fr to : Int} (h0 : path[0]? = some fr) (h1 : path[path.length - 1]? = some to) :
    ((routeN N l fr to c).2.2 = 10 ∧ 0 < c.Thru.length) ∨ ((routeN N l fr to c).2.2 = 0 ∧ fitsR N l (routeN N l fr to c).1 c = true ∧ (routeN N l fr to c).2.1 = costP l (routeN N l fr to c).1 ∧ (routeN N l fr to c).2.1 ≤ costP l path ∧
      ((routeN N l fr to c).2.1 = costP l path → (routeN N l fr to c).1.length ≤ path.length ∧ ((routeN N l fr to c).1.length = path.length → ¬ 0 < cmpI (routeN N l fr to c).1 path)) ∧
      (routeN N l fr to c).1[0]? = some fr ∧ (routeN N l fr to c).1[(routeN N l fr to c).1.length - 1]? = some to) := by
  obtain ⟨g1, g2, g3, g4, g5, g6⟩ := fitsR_inv hf
  obtain ⟨n1, n2, l2, lk, cn⟩ := check_links g1
  obtain ⟨asc, _, lko⟩ := links_asc lk
  obtain ⟨c1, c2, c3, _⟩ := con_ok cn
  obtain ⟨M, hM⟩ : ∃ M : Nat, N = M := ⟨N.toNat, by omega⟩
  subst hM
  have hls : ∀ x ∈ l, okLk M x := fun x hx => (link_ok (lko x hx)).1
  cases path with
  | nil => exact absurd rfl g2
  | cons a xs =>
  simp at h0
  subst h0
  have hto : to = endN a xs := by
    have := endN_last a xs
    simp only [List.length_cons, Nat.add_sub_cancel] at h1
    rw [this] at h1
    injection h1 with h1
    exact h1.symm
  have o1 : outN M a = false := by
    rw [List.any_cons, Bool.or_eq_false_iff] at g3
    exact g3.1
  have o2 : outN M to = false := by
    rw [List.any_eq_false] at g3
    simpa using g3 to (List.mem_of_getElem? h1)
  simp only [goR] at g6
  split at g6
  · cases g6
  rename_i hav
  have hav' : hasB c.Avoid a = false := by simpa using hav
  simp only [Bool.false_eq_true, if_false] at g6
  obtain ⟨f1, f2⟩ := out_false o1
  obtain ⟨t1, t2⟩ := out_false o2
  have es1 := ent_div (th := c.Thru) (k := 0) f2
  have es2 := ent_mod (th := c.Thru) (k := 0) f2
  change stF M a c / M = _ at es1
  change stF M a c % M = _ at es2
  have ek : (if c.Thru[0]? = some a then 0 + 1 else 0) = stF M a c / M := by
    rw [es1]; unfold entK; rw [← f1]
  have ea : ((stF M a c % M : Nat) : Int) = a := by rw [es2]; exact f1.symm
  have hkl : stF M a c / M ≤ c.Thru.length := by rw [es1]; exact entK_len (Nat.zero_le _)
  rw [ek] at g6
  obtain ⟨zs, d, z, w1, w2, w3, w4, w5⟩ := goR_walk (M := M) hls xs (stF M a c) hkl (by rw [ea]; exact g6)
  rw [ea] at w3 w5
  have hz : z = stT M to c := by
    have := Nat.div_add_mod z M
    unfold stT
    rw [w4, Nat.mul_comm] at this
    rw [← hto] at w5
    omega
  rw [hz] at w1
  have hlim : limH c.Hops zs.length := by
    have hl := congrArg List.length w2
    simp [ndI] at hl
    simp only [List.length_cons] at g5
    unfold limH
    omega
  have hzl : zs.length = xs.length := by
    have hl := congrArg List.length w2
    simpa [ndI] using hl
  rcases routeN_cases g1 o1 o2 hav' with ⟨_, h⟩ | ⟨ys, d', hb, e⟩
  · exact absurd hlim (h _ _ w1)
  by_cases hr : repB (ndS M a ys) = true
  · rw [if_pos hr] at e
    rw [e]
    refine .inl ⟨rfl, ?_⟩
    rcases Nat.eq_zero_or_pos c.Thru.length with h | h
    · rw [best_nodup hls o1 (List.length_eq_zero_iff.1 h) hb] at hr
      cases hr
    · exact h
  · rw [if_neg hr] at e
    have hr' : repB (ndS M a ys) = false := by simpa using hr
    refine .inr ?_
    have en : ndS M a ys = a :: ndI (ys.map (· % M)) := by simp [ndS, ndI]
    obtain ⟨b1, b2, b3⟩ := walk_goR hls asc hb.w (by
      unfold stT
      rw [Nat.mul_comm, Nat.mul_add_div (by omega), Nat.div_eq_of_lt t2]; rfl)
    rw [ea] at b1 b2 b3
    have hrt : ((stT M to c % M : Nat) : Int) = to := by
      unfold stT
      rw [Nat.mul_comm, Nat.mul_add_mod, Nat.mod_eq_of_lt t2]
      exact t1.symm
    rw [hrt] at b3
    have hlen : (ndS M a ys).length = ys.length + 1 := by simp [ndS]
    have hlast : (ndS M a ys)[(ndS M a ys).length - 1]? = some to := by
      rw [hlen, en, Nat.add_sub_cancel]
      have := endN_last a (ndI (ys.map (· % M)))
      rw [← b3] at this
      rw [← this]
      congr 1
      simp [ndI]
    rw [e]
    have hle := hb.le _ _ w1 hlim
    refine ⟨rfl, ?_, ?_, ?_, ?_, rfl, hlast⟩
    · unfold fitsR
      rw [if_neg (by simpa using g1), if_neg (by show ¬ (ndS M a ys).length = 0; omega)]
      rw [if_neg (by
        show ¬ (ndS M a ys).any (outN M) = true
        rw [en, List.any_cons, o1, Bool.false_or, Bool.not_eq_true, List.any_eq_false]
        intro y hy
        simp only [ndI, List.mem_map] at hy
        obtain ⟨u, ⟨v, hv, rfl⟩, rfl⟩ := hy
        have := Nat.mod_lt v (show 0 < M by omega)
        simp only [outN, Bool.or_eq_true, decide_eq_true_eq]
        omega)]
      rw [if_neg (show ¬ repB (ndS M a ys) = true from hr), if_neg (by
        show ¬ (0 < c.Hops ∧ c.Hops < ((ndS M a ys).length : Int) - 1)
        rw [hlen]
        have := hb.l
        unfold limH at this
        omega)]
      show goR l c none 0 (ndS M a ys) = true
      rw [en]
      simp only [goR, hav', Bool.false_eq_true, if_false]
      rw [ek]
      exact b1
    · show (d' : Int) = costP l (ndS M a ys)
      rw [en]
      exact b2
    · show (d' : Int) ≤ costN l a xs
      rw [← w3]
      omega
    · show (d' : Int) = costN l a xs → (ndS M a ys).length ≤ _ ∧ ((ndS M a ys).length = _ → ¬ 0 < cmpI (ndS M a ys) (a :: xs))
      intro hd
      rw [← w3] at hd
      have hd' : d' = d := by omega
      rcases hle with h | ⟨_, h⟩
      · omega
      rw [hlen]
      simp only [List.length_cons]
      refine ⟨by omega, fun hl hc => ?_⟩
      rcases h with h | ⟨_, h⟩
      · omega
      rw [en, cmpI_cons, cmpI_swap, ← w2] at hc
      exact h ((cmpI_lt _ _).1 (by omega))
end Go.Proofs.Ytgcnlmcpmocbhaa

/- The law CspfPlain: the distance without constraints. -/
namespace Go.Proofs.Ytgcnlmcpmocbhaa
open Go Go.Am Go.Wk

/-- No constraint. -/
def conZ : Con := ⟨0, 0, 0, 0, 0, 0, [], []⟩
theorem usable_Z {n : Int} {x : Lnk} (h : linkE n x = 0) : usableN x conZ = true := by
  have hf : (frs x).any (outF x.Cap) = false := by
    unfold linkE at h
    split at h
    · cases h
    split at h
    · cases h
    split at h
    · cases h
    split at h
    · cases h
    · rename_i h4
      simpa using h4
  have h0 : ¬ x.Fr 0 < 0 := by
    intro c
    have : (frs x).any (outF x.Cap) = true := by
      rw [List.any_eq_true]
      exact ⟨x.Fr 0, by simp [frs], by simp [outF, c]⟩
    rw [hf] at this
    cases this
  unfold usableN
  simp [conZ, h0, hasB, andW]
  rfl
theorem usL_Z {N : Nat} {l : List Lnk} (hl : ∀ x ∈ l, linkE N x = 0) : usL l conZ = l := by
  unfold usL
  rw [List.filter_eq_self]
  exact fun x hx => usable_Z (hl x hx)
/-- The arcs of links. -/
def arcL (l : List Lnk) : List Arc := l.map fun x => (x.From.toNat, x.To.toNat, x.Cost.toNat)
theorem arcs_Z (l : List Lnk) (N : Nat) : arcsN l [] N = arcL l := by
  simp [arcsN, arcL, arcN, entN, entK]
/-- The edges, put in one after the other. -/
def edgF (l : List Lnk) (D : Nat → Nat → Int) : Nat → Nat → Int := l.foldl (fun D x => fset2 D x.From.toNat x.To.toNat x.Cost) D
def begF : Nat → Nat → Int := fun i k => if i = k then 0 else -1
theorem edg_other : ∀ (l : List Lnk) (D : Nat → Nat → Int) {i k : Nat}, (∀ x ∈ l, ¬ (x.From.toNat = i ∧ x.To.toNat = k)) → edgF l D i k = D i k
  | [], _, _, _, _ => rfl
  | x :: l, D, i, k, h => by
    have e : edgF (x :: l) D = edgF l (fset2 D x.From.toNat x.To.toNat x.Cost) := rfl
    rw [e, edg_other l _ (fun y hy => h y (List.mem_cons_of_mem _ hy))]
    unfold fset2
    rw [if_neg (fun c => h x (by simp) ⟨c.1.symm, c.2.symm⟩)]
theorem edg_at : ∀ (l : List Lnk) (D : Nat → Nat → Int), (l.Pairwise fun x y => ¬ (x.From.toNat = y.From.toNat ∧ x.To.toNat = y.To.toNat)) → ∀ x ∈ l, edgF l D x.From.toNat x.To.toNat = x.Cost
  | [], _, _, x, hx => by cases hx
  | y :: l, D, hp, x, hx => by
    have e : edgF (y :: l) D = edgF l (fset2 D y.From.toNat y.To.toNat y.Cost) := rfl
    rw [List.pairwise_cons] at hp
    rw [e]
    rcases List.mem_cons.1 hx with rfl | hx
    · rw [edg_other l _ (fun z hz c => hp.1 z hz ⟨c.1.symm, c.2.symm⟩)]
      simp [fset2]
    · exact edg_at l _ hp.2 x hx
theorem edg_cases (l : List Lnk) (hp : l.Pairwise fun x y => ¬ (x.From.toNat = y.From.toNat ∧ x.To.toNat = y.To.toNat)) (i k : Nat) :
    (∃ x ∈ l, x.From.toNat = i ∧ x.To.toNat = k ∧ edgF l begF i k = x.Cost) ∨ ((∀ x ∈ l, ¬ (x.From.toNat = i ∧ x.To.toNat = k)) ∧ edgF l begF i k = begF i k) := by
  by_cases h : ∃ x ∈ l, x.From.toNat = i ∧ x.To.toNat = k
  · obtain ⟨x, hx, rfl, rfl⟩ := h
    exact .inl ⟨x, hx, rfl, rfl, edg_at l _ hp x hx⟩
  · have h' : ∀ x ∈ l, ¬ (x.From.toNat = i ∧ x.To.toNat = k) := fun x hx c => h ⟨x, hx, c⟩
    exact .inr ⟨h', edg_other l _ h'⟩
theorem fw_start {N : Nat} {l : List Lnk} (hN : 0 < N) (hok : ∀ x ∈ l, okLk N x ∧ x.From ≠ x.To) (hasc : l.Pairwise fun x y => x.From < y.From ∨ x.From = y.From ∧ x.To < y.To) :
    FW (arcL l) N 0 65535 (edgF l begF) (fun _ _ => False) (edgF l begF) := by
  have hp : l.Pairwise fun x y => ¬ (x.From.toNat = y.From.toNat ∧ x.To.toNat = y.To.toNat) := by
    refine hasc.imp_of_mem ?_
    intro x y hx hy h c
    obtain ⟨⟨a1, a2, a3, a4, _⟩, _⟩ := hok x hx
    obtain ⟨⟨b1, b2, b3, b4, _⟩, _⟩ := hok y hy
    omega
  refine FW.start hN ?_ ?_ ?_ ?_ ?_
  · intro i k hi hk h0
    rcases edg_cases l hp i k with ⟨x, hx, e1, e2, e3⟩ | ⟨h1, e3⟩
    · rw [e3]
      exact ⟨[k], W.one (List.mem_map.2 ⟨x, hx, by rw [e1, e2]⟩)⟩
    · rw [e3] at h0 ⊢
      unfold begF at h0 ⊢
      split at h0
      · rename_i e
        subst e
        rw [if_pos rfl]
        exact ⟨[], .nil _⟩
      · omega
  · intro i hi
    rcases edg_cases l hp i i with ⟨x, hx, e1, e2, e3⟩ | ⟨h1, e3⟩
    · obtain ⟨⟨a1, a2, a3, a4, _⟩, a5⟩ := hok x hx
      exact absurd (show x.From = x.To by omega) a5
    · rw [e3]
      simp [begF]
  · intro i k a ha
    obtain ⟨x, hx, e⟩ := List.mem_map.1 ha
    obtain ⟨⟨_, _, _, _, a1, _⟩, _⟩ := hok x hx
    injection e with e1 e2
    injection e2 with e2 e3
    subst e1 e2 e3
    rw [edg_at l _ hp x hx]
    omega
  · intro i k _ _
    rcases edg_cases l hp i k with ⟨x, hx, e1, e2, e3⟩ | ⟨h1, e3⟩
    · rw [e3]
      exact (hok x hx).1.2.2.2.2.2
    · rw [e3]
      unfold begF
      split <;> omega
  · intro i k _ _
    rcases edg_cases l hp i k with ⟨x, hx, e1, e2, e3⟩ | ⟨h1, e3⟩
    · rw [e3]
      have := (hok x hx).1.2.2.2.2.1
      omega
    · rw [e3]
      unfold begF
      split <;> omega
/-- The distance of two nodes. -/
def distF (N : Nat) (l : List Lnk) (fr to : Int) : Int := allF N (edgF l begF) fr.toNat to.toNat
theorem plain_law {N : Nat} {l : List Lnk} {fr to : Int} (g1 : checkE N l conZ = 0) (h1 : outN N fr = false) (h2 : outN N to = false) :
    (distF N l fr to < 0 → routeN N l fr to conZ = ([], 0, 20)) ∧ (0 ≤ distF N l fr to → (routeN N l fr to conZ).2 = (distF N l fr to, 0)) := by
  obtain ⟨n1, n2, l2, lk, cn⟩ := check_links g1
  obtain ⟨hasc, _, lko⟩ := links_asc lk
  have hok : ∀ x ∈ l, okLk N x ∧ x.From ≠ x.To := fun x hx => link_ok (lko x hx)
  have hN : 0 < N := by omega
  obtain ⟨f1, f2⟩ := out_false h1
  obtain ⟨t1, t2⟩ := out_false h2
  have hE : ∀ a ∈ arcL l, a.2.1 < N := by
    intro a ha
    obtain ⟨x, hx, rfl⟩ := List.mem_map.1 ha
    obtain ⟨⟨_, _, a3, a4, _⟩, _⟩ := hok x hx
    simp only
    omega
  have hsp := allF_spec hN (fw_start hN hok hasc) hE f2 t2
  have hu : arcsN (usL l conZ) conZ.Thru N = arcL l := by
    rw [usL_Z lko]
    exact arcs_Z l N
  have hs : stF N fr conZ = fr.toNat := by simp [stF, entN, entK, conZ]
  have ht : stT N to conZ = to.toNat := by simp [stT, conZ]
  have hc := routeN_cases g1 h1 h2 (c := conZ) (by simp [conZ, hasB])
  rw [hu, hs, ht] at hc
  unfold distF
  rcases hc with ⟨e1, e2⟩ | ⟨ys, d, hb, e1⟩
  · refine ⟨fun _ => e1, fun h0 => ?_⟩
    obtain ⟨⟨ys, hw⟩, _⟩ := hsp.2 h0
    exact absurd (.inl rfl) (e2 ys _ hw)
  · have hb2 : Best (arcsN (usL l conZ) conZ.Thru N) (· % N) (limH conZ.Hops) (stF N fr conZ) (stT N to conZ) ys d := by rw [hu, hs, ht]; exact hb
    have hrep := best_nodup (fun x hx => (hok x hx).1) h1 rfl hb2
    rw [hrep] at e1
    refine ⟨fun h0 => absurd hb.w (hsp.1 h0 ys d), fun h0 => ?_⟩
    obtain ⟨⟨zs, hw⟩, hmin⟩ := hsp.2 h0
    have h3 := hmin ys d hb.w
    have h4 := hb.le zs _ hw (.inl rfl)
    rw [e1]
    simp only [Bool.false_eq_true, if_false]
    have : (d : Int) = allF N (edgF l begF) fr.toNat to.toNat := by omega
    rw [this]
end Go.Proofs.Ytgcnlmcpmocbhaa

/- Distances between all nodes: the matrix is made. -/
namespace Go.Proofs.Ytgcnlmcpmocbhaa
open Go Go.Am Go.Wk

@[simp] def encEd (x : Lnk) : AVal := .agg [.int .i64 x.From, .int .i64 x.To, .int .i64 x.Cost]
@[simp] def cellsG (N : Nat) (l : List Lnk) : List AVal := [.int .i64 N, .int .i64 0, .sl 3 (l.map encEd) .sh]
theorem rwD_congr {n : Nat} {f g : Nat → Int} (h : ∀ q, q < n → f q = g q) : rwD n f = rwD n g := by
  unfold rwD
  exact List.map_congr_left fun q hq => by rw [h q (List.mem_range.1 hq)]
theorem LeBoxes_append {k : Nat} : ∀ {A B : List (List AVal)}, LeBoxes k A A → LeBoxes k B B → LeBoxes k (A ++ B) (A ++ B)
  | [], _, _, h => h
  | a :: A, B, h1, h2 => ⟨h1.1, LeBoxes_append (A := A) h1.2 h2⟩
theorem rws_le (n j k : Nat) (D : Nat → Nat → Int) (f : Nat → Int) : LeBoxes k (rwsD n j D ++ [rwD n f]) (rwsD n j D ++ [rwD n f]) := LeBoxes_append (rwsD_le n D k j) ⟨rwD_le n f k, trivial⟩
theorem getE {α : Type} {l : List α} {i : Nat} {v : α} (h : i < l.length) (e : l[i]? = some v) : l[i] = v := by
  have e2 := List.getElem?_eq_getElem h
  rw [e] at e2
  injection e2 with e2
  exact e2.symm
theorem rwM_getE {n j k : Nat} (h2 : k < j) (h : k < (rwM n j).length) : (rwM n j)[k] = .osl (k + 2) 0 n (some n) 1 := getE h (rwM_get (by rwa [rwM_len] at h) h2)
theorem rwsD_getE {n j i : Nat} {D : Nat → Nat → Int} (h : i < (rwsD n j D).length) : (rwsD n j D)[i] = rwD n (D i) := getE h (rwsD_get (by rwa [rwsD_len] at h))
theorem rwD_getE {n k : Nat} {f : Nat → Int} (h : k < (rwD n f).length) : (rwD n f)[k] = .int .i64 (f k) := getE h (rwD_get (by rwa [rwD_len] at h))
theorem fw_rng {E : List Arc} {n m : Nat} {D0 D : Nat → Nat → Int} {P : Nat → Nat → Prop} (h : FW E n m (65535 * 2 ^ m) D0 P D) (hm : m < 20) {i k : Nat} (hi : i < n) (hk : k < n) : -1 ≤ D i k ∧ D i k ≤ 137436856320 := by
  refine ⟨h.r i k hi hk, Int.le_trans (h.b i k hi hk) ?_⟩
  have e : (2 : Nat) ^ m ≤ 2 ^ 20 := Nat.pow_le_pow_right (by omega) (by omega)
  have e2 : ((2 : Int) ^ m) = ((2 ^ m : Nat) : Int) := by simp
  rw [e2]
  omega
theorem chunkA (xs : List AVal) (n : Nat) (h : xs.length = n) (h2 : ∀ k ys, AVal.sl k ys .own ∉ xs) : chunk false xs 0 1 n = xs := by
  apply List.ext_getElem?
  intro i
  simp only [chunk, List.getElem?_map]
  by_cases hi : i < n
  · have hg : xs[i]? = some (xs[i]'(by omega)) := List.getElem?_eq_getElem _
    rw [List.getElem?_range hi, hg]
    simp [hg]
    split
    · rename_i k ys e
      exact absurd (e ▸ List.getElem_mem _) (h2 k ys)
    · rfl
  · rw [List.getElem?_eq_none (by simp; omega), List.getElem?_eq_none (by omega)]
    rfl
theorem frzD {N : Nat} (h0 : 0 < N) (hN : N ≤ 20) (cs : List AVal) (DD : Nat → Nat → Int) (t : Nat → AVal) (l : List (Nat × Nat × Bool)) :
    frzS (rowsF N 1 0 ++ l) ⟨t, cs :: rwM N N :: rwsD N N DD⟩ = frzS l ⟨t, cs :: ((List.range N).map fun i => (.sl 1 (rwD N (DD i)) .sh : AVal)) :: rowsR N (fun i => rwD N (DD i)) N⟩ := by
  have h := frz_rows (n := N) (b := 1) (len := N) (row := fun i => rwD N (DD i)) (pre := [cs]) rfl (by omega) (by omega) h0 (fun i _ => rwD_len _ _) (fun i _ => rwD_tree _ _) (fun i _ => chunkA _ _ (rwD_len _ _) (by simp [rwD])) t l N 0 (by omega)
  have e1 : rowsM N 1 N (fun i => rwD N (DD i)) 0 = rwM N N := by
    unfold rowsM rwM
    refine List.map_congr_left fun i hi => ?_
    have := List.mem_range.1 hi
    rw [if_neg (by omega), if_pos this, show 1 + 1 + i = i + 2 by omega]
  have e2 : rowsR N (fun i => rwD N (DD i)) 0 = rwsD N N DD := by
    unfold rowsR rwsD
    exact List.map_congr_left fun i hi => if_neg (by omega)
  have e3 : rowsM N 1 N (fun i => rwD N (DD i)) N = (List.range N).map fun i => (.sl 1 (rwD N (DD i)) .sh : AVal) := by
    unfold rowsM
    exact List.map_congr_left fun i hi => if_pos (List.mem_range.1 hi)
  rw [e1, e2, e3] at h
  exact h
set_option maxHeartbeats 8000000 in
set_option maxRecDepth 10000 in
theorem c41 (N : Nat) (h0 : 0 < N) (hN : N ≤ 20) (l : List Lnk) (L : Nat) (hL : l.length = L) (hL2 : L ≤ 100) (hok : ∀ x ∈ l, okLk N x ∧ x.From ≠ x.To) (hasc : l.Pairwise fun x y => x.From < y.From ∨ x.From = y.From ∧ x.To < y.To) :
    CFun Try.prog 41 [.agg (cellsG N l)] [] (.sl 1 ((List.range N).map fun i => .sl 1 (rwD N (allF N (edgF l begF) i)) .sh) .sh) [] := by
  refine CFun.intro (tr := [100017, 100026]) (fz := rowsF N 1 0 ++ [(2, 1, false)]) (n := 162) (rs := [.tmp 2]) Try.func41 rfl (by kernel_rfl) rfl rfl mixed (by kernel_rfl) (by simp) (by simp) ?_
  have w0 : IntKind.i64.wrap (N : Int) = N := wrap_in (by omega)
  have hz1 := rwM_zero N
  have hz2 := rwD_zero N
  have m1 : 24 * N ≤ 281474976710656 := by omega
  have m2 : (N : Int) ≤ 9223372036854775807 := by omega
  have m3 : 8 * N ≤ 281474976710656 := by omega
  have hMl := fun j => rwM_len N j
  have hRl := fun j D => rwsD_len N j D
  have hDl := fun f => rwD_len N f
  have hMle := fun j k (h : j + 2 ≤ k) => rwM_leJ N j k h
  have hRle := fun j D k => rwsD_le N D k j
  have hDle := fun f k => rwD_le N f k
  have hAle := fun j k D f => rws_le N j k D f
  simp [w0, h0, m1, m2, hz1]
  refine LoopK.intro (tr := [100017, 100026]) mixed (by kernel_rfl)
    (fun i : Nat => [(1, .ptr 0 0), (3, .int .i64 N), (4, .osl 1 0 N (some N) 1), (5, .int .i64 i)])
    (fun i => cellsG N l :: rwM N i :: rwsD N i begF) (fun i => i ≤ N) (fun i => N - i) 0 ?_ ?_ ?_
  · exact Nat.zero_le _
  · simp [hMle, rwsD]
  · rintro i i1
    by_cases hi : i < N
    · have hlen : (rwsD N i begF).length = i := rwsD_len N i begF
      have hset := rwM_set (n := N) (j := i)
      have w1 : IntKind.i64.wrap ((i : Int) + 1) = i + 1 := wrap_in (by omega)
      have hi' : (i : Int) < N := by omega
      generalize hQ : LoopPost _ _ _ _ _ _ _ = Q
      have hi1 : i + 1 ≤ N := hi
      have hMg : (rwM N (i + 1))[i]? = some (.osl (i + 2) 0 N (some N) 1) := rwM_get hi (by omega)
      simp [hi, hi', hi1, h0, m2, m3, hz2, hMl, hlen, hset]
      refine LoopK.intro (tr := [100017, 100026]) mixed (by kernel_rfl)
        (fun k : Nat => [(1, .ptr 0 0), (3, .int .i64 N), (4, .osl 1 0 N (some N) 1), (5, .int .i64 i), (6, .int .i64 k)])
        (fun k => cellsG N l :: rwM N (i + 1) :: (rwsD N i begF ++ [rwD N (fun q => if q < k then -1 else 0)])) (fun k => k ≤ N) (fun k => N - k) 0 ?_ ?_ ?_
      · exact Nat.zero_le _
      · simp [hMle, hlen, hAle]
      · rintro k k1
        by_cases hk : k < N
        · have w2 : IntKind.i64.wrap ((k : Int) + 1) = k + 1 := wrap_in (by omega)
          have hk' : (k : Int) < N := by omega
          have hds := fun f v => rwD_set (n := N) (f := f) (k := k) (v := v)
          have hst : upd1 (fun q => if q < k then -1 else 0) k (-1) = fun q => if q < k + 1 then -1 else 0 := by
            funext q
            show (if q = k then (-1 : Int) else if q < k then -1 else 0) = if q < k + 1 then -1 else 0
            by_cases e : q = k
            · subst e; simp
            · by_cases c : q < k
              · rw [if_neg e, if_pos c, if_pos (by omega)]
              · rw [if_neg e, if_neg c, if_neg (by omega)]
          have hk1 : k + 1 ≤ N := hk
          generalize hQ2 : LoopPost _ _ _ _ _ _ _ = Q2
          simp [hk, hk', hk1, hi, hi', hMg, hlen, hDl, hds, hst, w2]
          rw [← hQ2]
          simp only [LoopPost]
          refine ⟨k + 1, hk, by omega, ?_⟩
          simp [hMle, hlen, hAle]
        · have hkN : k = N := by omega
          subst hkN
          have hds := fun f v => rwD_set (n := k) (f := f) (k := i) (v := v)
          have hend : rwsD k i begF ++ [rwD k (upd1 (fun q => if q < k then -1 else 0) i 0)] = rwsD k (i + 1) begF := by
            rw [rwsD_succ]
            congr 2
            refine rwD_congr fun q hq => ?_
            show (if q = i then (0 : Int) else if q < k then -1 else 0) = if i = q then 0 else -1
            by_cases e : q = i
            · subst e; simp
            · rw [if_neg e, if_pos hq, if_neg (fun c => e c.symm)]
          generalize hQ2 : LoopPost _ _ _ _ _ _ _ = Q2
          simp [hi, hi', hi1, hMg, hlen, hDl, hds]
          rw [← hQ2]
          simp only [LoopPost]
          simp [hi, hi', hi1, hMg, hlen, hDl, hds, w1]
          rw [← hQ]
          simp only [LoopPost]
          refine ⟨i + 1, hi, by omega, ?_⟩
          rw [hend]
          have hlen' : (rwsD k (i + 1) begF).length = i + 1 := rwsD_len k (i + 1) begF
          simp [hMle, hRle, hlen']
    · have hiN : N = i := by omega
      subst hiN
      clear hi
      simp
      refine LoopK.intro (tr := [100017, 100026]) mixed (by kernel_rfl)
        (fun j : Nat => [(1, .ptr 0 0), (3, .int .i64 N), (4, .osl 1 0 N (some N) 1), (7, .int .i64 j)])
        (fun j => cellsG N l :: rwM N N :: rwsD N N (edgF (l.take j) begF)) (fun j => j ≤ L) (fun j => L - j) 0 ?_ ?_ ?_
      · exact Nat.zero_le _
      · simp [hMle, hRle, edgF, hRl]
      · rintro j j1
        have hlenN : ∀ D, (rwsD N N D).length = N := fun D => rwsD_len N N D
        by_cases hj : j < L
        · obtain ⟨x, hx⟩ : ∃ x, l[j]? = some x := ⟨l[j]'(by omega), List.getElem?_eq_getElem _⟩
          have hm := List.mem_of_getElem? hx
          obtain ⟨⟨a1, a2, a3, a4, a5, a6⟩, a7⟩ := hok x hm
          obtain ⟨a, ha⟩ : ∃ a : Nat, x.From = a := ⟨x.From.toNat, by omega⟩
          obtain ⟨b, hb⟩ : ∃ b : Nat, x.To = b := ⟨x.To.toNat, by omega⟩
          have haN : a < N := by omega
          have haN1 : a + 1 ≤ N := haN
          have hbN : b < N := by omega
          have hbN1 : b + 1 ≤ N := hbN
          have w3 : IntKind.i64.wrap ((j : Int) + 1) = j + 1 := wrap_in (by omega)
          have hsuc : edgF (l.take (j + 1)) begF = fset2 (edgF (l.take j) begF) a b x.Cost := by
            have e : l.take (j + 1) = l.take j ++ [x] := by rw [List.take_add_one, hx]; rfl
            rw [e]
            unfold edgF
            rw [List.foldl_append]
            simp [ha, hb]
          have hxj : ∀ h : j < l.length, l[j] = x := fun h => by
            have e := List.getElem?_eq_getElem h
            rw [hx] at e
            injection e with e
            exact e.symm
          have hjl : j < l.length := by omega
          have hMg := fun h => rwM_getE (n := N) (j := N) haN h
          have hRg := fun D h => rwsD_getE (n := N) (j := N) (i := a) (D := D) h
          have hds := fun f v => rwD_set (n := N) (f := f) (k := b) (v := v)
          have hRs := fun (h : a < N) D v => rwsD_set (n := N) (i := a) (k := b) (D := D) (v := v) h
          generalize hQ : LoopPost _ _ _ _ _ _ _ = Q
          simp [hj, hL, hx, hxj, hjl, ha, hb, haN, hbN, haN1, hbN1, hMg, hRg, hds, hRs, w3, hMl, hRl, hDl]
          rw [← hQ]
          simp only [LoopPost]
          refine ⟨j + 1, hj, by omega, ?_⟩
          rw [hsuc]
          simp [hMle, hRle, hRl]
        · have hjL : j = L := by omega
          have hjt : l.take j = l := by rw [List.take_of_length_le]; omega
          rw [hjt]
          clear hj
          simp [hjL, hL]
          have hFW := fw_all h0 (fw_start h0 hok hasc)
          refine LoopK.intro (tr := [100017, 100026]) mixed (by kernel_rfl)
            (fun m : Nat => [(1, .ptr 0 0), (3, .int .i64 N), (4, .osl 1 0 N (some N) 1), (8, .int .i64 m)])
            (fun m => cellsG N l :: rwM N N :: rwsD N N ((List.range m).foldl (roundF N) (edgF l begF))) (fun m => m ≤ N) (fun m => N - m) 0 ?_ ?_ ?_
          · exact Nat.zero_le _
          · simp [hMle, hRle, hRl]
          · rintro m mN
            by_cases hm : m < N
            · obtain ⟨D1, hF⟩ := hFW m hm
              have hmI : (m : Int) < N := by omega
              have hm1 : m + 1 ≤ N := hm
              have w4 : IntKind.i64.wrap ((m : Int) + 1) = m + 1 := wrap_in (by omega)
              have hsucM : roundF N ((List.range m).foldl (roundF N) (edgF l begF)) m = (List.range (m + 1)).foldl (roundF N) (edgF l begF) := (foldl_range_succ _ _ _).symm
              generalize (List.range m).foldl (roundF N) (edgF l begF) = Dm at hF hsucM ⊢
              generalize hQ : LoopPost _ _ _ _ _ _ _ = Q
              simp [hm, hmI]
              refine LoopK.intro (tr := [100017, 100026]) mixed (by kernel_rfl)
                (fun i : Nat => [(1, .ptr 0 0), (3, .int .i64 N), (4, .osl 1 0 N (some N) 1), (8, .int .i64 m), (9, .int .i64 i)])
                (fun i => cellsG N l :: rwM N N :: rwsD N N ((List.range i).foldl (rowF N m) Dm)) (fun i => i ≤ N) (fun i => N - i) 0 ?_ ?_ ?_
              · exact Nat.zero_le _
              · simp [hMle, hRle, hRl]
              · rintro i iN
                by_cases hi : i < N
                · have hG := hF.rows hm i iN
                  have hiI : (i : Int) < N := by omega
                  have hi1 : i + 1 ≤ N := hi
                  have w5 : IntKind.i64.wrap ((i : Int) + 1) = i + 1 := wrap_in (by omega)
                  have hsucI : rowF N m ((List.range i).foldl (rowF N m) Dm) i = (List.range (i + 1)).foldl (rowF N m) Dm := (foldl_range_succ _ _ _).symm
                  generalize (List.range i).foldl (rowF N m) Dm = Di at hG hsucI ⊢
                  have hMg := fun q (c : q < N) h => rwM_getE (n := N) (j := N) (k := q) c h
                  have hRg := fun i D h => rwsD_getE (n := N) (j := N) (i := i) (D := D) h
                  have hDg := fun k f h => rwD_getE (n := N) (k := k) (f := f) h
                  generalize hQ2 : LoopPost _ _ _ _ _ _ _ = Q2
                  by_cases hs : Di i m < 0
                  · simp [hm, hmI, hi, hiI, hm1, hi1, hMg, hRg, hDg, hMl, hRl, hDl, w5, hs]
                    rw [← hQ2]
                    simp only [LoopPost]
                    refine ⟨i + 1, hi, by omega, ?_⟩
                    rw [← hsucI]
                    have e : rowF N m Di i = Di := by unfold rowF; rw [if_pos hs]
                    rw [e]
                    simp [hMle, hRle, hRl]
                  · simp [hm, hmI, hi, hiI, hm1, hi1, hMg, hRg, hDg, hMl, hRl, hDl, w5, hs]
                    refine LoopK.intro (tr := [100017, 100026]) mixed (by kernel_rfl)
                      (fun k : Nat => [(1, .ptr 0 0), (3, .int .i64 N), (4, .osl 1 0 N (some N) 1), (8, .int .i64 m), (9, .int .i64 i), (10, .int .i64 k)])
                      (fun k => cellsG N l :: rwM N N :: rwsD N N ((List.range k).foldl (innerF m i) Di)) (fun k => k ≤ N) (fun k => N - k) 0 ?_ ?_ ?_
                    · exact Nat.zero_le _
                    · simp [hMle, hRle, hRl]
                    · rintro k kN
                      by_cases hk : k < N
                      · have hK := hG.inner hm hi (by omega) k kN
                        have hkI : (k : Int) < N := by omega
                        have hk1 : k + 1 ≤ N := hk
                        have w6 : IntKind.i64.wrap ((k : Int) + 1) = k + 1 := wrap_in (by omega)
                        have hsucK : innerF m i ((List.range k).foldl (innerF m i) Di) k = (List.range (k + 1)).foldl (innerF m i) Di := (foldl_range_succ _ _ _).symm
                        generalize (List.range k).foldl (innerF m i) Di = Dk at hK hsucK ⊢
                        have r1 := fw_rng hK (by omega) hi hm
                        have r2 := fw_rng hK (by omega) hm hk
                        have r3 := fw_rng hK (by omega) hi hk
                        have w7 : IntKind.i64.wrap (Dk i m + Dk m k) = Dk i m + Dk m k := wrap_in (by omega)
                        have hds := fun f v => rwD_set (n := N) (f := f) (k := k) (v := v)
                        have hRs := fun D v => rwsD_set (n := N) (i := i) (k := k) (D := D) (v := v) hi
                        generalize hQ3 : LoopPost _ _ _ _ _ _ _ = Q3
                        by_cases c1 : 0 ≤ Dk m k
                        · by_cases c2 : Dk i k < 0
                          · have e : fset2 Dk i k (Dk i m + Dk m k) = innerF m i Dk k := by unfold innerF stepV; rw [if_pos ⟨c1, .inl c2⟩]
                            simp [hm, hmI, hi, hiI, hk, hkI, hm1, hi1, hk1, hMg, hRg, hDg, hMl, hRl, hDl, w6, w7, c1, c2, hds, hRs]
                            rw [← hQ3]
                            simp only [LoopPost]
                            refine ⟨k + 1, hk, by omega, ?_⟩
                            rw [← hsucK, ← e]
                            simp [hMle, hRle, hRl]
                          · by_cases c3 : Dk i m + Dk m k < Dk i k
                            · have e : fset2 Dk i k (Dk i m + Dk m k) = innerF m i Dk k := by unfold innerF stepV; rw [if_pos ⟨c1, .inr c3⟩]
                              simp [hm, hmI, hi, hiI, hk, hkI, hm1, hi1, hk1, hMg, hRg, hDg, hMl, hRl, hDl, w6, w7, c1, c2, c3, hds, hRs]
                              rw [← hQ3]
                              simp only [LoopPost]
                              refine ⟨k + 1, hk, by omega, ?_⟩
                              rw [← hsucK, ← e]
                              simp [hMle, hRle, hRl]
                            · have e : innerF m i Dk k = Dk := by unfold innerF stepV; rw [if_neg (by omega), fset2_same]
                              simp [hm, hmI, hi, hiI, hk, hkI, hm1, hi1, hk1, hMg, hRg, hDg, hMl, hRl, hDl, w6, w7, c1, c2, c3, hds, hRs]
                              rw [← hQ3]
                              simp only [LoopPost]
                              refine ⟨k + 1, hk, by omega, ?_⟩
                              rw [← hsucK, e]
                              simp [hMle, hRle, hRl]
                        · have e : innerF m i Dk k = Dk := by unfold innerF stepV; rw [if_neg (by omega), fset2_same]
                          simp [hm, hmI, hi, hiI, hk, hkI, hm1, hi1, hk1, hMg, hRg, hDg, hMl, hRl, hDl, w6, w7, c1, hds, hRs]
                          rw [← hQ3]
                          simp only [LoopPost]
                          refine ⟨k + 1, hk, by omega, ?_⟩
                          rw [← hsucK, e]
                          simp [hMle, hRle, hRl]
                      · have hkN : k = N := by omega
                        rw [hkN]
                        have e : (List.range N).foldl (innerF m i) Di = rowF N m Di i := by unfold rowF; rw [if_neg hs]
                        rw [e, hsucI]
                        simp [w5]
                        rw [← hQ2]
                        simp only [LoopPost]
                        refine ⟨i + 1, hi, by omega, ?_⟩
                        simp [hMle, hRle, hRl]
                · have hiN : i = N := by omega
                  rw [hiN]
                  have e : (List.range N).foldl (rowF N m) Dm = roundF N Dm m := rfl
                  rw [e, hsucM]
                  simp [w4]
                  rw [← hQ]
                  simp only [LoopPost]
                  refine ⟨m + 1, hm, by omega, ?_⟩
                  simp [hMle, hRle, hRl]
            · have hmN : m = N := by omega
              rw [hmN]
              have e : (List.range N).foldl (roundF N) (edgF l begF) = allF N (edgF l begF) := rfl
              rw [e]
              generalize allF N (edgF l begF) = DD
              have hfz := frzD h0 hN (cellsG N l) DD
              simp only [cellsG] at hfz
              have hch := chunkA ((List.range N).map fun i => (.sl 1 (rwD N (DD i)) .sh : AVal)) N (by simp) (by simp)
              have htr : ((List.range N).map fun i => (.sl 1 (rwD N (DD i)) .sh : AVal)).all AVal.tree = true := by simp [rwD]
              have htk : ((List.range N).map fun i => (.sl 1 (rwD N (DD i)) .sh : AVal)).take N = (List.range N).map fun i => (.sl 1 (rwD N (DD i)) .sh : AVal) := List.take_of_length_le (by simp)
              simp
              rw [hfz]
              generalize hZ : (List.range N).map (fun i => (.sl 1 (rwD N (DD i)) .sh : AVal)) = Z at *
              have hZl : Z.length = N := by rw [← hZ]; simp
              simp [hch, htr, htk, hZl, h0, -List.all_eq_true]
end Go.Proofs.Ytgcnlmcpmocbhaa

/- The graph of the law is one that Check lets by. -/
namespace Go.Proofs.Ytgcnlmcpmocbhaa
open Go Go.Am Go.Wk

-- routingref09.Node
set_option maxHeartbeats 4000000 in
set_option maxRecDepth 10000 in
theorem c73 (N : Nat) (hN : N ≤ 20) (l : List Lnk) (x : Int) (h1 : 0 ≤ x) (h2 : x < N) : CFun Try.prog 73 [.agg (cellsG N l), .int .i64 x] [] (.bool true) [] := by
  refine CFun.intro (tr := []) (fz := []) (n := 22) (rs := [.tmp 4]) Try.func73 rfl (by kernel_rfl) rfl rfl mixed (by kernel_rfl) (by simp) (by simp) ?_
  simp [h1, h2]
-- routingref09.Size
set_option maxHeartbeats 4000000 in
set_option maxRecDepth 10000 in
theorem c57 (N : Nat) (hN : N ≤ 20) (l : List Lnk) : CFun Try.prog 57 [.agg (cellsG N l)] [] (.int .i64 0) [] := by
  refine CFun.intro (tr := []) (fz := []) (n := 22) (rs := [.tmp 2]) Try.func57 rfl (by kernel_rfl) rfl rfl mixed (by kernel_rfl) (by simp) (by simp) ?_
  have w : IntKind.i64.wrap (128 - (N : Int)) = 128 - N := wrap_in (by omega)
  have g1 : ¬ ((N : Int) < 0) := by omega
  have g2 : ¬ (128 < N) := by omega
  have g3 : ¬ (128 - (N : Int) < 0) := by omega
  simp [w, g1, g2, g3]
  omega
-- routingref09.Before
set_option maxHeartbeats 4000000 in
set_option maxRecDepth 10000 in
theorem c59 (x y : Lnk) (h : x.From < y.From ∨ x.From = y.From ∧ x.To < y.To) : CFun Try.prog 59 [encEd x, encEd y] [] (.bool true) [] := by
  refine CFun.intro (tr := []) (fz := []) (n := 24) (rs := [.tmp 4]) Try.func59 rfl (by kernel_rfl) rfl rfl mixed (by kernel_rfl) (by simp) (by simp) ?_
  by_cases g : x.From < y.From
  · simp [g]
  · obtain ⟨e1, e2⟩ : x.From = y.From ∧ x.To < y.To := by omega
    simp [g, e1, e2]
-- routingref09.Allowed
set_option maxHeartbeats 4000000 in
set_option maxRecDepth 10000 in
theorem c58 (N : Nat) (hN : N ≤ 20) (l : List Lnk) (x : Lnk) (hx : okLk N x ∧ x.From ≠ x.To) : CFun Try.prog 58 [.agg (cellsG N l), encEd x] [] (.int .i64 0) [] := by
  refine CFun.intro (tr := []) (fz := []) (n := 63) (rs := [.tmp 4]) Try.func58 rfl (by kernel_rfl) rfl rfl mixed (by kernel_rfl) (by simp) (by simp) ?_
  obtain ⟨⟨a1, a2, a3, a4, a5, a6⟩, a7⟩ := hx
  have k1 := fun H => (c73 N hN l x.From a1 a2).up' H rfl rfl
  have k2 := fun H => (c73 N hN l x.To a3 a4).up' H rfl rfl
  have g1 : ¬ ((N : Int) ≤ x.From) := by omega
  have g2 : ¬ ((N : Int) ≤ x.To) := by omega
  have g3 : ¬ (x.Cost < 1) := by omega
  have g4 : ¬ (65535 < x.Cost) := by omega
  simp only [cellsG] at k1 k2
  simp
  refine ⟨_, _, .inl (by simpa using k1 _), by simp, ?_⟩
  simp
  refine ⟨_, _, .inl (by simpa using k2 _), by simp, ?_⟩
  simp [a7, g1, g2, g3, g4, a2]
end Go.Proofs.Ytgcnlmcpmocbhaa
