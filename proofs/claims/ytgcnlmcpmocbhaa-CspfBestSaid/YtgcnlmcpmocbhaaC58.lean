/- The reference's Route, by the program: the walks of so many hops. -/
import Derived.Test.YtgcnlmcpmocbhaaC44
import Derived.Test.YtgcnlmcpmocbhaaC56
import Derived.Test.YtgcnlmcpmocbhaaAmAF
set_option linter.unusedSimpArgs false
set_option linter.unusedVariables false
namespace Go.Proofs.Ytgcnlmcpmocbhaa
open Go Go.Am Go.Wk

structure MS where
  j : Nat
  nx : List Wlk
  b : Option Wlk
  loc : Nat
def HM (c : Con) (b : Option Wlk) (nx : List Wlk) : Nat → List (List AVal)
  | 0 => [cellsC c, [], bC b]
  | _ => [cellsC c, [], bC b, rowC ceW nx]
def slM (l : List Lnk) (N : Nat) (to : Int) (b : Option Wlk) (h : Nat) (nx : List Wlk) (loc : Nat) : List (Nat × AVal) :=
  [(0, .int .i64 N), (1, .sl 13 (l.map encL) .sh), (3, .int .i64 to), (9, .ptr 0 0), (16, .ptr 2 0), (17, .bool b.isSome), (18, .int .i64 h), (19, nxV nx loc)]
set_option maxHeartbeats 16000000 in
set_option maxRecDepth 10000 in
theorem c16m (l : List Lnk) (m : Nat) (hm : l.length = m) (hm2 : m ≤ 1024) (c : Con) (p : Nat) (hp : c.Avoid.length = p) (hp2 : p < 9223372036854775807) (N : Nat) (hN2 : N ≤ 128) (t : Nat) (ht : c.Thru.length = t) (ht3 : t ≤ 64) (hlk : ∀ x ∈ l, okLk N x) (to : Int)
    (h : Nat) (hh : h ≤ 8320) (A : List Wlk) (k : Nat) (hk : A.length = k) (hk2 : k ≤ 8320) (hA : ∀ w ∈ A, okW N t h w) (b0 : Option Wlk)
    (Q : APost) (hQ : ∀ (u : Nat → AVal) (nx : List Wlk) (loc : Nat) (b : Option Wlk), holds u (slM l N to b h nx loc) → nx = nextR l c A → b = bestR to t b0 A → okNx N t (h + 1) nx → (loc = 0 ∧ nx = [] ∨ loc = 2 ∧ nx ≠ []) → Q (.exit 2) ⟨u, HM c b nx loc⟩) (body : Code) (hb : loopIn (loopIn (Try.f16.body.getD .skip)) = body) (s : ASt)
    (hs : Le 0 s (slM l N to b0 h [] 0 ++ [(96, .sl 3 (A.map encW) .sh), (97, .int .i64 k), (98, .int .i64 0)]) (HM c b0 [] 0)) : LoopK Try.prog 166 0 body Q s := by
  unfold Try.f16 at hb
  simp only [loopIn, Option.getD_some, firstLoop, Option.orElse_none, Option.orElse_some] at hb
  subst hb
  have hble := fun q b => bC_le q b
  have hrle := fun q l => eWe.rowLe q l
  refine LoopK.introS (tr := [30000019000007]) mixed (by kernel_rfl)
    (fun s : MS => slM l N to s.b h s.nx s.loc ++ [(96, .sl 3 (A.map encW) .sh), (97, .int .i64 k), (98, .int .i64 s.j)])
    (fun s => HM c s.b s.nx s.loc)
    (fun s => s.j ≤ k ∧ okNx N t (h + 1) s.nx ∧ nextR l c A = (A.drop s.j).foldl (linksR l c) s.nx ∧ bestR to t b0 A = (A.drop s.j).foldl (bestS to t) s.b ∧ (s.loc = 0 ∧ s.nx = [] ∨ s.loc = 2 ∧ s.nx ≠ [])) (fun s => k - s.j) ⟨0, [], b0, 0⟩ ?_ hs ?_
  · exact ⟨Nat.zero_le _, okNx_nil _ _ _, rfl, rfl, .inl ⟨rfl, rfl⟩⟩
  · clear hs
    rintro ⟨j, nx, b, loc⟩ ⟨i1, i2, i3, i4, i5⟩
    simp only at i1 i2 i3 i4 i5
    generalize hPQ : LoopPostS _ _ _ _ _ _ _ = PQ
    by_cases hj : j < k
    case neg =>
      have hle : A.length ≤ j := by omega
      rw [List.drop_eq_nil_of_le hle] at i3 i4
      have q := fun u hu => hQ u nx loc b hu i3.symm i4.symm i2 i5
      simp only [slM]
      simp [hj]
      rw [← hPQ]
      simp only [LoopPostS]
      refine q _ ?_
      intro p hp
      simp only [slM, List.mem_cons, List.not_mem_nil, or_false] at hp
      rcases hp with rfl | rfl | rfl | rfl | rfl | rfl | rfl | rfl <;> simp
    obtain ⟨w, hx⟩ : ∃ w, A[j]? = some w := ⟨_, List.getElem?_eq_getElem (by omega)⟩
    have hw := hA w (List.mem_of_getElem? hx)
    have hd : A.drop j = w :: A.drop (j + 1) := by
      obtain ⟨k1, k2⟩ := List.getElem?_eq_some_iff.1 hx
      rw [List.drop_eq_getElem_cons k1, k2]
    rw [hd, List.foldl_cons] at i3 i4
    have w3 : IntKind.i64.wrap ((j : Int) + 1) = j + 1 := wrap_in (by omega)
    obtain ⟨hwl, hwg⟩ := lastW_get hw
    have hwlen := hw.len
    have hih : h < w.N.length := by omega
    have c16' := fun b' Q' hQ' s' hs' => c16l l m hm hm2 c p hp hp2 N hN2 t ht ht3 hlk to h hh A j b' w hw nx i2 loc i5 Q' hQ' _ rfl s' hs'
    have fin : ∀ b', bestS to t b w = b' → ∀ (u : Nat → AVal) (nx' : List Wlk) (loc' : Nat), holds u (slL l N to b' h A j nx' loc') → nx' = linksR l c nx w → okNx N t (h + 1) nx' → (loc' = 0 ∧ nx' = [] ∨ loc' = 1 ∧ nx' ≠ [] ∨ loc' = 2 ∧ nx' ≠ []) → PQ .normal ⟨upd (upd u 155 (.int .i64 (j + 1))) 98 (.int .i64 (j + 1)), HL c b' w nx' loc'⟩ := by
      intro b' hb' u nx' loc' hu hn' ho' hl'
      rw [hb'] at i4
      rw [← hn'] at i3
      clear c16' hQ i5
      simp only [holds, slL, List.mem_cons, List.not_mem_nil, or_false, forall_eq_or_imp, forall_eq] at hu
      obtain ⟨u0, u1, u2, u3, u4, u5, u6, u7, u8, u9, u10⟩ := hu
      rw [← hPQ]
      simp only [LoopPostS]
      rcases hl' with ⟨rfl, hnil⟩ | ⟨rfl, hnil⟩ | ⟨rfl, hnil⟩
      · exact ⟨⟨j + 1, nx', b', 0⟩, ⟨by simp only; omega, ho', i3, i4, .inl ⟨rfl, hnil⟩⟩, by simp only; omega, .inl (by simp [slM, HM, HL, nxV, hble, hrle, hm, hk, u0, u1, u2, u3, u4, u5, u6, u7, u8, u9, u10])⟩
      · have t1 : ∀ l : List Wlk, LeCellsS (swp 3 4) 5 4 (rowC ceW l) (rowC ceW l) := fun l => treeCS (eWe.rowTree l)
        have t2 : LeCellsS (swp 3 4) 5 4 (bC b') (bC b') := treeCS (bC_tree b')
        refine ⟨⟨j + 1, nx', b', 2⟩, ⟨by simp only; omega, ho', i3, i4, .inr ⟨rfl, hnil⟩⟩, by simp only; omega, .inr ⟨3, 4, by simp, by simp, by simp [HL], by simp [HL], by simp, ?_, ?_⟩⟩
        · simp [slM, HM, HL, nxV, LeLookS, ren, ren0, swp, hm, hk, u0, u1, u2, u3, u4, u5, u6, u7, u8, u9, u10]
        · simp [HM, HL, LeBoxesS, swpH, t1, t2, LeCellsS, ceW, ren, ren0, swp]
      · exact ⟨⟨j + 1, nx', b', 2⟩, ⟨by simp only; omega, ho', i3, i4, .inr ⟨rfl, hnil⟩⟩, by simp only; omega, .inl (by simp [slM, HM, HL, nxV, hble, hrle, hm, hk, u0, u1, u2, u3, u4, u5, u6, u7, u8, u9, u10])⟩
    clear hPQ hQ
    have hbs : bestS to t b w = if lastW w = to ∧ w.D = t ∧ lessB b w = true then some w else b := rfl
    rcases i5 with ⟨rfl, hnil⟩ | ⟨rfl, hnil⟩
    · simp only [slM, HM, nxV] at *
      by_cases f1 : lastW w = to
      case neg =>
        rw [if_neg (fun q => f1 q.1)] at hbs
        simp [hj, hk, hx, gE hx, ceW, hih, hwg, gE hwg, ht, f1]
        refine c16' b _ (fun u nx' loc' hu hn' ho' hl' => ?_) _ ?_
        · have hf := fin b hbs u nx' loc' hu hn' ho' hl'
          simp only [holds, slL, List.mem_cons, List.not_mem_nil, or_false, forall_eq_or_imp, forall_eq] at hu
          obtain ⟨u0, u1, u2, u3, u4, u5, u6, u7, u8, u9, u10⟩ := hu
          simp [u0, u1, u2, u3, u4, u5, u6, u7, u8, u9, u10, w3]
          exact hf
        · simp [slL, HL, nxV, ceW, hble, hble, hrle, hk, hm]
      by_cases f2 : w.D = t
      case neg =>
        have f2' : ¬ (w.D : Int) = t := by omega
        rw [if_neg (fun q => f2 q.2.1)] at hbs
        simp [hj, hk, hx, gE hx, ceW, hih, hwg, gE hwg, ht, f1, f2, f2']
        refine c16' b _ (fun u nx' loc' hu hn' ho' hl' => ?_) _ ?_
        · have hf := fin b hbs u nx' loc' hu hn' ho' hl'
          simp only [holds, slL, List.mem_cons, List.not_mem_nil, or_false, forall_eq_or_imp, forall_eq] at hu
          obtain ⟨u0, u1, u2, u3, u4, u5, u6, u7, u8, u9, u10⟩ := hu
          simp [u0, u1, u2, u3, u4, u5, u6, u7, u8, u9, u10, w3]
          exact hf
        · simp [slL, HL, nxV, ceW, hble, hble, hrle, hk, hm]
      cases b with
      | none =>
        rw [if_pos ⟨f1, f2, rfl⟩] at hbs
        simp [hj, hk, hx, gE hx, ceW, bC, hih, hwg, gE hwg, ht, f1, f2]
        refine c16' (some w) _ (fun u nx' loc' hu hn' ho' hl' => ?_) _ ?_
        · have hf := fin (some w) hbs u nx' loc' hu hn' ho' hl'
          simp only [holds, slL, List.mem_cons, List.not_mem_nil, or_false, forall_eq_or_imp, forall_eq] at hu
          obtain ⟨u0, u1, u2, u3, u4, u5, u6, u7, u8, u9, u10⟩ := hu
          simp [u0, u1, u2, u3, u4, u5, u6, u7, u8, u9, u10, w3]
          exact hf
        · simp [slL, HL, nxV, ceW, bC, hble, hrle, hk, hm, f2]
      | some q =>
        by_cases f3 : w.C < q.C
        · rw [if_pos ⟨f1, f2, by simpa [lessB] using f3⟩] at hbs
          simp [hj, hk, hx, gE hx, ceW, bC, hih, hwg, gE hwg, ht, f1, f2, f3]
          refine c16' (some w) _ (fun u nx' loc' hu hn' ho' hl' => ?_) _ ?_
          · have hf := fin (some w) hbs u nx' loc' hu hn' ho' hl'
            simp only [holds, slL, List.mem_cons, List.not_mem_nil, or_false, forall_eq_or_imp, forall_eq] at hu
            obtain ⟨u0, u1, u2, u3, u4, u5, u6, u7, u8, u9, u10⟩ := hu
            simp [u0, u1, u2, u3, u4, u5, u6, u7, u8, u9, u10, w3]
            exact hf
          · simp [slL, HL, nxV, ceW, bC, hble, hrle, hk, hm, f2]
        · rw [if_neg (fun r => f3 (by simpa [lessB] using r.2.2))] at hbs
          simp [hj, hk, hx, gE hx, ceW, bC, hih, hwg, gE hwg, ht, f1, f2, f3]
          refine c16' (some q) _ (fun u nx' loc' hu hn' ho' hl' => ?_) _ ?_
          · have hf := fin (some q) hbs u nx' loc' hu hn' ho' hl'
            simp only [holds, slL, List.mem_cons, List.not_mem_nil, or_false, forall_eq_or_imp, forall_eq] at hu
            obtain ⟨u0, u1, u2, u3, u4, u5, u6, u7, u8, u9, u10⟩ := hu
            simp [u0, u1, u2, u3, u4, u5, u6, u7, u8, u9, u10, w3]
            exact hf
          · simp [slL, HL, nxV, ceW, bC, hble, hrle, hk, hm, f2]
    · simp only [slM, HM, nxV] at *
      by_cases f1 : lastW w = to
      case neg =>
        rw [if_neg (fun q => f1 q.1)] at hbs
        simp [hj, hk, hx, gE hx, ceW, hih, hwg, gE hwg, ht, f1]
        refine c16' b _ (fun u nx' loc' hu hn' ho' hl' => ?_) _ ?_
        · have hf := fin b hbs u nx' loc' hu hn' ho' hl'
          simp only [holds, slL, List.mem_cons, List.not_mem_nil, or_false, forall_eq_or_imp, forall_eq] at hu
          obtain ⟨u0, u1, u2, u3, u4, u5, u6, u7, u8, u9, u10⟩ := hu
          simp [u0, u1, u2, u3, u4, u5, u6, u7, u8, u9, u10, w3]
          exact hf
        · simp [slL, HL, nxV, ceW, hble, hble, hrle, hk, hm]
      by_cases f2 : w.D = t
      case neg =>
        have f2' : ¬ (w.D : Int) = t := by omega
        rw [if_neg (fun q => f2 q.2.1)] at hbs
        simp [hj, hk, hx, gE hx, ceW, hih, hwg, gE hwg, ht, f1, f2, f2']
        refine c16' b _ (fun u nx' loc' hu hn' ho' hl' => ?_) _ ?_
        · have hf := fin b hbs u nx' loc' hu hn' ho' hl'
          simp only [holds, slL, List.mem_cons, List.not_mem_nil, or_false, forall_eq_or_imp, forall_eq] at hu
          obtain ⟨u0, u1, u2, u3, u4, u5, u6, u7, u8, u9, u10⟩ := hu
          simp [u0, u1, u2, u3, u4, u5, u6, u7, u8, u9, u10, w3]
          exact hf
        · simp [slL, HL, nxV, ceW, hble, hble, hrle, hk, hm]
      cases b with
      | none =>
        rw [if_pos ⟨f1, f2, rfl⟩] at hbs
        simp [hj, hk, hx, gE hx, ceW, bC, hih, hwg, gE hwg, ht, f1, f2]
        refine c16' (some w) _ (fun u nx' loc' hu hn' ho' hl' => ?_) _ ?_
        · have hf := fin (some w) hbs u nx' loc' hu hn' ho' hl'
          simp only [holds, slL, List.mem_cons, List.not_mem_nil, or_false, forall_eq_or_imp, forall_eq] at hu
          obtain ⟨u0, u1, u2, u3, u4, u5, u6, u7, u8, u9, u10⟩ := hu
          simp [u0, u1, u2, u3, u4, u5, u6, u7, u8, u9, u10, w3]
          exact hf
        · simp [slL, HL, nxV, ceW, bC, hble, hrle, hk, hm, f2]
      | some q =>
        by_cases f3 : w.C < q.C
        · rw [if_pos ⟨f1, f2, by simpa [lessB] using f3⟩] at hbs
          simp [hj, hk, hx, gE hx, ceW, bC, hih, hwg, gE hwg, ht, f1, f2, f3]
          refine c16' (some w) _ (fun u nx' loc' hu hn' ho' hl' => ?_) _ ?_
          · have hf := fin (some w) hbs u nx' loc' hu hn' ho' hl'
            simp only [holds, slL, List.mem_cons, List.not_mem_nil, or_false, forall_eq_or_imp, forall_eq] at hu
            obtain ⟨u0, u1, u2, u3, u4, u5, u6, u7, u8, u9, u10⟩ := hu
            simp [u0, u1, u2, u3, u4, u5, u6, u7, u8, u9, u10, w3]
            exact hf
          · simp [slL, HL, nxV, ceW, bC, hble, hrle, hk, hm, f2]
        · rw [if_neg (fun r => f3 (by simpa [lessB] using r.2.2))] at hbs
          simp [hj, hk, hx, gE hx, ceW, bC, hih, hwg, gE hwg, ht, f1, f2, f3]
          refine c16' (some q) _ (fun u nx' loc' hu hn' ho' hl' => ?_) _ ?_
          · have hf := fin (some q) hbs u nx' loc' hu hn' ho' hl'
            simp only [holds, slL, List.mem_cons, List.not_mem_nil, or_false, forall_eq_or_imp, forall_eq] at hu
            obtain ⟨u0, u1, u2, u3, u4, u5, u6, u7, u8, u9, u10⟩ := hu
            simp [u0, u1, u2, u3, u4, u5, u6, u7, u8, u9, u10, w3]
            exact hf
          · simp [slL, HL, nxV, ceW, bC, hble, hrle, hk, hm, f2]
end Go.Proofs.Ytgcnlmcpmocbhaa

/- The reference's Route, by the program: the rounds. -/
namespace Go.Proofs.Ytgcnlmcpmocbhaa
open Go Go.Am Go.Wk

def slO (l : List Lnk) (N : Nat) (to : Int) (A : List Wlk) (b : Option Wlk) (h : Nat) : List (Nat × AVal) :=
  [(0, .int .i64 N), (1, .sl 13 (l.map encL) .sh), (3, .int .i64 to), (9, .ptr 0 0), (15, .sl 3 (A.map encW) .sh), (16, .ptr 2 0), (17, .bool b.isSome), (18, .int .i64 h)]
set_option maxHeartbeats 16000000 in
set_option maxRecDepth 10000 in
theorem c16o (l : List Lnk) (m : Nat) (hm : l.length = m) (hm2 : m ≤ 1024) (c : Con) (p : Nat) (hp : c.Avoid.length = p) (hp2 : p < 9223372036854775807) (N : Nat) (hN2 : N ≤ 128) (t : Nat) (ht : c.Thru.length = t) (ht3 : t ≤ 64) (hlk : ∀ x ∈ l, okLk N x) (to : Int)
    (A0 : List Wlk) (hA0 : okNx N t 0 A0) (sz : Nat) (hsz : N * (t + 1) = sz)
    (Q : APost) (hQ : ∀ (u : Nat → AVal) (b : Option Wlk), holds u [(16, .ptr 2 0), (17, .bool b.isSome)] → b = loopR l c to sz (sz + 1) 0 A0 none → Q (.exit 0) ⟨u, [cellsC c, [], bC b]⟩) (body : Code) (hb : loopIn (Try.f16.body.getD .skip) = body) (s : ASt)
    (hs : Le 0 s (slO l N to A0 none 0) [cellsC c, [], bC none]) : LoopK Try.prog 166 0 body Q s := by
  unfold Try.f16 at hb
  simp only [loopIn, Option.getD_some, firstLoop, Option.orElse_none, Option.orElse_some] at hb
  subst hb
  have hble := fun q b => bC_le q b
  have hrle := fun q l => eWe.rowLe q l
  have hs1 : sz ≤ 128 * 65 := by rw [← hsz]; exact Nat.mul_le_mul hN2 (by omega)
  have w1 : IntKind.i64.wrap ((t : Int) + 1) = (t : Int) + 1 := wrap_in (by omega)
  have w2 : IntKind.i64.wrap ((N : Int) * ((t : Int) + 1)) = (sz : Int) := by
    have : (N : Int) * ((t : Int) + 1) = (sz : Int) := by rw [← hsz]; simp
    rw [this]; exact wrap_in (by omega)
  refine LoopK.intro (tr := [30000019000007]) mixed (by kernel_rfl)
    (fun s : OS => slO l N to s.A s.b s.h) (fun s => [cellsC c, [], bC s.b])
    (fun s => s.h ≤ sz ∧ okNx N t s.h s.A ∧ loopR l c to sz (sz + 1) 0 A0 none = loopR l c to sz (sz + 1 - s.h) s.h s.A s.b) (fun s => sz - s.h) ⟨0, A0, none⟩ ?_ hs ?_
  · exact ⟨Nat.zero_le _, hA0, rfl⟩
  · clear hs
    rintro ⟨h, A, b⟩ ⟨i1, i2, i3⟩
    simp only at i1 i2 i3
    have stop : ¬ (A ≠ [] ∧ h < sz ∧ (c.Hops = 0 ∨ (h : Int) ≤ c.Hops)) → ∀ (u : Nat → AVal), holds u [(16, .ptr 2 0), (17, .bool b.isSome)] → Q (.exit 0) ⟨u, [cellsC c, [], bC b]⟩ := fun hc u hu => hQ u b hu (by rw [i3, loopR_stop hc])
    by_cases hc : A ≠ [] ∧ h < sz ∧ (c.Hops = 0 ∨ (h : Int) ≤ c.Hops)
    case neg =>
      have st := stop hc
      clear stop hQ
      simp only [holds, List.mem_cons, List.not_mem_nil, or_false, forall_eq_or_imp, forall_eq] at st
      simp only [slO]
      by_cases g1 : 0 < A.length
      case neg =>
        simp [g1, ht, w1, w2]
        exact st _ ⟨by simp, by simp⟩
      by_cases g2 : h < sz
      case neg =>
        simp [g1, g2, ht, w1, w2]
        exact st _ ⟨by simp, by simp⟩
      have g0 : A ≠ [] := by rintro rfl; simp at g1
      have g3 : ¬ c.Hops = 0 := fun e => hc ⟨g0, g2, .inl e⟩
      have g4 : ¬ (h : Int) ≤ c.Hops := fun e => hc ⟨g0, g2, .inr e⟩
      simp [g1, g2, g3, g4, ht, w1, w2]
      exact st _ ⟨by simp, by simp⟩
    clear stop hQ
    obtain ⟨g0, g2, g3⟩ := hc
    have g1 : 0 < A.length := List.length_pos_iff.2 g0
    have hlen := i2.length
    rw [loopR_go ⟨g0, g2, g3⟩, ht] at i3
    have w3 : IntKind.i64.wrap ((h : Int) + 1) = (h : Int) + 1 := wrap_in (by omega)
    have cm := fun Q' hQ' s' hs' => c16m l m hm hm2 c p hp hp2 N hN2 t ht ht3 hlk to h (by omega) A A.length rfl (by omega) i2.w b Q' hQ' _ rfl s' hs'
    simp only [slO]
    by_cases g4 : c.Hops = 0
    · simp [g1, g2, g4, ht, w1, w2]
      refine cm _ (fun u nx loc b' hu hn hb' ho hl => ?_) _ ?_
      · rw [← hb', ← hn] at i3
        simp only [holds, slM, List.mem_cons, List.not_mem_nil, or_false, forall_eq_or_imp, forall_eq] at hu
        obtain ⟨u0, u1, u2, u3, u4, u5, u6, u7⟩ := hu
        rcases hl with ⟨rfl, hnil⟩ | ⟨rfl, hnil⟩
        · simp [HM, nxV, u0, u1, u2, u3, u4, u5, u6, u7, w3]
          exact ⟨⟨h + 1, nx, b'⟩, ⟨by simp only; omega, ho, i3⟩, by simp only; omega, by simp [hble, hnil, g4]⟩
        · have hnl : 0 < nx.length := List.length_pos_iff.2 hnil
          have k1 := eWe.rowLen nx
          have k2 : (rowC ceW nx).take (nx.length * 3) = rowC ceW nx := List.take_of_length_le (by omega)
          have k3 : ∀ x ∈ rowC ceW nx, x.tree = true := by simpa using eWe.rowTree nx
          have k4 := eWe.chunk nx nx.length rfl
          simp [HM, nxV, u0, u1, u2, u3, u4, u5, u6, u7, w3, k1, k2, k4, hnl]
          rw [if_pos k3]
          simp [u0, u1, u2, u3, u4, u5, u6, u7, w3]
          exact ⟨⟨h + 1, nx, b'⟩, ⟨by simp only; omega, ho, i3⟩, by simp only; omega, by simp [hble, hnil, g4]⟩
      · simp [slM, HM, nxV, hble, g4]
    · have g5 : (h : Int) ≤ c.Hops := g3.resolve_left g4
      simp [g1, g2, g4, g5, ht, w1, w2]
      refine cm _ (fun u nx loc b' hu hn hb' ho hl => ?_) _ ?_
      · rw [← hb', ← hn] at i3
        simp only [holds, slM, List.mem_cons, List.not_mem_nil, or_false, forall_eq_or_imp, forall_eq] at hu
        obtain ⟨u0, u1, u2, u3, u4, u5, u6, u7⟩ := hu
        rcases hl with ⟨rfl, hnil⟩ | ⟨rfl, hnil⟩
        · simp [HM, nxV, u0, u1, u2, u3, u4, u5, u6, u7, w3]
          exact ⟨⟨h + 1, nx, b'⟩, ⟨by simp only; omega, ho, i3⟩, by simp only; omega, by simp [hble, hnil]⟩
        · have hnl : 0 < nx.length := List.length_pos_iff.2 hnil
          have k1 := eWe.rowLen nx
          have k2 : (rowC ceW nx).take (nx.length * 3) = rowC ceW nx := List.take_of_length_le (by omega)
          have k3 : ∀ x ∈ rowC ceW nx, x.tree = true := by simpa using eWe.rowTree nx
          have k4 := eWe.chunk nx nx.length rfl
          simp [HM, nxV, u0, u1, u2, u3, u4, u5, u6, u7, w3, k1, k2, k4, hnl]
          rw [if_pos k3]
          simp [u0, u1, u2, u3, u4, u5, u6, u7, w3]
          exact ⟨⟨h + 1, nx, b'⟩, ⟨by simp only; omega, ho, i3⟩, by simp only; omega, by simp [hble, hnil]⟩
      · simp [slM, HM, nxV, hble]
end Go.Proofs.Ytgcnlmcpmocbhaa

/- The reference's Route, by the program. -/
namespace Go.Proofs.Ytgcnlmcpmocbhaa
open Go Go.Am Go.Wk

theorem bestR_mem {to : Int} {t : Nat} : ∀ {A : List Wlk} {b : Option Wlk} {w : Wlk}, bestR to t b A = some w → b = some w ∨ w ∈ A := by
  intro A
  induction A with
  | nil => intro b w h; exact .inl h
  | cons a A ih =>
    intro b w h
    rcases ih (b := bestS to t b a) h with h | h
    · unfold bestS at h
      split at h
      · injection h with h; subst h; exact .inr (by simp)
      · exact .inl h
    · exact .inr (List.mem_cons_of_mem _ h)
theorem loopR_len {l : List Lnk} {n : Nat} {c : Con} (hls : ∀ x ∈ l, okLk n x) {to : Int} {sz : Nat} : ∀ (f h : Nat) (A : List Wlk) (b : Option Wlk), okNx n c.Thru.length h A → (∀ w, b = some w → w.N.length ≤ sz) → ∀ w, loopR l c to sz f h A b = some w → w.N.length ≤ sz := by
  intro f
  induction f with
  | zero => intro h A b _ hb w hw; exact hb w hw
  | succ f ih =>
    intro h A b ok hb w hw
    simp only [loopR] at hw
    split at hw
    · rename_i hc
      refine ih _ _ _ (nextR_ok rfl hls ok.w) (fun v hv => ?_) w hw
      rcases bestR_mem hv with h1 | h1
      · exact hb v h1
      · rw [(ok.w v h1).len]; omega
    · exact hb w hw
set_option maxHeartbeats 8000000 in
set_option maxRecDepth 10000 in
theorem c16 (l : List Lnk) (m : Nat) (hm : l.length = m) (hm2 : m < 9223372036854775807) (c : Con) (p q : Nat) (hp : c.Avoid.length = p) (hq : c.Thru.length = q) (hp2 : p < 9223372036854775807) (hq2 : q < 9223372036854775807) (n fr to : Int) :
    CFun Try.prog 16 [.int .i64 n, .sl 13 (l.map encL) .sh, .int .i64 fr, .int .i64 to, encC c] [] (encRt (refN n l fr to c)) [] := by
  refine CFun.intro (tr := [30000019000007]) (fz := []) (n := 166) (rs := [.tmp 10, .tmp 11, .tmp 12]) Try.func16 rfl (by kernel_rfl) rfl rfl mixed (by kernel_rfl) (by simp) (by simp) ?_
  have h13 := fun H => (c13 l m hm hm2 c n p q hp hq hp2 hq2).up' H (by simp [noid, noid0]) rfl
  have h25 := fun H => (c25 c.Avoid p hp hp2 fr).up' H rfl rfl
  unfold refN
  by_cases g1 : checkE n l c = 0
  case neg =>
    rw [if_pos g1]
    have g1' : ¬ checkE n l c = 0 := g1
    generalize checkE n l c = e at *
    simp
    refine ⟨_, _, .inl (by simpa using h13 _), by simp, ?_⟩
    simp [g1']
  rw [if_neg (by simpa using g1)]
  rw [g1] at h13
  obtain ⟨n1, n2, l2, lk, cn⟩ := check_links g1
  obtain ⟨asc, _, lko⟩ := links_asc lk
  obtain ⟨c1, c2, c3, _⟩ := con_ok cn
  obtain ⟨N, hN⟩ : ∃ N : Nat, n = N := ⟨n.toNat, by omega⟩
  subst hN
  simp
  refine ⟨_, _, .inl (by simpa using h13 _), by simp, ?_⟩
  by_cases o1 : fr < 0
  · have : outN N fr = true ∨ outN N to = true := by simp [outN, o1]
    simp [this, o1]
  by_cases o2 : (N : Int) ≤ fr
  · have : outN N fr = true ∨ outN N to = true := by simp [outN, o2]
    simp [this, o1, o2]
  by_cases o3 : to < 0
  · have : outN N fr = true ∨ outN N to = true := by simp [outN, o3]
    simp [this, o1, o2, o3]
  by_cases o4 : (N : Int) ≤ to
  · have : outN N fr = true ∨ outN N to = true := by simp [outN, o4]
    simp [this, o1, o2, o3, o4]
  have ho1 : outN N fr = false := by simp [outN, o1, o2]
  have ho2 : outN N to = false := by simp [outN, o3, o4]
  have hlk : ∀ x ∈ l, okLk N x := fun x hx => (link_ok (lko x hx)).1
  have hf := firstW_ok (n := N) (fr := fr) (by omega) (by omega) c
  simp only [Int.toNat_natCast]
  obtain ⟨A0, hA⟩ : ∃ A0, A0 = if hasB c.Avoid fr = true then [] else [firstW fr c] := ⟨_, rfl⟩
  rw [← hA]
  have hA0 : okNx N c.Thru.length 0 A0 := by
    rw [hA]
    split
    · exact okNx_nil _ _ _
    · refine ⟨fun w hw => ?_, by simp⟩
      rw [List.mem_singleton] at hw
      subst hw
      exact hf
  have hlen := loopR_len hlk (to := to) (sz := N * (c.Thru.length + 1)) (N * (c.Thru.length + 1) + 1) 0 A0 none hA0 (by simp)
  have hs1 : N * (c.Thru.length + 1) ≤ 128 * 65 := Nat.mul_le_mul (by omega) (by omega)
  have co := fun Q' hQ' s' hs' => c16o l m hm (by omega) c p hp hp2 N (by omega) c.Thru.length rfl (by omega) hlk to A0 hA0 _ rfl Q' hQ' _ rfl s' hs'
  rw [hq] at hlen hs1 co
  rw [hq]
  generalize loopR l c to (N * (q + 1)) (N * (q + 1) + 1) 0 A0 none = R at *
  have fw : encW (firstW fr c) = .agg [.sl 1 [.int .i64 fr] .sh, .int .i64 0, .int .i64 (if c.Thru[0]? = some fr then 1 else 0)] := by
    simp only [encW, ceW, firstW]; congr 4; split <;> rfl
  by_cases a1 : hasB c.Avoid fr = true
  · rw [a1] at h25
    rw [if_pos a1] at hA
    by_cases q0 : q = 0
    · simp [o1, o2, o3, o4, hq, q0]
      refine ⟨_, _, .inl (by simpa using h25 _), by simp, ?_⟩
      simp
      refine co _ (fun u b hu hb => ?_) _ ?_
      · simp only [holds, List.mem_cons, List.not_mem_nil, or_false, forall_eq_or_imp, forall_eq] at hu
        obtain ⟨u0, u1⟩ := hu
        subst hb
        cases b with
        | none => simp [u0, u1, bC, ho1, ho2]
        | some w =>
          have hw := hlen w rfl
          have h35 := fun H => (c35 w.N w.N.length rfl (by omega)).up' H rfl rfl
          by_cases hr : repB w.N = true
          · rw [hr] at h35
            simp [u0, u1, bC, ceW]
            refine ⟨_, _, .inl (by simpa using h35 _), by simp, ?_⟩
            simp [hr, ho1, ho2]
          · have hr' : repB w.N = false := by simpa using hr
            rw [hr'] at h35
            simp [u0, u1, bC, ceW]
            refine ⟨_, _, .inl (by simpa using h35 _), by simp, ?_⟩
            simp [hr', u0, u1, ho1, ho2]
      · simp [slO, hA, bC, hm]
    obtain ⟨y, hy⟩ : ∃ y, c.Thru[0]? = some y := ⟨_, List.getElem?_eq_getElem (by omega)⟩
    have q1 : 0 < q := by omega
    by_cases e : y = fr
    · subst e
      simp [o1, o2, o3, o4, hq, q0, q1, hy, gE hy]
      refine ⟨_, _, .inl (by simpa using h25 _), by simp, ?_⟩
      simp
      refine co _ (fun u b hu hb => ?_) _ ?_
      · simp only [holds, List.mem_cons, List.not_mem_nil, or_false, forall_eq_or_imp, forall_eq] at hu
        obtain ⟨u0, u1⟩ := hu
        subst hb
        cases b with
        | none => simp [u0, u1, bC, ho1, ho2]
        | some w =>
          have hw := hlen w rfl
          have h35 := fun H => (c35 w.N w.N.length rfl (by omega)).up' H rfl rfl
          by_cases hr : repB w.N = true
          · rw [hr] at h35
            simp [u0, u1, bC, ceW]
            refine ⟨_, _, .inl (by simpa using h35 _), by simp, ?_⟩
            simp [hr, ho1, ho2]
          · have hr' : repB w.N = false := by simpa using hr
            rw [hr'] at h35
            simp [u0, u1, bC, ceW]
            refine ⟨_, _, .inl (by simpa using h35 _), by simp, ?_⟩
            simp [hr', u0, u1, ho1, ho2]
      · simp [slO, hA, bC, hm]
    · simp [o1, o2, o3, o4, hq, q0, q1, hy, gE hy, e]
      refine ⟨_, _, .inl (by simpa using h25 _), by simp, ?_⟩
      simp
      refine co _ (fun u b hu hb => ?_) _ ?_
      · simp only [holds, List.mem_cons, List.not_mem_nil, or_false, forall_eq_or_imp, forall_eq] at hu
        obtain ⟨u0, u1⟩ := hu
        subst hb
        cases b with
        | none => simp [u0, u1, bC, ho1, ho2]
        | some w =>
          have hw := hlen w rfl
          have h35 := fun H => (c35 w.N w.N.length rfl (by omega)).up' H rfl rfl
          by_cases hr : repB w.N = true
          · rw [hr] at h35
            simp [u0, u1, bC, ceW]
            refine ⟨_, _, .inl (by simpa using h35 _), by simp, ?_⟩
            simp [hr, ho1, ho2]
          · have hr' : repB w.N = false := by simpa using hr
            rw [hr'] at h35
            simp [u0, u1, bC, ceW]
            refine ⟨_, _, .inl (by simpa using h35 _), by simp, ?_⟩
            simp [hr', u0, u1, ho1, ho2]
      · simp [slO, hA, bC, hm]
  · have a1' : hasB c.Avoid fr = false := by simpa using a1
    rw [a1'] at h25
    rw [if_neg a1] at hA
    by_cases q0 : q = 0
    · have e0 : ¬ c.Thru[0]? = some fr := by rw [List.getElem?_eq_none (by omega)]; simp
      rw [if_neg e0] at fw
      simp [o1, o2, o3, o4, hq, q0]
      refine ⟨_, _, .inl (by simpa using h25 _), by simp, ?_⟩
      simp
      refine LoopK.deep 15 (by decide) 3 _ [encW (firstW fr c)] .full (by simp [e0]; rfl) (by simp [ceW, firstW, e0, All2, LeC]) ?_
      refine co _ (fun u b hu hb => ?_) _ ?_
      · simp only [holds, List.mem_cons, List.not_mem_nil, or_false, forall_eq_or_imp, forall_eq] at hu
        obtain ⟨u0, u1⟩ := hu
        subst hb
        cases b with
        | none => simp [u0, u1, bC, ho1, ho2]
        | some w =>
          have hw := hlen w rfl
          have h35 := fun H => (c35 w.N w.N.length rfl (by omega)).up' H rfl rfl
          by_cases hr : repB w.N = true
          · rw [hr] at h35
            simp [u0, u1, bC, ceW]
            refine ⟨_, _, .inl (by simpa using h35 _), by simp, ?_⟩
            simp [hr, ho1, ho2]
          · have hr' : repB w.N = false := by simpa using hr
            rw [hr'] at h35
            simp [u0, u1, bC, ceW]
            refine ⟨_, _, .inl (by simpa using h35 _), by simp, ?_⟩
            simp [hr', u0, u1, ho1, ho2]
      · simp [slO, hA, bC, ceW, firstW, e0]
    obtain ⟨y, hy⟩ : ∃ y, c.Thru[0]? = some y := ⟨_, List.getElem?_eq_getElem (by omega)⟩
    have q1 : 0 < q := by omega
    by_cases e : y = fr
    · subst e
      rw [if_pos hy] at fw
      simp [o1, o2, o3, o4, hq, q0, q1, hy, gE hy]
      refine ⟨_, _, .inl (by simpa using h25 _), by simp, ?_⟩
      simp
      refine LoopK.deep 15 (by decide) 3 _ [encW (firstW y c)] .full (by simp [hy]; rfl) (by simp [ceW, firstW, hy, All2, LeC]) ?_
      refine co _ (fun u b hu hb => ?_) _ ?_
      · simp only [holds, List.mem_cons, List.not_mem_nil, or_false, forall_eq_or_imp, forall_eq] at hu
        obtain ⟨u0, u1⟩ := hu
        subst hb
        cases b with
        | none => simp [u0, u1, bC, ho1, ho2]
        | some w =>
          have hw := hlen w rfl
          have h35 := fun H => (c35 w.N w.N.length rfl (by omega)).up' H rfl rfl
          by_cases hr : repB w.N = true
          · rw [hr] at h35
            simp [u0, u1, bC, ceW]
            refine ⟨_, _, .inl (by simpa using h35 _), by simp, ?_⟩
            simp [hr, ho1, ho2]
          · have hr' : repB w.N = false := by simpa using hr
            rw [hr'] at h35
            simp [u0, u1, bC, ceW]
            refine ⟨_, _, .inl (by simpa using h35 _), by simp, ?_⟩
            simp [hr', u0, u1, ho1, ho2]
      · simp [slO, hA, bC, ceW, firstW, hy]
    · have e0 : ¬ c.Thru[0]? = some fr := by rw [hy]; simpa using e
      rw [if_neg e0] at fw
      simp [o1, o2, o3, o4, hq, q0, q1, hy, gE hy, e]
      refine ⟨_, _, .inl (by simpa using h25 _), by simp, ?_⟩
      simp
      refine LoopK.deep 15 (by decide) 3 _ [encW (firstW fr c)] .full (by simp [e0]; rfl) (by simp [ceW, firstW, e0, All2, LeC]) ?_
      refine co _ (fun u b hu hb => ?_) _ ?_
      · simp only [holds, List.mem_cons, List.not_mem_nil, or_false, forall_eq_or_imp, forall_eq] at hu
        obtain ⟨u0, u1⟩ := hu
        subst hb
        cases b with
        | none => simp [u0, u1, bC, ho1, ho2]
        | some w =>
          have hw := hlen w rfl
          have h35 := fun H => (c35 w.N w.N.length rfl (by omega)).up' H rfl rfl
          by_cases hr : repB w.N = true
          · rw [hr] at h35
            simp [u0, u1, bC, ceW]
            refine ⟨_, _, .inl (by simpa using h35 _), by simp, ?_⟩
            simp [hr, ho1, ho2]
          · have hr' : repB w.N = false := by simpa using hr
            rw [hr'] at h35
            simp [u0, u1, bC, ceW]
            refine ⟨_, _, .inl (by simpa using h35 _), by simp, ?_⟩
            simp [hr', u0, u1, ho1, ho2]
      · simp [slO, hA, bC, ceW, firstW, e0]
end Go.Proofs.Ytgcnlmcpmocbhaa

/- The law of routes, by the program. -/
namespace Go.Proofs.Ytgcnlmcpmocbhaa
open Go Go.Am Go.Wk

theorem refN_len (n : Int) (l : List Lnk) (fr to : Int) (c : Con) : (refN n l fr to c).1.length ≤ 128 * 65 := by
  unfold refN
  by_cases g1 : checkE n l c = 0
  case neg => rw [if_pos g1]; simp
  rw [if_neg (by simpa using g1)]
  by_cases g2 : (outN n fr || outN n to) = true
  · rw [if_pos g2]; simp
  rw [if_neg g2]
  obtain ⟨n1, n2, l2, lk, cn⟩ := check_links g1
  obtain ⟨asc, _, lko⟩ := links_asc lk
  obtain ⟨c1, c2, c3, _⟩ := con_ok cn
  obtain ⟨N, hN⟩ : ∃ N : Nat, n = N := ⟨n.toNat, by omega⟩
  subst hN
  simp only [Bool.or_eq_true, not_or, Bool.not_eq_true] at g2
  obtain ⟨f1, f2⟩ := out_false g2.1
  have hlk : ∀ x ∈ l, okLk N x := fun x hx => (link_ok (lko x hx)).1
  have hf := firstW_ok (n := N) (fr := fr) (by omega) (by omega) c
  have hA0 : okNx N c.Thru.length 0 (if hasB c.Avoid fr = true then [] else [firstW fr c]) := by
    split
    · exact okNx_nil _ _ _
    · refine ⟨fun w hw => ?_, by simp⟩
      rw [List.mem_singleton] at hw
      subst hw
      exact hf
  rw [Int.toNat_natCast]
  have hlen := loopR_len hlk (to := to) (sz := N * (c.Thru.length + 1)) (N * (c.Thru.length + 1) + 1) 0 _ none hA0 (by simp)
  have hs1 : N * (c.Thru.length + 1) ≤ 128 * 65 := Nat.mul_le_mul (by omega) (by omega)
  generalize loopR l c to (N * (c.Thru.length + 1)) (N * (c.Thru.length + 1) + 1) 0 _ none = R at *
  cases R with
  | none => simp
  | some w =>
    have := hlen w rfl
    simp only
    split
    · simp
    · simp only; omega
theorem routeN_len (n : Int) (l : List Lnk) (fr to : Int) (c : Con) : (routeN n l fr to c).1.length ≤ 128 * 65 := by rw [routeN_ref]; exact refN_len n l fr to c
def largeB (n : Int) (l : List Lnk) (c : Con) : Bool := decide (9 < n) || decide (50 < l.length) || decide (5 < c.Avoid.length) || decide (3 < c.Thru.length)
set_option maxHeartbeats 4000000 in
set_option maxRecDepth 10000 in
theorem c14 (n : Int) (l : List Lnk) (m : Nat) (hm : l.length = m) (c : Con) (p q : Nat) (hp : c.Avoid.length = p) (hq : c.Thru.length = q) :
    CFun Try.prog 14 [.int .i64 n, .sl 13 (l.map encL) .sh, encC c] [] (.bool (largeB n l c)) [] := by
  refine CFun.intro (tr := []) (fz := []) (n := 26) (rs := [.tmp 6]) Try.func14 rfl (by kernel_rfl) rfl rfl mixed (by kernel_rfl) (by simp) (by simp) ?_
  unfold largeB
  by_cases b1 : 9 < n
  · simp [b1]
  by_cases b2 : 50 < m
  · have b2' : (50 : Int) < m := by omega
    simp [hm, b1, b2, b2']
  have b2' : ¬ (50 : Int) < m := by omega
  by_cases b3 : 5 < p
  · have b3' : (5 : Int) < p := by omega
    simp [hm, hp, b1, b2, b2', b3, b3']
  have b3' : ¬ (5 : Int) < p := by omega
  by_cases b4 : 3 < q
  · have b4' : (3 : Int) < q := by omega
    simp [hm, hp, hq, b1, b2, b2', b3, b3', b4, b4']
  have b4' : ¬ (3 : Int) < q := by omega
  simp [hm, hp, hq, b1, b2, b2', b3, b3', b4, b4']
set_option maxHeartbeats 4000000 in
set_option maxRecDepth 10000 in
theorem c4 (n : Int) (l : List Lnk) (m : Nat) (hm : l.length = m) (hm2 : m < 9223372036854775807) (fr to : Int) (c : Con) (p q : Nat) (hp : c.Avoid.length = p) (hq : c.Thru.length = q) (hp2 : p < 9223372036854775807) (hq2 : q < 9223372036854775807) :
    CFun Try.prog 4 [.int .i64 n, .sl 13 (l.map encL) .sh, .int .i64 fr, .int .i64 to, encC c] [] (.bool true) [] := by
  refine CFun.intro (tr := []) (fz := []) (n := 58) (rs := [.tmp 10]) Try.func4 rfl (by kernel_rfl) rfl rfl mixed (by kernel_rfl) (by simp) (by simp) ?_
  have h11 := fun H => c11.up' H rfl rfl
  have h14 := fun H => (c14 n l m hm c p q hp hq).up' H (by simp [noid, noid0]) rfl
  have h15 := fun H => (c15 l m hm hm2 c p q hp hq hp2 hq2 n fr to).up' H (by simp [noid, noid0]) rfl
  have h16 := fun H => (c16 l m hm hm2 c p q hp hq hp2 hq2 n fr to).up' H (by simp [noid, noid0]) rfl
  rw [routeN_ref] at h15
  have hl := refN_len n l fr to c
  generalize refN n l fr to c = R at *
  have h17 := fun H => (c17 R.1 R.1 _ _ rfl rfl (by omega) (by omega)).up' H rfl rfl
  by_cases b : largeB n l c = true
  · rw [b] at h14
    simp
    refine ⟨_, _, .inl (by simpa using h14 _), by simp, ?_⟩
    simp
    refine ⟨_, _, .inl (by simpa using h11 _), by simp, ?_⟩
    simp
  have b' : largeB n l c = false := by simpa using b
  rw [b'] at h14
  simp
  refine ⟨_, _, .inl (by simpa using h14 _), by simp, ?_⟩
  simp
  refine ⟨_, _, .inl (by simpa using h15 _), by simp, ?_⟩
  simp
  refine ⟨_, _, .inl (by simpa using h16 _), by simp, ?_⟩
  simp
  refine ⟨_, _, .inl (by simpa using h11 _), by simp, ?_⟩
  simp
  refine ⟨_, _, .inl (by simpa using h17 _), by simp, ?_⟩
  simp
end Go.Proofs.Ytgcnlmcpmocbhaa
