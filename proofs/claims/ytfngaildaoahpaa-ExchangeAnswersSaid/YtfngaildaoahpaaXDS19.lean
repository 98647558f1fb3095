import Derived.Test.YtfngaildaoahpaaXDS15
set_option linter.unusedSimpArgs false
set_option linter.unusedVariables false
namespace Go.Proofs.Ytfngaildaoahpaa
open Go Go.Am
def okK (x : Lnk) : Prop := inW x.ID ∧ inW x.Data
set_option maxHeartbeats 4000000 in
set_option maxRecDepth 10000 in
theorem c46 (l : Lsa) (n : Nat) (hn : l.Links.length = n) (hok : ∀ x ∈ l.Links, okK x) : CFun Try.prog 92 [encA l] [] (.int .i64 (chkLinks l.Links l.H.Router)) [] := by
 refine CFun.intro (tr := []) (fz := []) (n := 75) (rs := [.tmp 2]) Try.func92 rfl (by kernel_rfl) rfl rfl mixed (by kernel_rfl) (by simp) (by simp) ?_
 have h48 : ∀ n lo hi H, CFun Try.prog 94 [.int .i64 n, .int .i64 lo, .int .i64 hi] H (.bool (inR n lo hi)) H := fun n lo hi H => (c48 n lo hi).up' H rfl rfl
 have hc : (l.Links.length : Int) = n := by omega
 by_cases h64 : (64 : Int) < n
 · have : 64 < l.Links.length := by omega
   simp [hc, h64, chkLinks, this]
 have hs : chkLinks l.Links l.H.Router = chkKs l.H.Router none l.Links := by rw [chkLinks, if_neg (by omega)]
 rw [hs]
 simp [hc, h64]
 refine LoopK.intro (tr := []) mixed (by kernel_rfl) (fun i : Nat => [(1, .ptr 0 0), (3, .int .i64 i)]) (fun _ => [cellsA l]) (fun i => i ≤ n ∧ chkKs l.H.Router none l.Links = chkKs l.H.Router (prevK l.Links i) (l.Links.drop i)) (fun i => n - i) 0 ?_ ?_ ?_
 · simp [prevK]
 · simp
 · rintro i ⟨i1, i2⟩
   by_cases hi : i < n
   · obtain ⟨x, hx, hd⟩ := get_drop (l := l.Links) (i := i) (by omega)
     obtain ⟨ok1, ok2⟩ := hok x (List.mem_of_getElem? hx)
     rw [hd] at i2
     simp only [chkKs] at i2
     have w1 : IntKind.i64.wrap ((i : Int) + 1) = i + 1 := wrap_in (by omega)
     have hx' : ((i : Int).toNat) = i := by omega
     simp [hc, hi, hx]
     refine ⟨_, _, .inl (h48 _ _ _ _), by simp, ?_⟩
     cases e1 : inR x.Kind 1 3
     · have hk : chkK x l.H.Router = 15 := by simp [chkK, e1]
       simp [hk] at i2
       simp [i2]
     simp
     refine ⟨_, _, .inl (h48 _ _ _ _), by simp, ?_⟩
     cases e2 : inR x.Cost 1 65535
     · have hk : chkK x l.H.Router = 5 := by simp [chkK, e1, e2]
       simp [hk] at i2
       simp [i2]
     have hk : chkK x l.H.Router = if (x.Kind = 1 ∧ (x.ID = 0 ∨ x.ID = l.H.Router)) ∨ (x.Kind = 3 ∧ validP x.ID (stubLen x.Data) = false) then 1 else 0 := by simp [chkK, e1, e2]
     obtain ⟨A, hA⟩ : ∃ A : Nat, x.ID = A := ⟨x.ID.toNat, by have := ok1.1; omega⟩
     have hA2 : A < 2 ^ 32 := by have := ok1.2; omega
     have h70 : ∀ d H, CFun Try.prog 104 [.int .u32 x.ID, .int .i64 d] H (.bool (validP x.ID d)) H := fun d H => by
       rw [hA]; exact (c70 A hA2 d).up' H rfl rfl
     have wD : IntKind.i64.wrap x.Data = x.Data := wrap_in (by have := ok2.1; have := ok2.2; omega)
     have good : chkK x l.H.Router = 0 → ∀ j : Nat, j + 1 = i → ∃ q, l.Links[j]? = some q ∧ chkKs l.H.Router none l.Links = if 0 ≤ ordK q x then 16 else chkKs l.H.Router (some x) (l.Links.drop (i + 1)) := by
       intro h0 j hj
       obtain ⟨q, hq, _⟩ := get_drop (l := l.Links) (i := j) (by omega)
       subst hj
       rw [if_neg (by simp [h0])] at i2
       simp only [prevK, hq] at i2
       exact ⟨q, hq, i2⟩
     have good0 : chkK x l.H.Router = 0 → i = 0 → chkKs l.H.Router none l.Links = chkKs l.H.Router (some x) (l.Links.drop (i + 1)) := by
       intro h0 hi0
       rw [if_neg (by simp [h0])] at i2
       subst hi0
       simpa [prevK] using i2
     have bad : chkK x l.H.Router = 1 → chkKs l.H.Router none l.Links = 1 := by
       intro h0
       rw [if_pos (by simp [h0])] at i2
       rw [i2, h0]
     clear i2 hd hn
     by_cases t1 : x.Kind = 1
     · by_cases t2 : x.ID = 0
       · have hb := bad (by rw [hk, if_pos (.inl ⟨t1, .inl t2⟩)])
         simp [t1, t2, hb]
       · by_cases t3 : x.ID = l.H.Router
         · have hb := bad (by rw [hk, if_pos (.inl ⟨t1, .inr t3⟩)])
           simp [t1, t3, hb]
         · have hz : chkK x l.H.Router = 0 := by rw [hk, if_neg (by omega)]
           have bk1 : (x.Kind == 1) = true := by simpa using t1
           have bk3 : (x.Kind == 3) = false := by simp [t1]
           have bi0 : (x.ID == 0) = false := by simpa using t2
           have bir : (x.ID == l.H.Router) = false := by simpa using t3
           cases i with
           | zero =>
             have g := good0 hz rfl
             have w0 : IntKind.i64.wrap 1 = 1 := by decide
             simp [bk1, bk3, bi0, bir, w0]
             exact ⟨1, ⟨by omega, by simpa [prevK, hx] using g⟩, by omega, by simp⟩
           | succ j =>
             obtain ⟨q, hq, g⟩ := good hz j rfl
             have h83 := fun H => (c83 q x).up' H rfl rfl
             have w2 : IntKind.i64.wrap (j : Int) = j := wrap_in (by omega)
             have w3 : IntKind.i64.wrap ((j : Int) + 1 + 1) = j + 1 + 1 := wrap_in (by omega)
             have h0 : (0 : Int) < ((j + 1 : Nat) : Int) := by omega
             simp only [Int.natCast_add, Int.natCast_one] at h0
             simp [bk1, bk3, bi0, bir, h0, w2, hq]
             refine ⟨_, _, .inl (h83 _), by simp, ?_⟩
             by_cases ho : 0 ≤ ordK q x
             · rw [if_pos ho] at g
               simp [ho, g]
             · rw [if_neg ho] at g
               simp [ho, w3]
               exact ⟨j + 1 + 1, ⟨by omega, by simpa [prevK, hx] using g⟩, by omega, by simp⟩
     · have bk1 : (x.Kind == 1) = false := by simpa using t1
       by_cases t4 : x.Kind = 3
       · have bk3 : (x.Kind == 3) = true := by simpa using t4
         by_cases t5 : 32 < x.Data
         · have hb := bad (by
             have : ¬ (stubLen x.Data ≤ 32) := by
               have e33 : IntKind.i64.wrap 33 = 33 := by decide
               unfold stubLen
               split
               · rw [e33]; omega
               · rw [wD]; omega
             rw [hk, if_pos (.inr ⟨t4, by simp [validP, this]⟩)])
           simp [bk1, bk3, t5, hb]
         · have hst : stubLen x.Data = x.Data := by
             unfold stubLen
             rw [if_neg (by omega), wD]
           simp [bk1, bk3, t5, wD]
           refine ⟨_, _, .inl (h70 _ _), by simp, ?_⟩
           cases e8 : validP x.ID x.Data
           · have hb := bad (by rw [hk, if_pos (.inr ⟨t4, by rw [hst]; exact e8⟩)])
             simp [hb]
           · have hz : chkK x l.H.Router = 0 := by
               rw [hk, if_neg]
               rintro (⟨h, _⟩ | ⟨_, h⟩)
               · exact t1 h
               · rw [hst, e8] at h; cases h
             cases i with
             | zero =>
               have g := good0 hz rfl
               have w0 : IntKind.i64.wrap 1 = 1 := by decide
               simp [w0]
               exact ⟨1, ⟨by omega, by simpa [prevK, hx] using g⟩, by omega, by simp⟩
             | succ j =>
               obtain ⟨q, hq, g⟩ := good hz j rfl
               have h83 := fun H => (c83 q x).up' H rfl rfl
               have w2 : IntKind.i64.wrap (j : Int) = j := wrap_in (by omega)
               have w3 : IntKind.i64.wrap ((j : Int) + 1 + 1) = j + 1 + 1 := wrap_in (by omega)
               have h0 : (0 : Int) < ((j + 1 : Nat) : Int) := by omega
               simp only [Int.natCast_add, Int.natCast_one] at h0
               simp [h0, w2, hq]
               refine ⟨_, _, .inl (h83 _), by simp, ?_⟩
               by_cases ho : 0 ≤ ordK q x
               · rw [if_pos ho] at g
                 simp [ho, g]
               · rw [if_neg ho] at g
                 simp [ho, w3]
                 exact ⟨j + 1 + 1, ⟨by omega, by simpa [prevK, hx] using g⟩, by omega, by simp⟩
       · have bk3 : (x.Kind == 3) = false := by simpa using t4
         have hz : chkK x l.H.Router = 0 := by
           rw [hk, if_neg]
           rintro (⟨h, _⟩ | ⟨h, _⟩)
           · exact t1 h
           · exact t4 h
         cases i with
         | zero =>
           have g := good0 hz rfl
           have w0 : IntKind.i64.wrap 1 = 1 := by decide
           simp [bk1, bk3, w0]
           exact ⟨1, ⟨by omega, by simpa [prevK, hx] using g⟩, by omega, by simp⟩
         | succ j =>
           obtain ⟨q, hq, g⟩ := good hz j rfl
           have h83 := fun H => (c83 q x).up' H rfl rfl
           have w2 : IntKind.i64.wrap (j : Int) = j := wrap_in (by omega)
           have w3 : IntKind.i64.wrap ((j : Int) + 1 + 1) = j + 1 + 1 := wrap_in (by omega)
           have h0 : (0 : Int) < ((j + 1 : Nat) : Int) := by omega
           simp only [Int.natCast_add, Int.natCast_one] at h0
           simp [bk1, bk3, h0, w2, hq]
           refine ⟨_, _, .inl (h83 _), by simp, ?_⟩
           by_cases ho : 0 ≤ ordK q x
           · rw [if_pos ho] at g
             simp [ho, g]
           · rw [if_neg ho] at g
             simp [ho, w3]
             exact ⟨j + 1 + 1, ⟨by omega, by simpa [prevK, hx] using g⟩, by omega, by simp⟩
   · have e : l.Links.drop i = [] := List.drop_of_length_le (by omega)
     rw [e] at i2
     simp [chkKs] at i2
     simp [hc, hi, i2]
end Go.Proofs.Ytfngaildaoahpaa

namespace Go.Proofs.Ytfngaildaoahpaa
open Go Go.Am
def prevI (l : List Int) : Nat → Option Int
 | 0 => some 0
 | i + 1 => l[i]?
def hasR (l : Lsa) (i : Nat) : Bool := decide (l.H.Router ∈ l.Att.take i)
theorem hasR_succ {l : Lsa} {i : Nat} {x : Int} (hx : l.Att[i]? = some x) : hasR l (i + 1) = (hasR l i || decide (x = l.H.Router)) := by
 have htk : l.Att.take (i + 1) = l.Att.take i ++ [x] := by rw [List.take_add_one, hx]; rfl
 unfold hasR
 rw [htk]
 by_cases e : x = l.H.Router
 · simp [e]
 · have e' : ¬ l.H.Router = x := fun h => e h.symm
   simp [e, e']
set_option maxHeartbeats 4000000 in
set_option maxRecDepth 10000 in
theorem c47 (l : Lsa) (n : Nat) (hn : l.Att.length = n) (hok : ∀ x ∈ l.Att, inW x) : CFun Try.prog 93 [encA l] [] (.int .i64 (chkAtt l.Att l.H.Router)) [] := by
 refine CFun.intro (tr := []) (fz := []) (n := 51) (rs := [.tmp 2]) Try.func93 rfl (by kernel_rfl) rfl rfl mixed (by kernel_rfl) (by simp) (by simp) ?_
 have hc : (l.Att.length : Int) = n := by omega
 by_cases h64 : (64 : Int) < n
 · have : 64 < l.Att.length := by omega
   simp [hc, h64, chkAtt, this]
 have hs : chkAtt l.Att l.H.Router = if attL 0 l.Att = false then 16 else if memL l.Att l.H.Router = false then 14 else 0 := by rw [chkAtt, if_neg (by omega)]
 rw [hs]
 simp [hc, h64]
 refine LoopK.intro (tr := []) mixed (by kernel_rfl) (fun i : Nat => [(1, .ptr 0 0), (3, .bool (hasR l i)), (4, .int .i64 i)]) (fun _ => [cellsA l])
   (fun i => i ≤ n ∧ ∃ last, prevI l.Att i = some last ∧ attL 0 l.Att = attL last (l.Att.drop i)) (fun i => n - i) 0 ?_ ?_ ?_
 · exact ⟨by simp, 0, rfl, by simp⟩
 · simp [hasR]
 · rintro i ⟨i1, last, i3, i4⟩
   by_cases hi : i < n
   · obtain ⟨x, hx, hd⟩ := get_drop (l := l.Att) (i := i) (by omega)
     obtain ⟨ok1, ok2⟩ := hok x (List.mem_of_getElem? hx)
     rw [hd] at i4
     simp only [attL] at i4
     have w1 : IntKind.i64.wrap ((i : Int) + 1) = i + 1 := wrap_in (by omega)
     have hsu := hasR_succ hx
     clear hd hn
     have fin : attL 0 l.Att = attL x (l.Att.drop (i + 1)) → (i + 1 ≤ n ∧ ∃ last, prevI l.Att (i + 1) = some last ∧ attL 0 l.Att = attL last (l.Att.drop (i + 1))) :=
       fun h => ⟨by omega, x, hx, h⟩
     cases i with
     | zero =>
       simp only [prevI, Option.some.injEq] at i3
       subst i3
       by_cases e0 : x = 0
       · rw [if_pos (by omega)] at i4
         simp [hc, hi, hx, e0, i4]
       · rw [if_neg (by omega)] at i4
         have b0 : (x == 0) = false := by simpa using e0
         have w0 : IntKind.i64.wrap 1 = 1 := by decide
         by_cases er : x = l.H.Router
         · have br : (x == l.H.Router) = true := by simpa using er
           simp [hc, hi, hx, b0, br, w0]
           exact ⟨1, fin i4, by omega, by rw [hsu]; simp [er], by simp⟩
         · have br : (x == l.H.Router) = false := by simpa using er
           simp [hc, hi, hx, b0, br, w0]
           exact ⟨1, fin i4, by omega, by rw [hsu]; simp [er], by simp⟩
     | succ j =>
       simp only [prevI] at i3
       obtain ⟨lk1, lk2⟩ := hok last (List.mem_of_getElem? i3)
       have w2 : IntKind.i64.wrap (j : Int) = j := wrap_in (by omega)
       have h0 : (0 : Int) < ((j + 1 : Nat) : Int) := by omega
       simp only [Int.natCast_add, Int.natCast_one] at h0 w1
       have hj1 : (j : Int) + 1 < n := by omega
       have hj2 : (0 : Int) ≤ (j : Int) + 1 := by omega
       by_cases e0 : x = 0
       · rw [if_pos (by omega)] at i4
         simp [hc, hi, hx, e0, i4, hj1, hj2]
       · have b0 : (x == 0) = false := by simpa using e0
         by_cases ho : x ≤ last
         · rw [if_pos ho] at i4
           simp [hc, hi, hx, hj1, hj2, b0, h0, w2, i3, ho, i4]
         · rw [if_neg ho] at i4
           by_cases er : x = l.H.Router
           · have br : (x == l.H.Router) = true := by simpa using er
             simp [hc, hi, hx, hj1, hj2, b0, h0, w2, i3, ho, br, w1]
             exact ⟨j + 1 + 1, fin i4, by omega, by rw [hsu]; simp [er], by simp⟩
           · have br : (x == l.H.Router) = false := by simpa using er
             simp [hc, hi, hx, hj1, hj2, b0, h0, w2, i3, ho, br, w1]
             exact ⟨j + 1 + 1, fin i4, by omega, by rw [hsu]; simp [er], by simp⟩
   · have e : l.Att.drop i = [] := List.drop_of_length_le (by omega)
     have ht : l.Att.take i = l.Att := List.take_of_length_le (by omega)
     rw [e] at i4
     simp [attL] at i4
     have hm : memL l.Att l.H.Router = hasR l i := by unfold hasR memL; rw [ht]
     generalize hasR l i = has at hm
     cases has <;> simp [hc, hi, i4, hm]
def okA (l : Lsa) : Prop := okH l.H ∧ (∀ x ∈ l.Links, okK x) ∧ (∀ x ∈ l.Att, inW x) ∧ inI l.Cost ∧ inW l.Fwd ∧ inI l.Tag ∧ l.Links.length < 8796093022208 ∧ l.Att.length < 140737488355328
set_option maxHeartbeats 2000000 in
set_option maxRecDepth 10000 in
theorem c14 (l : Lsa) (ok : okA l) : CFun Try.prog 73 [encA l] [] (.int .i64 (chkA l)) [] := by
 refine CFun.intro (tr := []) (fz := []) (n := 34) (rs := [.tmp 2]) Try.func73 rfl (by kernel_rfl) rfl rfl mixed (by kernel_rfl) (by simp) (by simp) ?_
 obtain ⟨okh, okl, oka, _⟩ := ok
 have h34 := (c34 l.H okh.2.1).up' [cellsA l] rfl rfl
 have h48 : ∀ n lo hi H, CFun Try.prog 94 [.int .i64 n, .int .i64 lo, .int .i64 hi] H (.bool (inR n lo hi)) H := fun n lo hi H => (c48 n lo hi).up' H rfl rfl
 have h46 := fun rest => (c46 l _ rfl okl).up' (cellsA l :: rest) rfl rfl
 have h47 := fun rest => (c47 l _ rfl oka).up' (cellsA l :: rest) rfl rfl
 by_cases e0 : chkH l.H = 0
 · have hty : inR l.H.Ty 1 5 = true := by
     cases hq : inR l.H.Ty 1 5
     · simp [chkH, hq] at e0
     · rfl
   have h45 := (c45 l hty).up' [cellsA l] rfl rfl
   rw [e0] at h34
   have hk : chkA l = if forB l = true then 1 else if l.H.Ty = 1 then chkLinks l.Links l.H.Router else if l.H.Ty = 2 then chkAtt l.Att l.H.Router else if inR l.Cost 0 16777216 = false ∨ inR l.Tag 0 4294967295 = false then 5 else 0 := by
     rw [chkA, e0]; rfl
   rw [hk]
   generalize chkLinks l.Links l.H.Router = v46 at h46 ⊢
   generalize chkAtt l.Att l.H.Router = v47 at h47 ⊢
   generalize forB l = v45 at h45 ⊢
   simp
   refine ⟨_, _, .inl h34, trivial, ?_⟩
   simp
   refine ⟨_, _, .inl h45, trivial, ?_⟩
   cases v45
   · by_cases t1 : l.H.Ty = 1
     · have b1 : (l.H.Ty == 1) = true := by simpa using t1
       simp [b1]
       refine ⟨_, _, .inl (h46 _), trivial, ?_⟩
       simp [t1]
     · have b1 : (l.H.Ty == 1) = false := by simpa using t1
       by_cases t2 : l.H.Ty = 2
       · have b2 : (l.H.Ty == 2) = true := by simpa using t2
         simp [b1, b2]
         refine ⟨_, _, .inl (h47 _), trivial, ?_⟩
         simp [t1, t2]
       · have b2 : (l.H.Ty == 2) = false := by simpa using t2
         simp [b1, b2]
         refine ⟨_, _, .inl (h48 _ _ _ _), trivial, ?_⟩
         cases e1 : inR l.Cost 0 16777216
         · simp [t1, t2]
         · simp
           refine ⟨_, _, .inl (h48 _ _ _ _), trivial, ?_⟩
           cases e2 : inR l.Tag 0 4294967295 <;> simp [t1, t2]
   · simp
 · have hk : chkA l = chkH l.H := by rw [chkA, if_pos e0]
   rw [hk]
   simp
   refine ⟨_, _, .inl h34, trivial, ?_⟩
   simp [e0]
def csL : List CTy := [.int .i64, .int .u32, .int .u32, .int .i64]
def csA : List CTy := csH ++ [.bool, .bool, .sl true 24 csL, .sl false 4 [.int .u32], .int .i64, .bool, .int .u32, .int .i64]
def tyA : Bool × List CTy := (true, csA)
theorem dec_K {cs : List AVal} (h : Rds csL cs) : ∃ x : { x : Lnk // okK x }, AVal.agg cs = encK x.1 := by
 obtain ⟨a1, r, rfl, h, _⟩ := Rds_int h
 obtain ⟨a2, r, rfl, h, w2⟩ := Rds_int h
 obtain ⟨a3, r, rfl, h, w3⟩ := Rds_int h
 obtain ⟨a4, r, rfl, h, _⟩ := Rds_int h
 obtain rfl := Rds_nil h
 exact ⟨⟨⟨a1, a2, a3, a4⟩, wf_u32 w2, wf_u32 w3⟩, rfl⟩
end Go.Proofs.Ytfngaildaoahpaa

namespace Go.Proofs.Ytfngaildaoahpaa
open Go Go.Am
def sameB (a b : Lsa) : Bool := decide (keyH a.H = keyH b.H ∧ a.Border = b.Border ∧ a.Boundary = b.Boundary ∧ a.Links = b.Links ∧ a.Att = b.Att ∧ a.Cost = b.Cost ∧ a.Second = b.Second ∧ a.Fwd = b.Fwd ∧ a.Tag = b.Tag)
theorem keyH_iff (a b : Hdr) : keyH a = keyH b ↔ a.Ty = b.Ty ∧ a.ID = b.ID ∧ a.Len = b.Len ∧ a.Router = b.Router := by simp [keyH]
def keyE (a b : Hdr) : Bool := (a.Ty == b.Ty) && ((a.ID == b.ID) && ((a.Len == b.Len) && (a.Router == b.Router)))
theorem keyE_iff (a b : Hdr) : keyE a b = true ↔ keyH a = keyH b := by
 rw [keyH_iff]; simp [keyE]
set_option maxHeartbeats 4000000 in
set_option maxRecDepth 10000 in
theorem c30 (a b : Lsa) (hl : a.Links.length < 8796093022208) (ha : a.Att.length < 140737488355328) : CFun Try.prog 72 [encA a, encA b] [] (.bool (sameB a b)) [] := by
 refine CFun.intro (tr := []) (fz := []) (n := 110) (rs := [.tmp 4]) Try.func72 rfl (by kernel_rfl) rfl rfl mixed (by kernel_rfl) (by simp) (by simp) ?_
 have h26a := fun H => (c26 a.H).up' H rfl rfl
 have h26b := fun H => (c26 b.H).up' H rfl rfl
 simp only [keyH, encY, cellsY] at h26a h26b
 simp
 refine ⟨_, _, .inl (h26a _), by simp, ?_⟩
 simp
 refine ⟨_, _, .inl (h26b _), by simp, ?_⟩
 by_cases e1 : keyH a.H = keyH b.H
 case neg =>
   have hf : sameB a b = false := by simp [sameB, e1]
   have hk : keyE a.H b.H = false := by
     cases h : keyE a.H b.H
     · rfl
     · exact (e1 ((keyE_iff _ _).1 h)).elim
   simp only [keyE] at hk
   simp [hf, hk]
 have hk : keyE a.H b.H = true := (keyE_iff _ _).2 e1
 simp only [keyE] at hk
 simp [hk]
 by_cases e2 : a.Border = b.Border
 case neg => rw [if_neg e2]; simp [sameB, e2]
 rw [if_pos e2]
 by_cases e3 : a.Boundary = b.Boundary
 case neg => rw [if_neg e3]; simp [sameB, e3]
 rw [if_pos e3]
 by_cases e6 : a.Cost = b.Cost
 case neg => rw [if_neg e6]; simp [sameB, e6]
 rw [if_pos e6]
 by_cases e7 : a.Second = b.Second
 case neg => rw [if_neg e7]; simp [sameB, e7]
 rw [if_pos e7]
 by_cases e8 : a.Fwd = b.Fwd
 case neg => rw [if_neg e8]; simp [sameB, e8]
 rw [if_pos e8]
 by_cases e9 : a.Tag = b.Tag
 case neg => rw [if_neg e9]; simp [sameB, e9]
 rw [if_pos e9]
 by_cases l1 : (a.Links.length : Int) = b.Links.length
 case neg =>
   have hne : a.Links ≠ b.Links := fun h => l1 (by rw [h])
   rw [if_neg l1]; simp [sameB, hne]
 rw [if_pos l1]
 by_cases l2 : (a.Att.length : Int) = b.Att.length
 case neg =>
   have hne : a.Att ≠ b.Att := fun h => l2 (by rw [h])
   rw [if_neg l2]; simp [sameB, hne]
 rw [if_pos l2]
 have hS : sameB a b = decide (a.Links = b.Links ∧ a.Att = b.Att) := by simp [sameB, e1, e2, e3, e6, e7, e8, e9]
 rw [hS]
 obtain ⟨n, hn⟩ : ∃ n, a.Links.length = n := ⟨_, rfl⟩
 obtain ⟨m, hm⟩ : ∃ m, a.Att.length = m := ⟨_, rfl⟩
 have hcn : (a.Links.length : Int) = n := by omega
 have hcm : (a.Att.length : Int) = m := by omega
 refine LoopK.intro (tr := []) mixed (by kernel_rfl) (fun i : Nat => [(2, .ptr 0 0), (3, .ptr 1 0), (5, .int .i64 i)]) (fun _ => [cellsA a, cellsA b]) (fun i => i ≤ n ∧ (a.Links = b.Links ↔ a.Links.drop i = b.Links.drop i)) (fun i => n - i) 0 ?_ ?_ ?_
 · simp
 · simp
 · rintro i ⟨h1, h2⟩
   by_cases hi : i < n
   · obtain ⟨r, hx, hd⟩ := get_drop (l := a.Links) (i := i) (by omega)
     obtain ⟨t, hy, he⟩ := get_drop (l := b.Links) (i := i) (by omega)
     rw [hd, he, List.cons.injEq] at h2
     have w1 : IntKind.i64.wrap ((i : Int) + 1) = i + 1 := wrap_in (by omega)
     have hext : r = t ↔ r.Kind = t.Kind ∧ r.ID = t.ID ∧ r.Data = t.Data ∧ r.Cost = t.Cost := by
       cases r; cases t; simp
     clear hd he
     by_cases hrt : r = t
     · subst hrt
       simp [hcn, hi, hx, hy, w1]
       exact ⟨i + 1, ⟨by omega, by simpa using h2⟩, by omega, by simp⟩
     · have hne : ¬ (a.Links = b.Links) := by rw [h2]; simp [hrt]
       rw [hext] at hrt
       by_cases b1 : r.Kind = t.Kind <;> by_cases b2 : r.ID = t.ID <;> by_cases b3 : r.Data = t.Data <;> by_cases b4 : r.Cost = t.Cost <;> simp [b1, b2, b3, b4] at hrt <;>
         simp [hcn, hi, hx, hy, b1, b2, b3, b4, hne]
   · have e : a.Links.drop i = [] := List.drop_of_length_le (by omega)
     have e' : b.Links.drop i = [] := List.drop_of_length_le (by omega)
     rw [e, e'] at h2
     have hL : a.Links = b.Links := h2.2 rfl
     simp [hcn, hi]
     refine LoopK.intro (tr := []) mixed (by kernel_rfl) (fun j : Nat => [(2, .ptr 0 0), (3, .ptr 1 0), (6, .int .i64 j)]) (fun _ => [cellsA a, cellsA b]) (fun j => j ≤ m ∧ (a.Att = b.Att ↔ a.Att.drop j = b.Att.drop j)) (fun j => m - j) 0 ?_ ?_ ?_
     · simp
     · simp
     · rintro j ⟨j1, j2⟩
       by_cases hj : j < m
       · obtain ⟨r, hx, hd⟩ := get_drop (l := a.Att) (i := j) (by omega)
         obtain ⟨t, hy, he⟩ := get_drop (l := b.Att) (i := j) (by omega)
         rw [hd, he, List.cons.injEq] at j2
         have w1 : IntKind.i64.wrap ((j : Int) + 1) = j + 1 := wrap_in (by omega)
         clear hd he
         by_cases hrt : r = t
         · subst hrt
           simp [hcm, hj, hx, hy, w1]
           exact ⟨j + 1, ⟨by omega, by simpa using j2⟩, by omega, by simp⟩
         · have hne : ¬ (a.Att = b.Att) := by rw [j2]; simp [hrt]
           simp [hcm, hj, hx, hy, hrt, hne]
       · have e : a.Att.drop j = [] := List.drop_of_length_le (by omega)
         have e' : b.Att.drop j = [] := List.drop_of_length_le (by omega)
         rw [e, e'] at j2
         have hA : a.Att = b.Att := j2.2 rfl
         simp [hcm, hj]
         exact ⟨hL, hA⟩
end Go.Proofs.Ytfngaildaoahpaa

namespace Go.Proofs.Ytfngaildaoahpaa
open Go Go.Am
end Go.Proofs.Ytfngaildaoahpaa
