import Derived.Test.YtfngaildaoahpaaXDS15
set_option linter.unusedSimpArgs false
set_option linter.unusedVariables false
namespace Go.Proofs.Ytfngaildaoahpaa
open Go Go.Am
def okK (x : Lnk) : Prop := inW x.ID ∧ inW x.Data
set_option maxHeartbeats 4000000 in
set_option maxRecDepth 10000 in
theorem c46 (l : Lsa) (n : Nat) (hn : l.Links.length = n) (hok : ∀ x ∈ l.Links, okK x) : CFun Try.prog 92 [encA l] [] (.int .i64 (chkLinks l.Links l.H.Router)) [] := by
 refine CFun.intro (tr := []) (fz := []) (n := 75) (rs := [.tmp 2]) Try.func92 rfl (by kernel_rfl) rfl rfl mixed (by kernel_rfl) (by simp) (by simp) ?_
 have h48 : ∀ n lo hi H, CFun Try.prog 94 [.int .i64 n, .int .i64 lo, .int .i64 hi] H (.bool (inR n lo hi)) H := fun n lo hi H => (c48 n lo hi).up' H rfl rfl
 have hc : (l.Links.length : Int) = n := by omega
 by_cases h64 : (64 : Int) < n
 · have : 64 < l.Links.length := by omega
   simp [hc, h64, chkLinks, this]
 have hs : chkLinks l.Links l.H.Router = chkKs l.H.Router none l.Links := by rw [chkLinks, if_neg (by omega)]
 rw [hs]
 simp [hc, h64]
 refine LoopK.intro (tr := []) mixed (by kernel_rfl) (fun i : Nat => [(1, .ptr 0 0), (3, .int .i64 i)]) (fun _ => [cellsA l]) (fun i => i ≤ n ∧ chkKs l.H.Router none l.Links = chkKs l.H.Router (prevK l.Links i) (l.Links.drop i)) (fun i => n - i) 0 ?_ ?_ ?_
 · simp [prevK]
 · simp
 · rintro i ⟨i1, i2⟩
   by_cases hi : i < n
   · obtain ⟨x, hx, hd⟩ := get_drop (l := l.Links) (i := i) (by omega)
     obtain ⟨ok1, ok2⟩ := hok x (List.mem_of_getElem? hx)
     rw [hd] at i2
     simp only [chkKs] at i2
     have w1 : IntKind.i64.wrap ((i : Int) + 1) = i + 1 := wrap_in (by omega)
     have hx' : ((i : Int).toNat) = i := by omega
     simp [hc, hi, hx]
     refine ⟨_, _, .inl (h48 _ _ _ _), by simp, ?_⟩
     cases e1 : inR x.Kind 1 3
     · have hk : chkK x l.H.Router = 15 := by simp [chkK, e1]
       simp [hk] at i2
       simp [i2]
     simp
     refine ⟨_, _, .inl (h48 _ _ _ _), by simp, ?_⟩
     cases e2 : inR x.Cost 1 65535
     · have hk : chkK x l.H.Router = 5 := by simp [chkK, e1, e2]
       simp [hk] at i2
       simp [i2]
     have hk : chkK x l.H.Router = if (x.Kind = 1 ∧ (x.ID = 0 ∨ x.ID = l.H.Router)) ∨ (x.Kind = 3 ∧ validP x.ID (stubLen x.Data) = false) then 1 else 0 := by simp [chkK, e1, e2]
     obtain ⟨A, hA⟩ : ∃ A : Nat, x.ID = A := ⟨x.ID.toNat, by have := ok1.1; omega⟩
     have hA2 : A < 2 ^ 32 := by have := ok1.2; omega
     have h70 : ∀ d H, CFun Try.prog 104 [.int .u32 x.ID, .int .i64 d] H (.bool (validP x.ID d)) H := fun d H => by
       rw [hA]; exact (c70 A hA2 d).up' H rfl rfl
     have wD : IntKind.i64.wrap x.Data = x.Data := wrap_in (by have := ok2.1; have := ok2.2; omega)
     have good : chkK x l.H.Router = 0 → ∀ j : Nat, j + 1 = i → ∃ q, l.Links[j]? = some q ∧ chkKs l.H.Router none l.Links = if 0 ≤ ordK q x then 16 else chkKs l.H.Router (some x) (l.Links.drop (i + 1)) := by
       intro h0 j hj
       obtain ⟨q, hq, _⟩ := get_drop (l := l.Links) (i := j) (by omega)
       subst hj
       rw [if_neg (by simp [h0])] at i2
       simp only [prevK, hq] at i2
       exact ⟨q, hq, i2⟩
     have good0 : chkK x l.H.Router = 0 → i = 0 → chkKs l.H.Router none l.Links = chkKs l.H.Router (some x) (l.Links.drop (i + 1)) := by
       intro h0 hi0
       rw [if_neg (by simp [h0])] at i2
       subst hi0
       simpa [prevK] using i2
     have bad : chkK x l.H.Router = 1 → chkKs l.H.Router none l.Links = 1 := by
       intro h0
       rw [if_pos (by simp [h0])] at i2
       rw [i2, h0]
     clear i2 hd hn
     by_cases t1 : x.Kind = 1
     · by_cases t2 : x.ID = 0
       · have hb := bad (by rw [hk, if_pos (.inl ⟨t1, .inl t2⟩)])
         simp [t1, t2, hb]
       · by_cases t3 : x.ID = l.H.Router
         · have hb := bad (by rw [hk, if_pos (.inl ⟨t1, .inr t3⟩)])
           simp [t1, t3, hb]
         · have hz : chkK x l.H.Router = 0 := by rw [hk, if_neg (by omega)]
           have bk1 : (x.Kind == 1) = true := by simpa using t1
           have bk3 : (x.Kind == 3) = false := by simp [t1]
           have bi0 : (x.ID == 0) = false := by simpa using t2
           have bir : (x.ID == l.H.Router) = false := by simpa using t3
           cases i with
           | zero =>
             have g := good0 hz rfl
             have w0 : IntKind.i64.wrap 1 = 1 := by decide
             simp [bk1, bk3, bi0, bir, w0]
             exact ⟨1, ⟨by omega, by simpa [prevK, hx] using g⟩, by omega, by simp⟩
           | succ j =>
             obtain ⟨q, hq, g⟩ := good hz j rfl
             have h83 := fun H => (c83 q x).up' H rfl rfl
             have w2 : IntKind.i64.wrap (j : Int) = j := wrap_in (by omega)
             have w3 : IntKind.i64.wrap ((j : Int) + 1 + 1) = j + 1 + 1 := wrap_in (by omega)
             have h0 : (0 : Int) < ((j + 1 : Nat) : Int) := by omega
             simp only [Int.natCast_add, Int.natCast_one] at h0
             simp [bk1, bk3, bi0, bir, h0, w2, hq]
             refine ⟨_, _, .inl (h83 _), by simp, ?_⟩
             by_cases ho : 0 ≤ ordK q x
             · rw [if_pos ho] at g
               simp [ho, g]
             · rw [if_neg ho] at g
               simp [ho, w3]
               exact ⟨j + 1 + 1, ⟨by omega, by simpa [prevK, hx] using g⟩, by omega, by simp⟩
     · have bk1 : (x.Kind == 1) = false := by simpa using t1
       by_cases t4 : x.Kind = 3
       · have bk3 : (x.Kind == 3) = true := by simpa using t4
         by_cases t5 : 32 < x.Data
         · have hb := bad (by
             have : ¬ (stubLen x.Data ≤ 32) := by
               have e33 : IntKind.i64.wrap 33 = 33 := by decide
               unfold stubLen
               split
               · rw [e33]; omega
               · rw [wD]; omega
             rw [hk, if_pos (.inr ⟨t4, by simp [validP, this]⟩)])
           simp [bk1, bk3, t5, hb]
         · have hst : stubLen x.Data = x.Data := by
             unfold stubLen
             rw [if_neg (by omega), wD]
           simp [bk1, bk3, t5, wD]
           refine ⟨_, _, .inl (h70 _ _), by simp, ?_⟩
           cases e8 : validP x.ID x.Data
           · have hb := bad (by rw [hk, if_pos (.inr ⟨t4, by rw [hst]; exact e8⟩)])
             simp [hb]
           · have hz : chkK x l.H.Router = 0 := by
               rw [hk, if_neg]
               rintro (⟨h, _⟩ | ⟨_, h⟩)
               · exact t1 h
               · rw [hst, e8] at h; cases h
             cases i with
             | zero =>
               have g := good0 hz rfl
               have w0 : IntKind.i64.wrap 1 = 1 := by decide
               simp [w0]
               exact ⟨1, ⟨by omega, by simpa [prevK, hx] using g⟩, by omega, by simp⟩
             | succ j =>
               obtain ⟨q, hq, g⟩ := good hz j rfl
               have h83 := fun H => (c83 q x).up' H rfl rfl
               have w2 : IntKind.i64.wrap (j : Int) = j := wrap_in (by omega)
               have w3 : IntKind.i64.wrap ((j : Int) + 1 + 1) = j + 1 + 1 := wrap_in (by omega)
               have h0 : (0 : Int) < ((j + 1 : Nat) : Int) := by omega
               simp only [Int.natCast_add, Int.natCast_one] at h0
               simp [h0, w2, hq]
               refine ⟨_, _, .inl (h83 _), by simp, ?_⟩
               by_cases ho : 0 ≤ ordK q x
               · rw [if_pos ho] at g
                 simp [ho, g]
               · rw [if_neg ho] at g
                 simp [ho, w3]
                 exact ⟨j + 1 + 1, ⟨by omega, by simpa [prevK, hx] using g⟩, by omega, by simp⟩
       · have bk3 : (x.Kind == 3) = false := by simpa using t4
         have hz : chkK x l.H.Router = 0 := by
           rw [hk, if_neg]
           rintro (⟨h, _⟩ | ⟨h, _⟩)
           · exact t1 h
           · exact t4 h
         cases i with
         | zero =>
           have g := good0 hz rfl
           have w0 : IntKind.i64.wrap 1 = 1 := by decide
           simp [bk1, bk3, w0]
           exact ⟨1, ⟨by omega, by simpa [prevK, hx] using g⟩, by omega, by simp⟩
         | succ j =>
           obtain ⟨q, hq, g⟩ := good hz j rfl
           have h83 := fun H => (c83 q x).up' H rfl rfl
           have w2 : IntKind.i64.wrap (j : Int) = j := wrap_in (by omega)
           have w3 : IntKind.i64.wrap ((j : Int) + 1 + 1) = j + 1 + 1 := wrap_in (by omega)
           have h0 : (0 : Int) < ((j + 1 : Nat) : Int) := by omega
           simp only [Int.natCast_add, Int.natCast_one] at h0
           simp [bk1, bk3, h0, w2, hq]
           refine ⟨_, _, .inl (h83 _), by simp, ?_⟩
           by_cases ho : 0 ≤ ordK q x
           · rw [if_pos ho] at g
             simp [ho, g]
           · rw [if_neg ho] at g
             simp [ho, w3]
             exact ⟨j + 1 + 1, ⟨by omega, by simpa [prevK, hx] using g⟩, by omega, by simp⟩
   · have e : l.Links.drop i = [] := List.drop_of_length_le (by omega)
     rw [e] at i2
     simp [chkKs] at i2
     simp [hc, hi, i2]
end Go.Proofs.Ytfngaildaoahpaa

namespace Go.Proofs.Ytfngaildaoahpaa
open Go Go.Am
def prevI (l : List Int) : Nat → Option Int
 | 0 => some 0
 | i + 1 => l[i]?
def hasR (l : Lsa) (i : Nat) : Bool := decide (l.H.Router ∈ l.Att.take i)
theorem hasR_succ {l : Lsa} {i : Nat} {x : Int} (hx : l.Att[i]? = some x) : hasR l (i + 1) = (hasR l i || decide (x = l.H.Router)) := by
 have htk : l.Att.take (i + 1) = l.Att.take i ++ [x] := by rw [List.take_add_one, hx]; rfl
 unfold hasR
 rw [htk]
 by_cases e : x = l.H.Router
 · simp [e]
 · have e' : ¬ l.H.Router = x := fun h => e h.symm
   simp [e, e']
set_option maxHeartbeats 4000000 in
set_option maxRecDepth 10000 in
theorem c47 (l : Lsa) (n : Nat) (hn : l.Att.length = n) (hok : ∀ x ∈ l.Att, inW x) : CFun Try.prog 93 [encA l] [] (.int .i64 (chkAtt l.Att l.H.Router)) [] := by
 refine CFun.intro (tr := []) (fz := []) (n := 51) (rs := [.tmp 2]) Try.func93 rfl (by kernel_rfl) rfl rfl mixed (by kernel_rfl) (by simp) (by simp) ?_
 have hc : (l.Att.length : Int) = n := by omega
 by_cases h64 : (64 : Int) < n
 · have : 64 < l.Att.length := by omega
   simp [hc, h64, chkAtt, this]
 have hs : chkAtt l.Att l.H.Router = if attL 0 l.Att = false then 16 else if memL l.Att l.H.Router = false then 14 else 0 := by rw [chkAtt, if_neg (by omega)]
 rw [hs]
 simp [hc, h64]
 refine LoopK.intro (tr := []) mixed (by kernel_rfl) (fun i : Nat => [(1, .ptr 0 0), (3, .bool (hasR l i)), (4, .int .i64 i)]) (fun _ => [cellsA l])
   (fun i => i ≤ n ∧ ∃ last, prevI l.Att i = some last ∧ attL 0 l.Att = attL last (l.Att.drop i)) (fun i => n - i) 0 ?_ ?_ ?_
 · exact ⟨by simp, 0, rfl, by simp⟩
 · simp [hasR]
 · rintro i ⟨i1, last, i3, i4⟩
   by_cases hi : i < n
   · obtain ⟨x, hx, hd⟩ := get_drop (l := l.Att) (i := i) (by omega)
     obtain ⟨ok1, ok2⟩ := hok x (List.mem_of_getElem? hx)
     rw [hd] at i4
     simp only [attL] at i4
     have w1 : IntKind.i64.wrap ((i : Int) + 1) = i + 1 := wrap_in (by omega)
     have hsu := hasR_succ hx
     clear hd hn
     have fin : attL 0 l.Att = attL x (l.Att.drop (i + 1)) → (i + 1 ≤ n ∧ ∃ last, prevI l.Att (i + 1) = some last ∧ attL 0 l.Att = attL last (l.Att.drop (i + 1))) :=
       fun h => ⟨by omega, x, hx, h⟩
     cases i with
     | zero =>
       simp only [prevI, Option.some.injEq] at i3
       subst i3
       by_cases e0 : x = 0
       · rw [if_pos (by omega)] at i4
         simp [hc, hi, hx, e0, i4]
       · rw [if_neg (by omega)] at i4
         have b0 : (x == 0) = false := by simpa using e0
         have w0 : IntKind.i64.wrap 1 = 1 := by decide
         by_cases er : x = l.H.Router
         · have br : (x == l.H.Router) = true := by simpa using er
           simp [hc, hi, hx, b0, br, w0]
           exact ⟨1, fin i4, by omega, by rw [hsu]; simp [er], by simp⟩
         · have br : (x == l.H.Router) = false := by simpa using er
           simp [hc, hi, hx, b0, br, w0]
           exact ⟨1, fin i4, by omega, by rw [hsu]; simp [er], by simp⟩
     | succ j =>
       simp only [prevI] at i3
       obtain ⟨lk1, lk2⟩ := hok last (List.mem_of_getElem? i3)
       have w2 : IntKind.i64.wrap (j : Int) = j := wrap_in (by omega)
       have h0 : (0 : Int) < ((j + 1 : Nat) : Int) := by omega
       simp only [Int.natCast_add, Int.natCast_one] at h0 w1
       have hj1 : (j : Int) + 1 < n := by omega
       have hj2 : (0 : Int) ≤ (j : Int) + 1 := by omega
       by_cases e0 : x = 0
       · rw [if_pos (by omega)] at i4
         simp [hc, hi, hx, e0, i4, hj1, hj2]
       · have b0 : (x == 0) = false := by simpa using e0
         by_cases ho : x ≤ last
         · rw [if_pos ho] at i4
           simp [hc, hi, hx, hj1, hj2, b0, h0, w2, i3, ho, i4]
         · rw [if_neg ho] at i4
           by_cases er : x = l.H.Router
           · have br : (x == l.H.Router) = true := by simpa using er
             simp [hc, hi, hx, hj1, hj2, b0, h0, w2, i3, ho, br, w1]
             exact ⟨j + 1 + 1, fin i4, by omega, by rw [hsu]; simp [er], by simp⟩
           · have br : (x == l.H.Router) = false := by simpa using er
             simp [hc, hi, hx, hj1, hj2, b0, h0, w2, i3, ho, br, w1]
             exact ⟨j + 1 + 1, fin i4, by omega, by rw [hsu]; simp [er], by simp⟩
   · have e : l.Att.drop i = [] := List.drop_of_length_le (by omega)
     have ht : l.Att.take i = l.Att := List.take_of_length_le (by omega)
     rw [e] at i4
     simp [attL] at i4
     have hm : memL l.Att l.H.Router = hasR l i := by unfold hasR memL; rw [ht]
     generalize hasR l i = has at hm
     cases has <;> simp [hc, hi, i4, hm]
def okA (l : Lsa) : Prop := okH l.H ∧ (∀ x ∈ l.Links, okK x) ∧ (∀ x ∈ l.Att, inW x) ∧ inI l.Cost ∧ inW l.Fwd ∧ inI l.Tag ∧ l.Links.length < 8796093022208 ∧ l.Att.length < 140737488355328
set_option maxHeartbeats 2000000 in
set_option maxRecDepth 10000 in
theorem c14 (l : Lsa) (ok : okA l) : CFun Try.prog 73 [encA l] [] (.int .i64 (chkA l)) [] := by
 refine CFun.intro (tr := []) (fz := []) (n := 34) (rs := [.tmp 2]) Try.func73 rfl (by kernel_rfl) rfl rfl mixed (by kernel_rfl) (by simp) (by simp) ?_
 obtain ⟨okh, okl, oka, _⟩ := ok
 have h34 := (c34 l.H okh.2.1).up' [cellsA l] rfl rfl
 have h48 : ∀ n lo hi H, CFun Try.prog 94 [.int .i64 n, .int .i64 lo, .int .i64 hi] H (.bool (inR n lo hi)) H := fun n lo hi H => (c48 n lo hi).up' H rfl rfl
 have h46 := fun rest => (c46 l _ rfl okl).up' (cellsA l :: rest) rfl rfl
 have h47 := fun rest => (c47 l _ rfl oka).up' (cellsA l :: rest) rfl rfl
 by_cases e0 : chkH l.H = 0
 · have hty : inR l.H.Ty 1 5 = true := by
     cases hq : inR l.H.Ty 1 5
     · simp [chkH, hq] at e0
     · rfl
   have h45 := (c45 l hty).up' [cellsA l] rfl rfl
   rw [e0] at h34
   have hk : chkA l = if forB l = true then 1 else if l.H.Ty = 1 then chkLinks l.Links l.H.Router else if l.H.Ty = 2 then chkAtt l.Att l.H.Router else if inR l.Cost 0 16777216 = false ∨ inR l.Tag 0 4294967295 = false then 5 else 0 := by
     rw [chkA, e0]; rfl
   rw [hk]
   generalize chkLinks l.Links l.H.Router = v46 at h46 ⊢
   generalize chkAtt l.Att l.H.Router = v47 at h47 ⊢
   generalize forB l = v45 at h45 ⊢
   simp
   refine ⟨_, _, .inl h34, trivial, ?_⟩
   simp
   refine ⟨_, _, .inl h45, trivial, ?_⟩
   cases v45
   · by_cases t1 : l.H.Ty = 1
     · have b1 : (l.H.Ty == 1) = true := by simpa using t1
       simp [b1]
       refine ⟨_, _, .inl (h46 _), trivial, ?_⟩
       simp [t1]
     · have b1 : (l.H.Ty == 1) = false := by simpa using t1
       by_cases t2 : l.H.Ty = 2
       · have b2 : (l.H.Ty == 2) = true := by simpa using t2
         simp [b1, b2]
         refine ⟨_, _, .inl (h47 _), trivial, ?_⟩
         simp [t1, t2]
       · have b2 : (l.H.Ty == 2) = false := by simpa using t2
         simp [b1, b2]
         refine ⟨_, _, .inl (h48 _ _ _ _), trivial, ?_⟩
         cases e1 : inR l.Cost 0 16777216
         · simp [t1, t2]
         · simp
           refine ⟨_, _, .inl (h48 _ _ _ _), trivial, ?_⟩
           cases e2 : inR l.Tag 0 4294967295 <;> simp [t1, t2]
   · simp
 · have hk : chkA l = chkH l.H := by rw [chkA, if_pos e0]
   rw [hk]
   simp
   refine ⟨_, _, .inl h34, trivial, ?_⟩
   simp [e0]
def csL : List CTy := [.int .i64, .int .u32, .int .u32, .int .i64]
def csA : List CTy := csH ++ [.bool, .bool, .sl true 24 csL, .sl false 4 [.int .u32], .int .i64, .bool, .int .u32, .int .i64]
def tyA : Bool × List CTy := (true, csA)
theorem dec_K {cs : List AVal} (h : Rds csL cs) : ∃ x : { x : Lnk // okK x }, AVal.agg cs = encK x.1 := by
 obtain ⟨a1, r, rfl, h, _⟩ := Rds_int h
 obtain ⟨a2, r, rfl, h, w2⟩ := Rds_int h
 obtain ⟨a3, r, rfl, h, w3⟩ := Rds_int h
 obtain ⟨a4, r, rfl, h, _⟩ := Rds_int h
 obtain rfl := Rds_nil h
 exact ⟨⟨⟨a1, a2, a3, a4⟩, wf_u32 w2, wf_u32 w3⟩, rfl⟩
end Go.Proofs.Ytfngaildaoahpaa

namespace Go.Proofs.Ytfngaildaoahpaa
open Go Go.Am
def sameB (a b : Lsa) : Bool := decide (keyH a.H = keyH b.H ∧ a.Border = b.Border ∧ a.Boundary = b.Boundary ∧ a.Links = b.Links ∧ a.Att = b.Att ∧ a.Cost = b.Cost ∧ a.Second = b.Second ∧ a.Fwd = b.Fwd ∧ a.Tag = b.Tag)
theorem keyH_iff (a b : Hdr) : keyH a = keyH b ↔ a.Ty = b.Ty ∧ a.ID = b.ID ∧ a.Len = b.Len ∧ a.Router = b.Router := by simp [keyH]
def keyE (a b : Hdr) : Bool := (a.Ty == b.Ty) && ((a.ID == b.ID) && ((a.Len == b.Len) && (a.Router == b.Router)))
theorem keyE_iff (a b : Hdr) : keyE a b = true ↔ keyH a = keyH b := by
 rw [keyH_iff]; simp [keyE]
set_option maxHeartbeats 4000000 in
set_option maxRecDepth 10000 in
theorem c30 (a b : Lsa) (hl : a.Links.length < 8796093022208) (ha : a.Att.length < 140737488355328) : CFun Try.prog 72 [encA a, encA b] [] (.bool (sameB a b)) [] := by
 refine CFun.intro (tr := []) (fz := []) (n := 110) (rs := [.tmp 4]) Try.func72 rfl (by kernel_rfl) rfl rfl mixed (by kernel_rfl) (by simp) (by simp) ?_
 have h26a := fun H => (c26 a.H).up' H rfl rfl
 have h26b := fun H => (c26 b.H).up' H rfl rfl
 simp only [keyH, encY, cellsY] at h26a h26b
 simp
 refine ⟨_, _, .inl (h26a _), by simp, ?_⟩
 simp
 refine ⟨_, _, .inl (h26b _), by simp, ?_⟩
 by_cases e1 : keyH a.H = keyH b.H
 case neg =>
   have hf : sameB a b = false := by simp [sameB, e1]
   have hk : keyE a.H b.H = false := by
     cases h : keyE a.H b.H
     · rfl
     · exact (e1 ((keyE_iff _ _).1 h)).elim
   simp only [keyE] at hk
   simp [hf, hk]
 have hk : keyE a.H b.H = true := (keyE_iff _ _).2 e1
 simp only [keyE] at hk
 simp [hk]
 by_cases e2 : a.Border = b.Border
 case neg => rw [if_neg e2]; simp [sameB, e2]
 rw [if_pos e2]
 by_cases e3 : a.Boundary = b.Boundary
 case neg => rw [if_neg e3]; simp [sameB, e3]
 rw [if_pos e3]
 by_cases e6 : a.Cost = b.Cost
 case neg => rw [if_neg e6]; simp [sameB, e6]
 rw [if_pos e6]
 by_cases e7 : a.Second = b.Second
 case neg => rw [if_neg e7]; simp [sameB, e7]
 rw [if_pos e7]
 by_cases e8 : a.Fwd = b.Fwd
 case neg => rw [if_neg e8]; simp [sameB, e8]
 rw [if_pos e8]
 by_cases e9 : a.Tag = b.Tag
 case neg => rw [if_neg e9]; simp [sameB, e9]
 rw [if_pos e9]
 by_cases l1 : (a.Links.length : Int) = b.Links.length
 case neg =>
   have hne : a.Links ≠ b.Links := fun h => l1 (by rw [h])
   rw [if_neg l1]; simp [sameB, hne]
 rw [if_pos l1]
 by_cases l2 : (a.Att.length : Int) = b.Att.length
 case neg =>
   have hne : a.Att ≠ b.Att := fun h => l2 (by rw [h])
   rw [if_neg l2]; simp [sameB, hne]
 rw [if_pos l2]
 have hS : sameB a b = decide (a.Links = b.Links ∧ a.Att = b.Att) := by simp [sameB, e1, e2, e3, e6, e7, e8, e9]
 rw [hS]
 obtain ⟨n, hn⟩ : ∃ n, a.Links.length = n := ⟨_, rfl⟩
 obtain ⟨m, hm⟩ : ∃ m, a.Att.length = m := ⟨_, rfl⟩
 have hcn : (a.Links.length : Int) = n := by omega
 have hcm : (a.Att.length : Int) = m := by omega
 refine LoopK.intro (tr := []) mixed (by kernel_rfl) (fun i : Nat => [(2, .ptr 0 0), (3, .ptr 1 0), (5, .int .i64 i)]) (fun _ => [cellsA a, cellsA b]) (fun i => i ≤ n ∧ (a.Links = b.Links ↔ a.Links.drop i = b.Links.drop i)) (fun i => n - i) 0 ?_ ?_ ?_
 · simp
 · simp
 · rintro i ⟨h1, h2⟩
   by_cases hi : i < n
   · obtain ⟨r, hx, hd⟩ := get_drop (l := a.Links) (i := i) (by omega)
     obtain ⟨t, hy, he⟩ := get_drop (l := b.Links) (i := i) (by omega)
     rw [hd, he, List.cons.injEq] at h2
     have w1 : IntKind.i64.wrap ((i : Int) + 1) = i + 1 := wrap_in (by omega)
     have hext : r = t ↔ r.Kind = t.Kind ∧ r.ID = t.ID ∧ r.Data = t.Data ∧ r.Cost = t.Cost := by
       cases r; cases t; simp
     clear hd he
     by_cases hrt : r = t
     · subst hrt
       simp [hcn, hi, hx, hy, w1]
       exact ⟨i + 1, ⟨by omega, by simpa using h2⟩, by omega, by simp⟩
     · have hne : ¬ (a.Links = b.Links) := by rw [h2]; simp [hrt]
       rw [hext] at hrt
       by_cases b1 : r.Kind = t.Kind <;> by_cases b2 : r.ID = t.ID <;> by_cases b3 : r.Data = t.Data <;> by_cases b4 : r.Cost = t.Cost <;> simp [b1, b2, b3, b4] at hrt <;>
         simp [hcn, hi, hx, hy, b1, b2, b3, b4, hne]
   · have e : a.Links.drop i = [] := List.drop_of_length_le (by omega)
     have e' : b.Links.drop i = [] := List.drop_of_length_le (by omega)
     rw [e, e'] at h2
     have hL : a.Links = b.Links := h2.2 rfl
     simp [hcn, hi]
     refine LoopK.intro (tr := []) mixed (by kernel_rfl) (fun j : Nat => [(2, .ptr 0 0), (3, .ptr 1 0), (6, .int .i64 j)]) (fun _ => [cellsA a, cellsA b]) (fun j => j ≤ m ∧ (a.Att = b.Att ↔ a.Att.drop j = b.Att.drop j)) (fun j => m - j) 0 ?_ ?_ ?_
     · simp
     · simp
     · rintro j ⟨j1, j2⟩
       by_cases hj : j < m
       · obtain ⟨r, hx, hd⟩ := get_drop (l := a.Att) (i := j) (by omega)
         obtain ⟨t, hy, he⟩ := get_drop (l := b.Att) (i := j) (by omega)
         rw [hd, he, List.cons.injEq] at j2
         have w1 : IntKind.i64.wrap ((j : Int) + 1) = j + 1 := wrap_in (by omega)
         clear hd he
         by_cases hrt : r = t
         · subst hrt
           simp [hcm, hj, hx, hy, w1]
           exact ⟨j + 1, ⟨by omega, by simpa using j2⟩, by omega, by simp⟩
         · have hne : ¬ (a.Att = b.Att) := by rw [j2]; simp [hrt]
           simp [hcm, hj, hx, hy, hrt, hne]
       · have e : a.Att.drop j = [] := List.drop_of_length_le (by omega)
         have e' : b.Att.drop j = [] := List.drop_of_length_le (by omega)
         rw [e, e'] at j2
         have hA : a.Att = b.Att := j2.2 rfl
         simp [hcm, hj]
         exact ⟨hL, hA⟩
end Go.Proofs.Ytfngaildaoahpaa

namespace Go.Proofs.Ytfngaildaoahpaa
open Go Go.Am
end Go.Proofs.Ytfngaildaoahpaa

namespace Go.Proofs.Ytfngaildaoahpaa
open Go Go.Am
@[simp] def encP (p : Int × Int) : AVal := .agg [.int .u32 p.1, .int .i64 p.2]
theorem sameB_self (a : Lsa) : sameB a a = true := by simp [sameB]
end Go.Proofs.Ytfngaildaoahpaa

namespace Go.Proofs.Ytfngaildaoahpaa
open Go Go.Am
theorem ofGift {P : Program} {f : FuncId} {args : List AVal} {H H' : List (List AVal)} {x : AVal} (h : CFunO P f args H x H') (ha : args.all (fun y => !y.isOwn) = true) : CFun P f args H x H' := by
 refine ⟨h.1, fun G w cargs h1 h2 h3 h4 h5 => h.2 G w cargs h1 h2 h3 h4 fun i y v hy hv => ⟨h5 i y v hy hv, OwnAt.of_not ?_⟩⟩
 simp only [List.all_eq_true, Bool.not_eq_true'] at ha
 exact ha y (List.mem_of_getElem? hy)
def Acc (b : List Int) (x : AVal) : Prop := x = .sl 1 (b.map enc8) .own ∨ (b = [] ∧ ∃ k, x = .sl k [] .full)
set_option maxHeartbeats 2000000 in
set_option maxRecDepth 10000 in
theorem o61 (n : Nat) (h1 : 1 ≤ n) (hn : n ≤ 8) (b : List Int) (X : AVal) (hX : Acc b X) (hb : b.length < 1099511627000) (y : Int) (H : List (List AVal)) (hH : LeBoxes H.length H H) :
   CFunO Try.prog 116 [X, .int .i64 n, .int .u64 y] H (.sl 1 ((b ++ numB n y).map enc8) .own) H := by
 refine CFunO.intro (tr := [14, 23]) (fz := []) (n := 24) (rs := [.tmp 6]) Try.func116 rfl (by kernel_rfl) rfl rfl mixed (by kernel_rfl) (by simp) ?_
 have w0 : IntKind.i64.wrap ((n : Int) - 1) = n - 1 := wrap_in (by omega)
 simp [w0, -List.map_append]
 refine LoopK.intro (tr := [14, 23]) mixed (by kernel_rfl) (fun q : Nat × List Int × AVal => [(0, q.2.2), (2, .int .u64 y), (7, .int .i64 ((q.1 : Int) - 1))]) (fun _ => H) (fun q => q.1 ≤ n ∧ Acc q.2.1 q.2.2 ∧ q.2.1.length + q.1 = b.length + n ∧ q.2.1 ++ numB q.1 y = b ++ numB n y) (fun q => q.1) (n, b, X) ?_ ?_ ?_
 · exact ⟨Nat.le_refl _, hX, rfl, rfl⟩
 · rcases hX with rfl | ⟨rfl, kk, rfl⟩ <;> simp [hH]
 · rintro ⟨k, out, Y⟩ ⟨k1, k2, k3, k4⟩
   simp only at k1 k2 k3 k4
   cases k with
   | zero =>
     simp only [numB, List.append_nil] at k4
     rcases k2 with rfl | ⟨rfl, kk, rfl⟩
     · simp [k4, hH, -List.map_append]
     · have := congrArg List.length k4
       simp [numB_len] at this
       omega
   | succ k =>
     have w1 : IntKind.i64.wrap (8 * (k : Int)) = 8 * k := wrap_in (by omega)
     have w2 : IntKind.i64.wrap ((k : Int) - 1) = k - 1 := wrap_in (by omega)
     have w3 : IntKind.u64.wrap (8 * (k : Int)) = 8 * k := by rw [wrap_u64]; omega
     have g0 : (0 : Int) ≤ k := by omega
     have g5 : ¬ (8 * (k : Int) < 0) := by omega
     have g6 : min (8 * (k : Int)).toNat IntKind.u64.bits = 8 * k := by
       have : IntKind.u64.bits = 64 := rfl
       omega
     have s1 : out.length + 1 ≤ 140737488355328 := by omega
     have hbt : IntKind.u8.wrap (y.fdiv (2 ^ (8 * k))) = bt y k := rfl
     have hnx : (out ++ [bt y k]) ++ numB k y = b ++ numB n y := by rw [← k4]; simp [numB]
     rcases k2 with rfl | ⟨rfl, kk, rfl⟩
     · simp [w1, w2, w3, g0, g5, g6, s1, hbt, hH]
       exact ⟨k, out ++ [bt y k], _, ⟨by omega, .inl rfl, by simp; omega, hnx⟩, by omega, by simp, by simp, rfl⟩
     · simp [w1, w2, w3, g0, g5, g6, hbt, hH]
       exact ⟨k, [bt y k], _, ⟨by omega, .inl rfl, by simp at k3 ⊢; omega, by simpa using hnx⟩, by omega, by simp, by simp, rfl⟩
end Go.Proofs.Ytfngaildaoahpaa

namespace Go.Proofs.Ytfngaildaoahpaa
open Go Go.Am
theorem c61z (n : Nat) (h1 : 1 ≤ n) (hn : n ≤ 8) (k : Nat) (y : Int) : CFun Try.prog 116 [.sl k [] .full, .int .i64 n, .int .u64 y] [] (.sl 1 ((numB n y).map enc8) .own) [] :=
 ofGift (o61 n h1 hn [] _ (.inr ⟨rfl, k, rfl⟩) (by simp) y [] trivial) rfl
theorem u61z (n : Nat) (h1 : 1 ≤ n) (hn : n ≤ 8) (k : Nat) (y : Int) (H : List (List AVal)) : CFun Try.prog 116 [.sl k [] .full, .int .i64 n, .int .u64 y] H (.sl 1 ((numB n y).map enc8) .own) H :=
 (c61z n h1 hn k y).up' H rfl rfl
theorem p61 (n : Nat) (b : List Int) (y : Int) (H : List (List AVal)) (h1 : 1 ≤ n) (hn : n ≤ 8) (hb : b.length < 1099511627000) (hH : LeBoxes H.length H H) :
 CFunO Try.prog 116 [.sl 1 (b.map enc8) .own, .int .i64 n, .int .u64 y] H (.sl 1 ((b ++ numB n y).map enc8) .own) H := o61 n h1 hn b _ (.inl rfl) hb y H hH
theorem c89 (a b : Bool) : CFun Try.prog 120 [.bool a, .bool b] [] (.int .u64 (orU (flagI a 1) (flagI b 2))) [] := by
 refine CFun.intro (tr := []) (fz := []) (n := 11) (rs := [.tmp 4]) Try.func120 rfl (by kernel_rfl) rfl rfl mixed (by kernel_rfl) (by simp) (by simp) ?_
 cases a <;> cases b <;> simp [flagI] <;> decide
set_option maxHeartbeats 2000000 in
set_option maxRecDepth 10000 in
theorem c35 (h : Hdr) : CFun Try.prog 117 [encH h] [] (.sl 1 ((hdrB h).map enc8) .own) [] := by
 refine CFun.intro (tr := [8, 13, 18, 23, 28, 33, 400012, 400017, 400022, 400027, 400032, 400037]) (fz := []) (n := 38) (rs := [.tmp 2]) Try.func117 rfl (by kernel_rfl) rfl rfl mixed (by kernel_rfl) (by simp) (by simp) ?_
 simp
 refine ⟨_, _, .inl (u61z 2 (by omega) (by omega) _ (U h.Age) _), by simp, ?_⟩
 simp [-List.map_append]
 refine ⟨_, _, p61 1 _ (U h.Ty) _ (by omega) (by omega) (by simp [numB_len]) (by simp), ?_⟩
 simp [-List.map_append]
 refine ⟨_, _, p61 1 _ (U h.Len) _ (by omega) (by omega) (by simp [numB_len]) (by simp), ?_⟩
 simp [-List.map_append]
 refine ⟨_, _, p61 4 _ (U h.ID) _ (by omega) (by omega) (by simp [numB_len]) (by simp), ?_⟩
 simp [-List.map_append]
 refine ⟨_, _, p61 4 _ (U h.Router) _ (by omega) (by omega) (by simp [numB_len]) (by simp), ?_⟩
 simp [-List.map_append]
 refine ⟨_, _, p61 4 _ (U h.Seq) _ (by omega) (by omega) (by simp [numB_len]) (by simp), ?_⟩
 simp [-List.map_append]
 refine ⟨_, _, p61 2 _ (U h.Sum) _ (by omega) (by omega) (by simp [numB_len]) (by simp), ?_⟩
 simp [-List.map_append, hdrB]
end Go.Proofs.Ytfngaildaoahpaa

namespace Go.Proofs.Ytfngaildaoahpaa
open Go Go.Am
set_option linter.unusedSimpArgs false
theorem orU_f (b : Bool) : orU (flagI b 1) (flagI false 2) = flagI b 1 := by cases b <;> decide
theorem p61z (n : Nat) (k : Nat) (y : Int) (H : List (List AVal)) (h1 : 1 ≤ n) (hn : n ≤ 8) (hH : LeBoxes H.length H H) :
 CFunO Try.prog 116 [.sl k [] .full, .int .i64 n, .int .u64 y] H (.sl 1 ((numB n y).map enc8) .own) H := o61 n h1 hn [] _ (.inr ⟨rfl, k, rfl⟩) (by simp) y H hH
set_option maxHeartbeats 4000000 in
set_option maxRecDepth 10000 in
theorem c60 (l : Lsa) (hl : l.Links.length ≤ 64) (ha : l.Att.length ≤ 64) : CFun Try.prog 115 [encA l] [] (encBs (bodyB l)) [] := by
 refine CFun.intro (tr := [12, 19, 32, 41, 50, 59, 70, 83, 94, 101, 106, 111, 116, 400018, 400024, 400040, 400049, 400058, 400067, 400075, 400090, 400098, 400105, 400110, 400115, 400120]) (fz := []) (n := 122) (rs := [.tmp 2]) Try.func115 rfl (by kernel_rfl) rfl rfl mixed (by kernel_rfl) (by simp) (by simp) ?_
 have h89 : ∀ a b H, CFun Try.prog 120 [.bool a, .bool b] H (.int .u64 (orU (flagI a 1) (flagI b 2))) H := fun a b H => (c89 a b).up' H rfl rfl
 by_cases t3 : l.H.Ty = 3
 · simp [t3]
   refine ⟨_, _, p61z 4 _ (U l.Cost) _ (by omega) (by omega) (by simp), ?_⟩
   simp [bodyB, t3]
 by_cases t4 : l.H.Ty = 4
 · simp [t4]
   refine ⟨_, _, p61z 4 _ (U l.Cost) _ (by omega) (by omega) (by simp), ?_⟩
   simp [bodyB, t4]
 by_cases t5 : l.H.Ty = 5
 · simp [t5]
   refine ⟨_, _, .inl (h89 _ _ _), trivial, ?_⟩
   simp
   refine ⟨_, _, p61z 1 _ (orU (flagI l.Second 1) (flagI false 2)) _ (by omega) (by omega) (by simp), ?_⟩
   simp
   refine ⟨_, _, p61 4 _ (U l.Cost) _ (by omega) (by omega) (by simp [numB_len]) (by simp), ?_⟩
   simp [-List.map_append]
   refine ⟨_, _, p61 4 _ (U l.Fwd) _ (by omega) (by omega) (by simp [numB_len]) (by simp), ?_⟩
   simp [-List.map_append]
   refine ⟨_, _, p61 4 _ (U l.Tag) _ (by omega) (by omega) (by simp [numB_len]) (by simp), ?_⟩
   simp [-List.map_append, bodyB, t5, orU_f]
 by_cases t1 : l.H.Ty = 1
 · have h1 : bodyB l = numB 1 (orU (flagI l.Border 1) (flagI l.Boundary 2)) ++ numB 1 (U l.Links.length) ++ (l.Links.map linkB).flatten := by simp [bodyB, t1]
   rw [h1]
   obtain ⟨n, hn⟩ : ∃ n, l.Links.length = n := ⟨_, rfl⟩
   have hc : (l.Links.length : Int) = n := by omega
   rw [hc]
   simp [t1, hc, -List.map_append, -List.append_assoc]
   refine ⟨_, _, .inl (h89 _ _ _), trivial, ?_⟩
   simp [-List.map_append, -List.append_assoc]
   refine ⟨_, _, p61z 1 _ (orU (flagI l.Border 1) (flagI l.Boundary 2)) _ (by omega) (by omega) (by simp), ?_⟩
   simp [hc, -List.map_append, -List.append_assoc]
   refine ⟨_, _, p61 1 _ (U n) _ (by omega) (by omega) (by simp [numB_len]) (by simp), ?_⟩
   have hp : (numB 1 (orU (flagI l.Border 1) (flagI l.Boundary 2)) ++ numB 1 (U n)).length = 2 := by simp [numB_len]
   generalize numB 1 (orU (flagI l.Border 1) (flagI l.Boundary 2)) ++ numB 1 (U n) = pre at hp ⊢
   simp [hc, -List.map_append, -List.append_assoc]
   refine LoopK.intro (tr := [12, 19, 32, 41, 50, 59, 70, 83, 94, 101, 106, 111, 116, 400018, 400024, 400040, 400049, 400058, 400067, 400075, 400090, 400098, 400105, 400110, 400115, 400120]) mixed (by kernel_rfl) (fun q : Nat × List Int => [(1, .ptr 0 0), (3, .sl 1 (q.2.map enc8) .own), (4, .int .i64 q.1), (9, .int .i64 1)]) (fun q => [cellsA l])
     (fun q => q.1 ≤ n ∧ q.2.length ≤ 2 + 11 * q.1 ∧ q.2 = pre ++ ((l.Links.map linkB).take q.1).flatten) (fun q => n - q.1) (0, pre) ?_ ?_ ?_
   · exact ⟨by simp, by simp [hp], by simp⟩
   · simp [t1]
   · rintro ⟨i, out⟩ ⟨k1, k2, k3⟩
     simp only at k1 k2 k3
     by_cases hi : i < n
     · obtain ⟨x, hx, _⟩ := get_drop (l := l.Links) (i := i) (by omega)
       have w1 : IntKind.i64.wrap ((i : Int) + 1) = i + 1 := wrap_in (by omega)
       have hnx := take_map linkB l.Links i x hx
       have s0 : out.length < 1099511620000 := by omega
       simp [hi, hx, hc]
       refine ⟨_, _, p61 1 _ (U x.Kind) _ (by omega) (by omega) (by first | omega | (simp [numB_len]; omega)) (by simp), ?_⟩
       simp [-List.map_append, hi, hx, hc]
       refine ⟨_, _, p61 4 _ (U x.ID) _ (by omega) (by omega) (by first | omega | (simp [numB_len]; omega)) (by simp), ?_⟩
       simp [-List.map_append, hi, hx, hc]
       refine ⟨_, _, p61 4 _ (U x.Data) _ (by omega) (by omega) (by first | omega | (simp [numB_len]; omega)) (by simp), ?_⟩
       simp [-List.map_append, hi, hx, hc]
       refine ⟨_, _, p61 2 _ (U x.Cost) _ (by omega) (by omega) (by first | omega | (simp [numB_len]; omega)) (by simp), ?_⟩
       simp [-List.map_append, w1]
       refine ⟨i + 1, out ++ linkB x, ⟨by omega, by rw [List.length_append, linkB_len]; omega, ?_⟩, by omega, by simp [linkB], by simp⟩
       show out ++ linkB x = pre ++ ((l.Links.map linkB).take (i + 1)).flatten
       rw [hnx, ← List.append_assoc, ← k3]
     · have hin : i = n := by omega
       subst hin
       have ht : (l.Links.map linkB).take i = l.Links.map linkB := List.take_of_length_le (by simp; omega)
       rw [ht] at k3
       simp [k3, hc]
 by_cases t2 : l.H.Ty = 2
 · have h1 : bodyB l = numB 1 (U l.Att.length) ++ (l.Att.map attB).flatten := by simp [bodyB, t2]
   rw [h1]
   obtain ⟨n, hn⟩ : ∃ n, l.Att.length = n := ⟨_, rfl⟩
   have hc : (l.Att.length : Int) = n := by omega
   rw [hc]
   simp [t2, hc, -List.map_append]
   refine ⟨_, _, p61z 1 _ (U n) _ (by omega) (by omega) (by simp), ?_⟩
   have hp : (numB 1 (U n)).length = 1 := by simp [numB_len]
   generalize numB 1 (U n) = pre at hp ⊢
   simp [hc, -List.map_append]
   refine LoopK.intro (tr := [12, 19, 32, 41, 50, 59, 70, 83, 94, 101, 106, 111, 116, 400018, 400024, 400040, 400049, 400058, 400067, 400075, 400090, 400098, 400105, 400110, 400115, 400120]) mixed (by kernel_rfl) (fun q : Nat × List Int => [(1, .ptr 0 0), (3, .sl 1 (q.2.map enc8) .own), (5, .int .i64 q.1), (9, .int .i64 2)]) (fun q => [cellsA l])
     (fun q => q.1 ≤ n ∧ q.2.length ≤ 1 + 4 * q.1 ∧ q.2 = pre ++ ((l.Att.map attB).take q.1).flatten) (fun q => n - q.1) (0, pre) ?_ ?_ ?_
   · exact ⟨by simp, by simp [hp], by simp⟩
   · simp [t2]
   · rintro ⟨i, out⟩ ⟨k1, k2, k3⟩
     simp only at k1 k2 k3
     by_cases hi : i < n
     · obtain ⟨x, hx, _⟩ := get_drop (l := l.Att) (i := i) (by omega)
       have w1 : IntKind.i64.wrap ((i : Int) + 1) = i + 1 := wrap_in (by omega)
       have hnx := take_map attB l.Att i x hx
       have s0 : out.length < 1099511620000 := by omega
       simp [hi, hx, hc]
       refine ⟨_, _, p61 4 _ (U x) _ (by omega) (by omega) (by first | omega | (simp [numB_len]; omega)) (by simp), ?_⟩
       simp [-List.map_append, w1]
       refine ⟨i + 1, out ++ attB x, ⟨by omega, by rw [List.length_append, attB_len]; omega, ?_⟩, by omega, by simp [attB], by simp⟩
       show out ++ attB x = pre ++ ((l.Att.map attB).take (i + 1)).flatten
       rw [hnx, ← List.append_assoc, ← k3]
     · have hin : i = n := by omega
       subst hin
       have ht : (l.Att.map attB).take i = l.Att.map attB := List.take_of_length_le (by simp; omega)
       rw [ht] at k3
       simp [k3, hc]
 · simp [t1, t2, t3, t4, t5, bodyB]
end Go.Proofs.Ytfngaildaoahpaa
