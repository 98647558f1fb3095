import Derived.Test.YtlpgadlfpigbhaaLFacts
import Derived.Test.YtlpgadlfpigbhaaAmV
set_option linter.unusedSimpArgs false
set_option linter.unusedVariables false
namespace Go.Proofs.Ytlpgadlfpigbhaa
open Go Go.Am

@[simp] theorem take_map {α β : Type} (f : α → β) (l : List α) : (l.map f).take l.length = l.map f := List.take_of_length_le (by simp)

/-- The first that p holds of. -/
def idxL {α : Type} (p : α → Bool) : List α → Nat → Int
  | [], _ => -1
  | x :: xs, i => if p x = true then (i : Int) else idxL p xs (i + 1)

structure LR where
  From : Int
  To : Int
  deriving DecidableEq
@[simp] def encLR (r : LR) : AVal := .agg [.int .i64 r.From, .int .i64 r.To]

theorem get_drop {α : Type} {l : List α} {i : Nat} (hi : i < l.length) : ∃ x, l[i]? = some x ∧ l.drop i = x :: l.drop (i + 1) :=
  ⟨l[i], List.getElem?_eq_getElem hi, List.drop_eq_getElem_cons hi⟩

set_option maxHeartbeats 1000000 in
set_option maxRecDepth 10000 in
theorem c42 (l : List LR) (n : Nat) (hn : l.length = n) (hlen : n < 1099511627776) (p : LR → Bool) (f : FuncId) (fs cs : List AVal) (H : List (List AVal)) (hf : low H.length (.fn f fs cs) = true) (hH : LeBoxes H.length H H)
    (hp : ∀ x ∈ l, CFun Try.prog f (fs ++ [encLR x] ++ cs) H (.bool (p x)) H) : CFun Try.prog 42 [.sl 2 (l.map encLR) .sh, .fn f fs cs] H (.int .i64 (idxL p l 0)) H := by
  refine CFun.intro (tr := []) (fz := []) (n := 19) (rs := [.tmp 4]) Try.func42 rfl (by kernel_rfl) rfl rfl mixed (by kernel_rfl) (by simp) (by simp) ?_
  simp
  refine LoopK.intro (tr := []) mixed (by kernel_rfl) (fun i : Nat => [(0, .sl 2 (l.map encLR) .sh), (1, .fn f fs cs), (7, .int .i64 n), (8, .int .i64 i)]) (fun _ => H) (fun i => i ≤ n ∧ idxL p l 0 = idxL p (l.drop i) i) (fun i => n - i) 0 ?_ ?_ ?_
  · simp
  · simp [hn, hH]
    simpa [low] using hf
  · rintro i ⟨h1, h2⟩
    by_cases hi : i < n
    · obtain ⟨x, hx, hd⟩ := get_drop (l := l) (i := i) (by omega)
      have hpx := hp x (List.mem_of_getElem? hx)
      rw [hd] at h2
      clear hd hn
      have w1 : IntKind.i64.wrap ((i : Int) + 1) = i + 1 := wrap_in (by omega)
      simp [hi, hx]
      refine ⟨_, _, .inl (by simpa using hpx), by simp, ?_⟩
      simp only [idxL] at h2
      by_cases hpb : p x = true
      · simp [hpb, hH, h2]
      · rw [if_neg hpb] at h2
        simp [hpb, w1, hH]
        refine ⟨i + 1, ⟨by omega, h2⟩, by omega, ?_⟩
        simp
        simpa [low] using hf
    · have : i = n := by omega
      subst this
      rw [List.drop_eq_nil_of_le (by omega)] at h2
      simp [h2, idxL, hH]
def chkL : Option LR → List LR → Int
  | _, [] => 0
  | p, r :: rs => if r.From < 16 ∨ 1048575 < r.To then 5 else if r.To < r.From then 1 else
    match p with
    | some q => if r.From ≤ q.To + 1 then 16 else chkL (some r) rs
    | none => chkL (some r) rs
def chk (l : List LR) : Int := chkL none l
def prev (l : List LR) : Nat → Option LR
  | 0 => none
  | i + 1 => l[i]?
set_option maxHeartbeats 1000000 in
set_option maxRecDepth 10000 in
theorem c11 (l : List LR) (n : Nat) (hn : l.length = n) (hlen : n < 8796093022208) : CFun Try.prog 11 [.sl 2 (l.map encLR) .sh] [] (.int .i64 (chk l)) [] := by
  refine CFun.intro (tr := []) (fz := []) (n := 43) (rs := [.tmp 2]) Try.func11 rfl (by kernel_rfl) rfl rfl mixed (by kernel_rfl) (by simp) (by simp) ?_
  simp
  refine LoopK.intro (tr := []) mixed (by kernel_rfl) (fun i : Nat => [(0, .sl 2 (l.map encLR) .sh), (5, .sl 2 (l.map encLR) .sh), (6, .int .i64 n), (7, .int .i64 i)]) (fun _ => []) (fun i => i ≤ n ∧ chk l = chkL (prev l i) (l.drop i) ∧ ∀ p, prev l i = some p → p.To ≤ 1048575 ∧ 0 ≤ p.To) (fun i => n - i) 0 ?_ ?_ ?_
  · simp [prev, chk]
  · simp [hn]
  · rintro i ⟨h1, h2, h3⟩
    by_cases hi : i < n
    · obtain ⟨r, hx⟩ : ∃ r, l[i]? = some r := ⟨l[i], List.getElem?_eq_getElem (by omega)⟩
      have hd : l.drop i = r :: l.drop (i + 1) := by rw [List.drop_eq_getElem_cons (by omega)]; congr 1; simpa [show i < l.length by omega] using hx
      rw [hd] at h2
      clear hd hn
      cases i with
      | zero =>
        simp [hi, hx]
        rw [h2]
        simp only [prev, chkL]
        by_cases c1 : r.From < 16
        · simp [c1]
        · by_cases c2 : 1048575 < r.To
          · simp [c1, c2]
          · by_cases c3 : r.To < r.From
            · simp [c1, c2, c3]
            · simp [c1, c2, c3]
              refine ⟨1, ⟨by omega, ?_, ?_⟩, by omega, by decide⟩
              · simp_all [prev]
              · simp [prev, hx]; omega
      | succ k =>
        obtain ⟨p, hp⟩ : ∃ p, l[k]? = some p := ⟨l[k]'(by have := (List.getElem?_eq_some_iff.1 hx).1; omega), List.getElem?_eq_getElem _⟩
        have hb := h3 p hp
        have z1 : (k : Int) + 1 < n := by omega
        have z2 : (0 : Int) ≤ (k : Int) + 1 := by omega
        have z3 : ((k : Int) + 1).toNat = k + 1 := by omega
        have z4 : (0 : Int) < (k : Int) + 1 := by omega
        by_cases c1 : r.From < 16
        · simp [c1, z1, z2, z3, z4, hx]
          rw [h2]; simp [chkL, c1]
        · by_cases c2 : 1048575 < r.To
          · simp [c1, c2, z1, z2, z3, z4, hx]
            rw [h2]; simp [chkL, c1, c2]
          · by_cases c3 : r.To < r.From
            · simp [c1, c2, c3, z1, z2, z3, z4, hx]
              rw [h2]; simp [chkL, c1, c2, c3]
            · have w1 : IntKind.i64.wrap (k : Int) = k := wrap_in (by omega)
              have w2 : IntKind.i64.wrap (p.To + 1) = p.To + 1 := wrap_in (by omega)
              have w3 : IntKind.i64.wrap ((k : Int) + 1 + 1) = k + 1 + 1 := wrap_in (by omega)
              have z5 : (k : Int) < n := by omega
              by_cases c4 : r.From ≤ p.To + 1
              · simp [c1, c2, c3, c4, z1, z2, z3, z4, z5, hx, hp, w1, w2, w3]
                rw [h2]; simp [prev, hp, chkL, c1, c2, c3, c4]
              · simp [c1, c2, c3, c4, z1, z2, z3, z4, z5, hx, hp, w1, w2, w3]
                refine ⟨k + 2, ⟨by omega, ?_, ?_⟩, by omega, by push_cast; omega⟩
                · rw [h2]; simp [prev, hx, hp, chkL, c1, c2, c3, c4]
                · simp [prev, hx]; omega
    · have : i = n := by omega
      subst this
      simp
      rw [h2, List.drop_eq_nil_of_le (by omega)]
      simp [chkL]

set_option maxHeartbeats 1000000 in
set_option maxRecDepth 10000 in
theorem c33 (r : LR) (x : Int) : CFun Try.prog 33 [encLR r, .ptr 0 0] [[.int .i64 x]] (.bool (decide (r.From ≤ x) && decide (x ≤ r.To))) [[.int .i64 x]] := by
  refine CFun.intro (tr := []) (fz := []) (n := 14) (rs := [.tmp 3]) Try.func33 rfl (by kernel_rfl) rfl rfl mixed (by kernel_rfl) (by simp) (by simp) ?_
  by_cases h : r.From ≤ x <;> simp [h]

theorem idxL_any {α : Type} (p : α → Bool) : ∀ (l : List α) (i : Nat), decide (0 ≤ idxL p l i) = l.any p := by
  intro l
  induction l with
  | nil => intro i; simp [idxL]
  | cons x xs ih =>
    intro i
    simp only [idxL, List.any_cons]
    split
    · rename_i h; simp [h]
    · rename_i h; rw [ih]; simp [h]

set_option maxHeartbeats 1000000 in
set_option maxRecDepth 10000 in
theorem c32 (l : List LR) (hlen : l.length < 1099511627776) (p : LR → Bool) (f : FuncId) (fs cs : List AVal) (H : List (List AVal)) (hf : low H.length (.fn f fs cs) = true) (hH : LeBoxes H.length H H)
    (hp : ∀ x ∈ l, CFun Try.prog f (fs ++ [encLR x] ++ cs) H (.bool (p x)) H) : CFun Try.prog 32 [.sl 2 (l.map encLR) .sh, .fn f fs cs] H (.bool (l.any p)) H := by
  refine CFun.intro (tr := []) (fz := []) (n := 9) (rs := [.tmp 4]) Try.func32 rfl (by kernel_rfl) rfl rfl mixed (by kernel_rfl) (by simp) (by simp) ?_
  simp
  refine ⟨_, _, .inl (c42 l l.length rfl hlen p f fs cs H hf hH hp), trivial, ?_⟩
  simp [hH, ← idxL_any p l 0]

def has (l : List LR) (x : Int) : Bool := decide (chk l = 0) && l.any fun r => decide (r.From ≤ x) && decide (x ≤ r.To)

set_option maxHeartbeats 1000000 in
set_option maxRecDepth 10000 in
theorem c17 (l : List LR) (hlen : l.length < 1099511627776) (x : Int) : CFun Try.prog 17 [.sl 2 (l.map encLR) .sh, .int .i64 x] [] (.bool (has l x)) [] := by
  refine CFun.intro (tr := []) (fz := []) (n := 13) (rs := [.tmp 4]) Try.func17 rfl (by kernel_rfl) rfl rfl mixed (by kernel_rfl) (by simp) (by simp) ?_
  simp
  refine ⟨_, _, .inl ((c11 l l.length rfl (by omega)).up' _ rfl rfl), trivial, ?_⟩
  by_cases h : chk l = 0
  · simp [h]
    refine ⟨_, _, .inl (c32 l hlen (fun r => decide (r.From ≤ x) && decide (x ≤ r.To)) 33 [] [.ptr 0 0] [[.int .i64 x]] rfl (by simp) (fun r _ => c33 r x)), trivial, ?_⟩
    simp [has, h]
  · simp [h, has]

set_option maxHeartbeats 1000000 in
set_option maxRecDepth 10000 in
theorem c31 (l : List LR) (hlen : l.length < 8796093022208) : CFun Try.prog 31 [.sl 2 (l.map encLR) .sh] [] (.sl 2 (l.map encLR) .own) [] := by
  refine CFun.intro (tr := []) (fz := []) (n := 8) (rs := [.tmp 2]) Try.func31 rfl (by kernel_rfl) rfl rfl mixed (by kernel_rfl) (by simp) (by simp) ?_
  have s1 : l.length * 16 ≤ 140737488355328 := by omega
  have s2 : l.length ≤ 140737488355328 := by omega
  cases l with
  | nil => simp
  | cons x xs => 
    simp only [List.length_cons] at s1 s2
    simp [s1, s2]

set_option maxHeartbeats 1000000 in
set_option maxRecDepth 10000 in
theorem c29 (l q : List LR) (n i j : Nat) (hn : l.length = n) (hlen : n + q.length ≤ 8796093022208) (hi : i ≤ j) (hj : j ≤ n) : CFun Try.prog 29 [.sl 2 (l.map encLR) .sh, .int .i64 i, .int .i64 j, .sl 2 (q.map encLR) .full] [] (.sl 2 ((l.take i ++ q ++ l.drop j).map encLR) .own) [] := by
  refine CFun.intro (tr := []) (fz := []) (n := 26) (rs := [.tmp 8]) Try.func29 rfl (by kernel_rfl) rfl rfl mixed (by kernel_rfl) (by simp) (by simp) ?_
  have z1 : i ≤ n := by omega
  have z3 : min i n = i := by omega
  have s1 : (i + q.length) * 16 ≤ 140737488355328 := by omega
  have s2 : i + q.length ≤ 140737488355328 := by omega
  have s3 : (i + q.length + (n - j)) * 16 ≤ 140737488355328 := by omega
  have s4 : i + q.length + (n - j) ≤ 140737488355328 := by omega
  have z5 : (0 : Int) ≤ (i : Int) + q.length := by omega
  have z6 : ((i : Int) + q.length).toNat = i + q.length := by omega
  simp [hn, z1, hj, z3, s1, s2, s3, s4, z5, z6]
  have e1 : ((l.map encLR).take i ++ q.map encLR).take (i + q.length) = (l.map encLR).take i ++ q.map encLR := List.take_of_length_le (by simp; omega)
  have e2 : (l.map encLR).take n = l.map encLR := List.take_of_length_le (by simp; omega)
  rw [e1, e2, List.append_assoc]


/-- Take: the label, what is left, and how it went. -/
def takeL (l : List LR) : Int × List LR × Int :=
  if chk l = 0 then match l with
    | [] => (0, [], 8)
    | r :: rs => (r.From, if r.From = r.To then rs else ⟨r.From + 1, r.To⟩ :: rs, 0)
  else (0, [], chk l)

theorem chk_head {r : LR} {rs : List LR} (h : chk (r :: rs) = 0) : 16 ≤ r.From ∧ r.From ≤ r.To ∧ r.To ≤ 1048575 := by
  simp only [chk, chkL] at h
  split at h
  · omega
  · split at h
    · omega
    · omega

set_option maxHeartbeats 1000000 in
set_option maxRecDepth 10000 in
theorem c12 (l : List LR) (hlen : l.length < 8796093022200) : CFun Try.prog 12 [.sl 2 (l.map encLR) .sh] [] (.tup [.int .i64 (takeL l).1, .sl 2 ((takeL l).2.1.map encLR) .sh, .int .i64 (takeL l).2.2]) [] := by
  refine CFun.intro (tr := []) (fz := []) (n := 39) (rs := [.tmp 2, .tmp 3, .tmp 4]) Try.func12 rfl (by kernel_rfl) rfl rfl mixed (by kernel_rfl) (by simp) (by simp) ?_
  simp
  refine ⟨_, _, .inl ((c11 l l.length rfl (by omega)).up' _ rfl rfl), trivial, ?_⟩
  by_cases h : chk l = 0
  · cases l with
    | nil => simp [h, takeL]
    | cons r rs =>
      have hb := chk_head h
      have hl' : rs.length < 8796093022208 := by simp at hlen; omega
      have w1 : IntKind.i64.wrap (r.From + 1) = r.From + 1 := wrap_in (by omega)
      have z1 : ¬ ((rs.length : Int) + 1 = 0) := by omega
      have z2 : (0 : Int) < (rs.length : Int) + 1 := by omega
      have z3 : (1 : Int) ≤ (rs.length : Int) + 1 := by omega
      by_cases hrt : r.From = r.To
      · simp [h, z1, z2, z3, hrt]
        refine ⟨_, _, .inl ((c31 rs hl').up' _ rfl rfl), by simp, ?_⟩
        simp [takeL, h, hrt]
      · simp [h, z1, z2, z3, hrt, w1]
        refine ⟨_, _, .inl ((c29 (r :: rs) [⟨r.From + 1, r.To⟩] (rs.length + 1) 0 1 rfl (by simp at hlen ⊢; omega) (by omega) (by omega)).up' _ rfl rfl), by simp, ?_⟩
        simp [takeL, h, hrt]
  · simp [h, takeL]
end Go.Proofs.Ytlpgadlfpigbhaa
