/- What the law asks beside: small, alike. -/
import Derived.Test.YtgonfcjdhbjkcaaDoorT2
set_option linter.unusedVariables false
set_option linter.unusedSimpArgs false
namespace Go.Proofs.YtgonfcjdhbjkcaaDoor.Rf
open Go

theorem dec_self {α : Type} (a : α) (inst : Decidable (a = a)) : @decide (a = a) inst = true := @decide_eq_true _ inst rfl
def BoolR (P : Prop) (r : Option ((Bool × Unit) × Unit)) : Prop := ∃ b, r = some ((b, ()), ()) ∧ (b = true → P)
theorem boolR_no {P : Prop} : BoolR P (some ((false, ()), ())) := ⟨false, rfl, fun h => by cases h⟩
theorem boolR_yes {P : Prop} (h : P) : BoolR P (some ((true, ()), ())) := ⟨true, rfl, fun _ => h⟩

/-- Rows that are at most c long. -/
theorem small_loop {α : Type} {P : Prop} {body : (Unit × (Int × Unit)) → ((Unit × (Int × Unit)) → Option ((Bool × Unit) × Unit)) → Option ((Bool × Unit) × Unit)} (l : List (List α)) (c : Int) (hl : l.length ≤ 40) (n : Nat) (hn : 100 < n)
    (h1 : ∀ (i : Nat) (k : (Unit × (Int × Unit)) → Option ((Bool × Unit) × Unit)) (h : i < l.length), body ((), ((i : Int), ())) k = bif decide (c < ((l[i].length : Nat) : Int)) then some ((false, ()), ()) else k ((), (((i + 1 : Nat) : Int), ())))
    (h2 : ∀ (i : Nat) (k : (Unit × (Int × Unit)) → Option ((Bool × Unit) × Unit)), ¬ i < l.length → (∀ r ∈ l, (r.length : Int) ≤ c) → BoolR P (body ((), ((i : Int), ())) k)) : BoolR P (loopB body n ((), ((0 : Int), ()))) := by
  refine loop_good (BoolR P) (fun q y => ∃ i : Nat, q + i = l.length ∧ y = ((), ((i : Int), ())) ∧ ∀ r ∈ l.take i, (r.length : Int) ≤ c) ?_ n l.length _ (by omega) ⟨0, rfl, rfl, fun r hr => by simp at hr⟩
  rintro q y ⟨i, hq, rfl, hi⟩ k hk
  by_cases hlt : i < l.length
  · rw [h1 i k hlt]
    by_cases h2 : c < ((l[i].length : Nat) : Int)
    · rw [decide_eq_true h2]; exact boolR_no
    · rw [decide_eq_false h2, cond_false]
      exact hk (q - 1) _ (by omega) ⟨i + 1, by omega, rfl, fun r hr => by
        rw [takeS hlt] at hr
        rcases List.mem_append.1 hr with hr | hr
        · exact hi r hr
        · rw [List.mem_singleton.1 hr]; omega⟩
  · rw [List.take_of_length_le (by omega)] at hi
    exact h2 i k hlt hi

structure SmD (d : Dfa) : Prop where
  n : d.2.1.length ≤ 20
  m : d.2.2.length ≤ 30
  r : ∀ r ∈ d.2.1, r.length ≤ 256
structure SmT (t : Tbl) : Prop where
  a : t.1.length ≤ 40
  g : t.2.1.length ≤ 40
  s : t.2.2.1.length ≤ 40
  l : t.2.2.2.length ≤ 40
  ar : ∀ r ∈ t.1, r.length ≤ 40
  gr : ∀ r ∈ t.2.1, r.length ≤ 40
theorem p5_eq' (d : Dfa) : BoolR (SmD d) (p5 N0 (d, ())) := by
  suffices key : ∀ n, 100 < n → BoolR (SmD d) (p5 n (d, ())) from key N0 (by unfold N0; omega)
  intro n hN
  simp only [p5, joinB_eq]
  by_cases h1 : (20 : Int) < (d.2.1.length : Int)
  · rw [decide_eq_true h1]; exact boolR_no
  rw [decide_eq_false h1, cond_false]
  by_cases h2 : (30 : Int) < (d.2.2.length : Int)
  · rw [decide_eq_true h2]; exact boolR_no
  rw [decide_eq_false h2, cond_false]
  refine small_loop (P := SmD d) d.2.1 256 (by omega) n hN ?_ ?_
  · intro i k h
    have c1 : (i : Int) < (d.2.1.length : Int) := by omega
    simp only [Int.natCast_nonneg, if_true, Int.toNat_natCast, List.getElem?_eq_getElem h]
    rw [decide_eq_true c1, cond_true, w_succ (show i ≤ 1000000000 by omega)]
  · intro i k h hr
    have c1 : ¬ (i : Int) < (d.2.1.length : Int) := by omega
    simp only
    rw [decide_eq_false c1, cond_false]
    exact boolR_yes ⟨by omega, by omega, fun r h => by have := hr r h; omega⟩
theorem p6_eq'' (t : Tbl) : BoolR (SmT t) (p6 N0 (t, ())) := by
  suffices key : ∀ n, 100 < n → BoolR (SmT t) (p6 n (t, ())) from key N0 (by unfold N0; omega)
  intro n hN
  simp only [p6, joinB_eq]
  by_cases h1 : (40 : Int) < (t.1.length : Int)
  · rw [decide_eq_true h1]; exact boolR_no
  rw [decide_eq_false h1, cond_false]
  by_cases h2 : (40 : Int) < (t.2.1.length : Int)
  · rw [decide_eq_true h2]; exact boolR_no
  rw [decide_eq_false h2, cond_false]
  by_cases h3 : (40 : Int) < (t.2.2.1.length : Int)
  · rw [decide_eq_true h3]; exact boolR_no
  rw [decide_eq_false h3, cond_false]
  by_cases h4 : (40 : Int) < (t.2.2.2.length : Int)
  · rw [decide_eq_true h4]; exact boolR_no
  rw [decide_eq_false h4, cond_false]
  refine small_loop (P := SmT t) t.1 40 (by omega) n hN ?_ ?_
  · intro i k h
    have c1 : (i : Int) < (t.1.length : Int) := by omega
    simp only [Int.natCast_nonneg, if_true, Int.toNat_natCast, List.getElem?_eq_getElem h]
    rw [decide_eq_true c1, cond_true, w_succ (show i ≤ 1000000000 by omega)]
  intro i k h ha
  have c1 : ¬ (i : Int) < (t.1.length : Int) := by omega
  simp only
  rw [decide_eq_false c1, cond_false]
  refine small_loop (P := SmT t) t.2.1 40 (by omega) n hN ?_ ?_
  · intro i k h
    have c1 : (i : Int) < (t.2.1.length : Int) := by omega
    simp only [Int.natCast_nonneg, if_true, Int.toNat_natCast, List.getElem?_eq_getElem h]
    rw [decide_eq_true c1, cond_true, w_succ (show i ≤ 1000000000 by omega)]
  · intro i k h hg
    have c1 : ¬ (i : Int) < (t.2.1.length : Int) := by omega
    simp only
    rw [decide_eq_false c1, cond_false]
    exact boolR_yes ⟨by omega, by omega, by omega, by omega, fun r h => by have := ha r h; omega, fun r h => by have := hg r h; omega⟩

theorem p33_eq' (l : List Int) (h : l.length ≤ 1000000) : p33 N0 (l, (l, ())) = some ((true, ()), ()) := by
  suffices key : ∀ n, n = N0 → p33 n (l, (l, ())) = some ((true, ()), ()) from key N0 rfl
  intro n hN
  simp only [p33, dec_self, Bool.not_true, cond_false]
  refine loop_rule (fun q y r => ∃ i : Nat, q + i = l.length ∧ y = ((), ((i : Int), ())) ∧ r = some ((true, ()), ())) ?_ n l.length _ _ (by rw [hN]; unfold N0; omega) ⟨0, rfl, rfl, rfl⟩
  rintro q y r ⟨i, hq, rfl, rfl⟩ k hk
  by_cases hi : i < l.length
  · have c1 : (i : Int) < (l.length : Int) := by omega
    simp only [Int.natCast_nonneg, if_true, Int.toNat_natCast, List.getElem?_eq_getElem hi, dec_self, Bool.not_true, cond_false]
    rw [decide_eq_true c1, cond_true, w_succ (show i ≤ 1000000000 by omega)]
    exact hk (q - 1) _ _ (by omega) ⟨i + 1, by omega, rfl, rfl⟩
  · have c1 : ¬ (i : Int) < (l.length : Int) := by omega
    simp only
    rw [decide_eq_false c1, cond_false]
theorem p31_eq'' (l : List (Int × Int)) (h : l.length ≤ 1000000) : p31 N0 (l, (l, ())) = some ((true, ()), ()) := by
  suffices key : ∀ n, n = N0 → p31 n (l, (l, ())) = some ((true, ()), ()) from key N0 rfl
  intro n hN
  simp only [p31, dec_self, Bool.not_true, cond_false]
  refine loop_rule (fun q y r => ∃ i : Nat, q + i = l.length ∧ y = ((), ((i : Int), ())) ∧ r = some ((true, ()), ())) ?_ n l.length _ _ (by rw [hN]; unfold N0; omega) ⟨0, rfl, rfl, rfl⟩
  rintro q y r ⟨i, hq, rfl, rfl⟩ k hk
  by_cases hi : i < l.length
  · have c1 : (i : Int) < (l.length : Int) := by omega
    simp only [Int.natCast_nonneg, if_true, Int.toNat_natCast, List.getElem?_eq_getElem hi, dec_self, cond_true, cond_false]
    rw [decide_eq_true c1, cond_true, w_succ (show i ≤ 1000000000 by omega)]
    exact hk (q - 1) _ _ (by omega) ⟨i + 1, by omega, rfl, rfl⟩
  · have c1 : ¬ (i : Int) < (l.length : Int) := by omega
    simp only
    rw [decide_eq_false c1, cond_false]
theorem p32_eq'' (l : List (List Int)) (h : l.length ≤ 1000000) (hr : ∀ r ∈ l, r.length ≤ 1000000) : p32 N0 (l, (l, ((), ()))) = some ((true, ()), ()) := by
  suffices key : ∀ n, n = N0 → p32 n (l, (l, ((), ()))) = some ((true, ()), ()) from key N0 rfl
  intro n hN
  simp only [p32, dec_self, Bool.not_true, cond_false]
  refine loop_rule (fun q y r => ∃ i : Nat, q + i = l.length ∧ y = ((), ((i : Int), ())) ∧ r = some ((true, ()), ())) ?_ n l.length _ _ (by rw [hN]; unfold N0; omega) ⟨0, rfl, rfl, rfl⟩
  rintro q y r ⟨i, hq, rfl, rfl⟩ k hk
  by_cases hi : i < l.length
  · have c1 : (i : Int) < (l.length : Int) := by omega
    simp only [Int.natCast_nonneg, if_true, Int.toNat_natCast, List.getElem?_eq_getElem hi]
    rw [decide_eq_true c1, cond_true, callB_eq (show p33 n (l[i], (l[i], ())) = _ from by rw [hN]; exact p33_eq' _ (hr _ (List.getElem_mem hi))), w_succ (show i ≤ 1000000000 by omega)]
    exact hk (q - 1) _ _ (by omega) ⟨i + 1, by omega, rfl, rfl⟩
  · have c1 : ¬ (i : Int) < (l.length : Int) := by omega
    simp only
    rw [decide_eq_false c1, cond_false]
theorem p30_eq'' (l : List (List (Int × Int))) (h : l.length ≤ 1000000) (hr : ∀ r ∈ l, r.length ≤ 1000000) : p30 N0 (l, (l, ((), ()))) = some ((true, ()), ()) := by
  suffices key : ∀ n, n = N0 → p30 n (l, (l, ((), ()))) = some ((true, ()), ()) from key N0 rfl
  intro n hN
  simp only [p30, dec_self, Bool.not_true, cond_false]
  refine loop_rule (fun q y r => ∃ i : Nat, q + i = l.length ∧ y = ((), ((i : Int), ())) ∧ r = some ((true, ()), ())) ?_ n l.length _ _ (by rw [hN]; unfold N0; omega) ⟨0, rfl, rfl, rfl⟩
  rintro q y r ⟨i, hq, rfl, rfl⟩ k hk
  by_cases hi : i < l.length
  · have c1 : (i : Int) < (l.length : Int) := by omega
    simp only [Int.natCast_nonneg, if_true, Int.toNat_natCast, List.getElem?_eq_getElem hi]
    rw [decide_eq_true c1, cond_true, callB_eq (show p31 n (l[i], (l[i], ())) = _ from by rw [hN]; exact p31_eq'' _ (hr _ (List.getElem_mem hi))), w_succ (show i ≤ 1000000000 by omega)]
    exact hk (q - 1) _ _ (by omega) ⟨i + 1, by omega, rfl, rfl⟩
  · have c1 : ¬ (i : Int) < (l.length : Int) := by omega
    simp only
    rw [decide_eq_false c1, cond_false]
theorem p16_eq'' (t : Tbl) (h : SmT t) : p16 N0 (t, (t, ())) = some ((true, ()), ()) := by
  obtain ⟨h1, h2, h3, h4, h5, h6⟩ := h
  simp only [p16, joinB_eq]
  rw [callB_eq (p30_eq'' t.1 (by omega) (fun r hr => by have := h5 r hr; omega))]
  simp only [cond_true]
  rw [callB_eq (p32_eq'' t.2.1 (by omega) (fun r hr => by have := h6 r hr; omega))]
  simp only [cond_true]
  rw [callB_eq (p33_eq' t.2.2.1 (by omega))]
  simp only [cond_true]
  rw [callB_eq (p33_eq' t.2.2.2 (by omega))]
theorem p15_eq'' (d : Dfa) (h : SmD d) : p15 N0 (d, (d, ())) = some ((true, ()), ()) := by
  suffices key : ∀ n, n = N0 → p15 n (d, (d, ())) = some ((true, ()), ()) from key N0 rfl
  intro n hN
  obtain ⟨h1, h2, h3⟩ := h
  simp only [p15, joinB_eq, dec_self, cond_true, cond_false, Bool.not_true]
  refine loop_rule (fun q y r => ∃ i : Nat, q + i = d.2.2.length ∧ y = ((), ((i : Int), ())) ∧ r = some ((true, ()), ())) ?_ n d.2.2.length _ _ (by rw [hN]; unfold N0; omega) ⟨0, rfl, rfl, rfl⟩
  rintro q y r ⟨i, hq, rfl, rfl⟩ k hk
  by_cases hi : i < d.2.2.length
  · have c1 : (i : Int) < (d.2.2.length : Int) := by omega
    simp only [Int.natCast_nonneg, if_true, Int.toNat_natCast, List.getElem?_eq_getElem hi, dec_self, Bool.not_true, cond_false]
    rw [decide_eq_true c1, cond_true, w_succ (show i ≤ 1000000000 by omega)]
    exact hk (q - 1) _ _ (by omega) ⟨i + 1, by omega, rfl, rfl⟩
  have c1 : ¬ (i : Int) < (d.2.2.length : Int) := by omega
  simp only
  rw [decide_eq_false c1, cond_false]
  clear hk
  refine loop_rule (fun q y r => ∃ i : Nat, q + i = d.2.1.length ∧ y = ((), ((i : Int), ())) ∧ r = some ((true, ()), ())) ?_ n d.2.1.length _ _ (by rw [hN]; unfold N0; omega) ⟨0, rfl, rfl, rfl⟩
  rintro q y r ⟨i, hq, rfl, rfl⟩ k hk
  by_cases hi : i < d.2.1.length
  case neg =>
    have c1 : ¬ (i : Int) < (d.2.1.length : Int) := by omega
    simp only
    rw [decide_eq_false c1, cond_false]
  have c1 : (i : Int) < (d.2.1.length : Int) := by omega
  have hr := h3 _ (List.getElem_mem hi)
  simp only [Int.natCast_nonneg, if_true, Int.toNat_natCast, List.getElem?_eq_getElem hi, dec_self, Bool.not_true, cond_false]
  rw [decide_eq_true c1, cond_true]
  have hk' := hk (q - 1) _ _ (by omega) ⟨i + 1, by omega, rfl, rfl⟩
  generalize d.2.1[i] = row at hr ⊢
  refine loop_rule (fun q y r => ∃ j : Nat, q + j = row.length ∧ y = ((), ((j : Int), ())) ∧ r = some ((true, ()), ())) ?_ n row.length _ _ (by rw [hN]; unfold N0; omega) ⟨0, rfl, rfl, rfl⟩
  rintro q2 y r ⟨j, hq2, rfl, rfl⟩ k2 hk2
  by_cases hj : j < row.length
  · have c2 : (j : Int) < (row.length : Int) := by omega
    simp only [Int.natCast_nonneg, if_true, Int.toNat_natCast, List.getElem?_eq_getElem hj, dec_self, Bool.not_true, cond_false]
    rw [decide_eq_true c2, cond_true, w_succ (show j ≤ 1000000000 by omega)]
    exact hk2 (q2 - 1) _ _ (by omega) ⟨j + 1, by omega, rfl, rfl⟩
  · have c2 : ¬ (j : Int) < (row.length : Int) := by omega
    simp only
    rw [decide_eq_false c2, cond_false, w_succ (show i ≤ 1000000000 by omega)]
    exact hk'

/-- Are a table's actions plain? -/
theorem p14_eq'' (t : Tbl) (h : SmT t) : BoolR (∀ r ∈ t.1, ∀ a ∈ r, okPlain t a) (p14 N0 (t, ())) := by
  suffices key : ∀ n, 100 < n → BoolR (∀ r ∈ t.1, ∀ a ∈ r, okPlain t a) (p14 n (t, ())) from key N0 (by unfold N0; omega)
  intro n hN
  obtain ⟨h1, h2, h3, h4, h5, h6⟩ := h
  simp only [p14, joinB_eq]
  refine loop_good (BoolR (∀ r ∈ t.1, ∀ a ∈ r, okPlain t a)) (fun q y => ∃ i : Nat, q + i = t.1.length ∧ y = ((), ((i : Int), ())) ∧ ∀ r ∈ t.1.take i, ∀ a ∈ r, okPlain t a) ?_ n t.1.length _ (by omega) ⟨0, rfl, rfl, fun r hr => by simp at hr⟩
  rintro q y ⟨i, hq, rfl, hp⟩ k hk
  by_cases hi : i < t.1.length
  case neg =>
    have c1 : ¬ (i : Int) < (t.1.length : Int) := by omega
    simp only
    rw [decide_eq_false c1, cond_false]
    rw [List.take_of_length_le (by omega)] at hp
    exact boolR_yes hp
  have c1 : (i : Int) < (t.1.length : Int) := by omega
  have hr := h5 _ (List.getElem_mem hi)
  simp only [Int.natCast_nonneg, if_true, Int.toNat_natCast, List.getElem?_eq_getElem hi]
  rw [decide_eq_true c1, cond_true]
  have hk' : (∀ a ∈ t.1[i], okPlain t a) → BoolR (∀ r ∈ t.1, ∀ a ∈ r, okPlain t a) (k ((), (((i + 1 : Nat) : Int), ()))) := fun ha => hk (q - 1) _ (by omega) ⟨i + 1, by omega, rfl, fun r hr => by
    rw [takeS hi] at hr
    rcases List.mem_append.1 hr with hr | hr
    · exact hp r hr
    · rw [List.mem_singleton.1 hr]; exact ha⟩
  clear hk hp
  generalize t.1[i] = row at hr hk' ⊢
  refine loop_good (BoolR (∀ r ∈ t.1, ∀ a ∈ r, okPlain t a)) (fun q y => ∃ j : Nat, q + j = row.length ∧ y = ((), ((j : Int), ())) ∧ ∀ a ∈ row.take j, okPlain t a) ?_ n row.length _ (by omega) ⟨0, rfl, rfl, fun r hr => by simp at hr⟩
  rintro q2 y ⟨j, hq2, rfl, hp2⟩ k2 hk2
  by_cases hj : j < row.length
  case neg =>
    have c2 : ¬ (j : Int) < (row.length : Int) := by omega
    simp only
    rw [decide_eq_false c2, cond_false, w_succ (show i ≤ 1000000000 by omega)]
    rw [List.take_of_length_le (by omega)] at hp2
    exact hk' hp2
  have c2 : (j : Int) < (row.length : Int) := by omega
  simp only [Int.natCast_nonneg, if_true, Int.toNat_natCast, List.getElem?_eq_getElem hj]
  rw [decide_eq_true c2, cond_true, w_succ (show j ≤ 1000000000 by omega)]
  have hk3 : okPlain t row[j] → BoolR (∀ r ∈ t.1, ∀ a ∈ r, okPlain t a) (k2 ((), (((j + 1 : Nat) : Int), ()))) := fun ha => hk2 (q2 - 1) _ (by omega) ⟨j + 1, by omega, rfl, fun a h => by
    rw [takeS hj] at h
    rcases List.mem_append.1 h with h | h
    · exact hp2 a h
    · rw [List.mem_singleton.1 h]; exact ha⟩
  clear hk2 hp2
  generalize row[j] = a at hk3 ⊢
  obtain ⟨kd, v⟩ := a
  have hk4 : (((kd = 1 ∨ kd = 2) ∧ 0 ≤ v ∧ v < 1073741823) ∨ (kd = 0 ∧ v = 0) ∨ (kd = 3 ∧ v = (t.2.2.1.length : Int))) → BoolR (∀ r ∈ t.1, ∀ a ∈ r, okPlain t a) (k2 ((), (((j + 1 : Nat) : Int), ()))) := hk3
  clear hk3
  generalize k2 ((), (((j + 1 : Nat) : Int), ())) = fin at hk4 ⊢
  simp only
  by_cases k1 : kd = 1
  · subst k1
    by_cases v1 : v < 0
    · simp [v1]; exact boolR_no
    by_cases v2 : 1073741823 ≤ v
    · simp [v1, v2]; exact boolR_no
    have hh := hk4 (by omega); simpa [v1, v2] using hh
  by_cases k2 : kd = 2
  · subst k2
    by_cases v1 : v < 0
    · simp [v1]; exact boolR_no
    by_cases v2 : 1073741823 ≤ v
    · simp [v1, v2]; exact boolR_no
    have hh := hk4 (by omega); simpa [v1, v2] using hh
  by_cases k0 : kd = 0
  · subst k0
    by_cases v1 : v = 0
    · have hh := hk4 (by omega); simpa [v1] using hh
    · simp [v1]; exact boolR_no
  by_cases k4 : kd = 3
  · subst k4
    by_cases v1 : v = (t.2.2.1.length : Int)
    · have hh := hk4 (by omega); simpa [v1] using hh
    · simp [v1]; exact boolR_no
  · simp [k1, k2, k0, k4]; exact boolR_no
end Go.Proofs.YtgonfcjdhbjkcaaDoor.Rf
