/- Lengths of rows: what both length functions compute. -/
import Derived.Test.YtfnjdegejgocfaaFnD
import Derived.Test.YtfnjdegejgocfaaP0
set_option linter.unusedVariables false
set_option linter.unusedSimpArgs false
namespace Go.Proofs.Ytfnjdegejgocfaa.Rf
open Go

/-- A row's length, begun with n; -1: a sort that comes to nothing. -/
def lenA (d : List Int) : List (Bool × Int) → Int → Int
  | [], n => n
  | s :: b, n => if s.1 = false then lenA d b (if 1073741824 < n + 1 then 1073741824 else n + 1)
    else if s.2 < 0 ∨ (d.length : Int) ≤ s.2 ∨ d.getD s.2.toNat (-1) < 0 then -1
    else lenA d b (if 1073741824 < n + d.getD s.2.toNat (-1) then 1073741824 else n + d.getD s.2.toNat (-1))

def Cap (d : List Int) : Prop := ∀ v ∈ d, v ≤ 1073741824

theorem p71_eq (b : List (Bool × Int)) (d : List Int) (hb : b.length ≤ maxLen) (hd : Cap d) : p71 N0 (b, (d, ())) = some ((lenA d b 0, ()), ()) := by
  unfold p71
  refine loop_rule (fun m x r => ∃ (j : Nat) (n : Int), x = ((), (n, ((j : Int), ()))) ∧ m + j = b.length ∧ 0 ≤ n ∧ n ≤ 1073741824 ∧ r = some ((lenA d (b.drop j) n, ()), ())) ?_ N0 b.length _ _ (by have := N0_lt hb; omega) ⟨0, 0, rfl, rfl, by omega, by omega, rfl⟩
  rintro m x r ⟨j, n, rfl, hm, h0, h1, rfl⟩ k hk
  rcases Nat.eq_zero_or_pos m with rfl | hm0
  · have : ¬ (j : Int) < (b.length : Int) := by omega
    simp only [this, decide_false, cond_false, List.drop_eq_nil_of_le (show b.length ≤ j by omega), lenA]
  obtain ⟨m, rfl⟩ : ∃ m', m = m' + 1 := ⟨m - 1, by omega⟩
  have hj : j < b.length := by omega
  have c1 : (j : Int) < (b.length : Int) := by omega
  simp only [c1, decide_true, cond_true, Int.toNat_natCast, Int.natCast_nonneg, if_true, List.getElem?_eq_getElem hj, wrap_succ hj hb, joinB_eq, bif_eq, decide_eq_true_eq, List.drop_eq_getElem_cons hj, lenA, Bool.not_eq_true']
  generalize b[j] = s
  have w1 : IntKind.wrap .i64 (n + 1) = n + 1 := wrap_in (by omega) (by omega)
  by_cases hs : s.1 = false
  · simp only [hs, if_true, w1]
    exact hk m _ _ (Nat.lt_succ_self _) ⟨j + 1, _, rfl, by omega, by split <;> omega, by split <;> omega, rfl⟩
  by_cases a1 : s.2 < 0
  · simp only [hs, a1, if_true, if_false, true_or, reduceCtorEq]
  by_cases a2 : (d.length : Int) ≤ s.2
  · simp only [hs, a1, a2, if_true, if_false, true_or, or_true, decide_true, reduceCtorEq]
  have a3 : s.2.toNat < d.length := by omega
  have a4 : (0 : Int) ≤ s.2 := by omega
  have hg : d.getD s.2.toNat (-1) = d[s.2.toNat] := by rw [List.getD_eq_getElem?_getD, List.getElem?_eq_getElem a3]; rfl
  have hv := hd _ (List.getElem_mem a3)
  rw [hg]
  simp only [hs, a1, a2, a4, if_true, if_false, false_or, List.getElem?_eq_getElem a3, reduceCtorEq]
  generalize d[s.2.toNat] = v at hv
  by_cases a5 : v < 0
  · simp only [a5, if_true, decide_true]
  have w2 : IntKind.wrap .i64 (n + v) = n + v := wrap_in (by omega) (by omega)
  simp only [a5, if_false, decide_false, Bool.false_eq_true, w2]
  exact hk m _ _ (Nat.lt_succ_self _) ⟨j + 1, _, rfl, by omega, by split <;> omega, by split <;> omega, rfl⟩
theorem p79_eq (g : List (List Int × (Int × List Int)) × (List (List Int) × (List (Int × (List Int × (List (Bool × Int) × (Bool × (Int × List Int))))) × (List (Int × List Int) × Int)))) (b : List (Bool × Int)) (d : List Int) (hb : b.length ≤ maxLen) (hd : Cap d) : p79 N0 (g, (b, (d, ()))) = some ((lenA d b 0, ()), ()) := by
  unfold p79
  refine loop_rule (fun m x r => ∃ (j : Nat) (n : Int), x = ((), (n, ((j : Int), ()))) ∧ m + j = b.length ∧ 0 ≤ n ∧ n ≤ 1073741824 ∧ r = some ((lenA d (b.drop j) n, ()), ())) ?_ N0 b.length _ _ (by have := N0_lt hb; omega) ⟨0, 0, rfl, rfl, by omega, by omega, rfl⟩
  rintro m x r ⟨j, n, rfl, hm, h0, h1, rfl⟩ k hk
  rcases Nat.eq_zero_or_pos m with rfl | hm0
  · have : ¬ (j : Int) < (b.length : Int) := by omega
    simp only [this, decide_false, cond_false, List.drop_eq_nil_of_le (show b.length ≤ j by omega), lenA]
  obtain ⟨m, rfl⟩ : ∃ m', m = m' + 1 := ⟨m - 1, by omega⟩
  have hj : j < b.length := by omega
  have c1 : (j : Int) < (b.length : Int) := by omega
  simp only [c1, decide_true, cond_true, Int.toNat_natCast, Int.natCast_nonneg, if_true, List.getElem?_eq_getElem hj, wrap_succ hj hb, joinB_eq, bif_eq, decide_eq_true_eq, List.drop_eq_getElem_cons hj, lenA, Bool.not_eq_true']
  generalize b[j] = s
  have w1 : IntKind.wrap .i64 (n + 1) = n + 1 := wrap_in (by omega) (by omega)
  by_cases hs : s.1 = false
  · simp only [hs, if_true, w1]
    exact hk m _ _ (Nat.lt_succ_self _) ⟨j + 1, _, rfl, by omega, by split <;> omega, by split <;> omega, rfl⟩
  by_cases a1 : s.2 < 0
  · simp only [hs, a1, if_true, if_false, true_or, reduceCtorEq]
  by_cases a2 : (d.length : Int) ≤ s.2
  · simp only [hs, a1, a2, if_true, if_false, true_or, or_true, decide_true, reduceCtorEq]
  have a3 : s.2.toNat < d.length := by omega
  have a4 : (0 : Int) ≤ s.2 := by omega
  have hg : d.getD s.2.toNat (-1) = d[s.2.toNat] := by rw [List.getD_eq_getElem?_getD, List.getElem?_eq_getElem a3]; rfl
  have hv := hd _ (List.getElem_mem a3)
  rw [hg]
  simp only [hs, a1, a2, a4, if_true, if_false, false_or, List.getElem?_eq_getElem a3, reduceCtorEq]
  generalize d[s.2.toNat] = v at hv
  by_cases a5 : v < 0
  · simp only [a5, if_true, decide_true]
  have w2 : IntKind.wrap .i64 (n + v) = n + v := wrap_in (by omega) (by omega)
  simp only [a5, if_false, decide_false, Bool.false_eq_true, w2]
  exact hk m _ _ (Nat.lt_succ_self _) ⟨j + 1, _, rfl, by omega, by split <;> omega, by split <;> omega, rfl⟩
end Go.Proofs.Ytfnjdegejgocfaa.Rf
