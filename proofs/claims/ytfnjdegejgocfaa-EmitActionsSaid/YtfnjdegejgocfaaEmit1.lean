/- Actions as numbers, and back. The plain law. -/
import Derived.Test.YtfnjdegejgocfaaFnB
import Derived.Test.YtfnjdegejgocfaaP0
set_option linter.unusedVariables false
set_option linter.unusedSimpArgs false
namespace Go.Proofs.Ytfnjdegejgocfaa.Rf
open Go

theorem p24_eq : p24 N0 () = some ((true, ()), ()) := by kernel_rfl

def act (a : Int × Int) : Int :=
  if a.1 = 3 then 1073741824 else if a.2 < 0 ∨ 1073741823 ≤ a.2 then 0 else if a.1 = 1 then a.2 + 1 else if a.1 = 2 then -1 - a.2 else 0
theorem p27_eq (a : Int × Int) : p27 N0 (a, ()) = some ((act a, ()), ()) := by
  unfold p27 act
  simp only [joinB_eq, bif_eq, decide_eq_true_eq]
  by_cases h1 : a.1 = 3
  · simp [h1]
  · by_cases h2 : a.2 < 0
    · simp [h1, h2]
    · by_cases h3 : 1073741823 ≤ a.2
      · simp [h1, h2, h3]
      · have w1 : IntKind.wrap .i64 (a.2 + 1) = a.2 + 1 := wrap_in (by omega) (by omega)
        have w2 : IntKind.wrap .i64 (-1 - a.2) = -1 - a.2 := wrap_in (by omega) (by omega)
        simp only [h1, h2, h3, w1, w2, if_false, or_self, Bool.false_eq_true]
        repeat' split
        all_goals rfl
theorem p25_eq (a : Int × Int) : p25 N0 (a, ()) = some ((act a, ()), ()) := by
  unfold p25 act
  simp only [joinB_eq, bif_eq, decide_eq_true_eq]
  by_cases h1 : a.1 = 3
  · simp [h1]
  · by_cases h2 : a.2 < 0
    · simp [h1, h2]
    · by_cases h3 : 1073741823 ≤ a.2
      · have h4 : (1073741822 : Int) < a.2 := by omega
        simp [h1, h2, h3, h4]
      · have h4 : ¬ (1073741822 : Int) < a.2 := by omega
        have w1 : IntKind.wrap .i64 (1 + a.2) = a.2 + 1 := by rw [Int.add_comm]; exact wrap_in (by omega) (by omega)
        have w2 : IntKind.wrap .i64 (-1 - a.2) = -1 - a.2 := wrap_in (by omega) (by omega)
        simp only [h1, h2, h3, h4, w1, w2, if_false, or_self, Bool.false_eq_true]
        by_cases h5 : a.1 < 1
        · have f1 : ¬ a.1 = 1 := by omega
          have f2 : ¬ a.1 = 2 := by omega
          simp [h5, f1, f2]
        · rw [if_neg h5]
          by_cases h6 : (2 : Int) < a.1
          · have f1 : ¬ a.1 = 1 := by omega
            have f2 : ¬ a.1 = 2 := by omega
            simp [h6, f1, f2]
          · simp only [h6, decide_false, Bool.false_eq_true, if_false]
            by_cases h7 : a.1 = 2
            · rw [if_pos h7, if_neg (by omega), if_pos h7]
            · rw [if_neg h7, if_pos (by omega)]

def rdAct (n prods : Int) : Int × Int :=
  if n = 1073741824 then (3, prods) else if 0 < n ∧ n < 1073741824 then (1, n - 1) else if n < 0 ∧ -1073741824 < n then (2, -1 - n) else (0, 0)
theorem p26_eq (n prods : Int) : p26 N0 (n, (prods, ())) = some ((rdAct n prods, ()), ()) := by
  unfold p26 rdAct
  simp only [joinB_eq, bif_eq, decide_eq_true_eq]
  by_cases h1 : n = 1073741824
  · simp [h1]
  · by_cases h2 : 0 < n
    · by_cases h3 : n < 1073741824
      · have w1 : IntKind.wrap .i64 (n - 1) = n - 1 := wrap_in (by omega) (by omega)
        simp [h1, h2, h3, w1]
      · have h4 : ¬ n < 0 := by omega
        simp [h1, h2, h3, h4]
    · by_cases h3 : n < 0
      · by_cases h4 : -1073741824 < n
        · have w2 : IntKind.wrap .i64 (-1 - n) = -1 - n := wrap_in (by omega) (by omega)
          simp [h1, h2, h3, h4, w2]
        · simp [h1, h2, h3, h4]
      · simp [h1, h2, h3]

theorem p5_true (a : Int × Int) (n prods : Int) : p5 N0 (a, (n, (prods, ()))) = some ((true, ()), ()) := by
  unfold p5
  simp only [p24_eq, callB_some, bif_eq, Bool.not_true, Bool.false_eq_true, if_false]
  rw [show ((a.1, a.2) : Int × Int) = a from rfl, p25_eq, p26_eq, p27_eq]
  simp only [callB_some, decide_true, Bool.not_true, Bool.false_eq_true, if_false, joinB_eq, p27_eq]
  unfold rdAct act
  by_cases h1 : n = 1073741824
  · subst h1
    simp
  by_cases h2 : n = 0
  · subst h2; simp
  by_cases h3 : (1073741824 : Int) < n
  · have g1 : ¬ (0 < n ∧ n < 1073741824) := by omega
    have g2 : ¬ (n < 0 ∧ -1073741824 < n) := by omega
    simp [h1, h2, h3, g1, g2]
  by_cases h4 : n ≤ -1073741824
  · have g1 : ¬ (0 < n ∧ n < 1073741824) := by omega
    have g2 : ¬ (n < 0 ∧ -1073741824 < n) := by omega
    simp [h1, h2, h3, h4, g1, g2]
  by_cases h5 : 0 < n
  · have g1 : 0 < n ∧ n < 1073741824 := by omega
    have g3 : ¬ (n - 1 < 0 ∨ 1073741823 ≤ n - 1) := by omega
    have g4 : (0 : Int) ≤ n - 1 := by omega
    simp only [h1, h2, h3, h4, h5, g1, g3, g4, if_true, if_false, decide_true, decide_false, Bool.false_eq_true, and_self, reduceCtorEq]
    simp
  · have g1 : ¬ (0 < n ∧ n < 1073741824) := by omega
    have g2 : n < 0 ∧ -1073741824 < n := by omega
    have g3 : ¬ (-1 - n < 0 ∨ 1073741823 ≤ -1 - n) := by omega
    have g4 : (0 : Int) ≤ -1 - n := by omega
    have e : -1 - (-1 - n) = n := by omega
    simp only [h1, h2, h3, h4, h5, g1, g2, g3, g4, if_true, if_false, decide_true, decide_false, Bool.false_eq_true, and_self, reduceCtorEq]
    simp [e]
    have q1 : n ≤ -1 ∧ -1 - n < 1073741823 := by omega
    have q2 : n ≤ -1 := by omega
    simp [q1, q2]
end Go.Proofs.Ytfnjdegejgocfaa.Rf
