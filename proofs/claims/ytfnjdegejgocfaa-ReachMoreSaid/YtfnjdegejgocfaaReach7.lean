/- Small ones: rows of booleans that are alike; Concat of two rows of symbols; Clone. -/
import Derived.Test.YtfnjdegejgocfaaReach6
set_option linter.unusedVariables false
set_option linter.unusedSimpArgs false
namespace Go.Proofs.Ytfnjdegejgocfaa.Rf
open Go

theorem p59_eq (a : List Bool) (h : a.length ≤ maxLen) : p59 N0 (a, (a, ())) = some ((true, ()), ()) := by
  unfold p59
  simp only [decide_true, Bool.not_true, cond_false]
  refine (loop_up (fun j => ((), ((j : Int), ()))) (fun j => some ((true, ()), ())) a.length (fun j hj k hk => ?_) N0 0 (Nat.zero_le _) (by have := N0_lt h; omega))
  rcases Nat.lt_or_ge j a.length with hlt | hge
  · have hk := hk hlt
    have hc : ((j : Nat) : Int) < (a.length : Int) := by omega
    have hq : (a[j] == a[j]) = true := by cases a[j] <;> rfl
    simp only [hc, decide_true, cond_true, Int.toNat_natCast, Int.natCast_nonneg, if_true, List.getElem?_eq_getElem hlt, hq, Bool.not_true, cond_false, wrap_succ hlt h]
    exact hk
  · have hc : ¬ ((j : Nat) : Int) < (a.length : Int) := by omega
    simp only [hc, decide_false, cond_false]

theorem p72_eq (a b : List (Bool × Int)) (h : a.length + b.length ≤ 1000) : p72 N0 ([a, b], ()) = some ((a ++ b, ()), ()) := by
  unfold p72
  obtain ⟨n, hn⟩ : ∃ n, N0 = n + 3 := ⟨18446744073709551613, rfl⟩
  rw [hn]
  have w0 : IntKind.wrap .i64 (a.length : Int) = (a.length : Int) := wrap_in (by omega) (by omega)
  have w1 : IntKind.wrap .i64 ((a.length : Int) + (b.length : Int)) = (a.length : Int) + (b.length : Int) := wrap_in (by omega) (by omega)
  have w2 : IntKind.wrap .i64 (1 : Int) = 1 := by decide
  have w3 : IntKind.wrap .i64 ((1 : Int) + 1) = 2 := by decide
  have w4 : IntKind.wrap .i64 (2 : Int) = 2 := by decide
  have c1 : ¬ (a.length : Int) < 0 := by omega
  have c2 : ¬ (a.length : Int) + (b.length : Int) < 0 := by omega
  have c3 : a.length * 16 ≤ 140737488355328 := by omega
  have c4 : a.length ≤ 9223372036854775807 := by omega
  have c5 : (a.length + b.length) * 16 ≤ 140737488355328 := by omega
  have c6 : a.length + b.length ≤ 9223372036854775807 := by omega
  have g : p83 (n + 3) ([], ((a.length : Int) + (b.length : Int), ())) = some (([], ()), ()) := by
    unfold p83
    rw [if_pos ⟨rfl, by simp only; omega, by simp only; omega⟩]
  simp [loopB_succ, w0, w1, w2, w3, w4, c1, c2, c3, c4, c5, c6, g]
end Go.Proofs.Ytfnjdegejgocfaa.Rf
