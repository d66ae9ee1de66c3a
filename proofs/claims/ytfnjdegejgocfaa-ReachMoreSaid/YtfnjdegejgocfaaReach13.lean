/- leads: true just where a way of one edge at least leads back. -/
import Derived.Test.YtfnjdegejgocfaaReach12
set_option linter.unusedVariables false
set_option linter.unusedSimpArgs false
namespace Go.Proofs.Ytfnjdegejgocfaa.Rf
open Go

theorem clone_eq (l : List Int) (h : l.length ≤ 10000000) : p76 N0 (l, ()) = some ((l, ()), ()) := by
  unfold p76
  cases l with
  | nil => simp [nilB, bothB_eq]
  | cons x xs =>
    have c1 : (xs.length + 1) * 8 ≤ 140737488355328 := by simp only [List.length_cons] at h; omega
    have c2 : xs.length + 1 ≤ 9223372036854775807 := by simp only [List.length_cons] at h; omega
    simp [nilB, c1, c2]
theorem cutL_tail {α : Type} (x : α) (xs : List α) : cutL (x :: xs) 1 (((x :: xs).length : Nat) : Int) = xs := by
  unfold cutL
  have e1 : ((1 : Int)).toNat = 1 := rfl
  simp only [e1, Int.toNat_natCast, List.drop_succ_cons, List.drop_zero, List.length_cons]
  exact List.take_of_length_le (by omega)

set_option maxHeartbeats 1000000 in
theorem p73_eq (next : List (List Int)) (from0 : Nat) (hf : from0 < next.length) (hr : InR next) (hk : ∀ row ∈ next, row.length ≤ 10000) (hn : next.length ≤ 100) : p73 N0 (next, ((from0 : Int), ())) = some ((tf (Way (EN next) from0 from0), ()), ()) := by
  unfold p73
  have z0 : (0 : Int) ≤ (next.length : Int) ∧ (next.length : Int) ≤ (next.length : Int) := by omega
  have hrow0 := hk _ (List.getElem_mem hf)
  simp only [z0, and_self, if_true, Int.toNat_natCast, joinB_eq, Int.natCast_nonneg, List.getElem?_eq_getElem hf]
  rw [if_pos (by omega), callB_eq (clone_eq _ (by omega))]
  refine loop_rule (fun m x r => ∃ (seen : List Bool) (opn : List Int), x = ((seen, ()), (opn, ())) ∧ QInv next from0 seen opn ∧ m = mf seen * 10001 + opn.length ∧ m ≤ 2000000 ∧ r = some ((tf (Way (EN next) from0 from0), ()), ())) ?_ N0 (mf (List.replicate next.length false) * 10001 + next[from0].length) _ _ (by
    have := mf_le (List.replicate next.length false)
    rw [List.length_replicate] at this
    unfold N0; omega) ⟨_, _, rfl, qinv0 hr (List.getElem?_eq_getElem hf), rfl, by
    have := mf_le (List.replicate next.length false)
    rw [List.length_replicate] at this
    omega, rfl⟩
  rintro m x r ⟨seen, opn, rfl, hq, hm, hm2, rfl⟩ k2 hk2
  cases opn with
  | nil =>
    rw [tf_f hq.done]
    simp
  | cons a opn =>
    have c1 : (0 : Int) < (((a :: opn).length : Nat) : Int) := by simp only [List.length_cons]; omega
    have c2 : (0 : Int) ≤ 1 ∧ (1 : Int) ≤ (((a :: opn).length : Nat) : Int) ∧ (((a :: opn).length : Nat) : Int) ≤ (((a :: opn).length : Nat) : Int) := by simp only [List.length_cons]; omega
    have e0 : (a :: opn)[((0 : Int)).toNat]? = some a := rfl
    have c3 : (0 : Int) ≤ 0 := by omega
    obtain ⟨a0, a1⟩ := hq.inr a (by simp)
    have a2 : a.toNat < seen.length := by rw [hq.len]; omega
    have a3 : a.toNat < next.length := by omega
    have hb := bit_eq a2
    simp only [c1, c2, c3, decide_true, if_true, and_self, e0, cutL_tail, bif_eq, decide_eq_true_eq, a0, List.getElem?_eq_getElem a2, List.getElem?_eq_getElem a3]
    by_cases e : a = (from0 : Int)
    · simp only [e, if_true]
      rw [tf_t (hq.hit e)]
    · simp only [e, if_false]
      cases hs : seen[a.toNat]
      case true =>
        simp only [Bool.not_true, Bool.false_eq_true, if_false]
        exact hk2 _ _ _ (by rw [hm]; simp only [List.length_cons]; exact Nat.lt_succ_self _) ⟨seen, opn, rfl, hq.skip (by rw [hb]; exact hs), rfl, by rw [hm] at hm2; simp only [List.length_cons] at hm2; omega, rfl⟩
      case false =>
        have hrow := hk _ (List.getElem_mem a3)
        have hlt := mf_set a2 (by rw [hb]; exact hs)
        simp only [List.length_cons] at hm
        simp only [Bool.not_false, if_true]
        rw [if_pos (by omega), if_pos (by omega)]
        exact hk2 (mf (seen.set a.toNat true) * 10001 + (opn ++ next[a.toNat]).length) _ _ (by rw [List.length_append]; omega) ⟨_, _, rfl, hq.push hr e (List.getElem?_eq_getElem a3), rfl, by rw [List.length_append]; omega, rfl⟩
end Go.Proofs.Ytfnjdegejgocfaa.Rf
