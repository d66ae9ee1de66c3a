/- DriveSteps: token by token. -/
import Derived.Test.YtfnjdegejgocfaaDrive6
set_option linter.unusedVariables false
set_option linter.unusedSimpArgs false
namespace Go.Proofs.Ytfnjdegejgocfaa.Rf
open Go

theorem p53_eq (t : Tb) (st : List Int) (d : Bool) : p53 N0 (some (t, (st, d)), ()) = some (((st.length : Int), ()), ()) := rfl
theorem p55_eq (t : Tb) (st : List Int) (d : Bool) : p55 N0 (some (t, (st, d)), ()) = some ((d, ()), ()) := rfl
theorem p51_eq (t : Tb) (st : List Int) (d : Bool) (h : st.length ≤ 10000000) : p51 N0 (some (t, (st, d)), ()) = some ((some (t, (st, d)), ()), ()) := by
  unfold p51
  simp only [p76_eq st h, callB_some]
theorem p49_eq (t : Tb) (tokens sorts : Int) (ht : TbOk t) (hk : inK .i64 tokens) :
    (Chk t tokens sorts → p49 N0 (t, (tokens, (sorts, ()))) = some ((some (t, ([0], false)), (0, ())), ())) ∧ (¬ Chk t tokens sorts → p49 N0 (t, (tokens, (sorts, ()))) = some ((none, (23, ())), ())) := by
  unfold p49
  simp only [p75_eq t tokens sorts ht hk, callB_some]
  exact ⟨fun c => by rw [code_t c]; rfl, fun c => by rw [code_f c]; rfl⟩

theorem le_step {n i : Nat} (h : n ≤ 1 + i * 10001) : n ≤ 1 + (i + 1) * 10001 := Nat.le_trans h (Nat.add_le_add_left (Nat.mul_le_mul_right _ (Nat.le_succ i)) 1)
theorem beq_selfB (d : Bool) : (d == d) = true := by cases d <;> rfl

theorem p10_true (t : Tb) (tokens sorts : Int) (row : List Int) (ht : TbOk t) (hk : inK .i64 tokens) : p10 N0 (t, ([tokens, sorts], (row, ()))) = some ((true, ()), ()) := by
  unfold p10
  simp only [p44_eq, callB_some, joinB_eq, Bool.not_true, cond_false, p45_eq t ht]
  by_cases hs : Sm t
  case neg => rw [bcode_f hs]; rfl
  rw [bcode_t hs]
  simp only [Bool.not_true, cond_false]
  by_cases hr : row.length ≤ 30
  case neg =>
    have : (30 : Int) < (row.length : Int) := by omega
    simp only [this, decide_true, cond_true]
  have hr' : ¬ (30 : Int) < (row.length : Int) := by omega
  have z0 : (0 : Int) ≤ 0 := by omega
  have z1 : (0 : Int) ≤ 1 := by omega
  simp only [hr', decide_false, cond_false, z0, z1, if_true, Int.toNat_zero, Int.toNat_one, List.getElem?_cons_zero, List.getElem?_cons_succ]
  by_cases c : Chk t tokens sorts
  case neg =>
    rw [callB_eq ((p49_eq t tokens sorts ht hk).2 c), callB_eq (p48_eq t ht hs), callB_eq (p50_eq t tokens sorts ht), bcode_f c]
    rfl
  rw [callB_eq ((p49_eq t tokens sorts ht hk).1 c), callB_eq (p48_eq t ht hs), callB_eq (p50_eq t tokens sorts ht), bcode_t c]
  simp only [Bool.not_true, cond_false, decide_true]
  refine loop_rule (fun m x r => ∃ (i : Nat) (st : List Int) (d : Bool), x = ((), (some (t, (st, d)), (st, (d, ((i : Int), ()))))) ∧ m + i = row.length ∧ VS t st ∧ st.length ≤ 1 + i * 10001 ∧ r = some ((true, ()), ())) ?_ N0 row.length _ _ (by unfold N0; omega) ⟨0, [0], false, rfl, rfl, vs0 c, by simp, rfl⟩
  rintro m x r ⟨i, st, d, rfl, hm, hv, hl, rfl⟩ k hk'
  have hlen : st.length ≤ maxLen := by unfold maxLen; omega
  have hp := List.length_pos_iff.2 hv.ne
  have e0 : (0 : Int) ≤ (st.length : Int) - 1 := by omega
  have e1 : ((st.length : Int) - 1).toNat = st.length - 1 := by omega
  simp only [p53_eq, p54_eq t st d hv.ne hlen, p55_eq, callB_some, decide_true, Bool.not_true, cond_true, cond_false, wrap_pred hlen, e0, e1, if_true, top_get hv.ne, beq_selfB]
  rcases Nat.eq_zero_or_pos m with rfl | hm0
  · have : ¬ (i : Int) < (row.length : Int) := by omega
    simp only [this, decide_false, cond_false]
  obtain ⟨m, rfl⟩ : ∃ m', m = m' + 1 := ⟨m - 1, by omega⟩
  have hi : i < row.length := by omega
  have c1 : (i : Int) < (row.length : Int) := by omega
  have hw : IntKind.wrap .i64 ((i : Int) + 1) = ((i + 1 : Nat) : Int) := by rw [wrap_in (by omega) (by omega)]; simp
  simp only [c1, decide_true, cond_true, Int.toNat_natCast, Int.natCast_nonneg, if_true, List.getElem?_eq_getElem hi, hw]
  rw [callB_eq (p51_eq t st d (by omega))]
  generalize row[i] = x
  simp only [cond_false]
  cases d
  case true =>
    rw [callB_eq (p52_done t st x)]
    simp only [cond_true, decide_true, Bool.not_true, cond_false, List.length_nil]
    have z2 : ¬ (0 : Int) < ((0 : Nat) : Int) := by omega
    simp only [z2, decide_false, cond_false]
    exact hk' m _ _ (Nat.lt_succ_self _) ⟨i + 1, st, true, rfl, by omega, hv, le_step hl, rfl⟩
  obtain ⟨p1, p2, p3⟩ := push_ok c hv (Nat.le_refl st.length) x 10001 st [] hv (by simp) (by simp) (by simp)
  have hpu := p52_eq c hv (by omega) x
  have hpv := p56_eq c hv (by omega) x
  generalize push t x st 10001 st [] = r at p1 p2 p3 hpu hpv ⊢
  rw [callB_eq hpu, callB_eq hpv]
  simp only [cond_false, decide_true, Bool.not_true]
  rw [callB_eq (p38_eq r.2.1 (by unfold maxLen; omega))]
  simp only [Bool.not_true, cond_false]
  exact hk' m _ _ (Nat.lt_succ_self _) ⟨i + 1, r.1, r.2.2.2, rfl, by omega, p1, by omega, rfl⟩
theorem p10_all (t : Tb) (ab row : List Int) (ht : TbOk t) (hl : ab.length = 2) (hk : ∀ y ∈ ab, inK .i64 y) : p10 N0 (t, (ab, (row, ()))) = some ((true, ()), ()) := by
  match ab, hl with
  | [tokens, sorts], _ => exact p10_true t tokens sorts row ht (hk _ (by simp))
end Go.Proofs.Ytfnjdegejgocfaa.Rf
