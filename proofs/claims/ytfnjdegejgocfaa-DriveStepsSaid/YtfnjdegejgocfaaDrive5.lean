/- A token more: the machine and the reference do the same. -/
import Derived.Test.YtfnjdegejgocfaaDrive4
set_option linter.unusedVariables false
set_option linter.unusedSimpArgs false
namespace Go.Proofs.Ytfnjdegejgocfaa.Rf
open Go

def push (t : Tb) (tok : Int) (st0 : List Int) : Nat → List Int → List Int → List Int × (List Int × (Int × Bool))
  | 0, _, _ => (st0, [], 6, false)
  | k + 1, st, out =>
    if (act t (top st) tok).1 = 0 then (st0, [], 19, false)
    else if (act t (top st) tok).1 = 1 then (st ++ [(act t (top st) tok).2], out, 0, false)
    else if (act t (top st) tok).1 = 3 then (st, out, 0, true)
    else match red t st (act t (top st) tok).2 with
      | none => (st0, [], 23, false)
      | some st' => if 10000 ≤ out.length then (st0, [], 6, false) else push t tok st0 k st' (out ++ [(act t (top st) tok).2])

abbrev o56 (r : List Int × (List Int × (Int × Bool))) : Option ((List Int × (List Int × (Int × (Bool × Unit)))) × Unit) := some ((r.1, (r.2.1, (r.2.2.1, (r.2.2.2, ())))), ())
abbrev o52 (t : Tb) (r : List Int × (List Int × (Int × Bool))) : Option ((List Int × (Int × Unit)) × ((Tb × (List Int × Bool)) × Unit)) := some ((r.2.1, (r.2.2.1, ())), ((t, (r.1, r.2.2.2)), ()))

theorem p56_eq {t : Tb} {tokens sorts : Int} (c : Chk t tokens sorts) {st0 : List Int} (hv0 : VS t st0) (hl0 : st0.length ≤ 1000000) (tok : Int) :
    p56 N0 (t, (st0, (tok, ()))) = o56 (push t tok st0 10001 st0 []) := by
  unfold p56
  simp only [List.length_nil, Nat.zero_add, List.nil_append]
  rw [if_pos (by omega), if_pos (by omega)]
  refine loop_rule (fun m x r => ∃ st out, x = ((), (st, (out, ()))) ∧ VS t st ∧ st.length ≤ 1000000 + out.length ∧ m + out.length = 10001 ∧ out.length ≤ 10000 ∧ r = o56 (push t tok st0 m st out)) ?_ N0 10001 _ _ (by unfold N0; omega) ⟨st0, [], rfl, hv0, by simpa using hl0, rfl, by simp, rfl⟩
  rintro m x r ⟨st, out, rfl, hv, hl, hm, ho, rfl⟩ k hk
  obtain ⟨m, rfl⟩ : ∃ m', m = m' + 1 := ⟨m - 1, by omega⟩
  have hlen : st.length ≤ maxLen := by unfold maxLen; omega
  have hp := List.length_pos_iff.2 hv.ne
  have e0 : (0 : Int) ≤ (st.length : Int) - 1 := by omega
  have e1 : ((st.length : Int) - 1).toNat = st.length - 1 := by omega
  obtain ⟨t0, t1⟩ := hv.top
  obtain ⟨r, g, g1, g2, g3, g4, g5, g6⟩ := c.state t0 t1
  have hok := act_cases c t0 t1 tok
  simp only [wrap_pred hlen, e0, if_true, e1, top_get hv.ne, joinB_eq, bif_eq, decide_eq_true_eq, t0, g1, push]
  by_cases c0 : 0 ≤ tok
  case neg =>
    have ha : act t (top st) tok = (0, 0) := by unfold act; rw [if_neg c0]
    simp [c0, ha]
  by_cases c1 : tok < (r.length : Int)
  case neg =>
    have ha : act t (top st) tok = (0, 0) := by
      unfold act
      rw [if_pos c0, g1]
      simp only [Option.getD_some]
      rw [List.getElem?_eq_none (by omega)]; rfl
    simp [c0, c1, ha]
  have c2 : tok.toNat < r.length := by omega
  have ha : act t (top st) tok = r[tok.toNat] := by
    unfold act
    rw [if_pos c0, g1]
    simp only [Option.getD_some, List.getElem?_eq_getElem c2]
  simp only [c0, c1, if_true, List.getElem?_eq_getElem c2, ← ha]
  generalize act t (top st) tok = a at hok ⊢
  by_cases k0 : a.1 = 0
  · simp only [k0, if_true]
  by_cases k1 : a.1 = 1
  · simp only [k1, if_true, List.length_cons, List.length_nil, show ¬ (1 : Int) = 0 by omega, if_false]
    rw [if_pos (by omega), if_pos (by omega)]
  by_cases k3 : a.1 = 3
  · simp only [k3, if_true, show ¬ (3 : Int) = 0 by omega, show ¬ (3 : Int) = 1 by omega, if_false]
  have k2 : a.1 = 2 := by
    unfold okA at hok
    rw [if_neg k1] at hok
    split at hok
    · assumption
    · simp [k0, k3] at hok
  simp only [okA, k2, show ¬ (2 : Int) = 1 by omega, if_true, if_false, Bool.and_eq_true, decide_eq_true_eq] at hok
  obtain ⟨q0, q1⟩ := hok
  obtain ⟨s, n, e1, e2, s0, s1, n0, n1⟩ := c.prod q0 q1
  have w1 : IntKind.wrap .i64 ((st.length : Int) - n) = (st.length : Int) - n := wrap_in (by omega) (by omega)
  have w2 : IntKind.wrap .i64 ((st.length : Int) - n - 1) = (st.length : Int) - n - 1 := wrap_in (by omega) (by omega)
  have hred := fun st' => red_ok (st' := st') c hv q0 q1
  simp only [k0, k1, k3, if_false, q0, if_true, e1, e2, w1, w2, red, Option.getD_some] at hred ⊢
  by_cases h2 : (st.length : Int) - n < 1
  · simp only [h2, if_true]
  have h3 : (0 : Int) ≤ (st.length : Int) - n - 1 := by omega
  have h4 : ((st.length : Int) - n - 1).toNat < st.length := by omega
  have h5 := hv.ok _ (List.getElem_mem h4)
  have h6 : st.getD ((st.length : Int) - n - 1).toNat 0 = st[((st.length : Int) - n - 1).toNat] := by rw [List.getD_eq_getElem?_getD, List.getElem?_eq_getElem h4]; rfl
  obtain ⟨g', gt1, gt2, gt3, gt4, gt5⟩ := goto_ok c h5.1 h5.2 s0 s1
  simp only [h2, if_false, h3, if_true, List.getElem?_eq_getElem h4, h6, h5.1, gt1, s0, gt3] at hred ⊢
  generalize goto t st[((st.length : Int) - n - 1).toNat] s = to at hred ⊢
  by_cases h7 : to < 0
  · simp only [h7, if_true]
  simp only [h7, if_false] at hred ⊢
  by_cases h10 : 10000 ≤ out.length
  · have h10' : (10000 : Int) ≤ (out.length : Int) := by omega
    simp only [h10, h10', if_true]
  have h10' : ¬ (10000 : Int) ≤ (out.length : Int) := by omega
  have h8 : (0 : Int) ≤ 0 ∧ 0 ≤ (st.length : Int) - n ∧ (st.length : Int) - n ≤ (st.length : Int) := by omega
  have h9 : cutL st 0 ((st.length : Int) - n) = st.take ((st.length : Int) - n).toNat := by unfold cutL; simp
  obtain ⟨r1, r2⟩ := hred _ rfl
  have lo : (out ++ [a.2]).length = out.length + 1 := by simp
  simp only [h10, h10', if_false, h8, and_self, if_true, h9, List.length_take, List.length_cons, List.length_nil]
  rw [if_pos (by omega), if_pos (by omega), if_pos (by omega), if_pos (by omega)]
  exact hk m _ _ (Nat.lt_succ_self _) ⟨_, _, rfl, r1, by rw [lo]; omega, by rw [lo]; omega, by rw [lo]; omega, rfl⟩

theorem p52_eq {t : Tb} {tokens sorts : Int} (c : Chk t tokens sorts) {st0 : List Int} (hv0 : VS t st0) (hl0 : st0.length ≤ 1000000) (tok : Int) :
    p52 N0 ((t, (st0, false)), (tok, ())) = o52 t (push t tok st0 10001 st0 []) := by
  unfold p52
  simp only [cond_false, p76_eq st0 (by omega), callB_some]
  refine loop_rule (fun m x r => ∃ st out, x = (((t, (st, false)), (st0, ())), (out, ())) ∧ VS t st ∧ st.length ≤ 1000000 + out.length ∧ m + out.length = 10001 ∧ out.length ≤ 10000 ∧ r = o52 t (push t tok st0 m st out)) ?_ N0 10001 _ _ (by unfold N0; omega) ⟨st0, [], rfl, hv0, by simpa using hl0, rfl, by simp, rfl⟩
  rintro m x r ⟨st, out, rfl, hv, hl, hm, ho, rfl⟩ k hk
  obtain ⟨m, rfl⟩ : ∃ m', m = m' + 1 := ⟨m - 1, by omega⟩
  have hlen : st.length ≤ maxLen := by unfold maxLen; omega
  obtain ⟨t0, t1⟩ := hv.top
  have hok := act_cases c t0 t1 tok
  simp only [p54_eq t st false hv.ne hlen, callB_some, p77_eq t _ tok t0 t1, joinB_eq, bif_eq, decide_eq_true_eq, push]
  generalize act t (top st) tok = a at hok ⊢
  by_cases k1 : a.1 = 1
  · simp only [k1, if_true, List.length_cons, List.length_nil, show ¬ (1 : Int) = 0 by omega, if_false]
    rw [if_pos (by omega), if_pos (by omega)]
  by_cases k3 : a.1 = 3
  · simp only [k3, if_true, show ¬ (3 : Int) = 0 by omega, show ¬ (3 : Int) = 1 by omega, if_false]
  by_cases k2 : a.1 = 2
  case neg =>
    have k0 : a.1 = 0 := by
      unfold okA at hok
      rw [if_neg k1, if_neg k2] at hok
      simp only [k3, decide_false, Bool.or_false, decide_eq_true_eq] at hok
      exact hok
    simp only [k0, if_true, show ¬ (0 : Int) = 1 by omega, show ¬ (0 : Int) = 3 by omega, show ¬ (0 : Int) = 2 by omega, if_false, show ¬ (19 : Int) = 0 by omega, decide_false, Bool.not_false]
  simp only [okA, k2, show ¬ (2 : Int) = 1 by omega, if_true, if_false, Bool.and_eq_true, decide_eq_true_eq] at hok
  obtain ⟨q0, q1⟩ := hok
  simp only [k2, show ¬ (2 : Int) = 1 by omega, show ¬ (2 : Int) = 3 by omega, show ¬ (2 : Int) = 0 by omega, if_true, if_false, p78_eq c hv (by omega) false q0 q1, List.length_cons, List.length_nil]
  have ha1 : (out.length + (0 + 1)) * 8 ≤ 140737488355328 := by omega
  have ha2 : out.length + (0 + 1) ≤ 9223372036854775807 := by omega
  cases hr : red t st a.2 with
  | none => simp only [callB_some, show ¬ (23 : Int) = 0 by omega, if_false, Bool.false_eq_true, ha1, ha2, if_true, decide_false, Bool.not_false]
  | some st' =>
    obtain ⟨r1, r2⟩ := red_ok c hv q0 q1 hr
    have lo : (out ++ [a.2]).length = out.length + 1 := by simp
    by_cases h10 : 10000 ≤ out.length
    · have h10' : (10000 : Int) ≤ (out.length : Int) := by omega
      simp only [callB_some, h10, h10', if_true, decide_true, ha1, ha2, show ¬ (6 : Int) = 0 by omega, decide_false, Bool.not_false]
    · have h10' : ¬ (10000 : Int) ≤ (out.length : Int) := by omega
      simp only [callB_some, h10, h10', if_true, if_false, decide_true, decide_false, ha1, ha2, Bool.not_true, Bool.false_eq_true]
      exact hk m _ _ (Nat.lt_succ_self _) ⟨_, _, rfl, r1, by rw [lo]; omega, by rw [lo]; omega, by rw [lo]; omega, rfl⟩
end Go.Proofs.Ytfnjdegejgocfaa.Rf
