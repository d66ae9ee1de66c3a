/- Rows: the machine and the reference do the same; DriveRows. -/
import Derived.Test.YtfnjdegejgocfaaDrive5
set_option linter.unusedVariables false
set_option linter.unusedSimpArgs false
namespace Go.Proofs.Ytfnjdegejgocfaa.Rf
open Go

theorem push_ok {t : Tb} {tokens sorts : Int} (c : Chk t tokens sorts) {st0 : List Int} (hv0 : VS t st0) {B : Nat} (hB : st0.length ≤ B) (tok : Int) : ∀ k st out, VS t st → st.length ≤ B + out.length → k + out.length = 10001 → out.length ≤ 10000 →
    VS t (push t tok st0 k st out).1 ∧ (push t tok st0 k st out).1.length ≤ B + 10001 ∧ (push t tok st0 k st out).2.1.length ≤ 10000 := by
  intro k
  induction k with
  | zero => intro st out hv h1 h2 h3; exact ⟨hv0, by simp only [push]; omega, by simp [push]⟩
  | succ k ih =>
    intro st out hv h1 h2 h3
    obtain ⟨t0, t1⟩ := hv.top
    have hok := act_cases c t0 t1 tok
    unfold push
    generalize act t (top st) tok = a at hok ⊢
    by_cases k0 : a.1 = 0
    · simp only [k0, if_true]; exact ⟨hv0, by omega, by simp⟩
    by_cases k1 : a.1 = 1
    · simp only [okA, k1, if_true, Bool.and_eq_true, decide_eq_true_eq] at hok
      simp only [k1, if_true, show ¬ (1 : Int) = 0 by omega, if_false]
      exact ⟨VS.snoc hv.ok hok.1 hok.2, by simp only [List.length_append, List.length_cons, List.length_nil]; omega, h3⟩
    by_cases k3 : a.1 = 3
    · simp only [k3, if_true, show ¬ (3 : Int) = 0 by omega, show ¬ (3 : Int) = 1 by omega, if_false]; exact ⟨hv, by omega, h3⟩
    have k2 : a.1 = 2 := by
      unfold okA at hok
      rw [if_neg k1] at hok
      split at hok
      · assumption
      · simp [k0, k3] at hok
    simp only [okA, k2, show ¬ (2 : Int) = 1 by omega, if_true, if_false, Bool.and_eq_true, decide_eq_true_eq] at hok
    simp only [k2, show ¬ (2 : Int) = 1 by omega, show ¬ (2 : Int) = 3 by omega, show ¬ (2 : Int) = 0 by omega, if_false]
    cases hr : red t st a.2 with
    | none => exact ⟨hv0, by simp only; omega, by simp⟩
    | some st' =>
      obtain ⟨r1, r2⟩ := red_ok c hv hok.1 hok.2 hr
      have lo : (out ++ [a.2]).length = out.length + 1 := by simp
      simp only
      split
      · exact ⟨hv0, by simp only; omega, by simp⟩
      · exact ih _ _ r1 (by rw [lo]; omega) (by rw [lo]; omega) (by rw [lo]; omega)

def rowF (t : Tb) (tokens : Int) (row : List Int) : Nat → Nat → List Int → Bool → List Int → List Int × (Int × Int)
  | 0, i, st, d, out => (out, (row.length : Int), 0)
  | k + 1, i, st, d, out =>
    if i < row.length ∧ row.getD i tokens = tokens then ([], (i : Int), 19)
    else if d = true then ([], (i : Int), 20)
    else if (push t (row.getD i tokens) st 10001 st []).2.2.1 = 0 then
      rowF t tokens row k (i + 1) (push t (row.getD i tokens) st 10001 st []).1 (push t (row.getD i tokens) st 10001 st []).2.2.2 (out ++ (push t (row.getD i tokens) st 10001 st []).2.1)
    else ([], (i : Int), (push t (row.getD i tokens) st 10001 st []).2.2.1)

abbrev o46 (r : List Int × (Int × Int)) : Option ((List Int × (Int × (Int × Unit))) × Unit) := some ((r.1, (r.2.1, (r.2.2, ()))), ())

theorem rowF_len {t : Tb} {tokens sorts : Int} (c : Chk t tokens sorts) (row : List Int) : ∀ m i st d out, m + i = row.length + 1 → VS t st → st.length ≤ 1 + i * 10001 → out.length ≤ i * 10000 → row.length ≤ 30 → (rowF t tokens row m i st d out).1.length ≤ 10000 * 31 := by
  intro m
  induction m with
  | zero => intro i st d out h1 hv h2 h3 h4; simp only [rowF]; omega
  | succ m ih =>
    intro i st d out h1 hv h2 h3 h4
    unfold rowF
    split
    · simp
    split
    · simp
    obtain ⟨p1, p2, p3⟩ := push_ok c hv (Nat.le_refl st.length) (row.getD i tokens) 10001 st [] hv (by simp) (by simp) (by simp)
    split
    · exact ih _ _ _ _ (by omega) p1 (by omega) (by rw [List.length_append]; omega) h4
    · simp

theorem vs0 {t : Tb} {tokens sorts : Int} (c : Chk t tokens sorts) : VS t [0] := ⟨by simp, fun s hs => by simp at hs; subst hs; have := c.z; omega⟩

theorem p47_eq (t : Tb) (tokens sorts : Int) (row : List Int) (ht : TbOk t) (hr : row.length ≤ 30) :
    (Chk t tokens sorts → p47 N0 (t, (tokens, (sorts, (row, ())))) = o46 (rowF t tokens row (row.length + 1) 0 [0] false [])) ∧ (¬ Chk t tokens sorts → p47 N0 (t, (tokens, (sorts, (row, ())))) = o46 ([], 0, 23)) := by
  unfold p47
  simp only [p50_eq t tokens sorts ht, callB_some]
  refine ⟨fun c => ?_, fun hc => by rw [bcode_f hc]; rfl⟩
  rw [bcode_t c]
  simp only [Bool.not_true, cond_false]
  refine loop_rule (fun m x r => ∃ i st d out, x = ((), (st, (d, (out, ((i : Nat) : Int), ())))) ∧ m + i = row.length + 1 ∧ VS t st ∧ st.length ≤ 1 + i * 10001 ∧ out.length ≤ i * 10000 ∧ r = o46 (rowF t tokens row m i st d out)) ?_ N0 (row.length + 1) _ _ (by unfold N0; omega) ⟨0, [0], false, [], rfl, rfl, vs0 c, by simp, by simp, rfl⟩
  rintro m x r ⟨i, st, d, out, rfl, hm, hv, hl, ho, rfl⟩ k hk
  rcases Nat.eq_zero_or_pos m with rfl | hm0
  · have : ¬ (i : Int) ≤ (row.length : Int) := by omega
    simp only [this, decide_false, cond_false, rowF]
  obtain ⟨m, rfl⟩ : ∃ m', m = m' + 1 := ⟨m - 1, by omega⟩
  have c1 : (i : Int) ≤ (row.length : Int) := by omega
  obtain ⟨p1, p2, p3⟩ := push_ok c hv (Nat.le_refl st.length) (row.getD i tokens) 10001 st [] hv (by simp) (by simp) (by simp)
  have hpu := p56_eq c hv (by omega) (row.getD i tokens)
  have hw : IntKind.wrap .i64 ((i : Int) + 1) = ((i + 1 : Nat) : Int) := by rw [wrap_in (by omega) (by omega)]; simp
  simp only [c1, decide_true, cond_true, joinB_eq, bif_eq, decide_eq_true_eq, rowF, hw, Int.toNat_natCast, Int.natCast_nonneg, if_true]
  by_cases hi : i < row.length
  · have hi' : (i : Int) < (row.length : Int) := by omega
    have hg : row.getD i tokens = row[i] := by rw [List.getD_eq_getElem?_getD, List.getElem?_eq_getElem hi]; rfl
    rw [hg] at p1 p2 p3 hpu
    simp only [hi, hi', if_true, List.getElem?_eq_getElem hi, hg, true_and]
    by_cases hx : row[i] = tokens
    · simp only [hx, if_true]
    simp only [hx, if_false]
    cases d
    case true => simp only [if_true]
    simp only [Bool.false_eq_true, if_false, hpu, callB_some]
    generalize push t row[i] st 10001 st [] = r at p1 p2 p3 ⊢
    by_cases hc : r.2.2.1 = 0
    · simp only [hc, decide_true, Bool.not_true, Bool.false_eq_true, if_false, if_true]
      rw [if_pos (by omega), if_pos (by omega)]
      exact hk m _ _ (Nat.lt_succ_self _) ⟨i + 1, _, _, _, rfl, by omega, p1, by omega, by rw [List.length_append]; omega, rfl⟩
    · simp only [hc, decide_false, Bool.not_false, if_true, if_false]
  · have hi' : ¬ (i : Int) < (row.length : Int) := by omega
    have hg : row.getD i tokens = tokens := by rw [List.getD_eq_getElem?_getD, List.getElem?_eq_none (by omega)]; rfl
    rw [hg] at p1 p2 p3 hpu
    simp only [hi, hi', if_false, hg, false_and]
    cases d
    case true => simp only [if_true]
    simp only [Bool.false_eq_true, if_false, hpu, callB_some]
    generalize push t tokens st 10001 st [] = r at p1 p2 p3 ⊢
    by_cases hc : r.2.2.1 = 0
    · simp only [hc, decide_true, Bool.not_true, Bool.false_eq_true, if_false, if_true]
      rw [if_pos (by omega), if_pos (by omega)]
      exact hk m _ _ (Nat.lt_succ_self _) ⟨i + 1, _, _, _, rfl, by omega, p1, by omega, by rw [List.length_append]; omega, rfl⟩
    · simp only [hc, decide_false, Bool.not_false, if_true, if_false]

theorem p52_done (t : Tb) (st : List Int) (tok : Int) : p52 N0 ((t, (st, true)), (tok, ())) = some ((([] : List Int), (20, ())), ((t, (st, true)), ())) := by
  unfold p52; rfl

theorem p46_eq (t : Tb) (tokens sorts : Int) (row : List Int) (ht : TbOk t) (hk : inK .i64 tokens) (hr : row.length ≤ 30) :
    (Chk t tokens sorts → p46 N0 (t, (tokens, (sorts, (row, ())))) = o46 (rowF t tokens row (row.length + 1) 0 [0] false [])) ∧ (¬ Chk t tokens sorts → p46 N0 (t, (tokens, (sorts, (row, ())))) = o46 ([], 0, 23)) := by
  unfold p46 p49
  simp only [p75_eq t tokens sorts ht hk, callB_some]
  refine ⟨fun c => ?_, fun hc => by rw [code_f hc]; rfl⟩
  rw [code_t c]
  simp only [decide_true, Bool.not_true, cond_false, callB_some]
  rw [callB_eq (p74_eq row tokens (by omega))]
  refine loop_rule (fun m x r => ∃ i st d out, x = ((some (t, (st, d)), ()), (out, (((i : Nat) : Int), ()))) ∧ m + i = row.length + 1 ∧ VS t st ∧ st.length ≤ 1 + i * 10001 ∧ out.length ≤ i * 10000 ∧ r = o46 (rowF t tokens row m i st d out)) ?_ N0 (row.length + 1) _ _ (by unfold N0; omega) ⟨0, [0], false, [], rfl, rfl, vs0 c, by simp, by simp, rfl⟩
  rintro m x r ⟨i, st, d, out, rfl, hm, hv, hl, ho, rfl⟩ k hk
  have hlen : (row ++ [tokens]).length = row.length + 1 := by simp
  rcases Nat.eq_zero_or_pos m with rfl | hm0
  · have : ¬ (i : Int) < ((row ++ [tokens]).length : Int) := by omega
    simp only [this, decide_false, cond_false, rowF]
  obtain ⟨m, rfl⟩ : ∃ m', m = m' + 1 := ⟨m - 1, by omega⟩
  have c1 : (i : Int) < ((row ++ [tokens]).length : Int) := by omega
  have hx : (row ++ [tokens])[i]? = some (row.getD i tokens) := by
    by_cases hi : i < row.length
    · rw [List.getElem?_append_left hi, List.getD_eq_getElem?_getD, List.getElem?_eq_getElem hi]; rfl
    · have : i = row.length := by omega
      rw [List.getD_eq_getElem?_getD, List.getElem?_eq_none (l := row) (by omega), this]; simp
  obtain ⟨p1, p2, p3⟩ := push_ok c hv (Nat.le_refl st.length) (row.getD i tokens) 10001 st [] hv (by simp) (by simp) (by simp)
  have hpu := p52_eq c hv (by omega) (row.getD i tokens)
  have hw : IntKind.wrap .i64 ((i : Int) + 1) = ((i + 1 : Nat) : Int) := by rw [wrap_in (by omega) (by omega)]; simp
  have hii : ((i : Int) < (row.length : Int)) ↔ i < row.length := by omega
  simp only [c1, decide_true, cond_true, joinB_eq, bif_eq, decide_eq_true_eq, rowF, hw, Int.toNat_natCast, Int.natCast_nonneg, if_true, hx, hii]
  generalize row.getD i tokens = x at p1 p2 p3 hpu ⊢
  generalize push t x st 10001 st [] = r at p1 p2 p3 hpu ⊢
  have tail : (match (match some (t, (st, d)) with | some v11 => some v11 | none => none) with
      | some v9 => callB (p52 N0 (v9, (x, ()))) (fun v10 => if (!decide (v10.1.2.1 = 0)) = true then some ((([] : List Int), ((i : Int), (v10.1.2.1, ()))), ()) else if (out.length + v10.1.1.length) * 8 ≤ 140737488355328 then (if out.length + v10.1.1.length ≤ 9223372036854775807 then k (((some v10.2.1), ()), ((out ++ v10.1.1), (((i + 1 : Nat) : Int), ()))) else none) else none)
      | none => none) = o46 (if d = true then ([], (i : Int), 20) else if r.2.2.1 = 0 then rowF t tokens row m (i + 1) r.1 r.2.2.2 (out ++ r.2.1) else ([], (i : Int), r.2.2.1)) := by
    cases d
    case true => simp only [p52_done, callB_some]; rfl
    simp only [Bool.false_eq_true, if_false, hpu, callB_some]
    by_cases hc : r.2.2.1 = 0
    · simp only [hc, decide_true, Bool.not_true, Bool.false_eq_true, if_false, if_true]
      rw [if_pos (by omega), if_pos (by omega)]
      exact hk m _ _ (Nat.lt_succ_self _) ⟨i + 1, _, _, _, rfl, by omega, p1, by omega, by rw [List.length_append]; omega, rfl⟩
    · simp only [hc, decide_false, Bool.not_false, if_true, if_false]
  by_cases hxt : x = tokens
  · by_cases hi : i < row.length
    · simp only [hxt, hi, if_true, decide_true, and_self]
    · simp only [hxt, hi, if_true, if_false, decide_false, false_and, Bool.false_eq_true]
      rw [hxt] at tail
      exact tail
  · simp only [hxt, if_false, and_false, Bool.false_eq_true]
    exact tail

theorem tb_of {t : Tb} (h : WfT (.st (.pair (.sl (.sl (.st (.pair (.int .i64) (.int .i64))))) (.pair (.sl (.sl (.int .i64))) (.pair (.sl (.int .i64)) (.sl (.int .i64)))))) t) : TbOk t := by
  obtain ⟨⟨h1, h2⟩, ⟨h3, h4⟩, ⟨h5, _⟩, h6, _⟩ := h
  exact ⟨h1, fun r hr => (h2 r hr).1, h3, fun r hr => (h4 r hr).1, h5, h6⟩
theorem p44_eq : p44 N0 () = some ((true, ()), ()) := by kernel_rfl

theorem p9_true (t : Tb) (tokens sorts : Int) (row : List Int) (ht : TbOk t) (hk : inK .i64 tokens) : p9 N0 (t, ([tokens, sorts], (row, ()))) = some ((true, ()), ()) := by
  unfold p9
  simp only [p44_eq, callB_some, joinB_eq, Bool.not_true, cond_false, p45_eq t ht]
  by_cases hs : Sm t
  case neg => rw [bcode_f hs]; rfl
  rw [bcode_t hs]
  simp only [Bool.not_true, cond_false]
  by_cases hr : row.length ≤ 30
  case neg =>
    have : (30 : Int) < (row.length : Int) := by omega
    simp only [this, decide_true, cond_true]
  have hr' : ¬ (30 : Int) < (row.length : Int) := by omega
  have z0 : (0 : Int) ≤ 0 := by omega
  have z1 : (0 : Int) ≤ 1 := by omega
  simp only [hr', decide_false, cond_false, z0, z1, if_true, Int.toNat_zero, Int.toNat_one, List.getElem?_cons_zero, List.getElem?_cons_succ, p48_eq t ht hs, callB_some]
  by_cases c : Chk t tokens sorts
  · rw [(p46_eq t tokens sorts row ht hk hr).1 c, (p47_eq t tokens sorts row ht hr).1 c]
    have hl := rowF_len c row (row.length + 1) 0 [0] false [] rfl (vs0 c) (by simp) (by simp) hr
    generalize rowF t tokens row (row.length + 1) 0 [0] false [] = r at hl ⊢
    simp only [callB_some, p38_eq r.1 (by unfold maxLen; omega), decide_true, cond_true]
  · rw [(p46_eq t tokens sorts row ht hk hr).2 c, (p47_eq t tokens sorts row ht hr).2 c]
    simp only [callB_some, p38_eq ([] : List Int) (by simp), decide_true, cond_true]
theorem p9_all (t : Tb) (ab row : List Int) (ht : TbOk t) (hl : ab.length = 2) (hk : ∀ y ∈ ab, inK .i64 y) : p9 N0 (t, (ab, (row, ()))) = some ((true, ()), ()) := by
  match ab, hl with
  | [tokens, sorts], _ => exact p9_true t tokens sorts row ht (hk _ (by simp))
end Go.Proofs.Ytfnjdegejgocfaa.Rf
