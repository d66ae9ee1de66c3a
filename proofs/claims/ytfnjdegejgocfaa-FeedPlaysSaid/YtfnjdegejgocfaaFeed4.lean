/- FeedPlays. -/
import Derived.Test.YtfnjdegejgocfaaFeed2
set_option linter.unusedVariables false
set_option linter.unusedSimpArgs false
namespace Go.Proofs.Ytfnjdegejgocfaa.Rf
open Go

theorem joinB_rule {A R : Type} {J : A → Option R} {body : (A → Option R) → Option R} {r : Option R} (Q : A → Prop) (h1 : ∀ x, Q x → J x = r) (h2 : ∀ j : A → Option R, (∀ x, Q x → j x = r) → body j = r) : joinB J body = r := h2 J h1

/-- Two feeds, as the law holds them. -/
def two (a b : Fd) : Rd × (Rd × (Option Fd × (Option Fd × Unit))) := (rdOf a, (rdOf b, (some a, (some b, ()))))

theorem p7_true (m0 m1 : Int) (l : List (Int × (Int × Bool))) : p7 N0 ([m0, m1], (l, ())) = some ((true, ()), ()) := by
  suffices key : ∀ n, n = N0 → p7 n ([m0, m1], (l, ())) = some ((true, ()), ()) from key N0 rfl
  intro n hn
  have z0 : (0 : Int) ≤ 0 := by omega
  have z1 : (0 : Int) ≤ 1 := by omega
  simp only [p7]
  rw [callB_eq (p17_eq n)]
  simp only [Bool.not_true, cond_false]
  by_cases hl : l.length ≤ 100
  case neg => rw [decide_eq_true (by omega), cond_true]
  rw [decide_eq_false (by omega), cond_false]
  simp only [z0, z1, if_true, Int.toNat_zero, Int.toNat_one, List.getElem?_cons_zero, List.getElem?_cons_succ]
  by_cases h0 : 0 ≤ m0 ∧ m0 ≤ 1024
  case neg =>
    rw [callB_eq (p18_no n m0 h0)]
    have f10 : decide ((1 : Int) = 0) = false := rfl
    have : ∃ o, p18 n (m1, ()) = some o := by
      by_cases h1 : 0 ≤ m1 ∧ m1 ≤ 1024
      · obtain ⟨k1, rfl⟩ : ∃ k : Nat, m1 = (k : Int) := ⟨m1.toNat, by omega⟩
        exact ⟨_, p18_ok n k1 (by omega)⟩
      · exact ⟨_, p18_no n m1 h1⟩
    obtain ⟨o, ho⟩ := this
    rw [callB_eq ho]
    refine joinB_rule (fun v => v = ((none, (o.1.1, ())), (false, ()))) ?_ ?_
    · rintro v rfl
      simp only [cond_false, joinB_eq, f10, Bool.not_false, cond_true]
    · intro j hj
      by_cases h1 : 0 ≤ m0
      · have h2 : ¬ m0 ≤ 1024 := by omega
        simp only [decide_eq_true h1, decide_eq_false h2, cond_true, cond_false, f10, beq_self_eq_true, Bool.not_true, Bool.not_false, decide_true]
        exact hj _ rfl
      · simp only [decide_eq_false h1, cond_true, cond_false, f10, beq_self_eq_true, Bool.not_true, Bool.not_false, decide_true]
        exact hj _ rfl
  obtain ⟨k0, rfl⟩ : ∃ k : Nat, m0 = (k : Int) := ⟨m0.toNat, by omega⟩
  rw [callB_eq (p18_ok n k0 (by omega))]
  by_cases h1 : 0 ≤ m1 ∧ m1 ≤ 1024
  case neg =>
    rw [callB_eq (p18_no n m1 h1)]
    refine joinB_rule (fun v => v.2.1 = false) ?_ ?_
    · rintro ⟨v1, v2, u⟩ rfl
      rfl
    · intro j hj
      rw [decide_eq_true h0.1, cond_true, decide_eq_true h0.2]
      exact hj _ rfl
  obtain ⟨k1, rfl⟩ : ∃ k : Nat, m1 = (k : Int) := ⟨m1.toNat, by omega⟩
  rw [callB_eq (p18_ok n k1 (by omega))]
  refine joinB_rule (fun v => v = ((some ((k0, []), (false, 0)), (some ((k1, []), (false, 0)), ())), (false, ()))) ?_ ?_
  case refine_2 =>
    intro j hj
    rw [decide_eq_true h0.1, cond_true, decide_eq_true h0.2]
    exact hj _ rfl
  rintro v rfl
  rw [cond_false]
  refine joinB_rule (fun v => v = ((some ((k0, []), (false, 0)), (some ((k1, []), (false, 0)), ())), (false, ()))) ?_ ?_
  case refine_2 =>
    intro j hj
    exact hj _ rfl
  rintro v rfl
  rw [cond_false]
  refine loop_rule (fun q x r => ∃ (i : Nat) (a b : Fd), q + i = l.length ∧ FdOk a ∧ FdOk b ∧ x = (two a b, ((i : Int), ())) ∧ r = some ((true, ()), ())) ?_ n l.length _ _ (by rw [hn]; unfold N0; omega) ⟨0, ((k0, []), (false, 0)), ((k1, []), (false, 0)), rfl, ⟨Nat.zero_le _, by simp only; omega⟩, ⟨Nat.zero_le _, by simp only; omega⟩, rfl, rfl⟩
  rintro q x r ⟨i, a, b, hq, ha, hb, rfl, rfl⟩ k hk
  have hal : a.1.2.length ≤ 1024 := Nat.le_trans ha.le ha.cap
  have hbl : b.1.2.length ≤ 1024 := Nat.le_trans hb.le hb.cap
  by_cases hi : i < l.length
  case neg =>
    have c1 : ¬ (i : Int) < (l.length : Int) := by omega
    simp only [two, joinB_eq]
    rw [decide_eq_false c1, cond_false, callB_eq (show p39 n (a, ()) = _ from by rw [hn]; exact p39_eq a ha), callB_eq (show p38 n (a.1.2, ((rdOf a).1, ())) = _ from by rw [hn]; exact p38_eq a.1.2 hal)]
    simp only [cond_true]
    rw [callB_eq (show p39 n (b, ()) = _ from by rw [hn]; exact p39_eq b hb), callB_eq (show p38 n (b.1.2, ((rdOf b).1, ())) = _ from by rw [hn]; exact p38_eq b.1.2 hbl)]
  have c1 : (i : Int) < (l.length : Int) := by omega
  have hml : l.length ≤ maxLen := by unfold maxLen; omega
  rw [decide_eq_true c1, cond_true, if_pos (Int.natCast_nonneg i)]
  simp only [Int.toNat_natCast, List.getElem?_eq_getElem hi, wrap_succ hi hml]
  generalize l[i] = o
  obtain ⟨kd, V, ot⟩ := o
  refine joinB_rule (fun v => v = (two a b, (decide (kd = 5) && ot, ()))) ?_ ?_
  case refine_2 =>
    intro j hj
    by_cases h5 : kd = 5
    · rw [decide_eq_true h5, cond_true]
      exact hj _ (by rw [decide_eq_true h5, Bool.true_and])
    · rw [decide_eq_false h5, cond_false]
      exact hj _ (by rw [decide_eq_false h5, Bool.false_and])
  rintro v rfl
  refine joinB_rule (fun v => ∃ a' b', FdOk a' ∧ FdOk b' ∧ v = (two a' b', (true, ()))) ?_ ?_
  · rintro v ⟨a', b', ha', hb', rfl⟩
    simp only [two, joinB_eq, Bool.not_true, cond_false]
    rw [callB_eq (p37_eq n a')]
    simp only [Bool.not_true, cond_false]
    rw [callB_eq (p37_eq n b')]
    simp only [Bool.not_true, cond_false]
    exact hk (q - 1) _ _ (by omega) ⟨i + 1, a', b', by omega, ha', hb', rfl, rfl⟩
  · intro j hj
    have hmv : ∀ (x y : Fd) (V : Int), FdOk x → FdOk y → FdOk ((x.1.1, (mvF y.1.1 y.2.1 V x.1.2 y.1.2 0).1), x.2) ∧ FdOk ((y.1.1, (mvF y.1.1 y.2.1 V x.1.2 y.1.2 0).2.1), y.2) := by
      intro x y V hx hy
      have := mvF_ok y.1.1 y.2.1 V x.1.2 y.1.2 0 hy.le
      exact ⟨⟨Nat.le_trans this.1 hx.le, hx.cap⟩, ⟨this.2, hy.cap⟩⟩
    simp only [two, joinB_eq]
    by_cases h5 : kd = 5
    · rw [decide_eq_true h5]
      cases ot
      · simp only [Bool.and_false, cond_false, cond_true]
        rw [callB_eq (show p32 n (rdOf a, (rdOf b, (V, ()))) = _ from by rw [hn]; exact p32_eq a b V ha hb)]
        simp only
        rw [callB_eq (show p33 n (a, (b, (V, ()))) = _ from by rw [hn]; exact p33_eq a b V ha hb)]
        exact hj _ ⟨_, _, (hmv a b V ha hb).1, (hmv a b V ha hb).2, by rw [decide_eq_true rfl]; rfl⟩
      · simp only [Bool.and_true, cond_true]
        rw [callB_eq (show p32 n (rdOf b, (rdOf a, (V, ()))) = _ from by rw [hn]; exact p32_eq b a V hb ha)]
        simp only
        rw [callB_eq (show p33 n (b, (a, (V, ()))) = _ from by rw [hn]; exact p33_eq b a V hb ha)]
        exact hj _ ⟨_, _, (hmv b a V hb ha).2, (hmv b a V hb ha).1, by rw [decide_eq_true rfl]; rfl⟩
    rw [decide_eq_false h5, Bool.false_and, cond_false, cond_false]
    by_cases h6 : kd = 6
    · rw [decide_eq_true h6, cond_true]
      rw [callB_eq (p34_eq n a b), callB_eq (p35_eq n a ha)]
      obtain ⟨⟨ca, la⟩, ga⟩ := a
      obtain ⟨⟨cb, lb⟩, gb⟩ := b
      cases la with
      | cons v la =>
        simp only [reduceCtorEq, if_false, List.headD_cons, List.isEmpty_cons, Bool.not_false, cond_true, decide_true, beq_self_eq_true]
        exact hj _ ⟨takeF ((ca, v :: la), ga), ((cb, lb), gb), takeF_ok ha, hb, rfl⟩
      | nil =>
        simp only [List.isEmpty_nil, Bool.not_true, cond_false, if_true]
        rw [callB_eq (p35_eq n ((cb, lb), gb) hb)]
        cases lb with
        | cons v lb =>
          simp only [reduceCtorEq, if_false, List.headD_cons, List.isEmpty_cons, Bool.not_false, cond_true, decide_true, beq_self_eq_true]
          exact hj _ ⟨((ca, []), ga), takeF ((cb, v :: lb), gb), ha, takeF_ok hb, rfl⟩
        | nil => exact hj _ ⟨((ca, []), ga), ((cb, []), gb), ha, hb, rfl⟩
    rw [decide_eq_false h6, cond_false]
    cases ot
    · rw [cond_false, callB_eq (show p36 n (a, (rdOf a, ((kd, (V, false)), ()))) = _ from by rw [hn]; exact p36_eq a (kd, (V, false)) ha)]
      exact hj _ ⟨_, _, oneF_ok _ ha, hb, rfl⟩
    · rw [cond_true, callB_eq (show p36 n (b, (rdOf b, ((kd, (V, true)), ()))) = _ from by rw [hn]; exact p36_eq b (kd, (V, true)) hb)]
      exact hj _ ⟨_, _, ha, oneF_ok _ hb, rfl⟩
theorem p7_all (ab : List Int) (l : List (Int × (Int × Bool))) (h : ab.length = 2) : p7 N0 (ab, (l, ())) = some ((true, ()), ()) := by
  match ab, h with
  | [m0, m1], _ => exact p7_true m0 m1 l
end Go.Proofs.Ytfnjdegejgocfaa.Rf
