/- Actions as numbers; tables that are sound: both texts ask the same. -/
import Derived.Test.YtgonfcjdhbjkcaaDoorE12
set_option linter.unusedVariables false
set_option linter.unusedSimpArgs false
namespace Go.Proofs.YtgonfcjdhbjkcaaDoor.Rf
open Go

abbrev Tbl := List (List (Int × Int)) × (List (List Int) × (List Int × List Int))
def actI (a : Int × Int) : Int := if a.1 = 3 then 1073741824 else if a.2 < 0 ∨ 1073741823 ≤ a.2 then 0 else if a.1 = 1 then a.2 + 1 else if a.1 = 2 then -1 - a.2 else 0
def rdAct (prods n : Int) : Int × Int := if n = 1073741824 then (3, prods) else if 0 < n ∧ n < 1073741824 then (1, n - 1) else if n < 0 ∧ -1073741824 < n then (2, -1 - n) else (0, 0)

theorem p28_eq' (n prods : Int) (h : inK .i64 n) : p28 N0 (n, (prods, ())) = some ((rdAct prods n, ()), ()) := by
  simp only [inK, kLo, kHi] at h
  unfold p28 rdAct
  simp only [joinB_eq]
  by_cases c0 : n = 1073741824
  · rw [decide_eq_true c0, if_pos c0]; rfl
  rw [decide_eq_false c0, if_neg c0, cond_false]
  by_cases c1 : 0 < n
  · rw [decide_eq_true c1, cond_true]
    by_cases c2 : n < 1073741824
    · rw [decide_eq_true c2, cond_true, if_pos ⟨c1, c2⟩, wrap64 (by omega) (by omega)]
    · rw [decide_eq_false c2, cond_false, if_neg (fun h => c2 h.2), if_neg (by omega), decide_eq_false (show ¬ n < 0 by omega)]; rfl
  · rw [decide_eq_false c1, cond_false, cond_false, if_neg (fun h => c1 h.1)]
    by_cases c3 : n < 0
    · rw [decide_eq_true c3, cond_true]
      by_cases c4 : -1073741824 < n
      · rw [decide_eq_true c4, cond_true, if_pos ⟨c3, c4⟩, wrap64 (by omega) (by omega)]
      · rw [decide_eq_false c4, cond_false, if_neg (fun h => c4 h.2)]
    · rw [decide_eq_false c3, cond_false, cond_false, if_neg (fun h => c3 h.1)]
theorem p35_eq' (a : Int × Int) : p35 N0 (a, ()) = some ((actI a, ()), ()) := by
  obtain ⟨k, n⟩ := a
  unfold p35 actI
  simp only [joinB_eq]
  by_cases c0 : k = 3
  · rw [decide_eq_true c0, if_pos c0]; rfl
  rw [decide_eq_false c0, if_neg c0, cond_false]
  by_cases c1 : n < 0
  · rw [decide_eq_true c1, if_pos (.inl c1)]; rfl
  by_cases c2 : 1073741823 ≤ n
  · rw [decide_eq_false c1, cond_false, decide_eq_true c2, if_pos (.inr c2)]; rfl
  rw [decide_eq_false c1, cond_false, decide_eq_false c2, cond_false, if_neg (by omega)]
  by_cases c3 : k = 1
  · rw [decide_eq_true c3, cond_true, if_pos c3, wrap64 (by omega) (by omega)]
  rw [decide_eq_false c3, cond_false, if_neg c3]
  by_cases c4 : k = 2
  · rw [decide_eq_true c4, cond_true, if_pos c4, wrap64 (by omega) (by omega)]
  · rw [decide_eq_false c4, cond_false, if_neg c4]
theorem p23_eq' (a : Int × Int) : p23 N0 (a, ()) = some ((actI a, ()), ()) := by
  obtain ⟨k, n⟩ := a
  unfold p23 actI
  simp only [joinB_eq]
  by_cases c0 : k = 3
  · rw [decide_eq_true c0, if_pos c0]; rfl
  rw [decide_eq_false c0, if_neg c0, cond_false]
  by_cases c1 : n < 0
  · rw [decide_eq_true c1, if_pos (.inl c1)]; rfl
  by_cases c2 : 1073741822 < n
  · rw [decide_eq_false c1, cond_false, decide_eq_true c2, if_pos (.inr (by omega))]; rfl
  rw [decide_eq_false c1, cond_false, decide_eq_false c2, cond_false, if_neg (by omega)]
  by_cases c3 : k < 1
  · rw [decide_eq_true c3, cond_true, if_neg (by omega), if_neg (by omega)]; rfl
  rw [decide_eq_false c3, cond_false]
  by_cases c4 : 2 < k
  · rw [decide_eq_true c4, if_neg (by omega), if_neg (by omega)]; rfl
  rw [decide_eq_false c4, cond_false]
  by_cases c5 : k = 2
  · rw [decide_eq_true c5, cond_true, if_neg (by omega), if_pos c5, wrap64 (by omega) (by omega)]
  · rw [decide_eq_false c5, cond_false, if_pos (by omega), wrap64 (by omega) (by omega), Int.add_comm]
theorem actI_in (a : Int × Int) : inK .i64 (actI a) := by
  unfold actI
  simp only [inK, kLo, kHi]
  repeat' split
  all_goals omega

theorem p19_eq' (d : Dfa) (h : Cls d.1) : p19 N0 (d, ()) = some ((d.1, ()), ()) := by
  unfold p19
  refine (loop_up (fun i => ((), (d.1.take i, ((i : Int), ())))) (fun _ => some ((d.1, ()), ())) 256 (fun i hi k hk => ?_) N0 0 (Nat.zero_le _) (by unfold N0; omega))
  rcases Nat.lt_or_ge i 256 with hlt | hge
  · have hk := hk hlt
    have hc : (i : Int) < 256 := by omega
    have hil : i < d.1.length := by rw [h.len]; exact hlt
    obtain ⟨b1, b2⟩ := h.u8 _ (List.getElem_mem hil)
    rw [takeS hil] at hk
    have hl : (d.1.take i).length ≤ 256 := by rw [List.length_take]; omega
    simp only [hc, decide_true, cond_true, if_true, Int.toNat_natCast, Int.natCast_nonneg, List.getElem?_eq_getElem hil, w_succ (show i ≤ 1000000000 by omega), wrap64 (show -9223372036854775808 ≤ d.1[i] by omega) (by omega), List.length_cons, List.length_nil]
    rw [if_pos (by omega), if_pos (by omega)]
    exact hk
  · have hc : ¬ (i : Int) < 256 := by omega
    rw [List.take_of_length_le (by rw [h.len]; omega)]
    simp only [hc, decide_false, cond_false]
def actsI (l : List (List (Int × Int))) : List (List Int) := l.map fun r => r.map actI
theorem p20_eq' (t : Tbl) (hl : t.1.length ≤ 1000000) (hr : ∀ r ∈ t.1, r.length ≤ 1000000) : p20 N0 (t, ()) = some ((actsI t.1, ()), ()) := by
  unfold p20
  refine (loop_up (fun i => ((), (actsI (t.1.take i), ((i : Int), ())))) (fun _ => some ((actsI t.1, ()), ())) t.1.length (fun i hi k hk => ?_) N0 0 (Nat.zero_le _) (by unfold N0; omega))
  rcases Nat.lt_or_ge i t.1.length with hlt | hge
  · have hk := hk hlt
    have hc : (i : Int) < (t.1.length : Int) := by omega
    have hrow := hr _ (List.getElem_mem hlt)
    have e : actsI (t.1.take (i + 1)) = actsI (t.1.take i) ++ [t.1[i].map actI] := by unfold actsI; rw [takeS hlt, List.map_append]; rfl
    rw [e] at hk
    have hal : (actsI (t.1.take i)).length ≤ 1000000 := by simp only [actsI, List.length_map, List.length_take]; omega
    simp only [hc, decide_true, cond_true, if_true, Int.toNat_natCast, Int.natCast_nonneg, List.getElem?_eq_getElem hlt]
    generalize t.1[i] = row at hrow hk
    refine (loop_up (fun j => ((actsI (t.1.take i), ()), ((row.take j).map actI, ((j : Int), ())))) (fun _ => some ((actsI t.1, ()), ())) row.length (fun j hj k2 hk2 => ?_) N0 0 (Nat.zero_le _) (by unfold N0; omega))
    rcases Nat.lt_or_ge j row.length with hlt2 | hge2
    · have hk2 := hk2 hlt2
      have hc2 : (j : Int) < (row.length : Int) := by omega
      rw [takeS hlt2, List.map_append] at hk2
      have hml : ((row.take j).map actI).length ≤ 1000000 := by simp only [List.length_map, List.length_take]; omega
      simp only [hc2, decide_true, cond_true, if_true, Int.toNat_natCast, Int.natCast_nonneg, List.getElem?_eq_getElem hlt2, w_succ (show j ≤ 1000000000 by omega), p35_eq', callB_some, List.length_cons, List.length_nil]
      rw [if_pos (by omega), if_pos (by omega)]
      exact hk2
    · have hc2 : ¬ (j : Int) < (row.length : Int) := by omega
      rw [List.take_of_length_le hge2]
      simp only [hc2, decide_false, cond_false, w_succ (show i ≤ 1000000000 by omega), List.length_cons, List.length_nil]
      rw [if_pos (by omega), if_pos (by omega)]
      exact hk
  · have hc : ¬ (i : Int) < (t.1.length : Int) := by omega
    rw [List.take_of_length_le hge]
    simp only [hc, decide_false, cond_false]
/-- A copy of a table is that table. -/
theorem p7_eq' (t : Tbl) (hl : t.1.length ≤ 1000000) (hr : ∀ r ∈ t.1, r.length ≤ 1000000) : p7 N0 (t, ()) = some ((t, ()), ()) := by
  unfold p7
  refine (loop_up (fun i => ((([], ([], ([], []))), ((t.1.take i, (t.2.1, (t.2.2.1, t.2.2.2))), ())), ((i : Int), ()))) (fun _ => some ((t, ()), ())) t.1.length (fun i hi k hk => ?_) N0 0 (Nat.zero_le _) (by unfold N0; omega))
  rcases Nat.lt_or_ge i t.1.length with hlt | hge
  · have hk := hk hlt
    have hc : (i : Int) < (t.1.length : Int) := by omega
    have hrow := hr _ (List.getElem_mem hlt)
    have htl : (t.1.take i).length ≤ 1000000 := by rw [List.length_take]; omega
    have g := List.getElem?_eq_getElem hlt
    rw [takeS hlt] at hk
    simp only
    rw [decide_eq_true hc, cond_true]
    generalize t.1[i] = row at hrow hk g
    refine (loop_up (fun j => ((([], ([], ([], []))), ((t.1.take i, (t.2.1, (t.2.2.1, t.2.2.2))), ())), (row.take j, ((j : Int), ())))) (fun _ => some ((t, ()), ())) row.length (fun j hj k2 hk2 => ?_) N0 0 (Nat.zero_le _) (by unfold N0; omega))
    rcases Nat.lt_or_ge j row.length with hlt2 | hge2
    · have hk2 := hk2 hlt2
      have hc2 : (j : Int) < (row.length : Int) := by omega
      rw [takeS hlt2] at hk2
      have hml : (row.take j).length ≤ 1000000 := by rw [List.length_take]; omega
      simp only [hc2, decide_true, cond_true, if_true, Int.toNat_natCast, Int.natCast_nonneg, g, List.getElem?_eq_getElem hlt2, w_succ (show j ≤ 1000000000 by omega), List.length_cons, List.length_nil]
      rw [if_pos (by omega), if_pos (by omega)]
      exact hk2
    · have hc2 : ¬ (j : Int) < (row.length : Int) := by omega
      rw [List.take_of_length_le hge2]
      simp only [hc2, decide_false, cond_false, if_true, Int.toNat_natCast, Int.natCast_nonneg, g, w_succ (show i ≤ 1000000000 by omega), List.length_cons, List.length_nil]
      rw [if_pos (by omega), if_pos (by omega)]
      exact hk
  · have hc : ¬ (i : Int) < (t.1.length : Int) := by omega
    rw [List.take_of_length_le hge]
    simp only [hc, decide_false, cond_false]

/-! ### Is a table sound? -/
def okAct (t : Tbl) (a : Int × Int) : Bool :=
  if a.1 = 1 then decide (0 ≤ a.2) && decide (a.2 < (t.1.length : Int)) else if a.1 = 2 then decide (0 ≤ a.2) && decide (a.2 < (t.2.2.1.length : Int)) else decide (a.1 = 0) || decide (a.1 = 3)
def okSt (t : Tbl) (tokens sorts : Nat) (i : Nat) : Bool := decide ((t.1.getD i []).length = tokens + 1) && (decide ((t.2.1.getD i []).length = sorts) && ((t.1.getD i []).all (okAct t) && (t.2.1.getD i []).all (okTo t.1.length)))
def okPr (t : Tbl) (sorts : Nat) (i : Nat) : Bool := decide (0 ≤ t.2.2.1.getD i 0) && (decide (t.2.2.1.getD i 0 < (sorts : Int)) && (decide (0 ≤ t.2.2.2.getD i 0) && decide (t.2.2.2.getD i 0 ≤ 12)))
def checkB (t : Tbl) (tokens sorts : Nat) : Bool := decide (t.1.length ≠ 0) && (decide (t.2.1.length = t.1.length) && (decide (t.2.2.2.length = t.2.2.1.length) && ((List.range t.1.length).all (okSt t tokens sorts) && (List.range t.2.2.1.length).all (okPr t sorts))))
structure Sized (t : Tbl) : Prop where
  a : t.1.length ≤ 1000000
  ar : ∀ r ∈ t.1, r.length ≤ 1000000
  g : t.2.1.length ≤ 1000000
  gr : ∀ r ∈ t.2.1, r.length ≤ 1000000
  s : t.2.2.1.length ≤ 1000000
  l : t.2.2.2.length ≤ 1000000

theorem p41_eq' (t : Tbl) (l : List (Int × Int)) (hl : l.length ≤ 1000000) : p41 N0 (t, (l, ())) = some ((l.all (okAct t), ()), ()) := by
  unfold p41
  simp only [joinB_eq]
  refine (loop_all (after := some ((true, ()), ())) l (okAct t) (some ((false, ()), ())) (fun j => ((), ((j : Int), ()))) ?s1 ?f1 N0 ?n1).trans ?_
  case f1 => intro k; simp
  case n1 => unfold N0; omega
  case s1 =>
    intro j hj k
    have hc : (j : Int) < (l.length : Int) := by omega
    simp only [hc, decide_true, cond_true, if_true, Int.toNat_natCast, Int.natCast_nonneg, List.getElem?_eq_getElem hj, w_succ (show j ≤ 1000000000 by omega), okAct]
    obtain ⟨a, n⟩ := l[j]
    simp only
    by_cases c1 : a = 1
    · by_cases c2 : n < 0
      · have c3 : ¬ 0 ≤ n := by omega
        simp [c1, c2, c3]
      · have c3 : 0 ≤ n := by omega
        by_cases c4 : (t.1.length : Int) ≤ n
        · have c5 : ¬ n < (t.1.length : Int) := by omega
          simp [c1, c2, c3, c4, c5]
        · have c5 : n < (t.1.length : Int) := by omega
          simp [c1, c2, c3, c4, c5]
    · by_cases c6 : a = 2
      · by_cases c2 : n < 0
        · have c3 : ¬ 0 ≤ n := by omega
          simp [c6, c2, c3]
        · have c3 : 0 ≤ n := by omega
          by_cases c4 : (t.2.2.1.length : Int) ≤ n
          · have c5 : ¬ n < (t.2.2.1.length : Int) := by omega
            simp [c6, c2, c3, c4, c5]
          · have c5 : n < (t.2.2.1.length : Int) := by omega
            simp [c6, c2, c3, c4, c5]
      · by_cases c7 : a = 0
        · simp [c7]
        · by_cases c8 : a = 3
          · simp [c8]
          · simp [c1, c6, c7, c8]
  · cases l.all (okAct t) <;> rfl
set_option maxHeartbeats 100000000 in
theorem p26_eq' (t : Tbl) (tokens sorts : Nat) (h : Sized t) (ht : tokens ≤ 100000000) : p26 N0 (t, ((tokens : Int), ((sorts : Int), ()))) = some (((if checkB t tokens sorts = true then 0 else 23), ()), ()) := by
  unfold p26 checkB
  simp only [joinB_eq]
  by_cases c0 : (t.1.length : Int) = 0
  · rw [decide_eq_true c0, decide_eq_false (show ¬ t.1.length ≠ 0 by omega)]; rfl
  rw [decide_eq_false c0, cond_false, decide_eq_true (show t.1.length ≠ 0 by omega)]
  by_cases c1 : (t.2.1.length : Int) = (t.1.length : Int)
  case neg => rw [decide_eq_false c1, decide_eq_false (show ¬ t.2.1.length = t.1.length by omega)]; rfl
  rw [decide_eq_true c1, decide_eq_true (show t.2.1.length = t.1.length by omega)]
  simp only [Bool.not_true, cond_false]
  by_cases c2 : (t.2.2.2.length : Int) = (t.2.2.1.length : Int)
  case neg => rw [decide_eq_false c2, decide_eq_false (show ¬ t.2.2.2.length = t.2.2.1.length by omega)]; rfl
  rw [decide_eq_true c2, decide_eq_true (show t.2.2.2.length = t.2.2.1.length by omega)]
  have w1 : IntKind.wrap .i64 ((tokens : Int) + 1) = ((tokens + 1 : Nat) : Int) := w_succ (by omega)
  simp only [Bool.not_true, cond_false, Bool.true_and, w1]
  refine (loop_all (after := some (((if (List.range t.2.2.1.length).all (okPr t sorts) = true then 0 else 23), ()), ())) (List.range t.1.length) (okSt t tokens sorts) (some ((23, ()), ())) (fun j => ((), ((j : Int), ()))) ?s1 ?f1 N0 ?n1).trans ?_
  case f1 =>
    intro k
    have hc : ¬ (((List.range t.1.length).length : Nat) : Int) < (t.1.length : Int) := by simp
    simp only
    rw [decide_eq_false hc, cond_false]
    refine (loop_all (after := some ((0, ()), ())) (List.range t.2.2.1.length) (okPr t sorts) (some ((23, ()), ())) (fun j => ((), ((j : Int), ()))) ?s2 ?f2 N0 ?n2).trans ?_
    case f2 => intro k; simp
    case n2 => rw [List.length_range]; have := h.s; unfold N0; omega
    case s2 =>
      intro i hi k
      have hi2 : i < t.2.2.1.length := by simpa using hi
      have hi3 : i < t.2.2.2.length := by omega
      have hc : (i : Int) < (t.2.2.1.length : Int) := by omega
      have := h.s
      simp only [hc, decide_true, cond_true, if_true, Int.toNat_natCast, Int.natCast_nonneg, List.getElem?_eq_getElem hi2, List.getElem?_eq_getElem hi3, w_succ (show i ≤ 1000000000 by omega), List.getElem_range, okPr, getD_lt hi2, getD_lt hi3]
      generalize t.2.2.1[i] = s
      generalize t.2.2.2[i] = l
      by_cases e1 : s < 0
      · have : ¬ 0 ≤ s := by omega
        simp [e1, this]
      have e1' : 0 ≤ s := by omega
      by_cases e2 : (sorts : Int) ≤ s
      · have : ¬ s < (sorts : Int) := by omega
        simp [e1, e2, this]
      have e2' : s < (sorts : Int) := by omega
      by_cases e3 : l < 0
      · have : ¬ 0 ≤ l := by omega
        simp [e1, e2, e3, this]
      have e3' : 0 ≤ l := by omega
      by_cases e4 : 12 < l
      · have : ¬ l ≤ 12 := by omega
        simp [e1, e2, e3, e4, this]
      · have : l ≤ 12 := by omega
        simp [e1, e1', e2, e2', e3, e3', e4, this]
    · cases (List.range t.2.2.1.length).all (okPr t sorts) <;> rfl
  case n1 => rw [List.length_range]; have := h.a; unfold N0; omega
  case s1 =>
    intro i hi k
    have hi2 : i < t.1.length := by simpa using hi
    have hi3 : i < t.2.1.length := by omega
    have hc : (i : Int) < (t.1.length : Int) := by omega
    have ha := h.a
    have hr := h.ar _ (List.getElem_mem hi2)
    have hr2 := h.gr _ (List.getElem_mem hi3)
    simp only [hc, decide_true, cond_true, if_true, Int.toNat_natCast, Int.natCast_nonneg, List.getElem?_eq_getElem hi2, List.getElem?_eq_getElem hi3, w_succ (show i ≤ 1000000000 by omega), List.getElem_range, okSt, getD_lt hi2, getD_lt hi3]
    generalize t.1[i] = row at hr
    generalize t.2.1[i] = gs at hr2
    by_cases e1 : (row.length : Int) = ((tokens + 1 : Nat) : Int)
    case neg => rw [decide_eq_false e1, decide_eq_false (show ¬ row.length = tokens + 1 by omega)]; rfl
    rw [decide_eq_true e1, decide_eq_true (show row.length = tokens + 1 by omega)]
    simp only [Bool.not_true, cond_false, Bool.true_and]
    by_cases e2 : (gs.length : Int) = (sorts : Int)
    case neg => rw [decide_eq_false e2, decide_eq_false (show ¬ gs.length = sorts by omega)]; rfl
    rw [decide_eq_true e2, decide_eq_true (show gs.length = sorts by omega)]
    simp only [Bool.not_true, cond_false, Bool.true_and]
    rw [callB_eq (p41_eq' t row hr)]
    cases row.all (okAct t)
    · rfl
    simp only [Bool.not_true, cond_false, Bool.true_and]
    refine (loop_all (after := k ((), (((i + 1 : Nat) : Int), ()))) gs (okTo t.1.length) (some ((23, ()), ())) (fun j => ((), ((j : Int), ()))) ?s3 ?f3 N0 ?n3)
    case f3 => intro k; simp
    case n3 => unfold N0; omega
    case s3 =>
      intro j hj k
      have hc : (j : Int) < (gs.length : Int) := by omega
      simp only [hc, decide_true, cond_true, if_true, Int.toNat_natCast, Int.natCast_nonneg, List.getElem?_eq_getElem hj, w_succ (show j ≤ 1000000000 by omega), okTo]
      generalize gs[j] = to
      by_cases a1 : to < -1
      · have a2 : ¬ -1 ≤ to := by omega
        simp [a1, a2]
      · have a2 : -1 ≤ to := by omega
        by_cases a3 : (t.1.length : Int) ≤ to
        · have a4 : ¬ to < (t.1.length : Int) := by omega
          simp [a1, a2, a3, a4]
        · have a4 : to < (t.1.length : Int) := by omega
          simp [a1, a2, a3, a4]
  · cases (List.range t.1.length).all (okSt t tokens sorts) <;> rfl
set_option maxHeartbeats 100000000 in
theorem p22_eq' (t : Tbl) (tokens sorts : Nat) (h : Sized t) (ht : tokens ≤ 100000000) : p22 N0 (t, ((tokens : Int), ((sorts : Int), ()))) = some ((checkB t tokens sorts, ()), ()) := by
  unfold p22 checkB
  simp only [joinB_eq]
  by_cases c0 : (t.1.length : Int) = 0
  · rw [decide_eq_true c0, decide_eq_false (show ¬ t.1.length ≠ 0 by omega)]; rfl
  rw [decide_eq_false c0, cond_false, decide_eq_true (show t.1.length ≠ 0 by omega)]
  by_cases c1 : (t.2.1.length : Int) = (t.1.length : Int)
  case neg => rw [decide_eq_false c1, decide_eq_false (show ¬ t.2.1.length = t.1.length by omega)]; rfl
  rw [decide_eq_true c1, decide_eq_true (show t.2.1.length = t.1.length by omega)]
  simp only [Bool.not_true, cond_false]
  by_cases c2 : (t.2.2.2.length : Int) = (t.2.2.1.length : Int)
  case neg => rw [decide_eq_false c2, decide_eq_false (show ¬ t.2.2.2.length = t.2.2.1.length by omega)]; rfl
  rw [decide_eq_true c2, decide_eq_true (show t.2.2.2.length = t.2.2.1.length by omega)]
  simp only [Bool.not_true, cond_false, Bool.true_and]
  refine (loop_all (after := some ((((List.range t.2.2.1.length).all (okPr t sorts)), ()), ())) (List.range t.1.length) (okSt t tokens sorts) (some ((false, ()), ())) (fun j => ((), ((j : Int), ()))) ?s1 ?f1 N0 ?n1).trans ?_
  case f1 =>
    intro k
    have hc : ¬ (((List.range t.1.length).length : Nat) : Int) < (t.1.length : Int) := by simp
    simp only
    rw [decide_eq_false hc, cond_false]
    refine (loop_all (after := some ((true, ()), ())) (List.range t.2.2.1.length) (okPr t sorts) (some ((false, ()), ())) (fun j => ((), ((j : Int), ()))) ?s2 ?f2 N0 ?n2).trans ?_
    case f2 => intro k; simp
    case n2 => rw [List.length_range]; have := h.s; unfold N0; omega
    case s2 =>
      intro i hi k
      have hi2 : i < t.2.2.1.length := by simpa using hi
      have hi3 : i < t.2.2.2.length := by omega
      have hc : (i : Int) < (t.2.2.1.length : Int) := by omega
      have := h.s
      simp only [hc, decide_true, cond_true, if_true, Int.toNat_natCast, Int.natCast_nonneg, List.getElem?_eq_getElem hi2, List.getElem?_eq_getElem hi3, w_succ (show i ≤ 1000000000 by omega), List.getElem_range, okPr, getD_lt hi2, getD_lt hi3]
      generalize t.2.2.1[i] = s
      generalize t.2.2.2[i] = l
      by_cases e1 : s < 0
      · have : ¬ 0 ≤ s := by omega
        simp [e1, this]
      have e1' : 0 ≤ s := by omega
      by_cases e2 : (sorts : Int) ≤ s
      · have : ¬ s < (sorts : Int) := by omega
        simp [e1, e2, this]
      have e2' : s < (sorts : Int) := by omega
      by_cases e3 : l < 0
      · have : ¬ 0 ≤ l := by omega
        simp [e1, e2, e3, this]
      have e3' : 0 ≤ l := by omega
      by_cases e4 : 12 < l
      · have : ¬ l ≤ 12 := by omega
        simp [e1, e2, e3, e4, this]
      · have : l ≤ 12 := by omega
        simp [e1, e1', e2, e2', e3, e3', e4, this]
    · cases (List.range t.2.2.1.length).all (okPr t sorts) <;> rfl
  case n1 => rw [List.length_range]; have := h.a; unfold N0; omega
  case s1 =>
    intro i hi k
    have hi2 : i < t.1.length := by simpa using hi
    have hi3 : i < t.2.1.length := by omega
    have hc : (i : Int) < (t.1.length : Int) := by omega
    have ha := h.a
    have hr := h.ar _ (List.getElem_mem hi2)
    have hr2 := h.gr _ (List.getElem_mem hi3)
    have zi : (0 : Int) ≤ (i : Int) := Int.natCast_nonneg _
    simp only [hc, decide_true, cond_true, zi, if_true, Int.toNat_natCast, List.getElem?_eq_getElem hi2, List.getElem?_eq_getElem hi3, w_succ (show i ≤ 1000000000 by omega), List.getElem_range, okSt, getD_lt hi2, getD_lt hi3]
    generalize t.1[i] = row at hr
    generalize t.2.1[i] = gs at hr2
    have w1 : IntKind.wrap .i64 ((row.length : Int) - 1) = (row.length : Int) - 1 := wrap64 (by omega) (by omega)
    rw [w1]
    by_cases e1 : (row.length : Int) - 1 = (tokens : Int)
    case neg => rw [decide_eq_false e1, decide_eq_false (show ¬ row.length = tokens + 1 by omega)]; rfl
    rw [decide_eq_true e1, decide_eq_true (show row.length = tokens + 1 by omega)]
    simp only [Bool.not_true, cond_false, Bool.true_and]
    by_cases e2 : (gs.length : Int) = (sorts : Int)
    case neg => rw [decide_eq_false e2, decide_eq_false (show ¬ gs.length = sorts by omega)]; rfl
    rw [decide_eq_true e2, decide_eq_true (show gs.length = sorts by omega)]
    simp only [Bool.not_true, cond_false, Bool.true_and]
    refine (loop_all (after := if gs.all (okTo t.1.length) = true then k ((), (((i + 1 : Nat) : Int), ())) else some ((false, ()), ())) row (okAct t) (some ((false, ()), ())) (fun j => ((), ((j : Int), ()))) ?s4 ?f4 N0 ?n4).trans ?_
    case n4 => unfold N0; omega
    case s4 =>
      intro j hj k
      have hc : (j : Int) < (row.length : Int) := by omega
      simp only [hc, decide_true, cond_true, if_true, Int.toNat_natCast, Int.natCast_nonneg, List.getElem?_eq_getElem hj, w_succ (show j ≤ 1000000000 by omega), okAct]
      obtain ⟨a, n⟩ := row[j]
      simp only
      by_cases c1 : a = 1
      · subst c1
        by_cases c2 : n < 0
        · have c3 : ¬ 0 ≤ n := by omega
          simp [c2, c3]
        · have c3 : 0 ≤ n := by omega
          by_cases c4 : (t.1.length : Int) ≤ n
          · have c5 : ¬ n < (t.1.length : Int) := by omega
            simp [c2, c3, c4, c5]
          · have c5 : n < (t.1.length : Int) := by omega
            simp [c2, c3, c4, c5]
      · by_cases c6 : a = 2
        · subst c6
          by_cases c2 : n < 0
          · have c3 : ¬ 0 ≤ n := by omega
            simp [c2, c3]
          · have c3 : 0 ≤ n := by omega
            by_cases c4 : (t.2.2.1.length : Int) ≤ n
            · have c5 : ¬ n < (t.2.2.1.length : Int) := by omega
              simp [c2, c3, c4, c5]
            · have c5 : n < (t.2.2.1.length : Int) := by omega
              simp [c2, c3, c4, c5]
        · by_cases c7 : a < 0
          · have d1 : ¬ a = 0 := by omega
            have d2 : ¬ a = 3 := by omega
            simp [c1, c6, c7, d1, d2]
          · by_cases c8 : 3 < a
            · have d1 : ¬ a = 0 := by omega
              have d2 : ¬ a = 3 := by omega
              simp [c1, c6, c7, c8, d1, d2]
            · have d : a = 0 ∨ a = 3 := by omega
              rcases d with d | d <;> subst d <;> simp
    case f4 =>
      intro k4
      have hc : ¬ (row.length : Int) < (row.length : Int) := by omega
      simp only
      rw [decide_eq_false hc, cond_false]
      refine (loop_all (after := k ((), (((i + 1 : Nat) : Int), ()))) gs (okTo t.1.length) (some ((false, ()), ())) (fun j => ((), ((j : Int), ()))) ?s3 ?f3 N0 ?n3)
      case f3 => intro k; simp
      case n3 => unfold N0; omega
      case s3 =>
        intro j hj k
        have hc : (j : Int) < (gs.length : Int) := by omega
        simp only [hc, decide_true, cond_true, if_true, Int.toNat_natCast, Int.natCast_nonneg, List.getElem?_eq_getElem hj, w_succ (show j ≤ 1000000000 by omega), okTo]
        generalize gs[j] = to
        by_cases a1 : to < -1
        · have a2 : ¬ -1 ≤ to := by omega
          simp [a1, a2]
        · have a2 : -1 ≤ to := by omega
          by_cases a3 : (t.1.length : Int) ≤ to
          · have a4 : ¬ to < (t.1.length : Int) := by omega
            simp [a1, a2, a3, a4]
          · have a4 : to < (t.1.length : Int) := by omega
            simp [a1, a2, a3, a4]
    · cases row.all (okAct t) <;> cases gs.all (okTo t.1.length) <;> rfl
  · cases (List.range t.1.length).all (okSt t tokens sorts) <;> cases (List.range t.2.2.1.length).all (okPr t sorts) <;> rfl
end Go.Proofs.YtgonfcjdhbjkcaaDoor.Rf
