/- Names: what both texts compute. -/
import Derived.Test.YtgonfcjdhbjkcaaDoorE7
set_option linter.unusedVariables false
set_option linter.unusedSimpArgs false
namespace Go.Proofs.YtgonfcjdhbjkcaaDoor.Rf
open Go

def clsI (c : Int) : Int := if c = 32 ∨ c = 9 ∨ c = 10 ∨ c = 13 then 1 else if 48 ≤ c ∧ c ≤ 57 then 2 else if (97 ≤ c ∧ c ≤ 122) ∨ (65 ≤ c ∧ c ≤ 90) ∨ c = 95 then 3 else if 32 < c ∧ c ≤ 126 then 4 else 0
def okName (c : Int) : Bool := decide (clsI c = 2) || decide (clsI c = 3)
def nameB (s : List Int) : Bool := decide (1 ≤ s.length ∧ s.length ≤ 40) && (decide (clsI (s.headD 0) = 3) && s.all okName)

theorem p52_eq' (c : Int) : p52 N0 (c, ()) = some ((clsI c, ()), ()) := by
  unfold p52 clsI
  simp only [joinB_eq, bif_eq, decide_eq_true_eq]
  by_cases e1 : c = 32
  · subst e1; rfl
  by_cases e2 : c = 9
  · subst e2; rfl
  by_cases e3 : c = 10
  · subst e3; rfl
  by_cases e4 : c = 13
  · subst e4; rfl
  by_cases e5 : c = 95
  · subst e5; rfl
  simp only [e1, e2, e3, e4, e5, if_false, or_self, or_false, false_or, Bool.false_eq_true, decide_false]
  by_cases a1 : 48 ≤ c
  case neg =>
    have a2 : ¬ 97 ≤ c := by omega
    have a3 : ¬ 65 ≤ c := by omega
    have a4 : c ≤ 126 := by omega
    simp only [a1, a2, a3, a4, if_false, if_true, false_and, or_self, Bool.false_eq_true, decide_true, and_true]
    split <;> rfl
  by_cases b1 : c ≤ 57
  · simp only [a1, b1, if_true, and_self, decide_true]
  have a5 : 32 < c := by omega
  by_cases a2 : 97 ≤ c
  · have a3 : 65 ≤ c := by omega
    have b3 : ¬ c ≤ 90 := by omega
    by_cases b2 : c ≤ 122
    · simp only [a1, a2, a3, a5, b1, b2, b3, if_true, if_false, and_self, and_true, and_false, true_or, decide_true, decide_false, Bool.false_eq_true]
    · simp only [a1, a2, a3, a5, b1, b2, b3, if_true, if_false, and_self, and_true, and_false, true_and, or_self, decide_true, decide_false, Bool.false_eq_true, decide_eq_true_eq]
      split <;> rfl
  · by_cases a3 : 65 ≤ c
    · by_cases b3 : c ≤ 90
      · simp only [a1, a2, a3, a5, b1, b3, if_true, if_false, and_self, and_true, and_false, false_and, or_true, decide_true, decide_false, Bool.false_eq_true]
      · simp only [a1, a2, a3, a5, b1, b3, if_true, if_false, and_self, and_true, and_false, false_and, true_and, or_self, decide_true, decide_false, Bool.false_eq_true, decide_eq_true_eq]
        split <;> rfl
    · simp only [a1, a2, a3, a5, b1, if_true, if_false, and_self, and_true, and_false, false_and, true_and, or_self, decide_true, decide_false, Bool.false_eq_true, decide_eq_true_eq]
      split <;> rfl
theorem p46_eq' (l : List Int) (c : Int) (hl : l.length ≤ 100000000) : p46 N0 (l, (c, ())) = some ((decide (c ∈ l), ()), ()) := by
  unfold p46
  refine (loop_up (fun j => ((), ((j : Int), ()))) (fun j => some ((decide (c ∈ l.drop j), ()), ())) l.length (fun j hj k hk => ?_) N0 0 (Nat.zero_le _) (by unfold N0; omega))
  rcases Nat.lt_or_ge j l.length with hlt | hge
  · have hk := hk hlt
    have hc : (j : Int) < (l.length : Int) := by omega
    have hw : IntKind.wrap .i64 ((j : Int) + 1) = ((j + 1 : Nat) : Int) := by rw [wrap64 (by omega) (by omega)]; simp
    rw [List.drop_eq_getElem_cons hlt]
    simp only [hc, decide_true, cond_true, Int.toNat_natCast, Int.natCast_nonneg, if_true, List.getElem?_eq_getElem hlt, hw]
    by_cases e : l[j] = c
    · rw [decide_eq_true e, cond_true]
      rw [decide_eq_true (by rw [e]; simp)]
    · rw [decide_eq_false e, cond_false, hk]
      have : (c ∈ l[j] :: l.drop (j + 1)) = (c ∈ l.drop (j + 1)) := by
        rw [List.mem_cons]
        exact propext ⟨fun h => h.elim (fun h => absurd h.symm e) id, .inr⟩
      simp only [this]
  · have hc : ¬ (j : Int) < (l.length : Int) := by omega
    rw [List.drop_eq_nil_of_le hge]
    simp only [hc, decide_false, cond_false, List.not_mem_nil]
theorem p47_eq' (c : Int) : p47 N0 (c, ()) = some ((decide ((48 ≤ c ∧ c ≤ 57) ∨ (97 ≤ c ∧ c ≤ 122) ∨ (65 ≤ c ∧ c ≤ 90)), ()), ()) := by
  unfold p47
  simp only
  rw [callB_eq (p46_eq' _ c (by simp))]
  simp only
  congr 3
  refine decide_eq_decide.2 ?_
  simp only [List.mem_cons, List.not_mem_nil, or_false]
  omega
theorem p29_eq' (c : Int) : p29 N0 (c, ()) = some ((clsI c, ()), ()) := by
  unfold p29 clsI
  simp only [joinB_eq]
  rw [callB_eq (p46_eq' _ c (by simp))]
  simp only [bif_eq, decide_eq_true_eq, List.mem_cons, List.not_mem_nil, or_false]
  rw [callB_eq (p46_eq' _ c (by simp))]
  simp only [decide_eq_true_eq, List.mem_cons, List.not_mem_nil, or_false]
  rw [callB_eq (p47_eq' c)]
  simp only [decide_eq_true_eq]
  repeat' split
  all_goals first | rfl | (exfalso; omega) | (exfalso; contradiction) | (exfalso; simp_all; done) | (exfalso; simp_all; omega)
theorem name_no10 {s : List Int} (h : nameB s = true) : ∀ c ∈ s, c ≠ 10 := by
  intro c hc e
  simp only [nameB, Bool.and_eq_true, List.all_eq_true] at h
  have := h.2.2 c hc
  subst e
  simp [okName, clsI] at this
theorem name_len {s : List Int} (h : nameB s = true) : 1 ≤ s.length ∧ s.length ≤ 40 := by
  simp only [nameB, Bool.and_eq_true, decide_eq_true_eq] at h
  exact h.1
theorem p44_eq' (s : List Int) : p44 N0 (s, ()) = some ((nameB s, ()), ()) := by
  unfold p44
  simp only [joinB_eq]
  by_cases h40 : (40 : Int) < (s.length : Int)
  · have : nameB s = false := by unfold nameB; rw [decide_eq_false (by omega)]; rfl
    rw [decide_eq_true h40, this]; rfl
  rw [decide_eq_false h40, cond_false]
  cases s with
  | nil => rfl
  | cons a t =>
    have z : ¬ (a :: t) = [] := by simp
    have z0 : (0 : Int) ≤ 0 := by omega
    have g0 : (a :: t)[((0 : Int)).toNat]? = some a := rfl
    rw [decide_eq_false z, cond_false, if_pos z0, g0]
    simp only
    rw [callB_eq (p52_eq' a)]
    have hl : (a :: t).length ≤ 40 := by omega
    have hn : nameB (a :: t) = (decide (clsI a = 3) && (a :: t).all okName) := by
      unfold nameB
      rw [decide_eq_true ⟨by simp, hl⟩]; rfl
    rw [hn]
    by_cases h3 : clsI a = 3
    · rw [decide_eq_true h3]
      simp only [Bool.not_true, cond_false, Bool.true_and]
      generalize hs : a :: t = s at hl
      refine (loop_all (after := some ((true, ()), ())) s okName (some ((false, ()), ())) (fun j => ((), (j : Int), ())) ?s1 ?f1 N0 ?n1).trans ?_
      case f1 => intro k; simp
      case n1 => unfold N0; omega
      case s1 =>
        intro j hj k
        have hc : (j : Int) < (s.length : Int) := by omega
        have hw : IntKind.wrap .i64 ((j : Int) + 1) = ((j + 1 : Nat) : Int) := by rw [wrap64 (by omega) (by omega)]; simp
        simp only [hc, decide_true, cond_true, if_true, Int.toNat_natCast, Int.natCast_nonneg, List.getElem?_eq_getElem hj, hw, p52_eq', callB_some, okName]
        by_cases k2 : clsI s[j] = 2
        · simp [k2]
        · by_cases k3 : clsI s[j] = 3
          · simp [k3]
          · simp [k2, k3]
      · cases s.all okName <;> rfl
    · rw [decide_eq_false h3]; rfl
theorem p13_eq' (s : List Int) (hs : s.length ≤ 100000000) : p13 N0 (s, ()) = some ((nameB s, ()), ()) := by
  unfold p13
  simp only [joinB_eq]
  have hnil : s = [] → nameB s = false := by rintro rfl; rfl
  refine (loop_up (fun j => ((), ((j : Int), ()))) (fun j => some (((decide (1 ≤ s.length ∧ s.length ≤ 40) && ((if j = 0 then decide (clsI (s.headD 0) = 3) else true) && (s.drop j).all okName)), ()), ())) s.length (fun j hj k hk => ?_) N0 0 (Nat.zero_le _) (by unfold N0; omega)).trans (by rw [List.drop_zero]; rfl)
  rcases Nat.lt_or_ge j s.length with hlt | hge
  · have hk := hk hlt
    have hc : (j : Int) < (s.length : Int) := by omega
    have hw : IntKind.wrap .i64 ((j : Int) + 1) = ((j + 1 : Nat) : Int) := by rw [wrap64 (by omega) (by omega)]; simp
    have hh : j = 0 → s.headD 0 = s[j] := by
      rintro rfl
      cases s with
      | nil => simp at hlt
      | cons a t => rfl
    rw [if_neg (by omega)] at hk
    rw [List.drop_eq_getElem_cons hlt, List.all_cons]
    simp only [hc, decide_true, cond_true, if_true, Int.toNat_natCast, Int.natCast_nonneg, List.getElem?_eq_getElem hlt, hw, p29_eq', callB_some]
    by_cases k3 : clsI s[j] = 3
    · have e1 : (if j = 0 then decide (clsI (s.headD 0) = 3) else true) = true := by
        split
        · rename_i e; rw [hh e, decide_eq_true k3]
        · rfl
      rw [decide_eq_true k3, Bool.not_true, cond_false, cond_false, hk, e1]
      simp only [okName, decide_eq_true k3, Bool.or_true, Bool.true_and]
    · rw [decide_eq_false k3, Bool.not_false, cond_true]
      by_cases k2 : clsI s[j] = 2
      · rw [decide_eq_true k2, Bool.not_true, cond_false]
        by_cases j0 : j = 0
        · have e1 : (if j = 0 then decide (clsI (s.headD 0) = 3) else true) = false := by rw [if_pos j0, hh j0, decide_eq_false k3]
          have z : ((j : Nat) : Int) = 0 := by omega
          rw [decide_eq_true z, cond_true, e1, Bool.false_and, Bool.and_false]
        · have z : ¬ ((j : Nat) : Int) = 0 := by omega
          rw [decide_eq_false z, cond_false, hk, if_neg j0]
          simp only [okName, decide_eq_true k2, Bool.true_or, Bool.true_and]
      · rw [decide_eq_false k2, Bool.not_false, cond_true]
        simp only [okName, decide_eq_false k2, decide_eq_false k3, Bool.or_false, Bool.false_and, Bool.and_false]
  · have hc : ¬ (j : Int) < (s.length : Int) := by omega
    have e1 : (decide (1 ≤ s.length ∧ s.length ≤ 40) && ((if j = 0 then decide (clsI (s.headD 0) = 3) else true) && (s.drop j).all okName)) = decide (1 ≤ s.length ∧ s.length ≤ 40) := by
      rw [List.drop_eq_nil_of_le hge]
      split
      · have : s = [] := List.eq_nil_of_length_eq_zero (by omega)
        rw [this]; rfl
      · simp
    simp only
    rw [decide_eq_false hc, cond_false, e1]
    by_cases l1 : (1 : Int) ≤ (s.length : Int)
    · rw [decide_eq_true l1, cond_true]
      congr 3
      exact decide_eq_decide.2 (by omega)
    · rw [decide_eq_false l1, cond_false, decide_eq_false (by omega)]
end Go.Proofs.YtgonfcjdhbjkcaaDoor.Rf
