/- A feed: what each call computes. -/
import Derived.Test.YtfnjdegejgocfaaFnE
import Derived.Test.YtfnjdegejgocfaaP0
set_option linter.unusedVariables false
set_option linter.unusedSimpArgs false
namespace Go.Proofs.Ytfnjdegejgocfaa.Rf
open Go

/-- A feed: at most, what waits; shut; lost. -/
abbrev Fd := (Nat × List Int) × (Bool × Int)
/-- The document's: what waits, at most, lost, shut. -/
abbrev Rd := List Int × (Int × (Int × Bool))

def rdOf (f : Fd) : Rd := (f.1.2, ((f.1.1 : Int), (f.2.2, f.2.1)))
def incr (n : Int) : Int := IntKind.wrap .i64 (n + 1)
/-- May one more wait? -/
def room (f : Fd) : Bool := !f.2.1 && chRoom f.1
def putF (f : Fd) (v : Int) : Fd := if room f = true then ((f.1.1, f.1.2 ++ [v]), f.2) else (f.1, (f.2.1, incr f.2.2))

theorem ix_dec (b : Bool) : decide (chIx b = (0 : Int)) = b := by cases b <;> rfl
theorem has_nil (c : Nat) : chHas (c, []) = false := rfl
theorem has_cons (c : Nat) (v : Int) (l : List Int) : chHas (c, v :: l) = true := rfl
theorem room_iff (x : Nat × List Int) : chRoom x = true ↔ x.2.length < x.1 := chRoom_iff
theorem room_dec (x : Nat × List Int) : chRoom x = decide (x.2.length < x.1) := by
  by_cases h : x.2.length < x.1
  · rw [chRoom_iff.2 h, decide_eq_true h]
  · rw [decide_eq_false h]
    cases hc : chRoom x
    · rfl
    · exact absurd (chRoom_iff.1 hc) h

theorem p18_ok (n m : Nat) (h : m ≤ 1024) : p18 n ((m : Int), ()) = some ((some ((m, []), (false, 0)), (0, ())), ()) := by
  have h1 : ¬ (m : Int) < 0 := by omega
  have h2 : ¬ (1024 : Int) < (m : Int) := by omega
  have h3 : (0 : Int) ≤ (m : Int) := by omega
  have h4 : (m : Int) ≤ 1024 := by omega
  simp only [p18, joinB_eq, h1, h2, h3, h4, decide_true, decide_false, cond_true, cond_false, Bool.and_self, Int.toNat_natCast]
theorem p18_no (n : Nat) (m : Int) (h : ¬ (0 ≤ m ∧ m ≤ 1024)) : p18 n (m, ()) = some ((none, (1, ())), ()) := by
  by_cases h1 : m < 0
  · simp only [p18, joinB_eq, h1, decide_true, cond_true]
  · have h2 : (1024 : Int) < m := by omega
    simp only [p18, joinB_eq, h1, h2, decide_true, decide_false, cond_true, cond_false]
theorem p19_eq (n : Nat) (f : Fd) (v : Int) : p19 n (f, (v, ())) = some ((bif room f then 0 else 2, ()), (putF f v, ())) := by
  obtain ⟨⟨c, l⟩, s, lo⟩ := f
  cases s
  · cases hr : chRoom (c, l)
    · simp [p19, putF, room, hr, chIx, chPut, incr]
    · simp [p19, putF, room, hr, chIx, chPut, incr]
  · simp [p19, putF, room, incr]
def takeF (f : Fd) : Fd := ((f.1.1, f.1.2.tail), f.2)
theorem p22_eq (n : Nat) (f : Fd) : p22 n (f, ()) = some ((f.1.2.headD 0, (bif f.1.2.isEmpty then 3 else 0, ())), (takeF f, ())) := by
  obtain ⟨⟨c, l⟩, s, lo⟩ := f
  cases l <;> rfl
theorem p23_eq (n : Nat) (f : Fd) : p23 n (f, ()) = some (((f.1.2.length : Int), ()), (f, ())) := rfl
theorem p20_eq (n : Nat) (f : Fd) : p20 n (f, ()) = some ((f.2.2, ()), (f, ())) := rfl
theorem p69_eq (n : Nat) (f : Fd) : p69 n (f, ()) = some (((f.1.1 : Int), ()), (f, ())) := rfl
theorem p68_eq (n : Nat) (f : Fd) : p68 n (f, ()) = some ((), ((f.1, (true, f.2.2)), ())) := rfl
theorem p70_eq (n : Nat) (f : Fd) : p70 n (f, ()) = some ((f.2.1 && f.1.2.isEmpty, ()), (f, ())) := by
  obtain ⟨⟨c, l⟩, s, lo⟩ := f
  have e : decide ((l.length : Int) = 0) = l.isEmpty := by cases l <;> rfl
  cases s
  · rfl
  · simp only [p70, joinB_eq, cond_true, Bool.true_and, e]

/-- At most 1024. -/
structure FdOk (f : Fd) : Prop where
  le : f.1.2.length ≤ f.1.1
  cap : f.1.1 ≤ 1024

def emptyF (f : Fd) : Fd := ((f.1.1, []), f.2)
theorem p39_eq (f : Fd) (h : FdOk f) : p39 N0 (f, ()) = some ((f.1.2, ()), (emptyF f, ())) := by
  obtain ⟨⟨c, l⟩, s, lo⟩ := f
  obtain ⟨h1, h2⟩ := h
  simp only at h1 h2
  simp only [p39]
  refine loop_rule (fun m x r => ∃ d t, d ++ t = l ∧ m = t.length ∧ x = ((((c, t), (s, lo)), ()), (d, ())) ∧ r = some ((l, ()), (emptyF ((c, l), (s, lo)), ()))) ?_ N0 l.length _ _ (by unfold N0; omega) ⟨[], l, rfl, rfl, rfl, rfl⟩
  rintro m x r ⟨d, t, hd, rfl, rfl, rfl⟩ k hk
  cases t with
  | nil =>
    rw [List.append_nil] at hd
    subst hd
    rfl
  | cons v t =>
    have hl : d.length + (t.length + 1) = l.length := by rw [← hd]; simp
    have a1 : (d.length + [v].length) * 8 ≤ 140737488355328 := by simp only [List.length_cons, List.length_nil]; omega
    have a2 : d.length + [v].length ≤ 9223372036854775807 := by simp only [List.length_cons, List.length_nil]; omega
    have e1 : chHd (c, v :: t) = v := rfl
    have e2 : chTl (c, v :: t) = (c, t) := rfl
    simp only [ix_dec, has_cons, cond_true, e1, e2]
    rw [if_pos a1, if_pos a2]
    exact hk t.length _ _ (by simp) ⟨d ++ [v], t, by rw [← hd]; simp, rfl, rfl, rfl⟩

theorem takeS {α : Type} {l : List α} {j : Nat} (h : j < l.length) : l.take (j + 1) = l.take j ++ [l[j]] := by rw [List.take_add_one, List.getElem?_eq_getElem h]; rfl

theorem p65_eq (c : Nat) (g : Bool × Int) (v : Int) (t : List Int) (h : 1 + t.length ≤ c) (hc : c ≤ 1024) : p65 N0 (((c, []), g), (v, (t, ()))) = some ((), (((c, v :: t), g), ())) := by
  have r0 : chRoom (c, ([] : List Int)) = true := chRoom_iff.2 (by simp; omega)
  have q0 : chPut (c, []) v = (c, [v]) := by simp [chPut, r0]
  simp only [p65, r0, cond_true, q0]
  refine loop_rule (fun m x r => ∃ j, m + j = t.length ∧ x = ((((c, v :: t.take j), g), ()), ((j : Int), ())) ∧ r = some ((), (((c, v :: t), g), ()))) ?_ N0 t.length _ _ (by unfold N0; omega) ⟨0, rfl, rfl, rfl⟩
  rintro m x r ⟨j, hm, rfl, rfl⟩ k hk
  by_cases hj : j < t.length
  · have c1 : (j : Int) < (t.length : Int) := by omega
    have r1 : chRoom (c, v :: t.take j) = true := chRoom_iff.2 (by simp; omega)
    have q1 : chPut (c, v :: t.take j) t[j] = (c, v :: t.take (j + 1)) := by rw [takeS hj]; simp [chPut, r1]
    simp only [c1, decide_true, cond_true, Int.natCast_nonneg, if_true, Int.toNat_natCast, List.getElem?_eq_getElem hj, r1, q1, wrap_succ hj (show t.length ≤ maxLen by unfold maxLen; omega)]
    exact hk (m - 1) _ _ (by omega) ⟨j + 1, by omega, rfl, rfl⟩
  · have c1 : ¬ (j : Int) < (t.length : Int) := by omega
    simp only [c1, decide_false, cond_false]
    rw [List.take_of_length_le (by omega)]

theorem emp_dec (l : List Int) : decide ((bif l.isEmpty then (3 : Int) else 0) = 0) = !l.isEmpty := by cases l <;> rfl
theorem p21_eq (f : Fd) (h : FdOk f) : p21 N0 (f, ()) = some ((f.1.2.headD 0, (bif f.1.2.isEmpty then 3 else 0, ())), (f, ())) := by
  obtain ⟨⟨c, l⟩, g⟩ := f
  obtain ⟨h1, h2⟩ := h
  simp only at h1 h2
  simp only [p21]
  rw [callB_eq (p22_eq N0 ((c, l), g))]
  cases l with
  | nil => rfl
  | cons v t =>
    simp only [List.length_cons] at h1
    have hd : p39 N0 (takeF ((c, v :: t), g), ()) = some ((t, ()), (((c, []), g), ())) := p39_eq ((c, t), g) ⟨by simp only; omega, h2⟩
    simp only [emp_dec, List.isEmpty_cons, Bool.not_false, Bool.not_true, cond_false]
    rw [callB_eq hd]
    simp only [List.headD_cons]
    rw [callB_eq (p65_eq c g v t (by omega) h2)]
    rfl

theorem p38_eq (l : List Int) (h : l.length ≤ 1024) : p38 N0 (l, (l, ())) = some ((true, ()), ()) := by
  simp only [p38, decide_true, Bool.not_true, cond_false]
  refine loop_rule (fun m x r => ∃ j : Nat, m + j = l.length ∧ x = ((), ((j : Int), ())) ∧ r = some ((true, ()), ())) ?_ N0 l.length _ _ (by unfold N0; omega) ⟨0, rfl, rfl, rfl⟩
  rintro m x r ⟨j, hm, rfl, rfl⟩ k hk
  by_cases hj : j < l.length
  · have c1 : (j : Int) < (l.length : Int) := by omega
    simp only [c1, decide_true, cond_true, Int.natCast_nonneg, if_true, Int.toNat_natCast, List.getElem?_eq_getElem hj, Bool.not_true, cond_false, wrap_succ hj (show l.length ≤ maxLen by unfold maxLen; omega)]
    exact hk (m - 1) _ _ (by omega) ⟨j + 1, by omega, rfl, rfl⟩
  · have c1 : ¬ (j : Int) < (l.length : Int) := by omega
    simp only [c1, decide_false, cond_false]

/-! ### The document's -/
theorem p35_eq (n : Nat) (f : Fd) (h : FdOk f) : p35 n (rdOf f, ()) = some ((rdOf (takeF f), (f.1.2.headD 0, (!f.1.2.isEmpty, ()))), ()) := by
  obtain ⟨⟨c, l⟩, s, lo⟩ := f
  obtain ⟨h1, h2⟩ := h
  simp only at h1 h2
  cases l with
  | nil => rfl
  | cons v t =>
    simp only [List.length_cons] at h1
    have c0 : ¬ (((v :: t).length : Nat) : Int) = 0 := by simp; omega
    have z0 : (0 : Int) ≤ 0 := by omega
    have c1 : (0 : Int) ≤ 1 ∧ (1 : Int) ≤ (((v :: t).length : Nat) : Int) ∧ (((v :: t).length : Nat) : Int) ≤ (((v :: t).length : Nat) : Int) := by simp; omega
    have e1 : cutL (v :: t) 1 (((v :: t).length : Nat) : Int) = t := by
      simp [cutL]
    show p35 n ((v :: t, ((c : Int), (lo, s))), ()) = _
    simp only [p35]
    rw [decide_eq_false c0, cond_false, if_pos z0]
    simp only [Int.toNat_zero, List.getElem?_cons_zero]
    rw [if_pos c1, e1, if_pos (by simp only [List.length_nil]; omega), if_pos (by simp only [List.length_nil]; omega)]
    rfl
theorem p67_eq (n : Nat) (f : Fd) (v : Int) (h : FdOk f) : p67 n (rdOf f, (v, ())) = some ((rdOf (putF f v), (!room f, ())), ()) := by
  obtain ⟨⟨c, l⟩, s, lo⟩ := f
  obtain ⟨h1, h2⟩ := h
  simp only at h1 h2
  have e0 : decide ((c : Int) ≤ (l.length : Int)) = !chRoom (c, l) := by
    rw [room_dec]
    by_cases hl : l.length < c
    · rw [decide_eq_true hl, decide_eq_false (by omega)]; rfl
    · rw [decide_eq_false hl, decide_eq_true (by omega)]; rfl
  show p67 n ((l, ((c : Int), (lo, s))), (v, ())) = _
  cases s
  · cases hr : chRoom (c, l)
    · simp only [p67, joinB_eq, cond_false, e0, hr, Bool.not_false, cond_true, putF, room, Bool.true_and, Bool.false_eq_true, if_false, incr, Bool.and_false]
      rfl
    · have a1 : (([] : List Int).length + l.length) * 8 ≤ 140737488355328 := by simp only [List.length_nil]; omega
      have a2 : ([] : List Int).length + l.length ≤ 9223372036854775807 := by simp only [List.length_nil]; omega
      have a3 : (([] ++ l : List Int).length + [v].length) * 8 ≤ 140737488355328 := by simp only [List.nil_append, List.length_cons, List.length_nil]; omega
      have a4 : ([] ++ l : List Int).length + [v].length ≤ 9223372036854775807 := by simp only [List.nil_append, List.length_cons, List.length_nil]; omega
      simp only [p67, joinB_eq, cond_false, e0, hr, Bool.not_true, putF, room, Bool.not_false, Bool.true_and, if_true]
      rw [if_pos a1, if_pos a2, if_pos a3, if_pos a4]
      rfl
  · rfl
end Go.Proofs.Ytfnjdegejgocfaa.Rf
