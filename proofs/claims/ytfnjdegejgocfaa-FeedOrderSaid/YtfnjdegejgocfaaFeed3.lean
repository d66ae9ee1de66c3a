/- FeedOrder. -/
import Derived.Test.YtfnjdegejgocfaaFeed2
set_option linter.unusedVariables false
set_option linter.unusedSimpArgs false
namespace Go.Proofs.Ytfnjdegejgocfaa.Rf
open Go

theorem p4_true (m : Nat) (l : List Int) (hm : m ≤ 255) : p4 N0 ((m : Int), (l, ())) = some ((true, ()), ()) := by
  suffices key : ∀ n, n = N0 → p4 n ((m : Int), (l, ())) = some ((true, ()), ()) from key N0 rfl
  intro n hn
  have hw : IntKind.wrap .i64 (m : Int) = (m : Int) := wrap_in (by omega) (by omega)
  simp only [p4]
  rw [callB_eq (p17_eq n)]
  simp only [Bool.not_true, cond_false]
  by_cases hl : l.length ≤ 300
  case neg => rw [decide_eq_true (by omega), cond_true]
  rw [decide_eq_false (by omega), cond_false, hw, callB_eq (p18_ok n m (by omega))]
  simp only [joinB_eq, decide_true, Bool.not_true, cond_false]
  have hml : l.length ≤ maxLen := by unfold maxLen; omega
  refine loop_rule (fun k x r => ∃ i : Nat, k + i = l.length ∧ x = ((some ((m, l.take (min i m)), (false, ((i - min i m : Nat) : Int))), ()), (l.take (min i m), ((i : Int), ()))) ∧ r = some ((true, ()), ())) ?_ n l.length _ _ (by rw [hn]; unfold N0; omega) ⟨0, rfl, by simp, rfl⟩
  rintro q x r ⟨i, hq, rfl, rfl⟩ k hk
  by_cases hi : i < l.length
  · have c1 : (i : Int) < (l.length : Int) := by omega
    simp only [decide_eq_true c1, cond_true, Int.natCast_nonneg, if_true, Int.toNat_natCast, List.getElem?_eq_getElem hi, wrap_succ hi hml]
    rw [callB_eq (p19_eq n _ _)]
    by_cases him : i < m
    · have e1 : min i m = i := by omega
      have e2 : min (i + 1) m = i + 1 := by omega
      have r1 : room ((m, l.take (min i m)), (false, ((i - min i m : Nat) : Int))) = true := by simp [room, chRoom_iff]; omega
      have a1 : ((l.take (min i m)).length + [l[i]].length) * 8 ≤ 140737488355328 := by simp only [List.length_take, List.length_cons, List.length_nil]; omega
      have a2 : (l.take (min i m)).length + [l[i]].length ≤ 9223372036854775807 := by simp only [List.length_take, List.length_cons, List.length_nil]; omega
      simp only [r1, cond_true, decide_true, putF, if_true]
      rw [if_pos a1, if_pos a2]
      refine hk (q - 1) _ _ (by omega) ⟨i + 1, by omega, ?_, rfl⟩
      rw [e1, e2, takeS hi]
      simp
    · have e1 : min i m = m := by omega
      have e2 : min (i + 1) m = m := by omega
      have r1 : room ((m, l.take (min i m)), (false, ((i - min i m : Nat) : Int))) = false := by
        have : ¬ (l.take (min i m)).length < m := by simp only [List.length_take]; omega
        simp only [room, room_dec, decide_eq_false this]; rfl
      have w1 : incr ((i - min i m : Nat) : Int) = ((i + 1 - m : Nat) : Int) := by
        unfold incr
        rw [wrap_in (by omega) (by omega)]; omega
      simp only [r1, cond_false, putF, Bool.false_eq_true, if_false, w1]
      rw [decide_eq_false (by decide), cond_false]
      refine hk (q - 1) _ _ (by omega) ⟨i + 1, by omega, ?_, rfl⟩
      rw [e1, e2]
  · have c1 : ¬ (i : Int) < (l.length : Int) := by omega
    have hi' : i = l.length := by omega
    subst hi'
    simp only [decide_eq_false c1, cond_false]
    have hlen : (l.take (min l.length m)).length = min l.length m := by simp
    have hmin : ((l.take (min l.length m)).length : Int) = (if (m : Int) < (l.length : Int) then (m : Int) else (l.length : Int)) := by
      rw [hlen]; split <;> omega
    have hlo : ((l.length - min l.length m : Nat) : Int) = IntKind.wrap .i64 ((l.length : Int) - ((l.take (min l.length m)).length : Int)) := by
      rw [hlen, wrap_in (by omega) (by omega)]; omega
    rw [decide_eq_true hmin]
    simp only [Bool.not_true, cond_false]
    rw [callB_eq (p20_eq n _)]
    simp only [← hlo, decide_true, Bool.not_true, cond_false]
    have hfix : ∀ (lo : Int), FdOk ((m, l.take (min l.length m)), (false, lo)) := fun lo => ⟨by simp only [hlen]; omega, by simp only; omega⟩
    refine loop_rule (fun k x r => ∃ j : Nat, k + j = min l.length m ∧ x = ((l.take (min l.length m), (some ((m, (l.take (min l.length m)).drop j), (false, ((l.length - min l.length m : Nat) : Int))), ())), ((j : Int), ())) ∧ r = some ((true, ()), ())) ?_ n (min l.length m) _ _ (by rw [hn]; unfold N0; omega) ⟨0, by omega, by simp, rfl⟩
    rintro q x r ⟨j, hq, rfl, rfl⟩ k hk
    by_cases hj : j < min l.length m
    · have hj1 : j < (l.take (min l.length m)).length := by omega
      have hj2 : j < l.length := by omega
      have c2 : (j : Int) < ((l.take (min l.length m)).length : Int) := by omega
      have hg : (l.take (min l.length m))[j] = l[j] := by simp
      have hd : (l.take (min l.length m)).drop j = l[j] :: (l.take (min l.length m)).drop (j + 1) := by rw [List.drop_eq_getElem_cons hj1, hg]
      simp only [decide_eq_true c2, cond_true]
      rw [callB_eq (show p21 n (((m, (l.take (min l.length m)).drop j), (false, ((l.length - min l.length m : Nat) : Int))), ()) = _ from by rw [hn]; exact p21_eq _ ⟨by simp only [List.length_drop]; omega, by simp only; omega⟩)]
      simp only
      rw [callB_eq (p22_eq n _)]
      simp only [hd, List.headD_cons, List.isEmpty_cons, cond_false, decide_true, Bool.not_true, Int.natCast_nonneg, if_true, Int.toNat_natCast, List.getElem?_eq_getElem hj1, List.getElem?_eq_getElem hj2, hg, takeF, List.tail_cons, wrap_succ hj2 hml]
      exact hk (q - 1) _ _ (by omega) ⟨j + 1, by omega, rfl, rfl⟩
    · have c2 : ¬ (j : Int) < ((l.take (min l.length m)).length : Int) := by omega
      have hd : (l.take (min l.length m)).drop j = [] := List.drop_eq_nil_of_le (by omega)
      simp only [decide_eq_false c2, cond_false, hd]
      rw [callB_eq (p23_eq n _)]
      rfl
theorem p4_all (m : Int) (l : List Int) (h : inK .u8 m) : p4 N0 (m, (l, ())) = some ((true, ()), ()) := by
  obtain ⟨h1, h2⟩ := h
  simp only [kLo, kHi] at h1 h2
  obtain ⟨k, rfl⟩ : ∃ k : Nat, m = (k : Int) := ⟨m.toNat, by omega⟩
  exact p4_true k l (by omega)
end Go.Proofs.Ytfnjdegejgocfaa.Rf
