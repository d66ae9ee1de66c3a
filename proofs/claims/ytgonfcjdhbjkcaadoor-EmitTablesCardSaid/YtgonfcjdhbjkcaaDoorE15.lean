/- The reference's text: the same; soundness asked at the first rows; plain actions. -/
import Derived.Test.YtgonfcjdhbjkcaaDoorE14
set_option linter.unusedVariables false
set_option linter.unusedSimpArgs false
namespace Go.Proofs.YtgonfcjdhbjkcaaDoor.Rf
open Go

set_option maxHeartbeats 2000000 in
theorem p10_eq' (x : Tabs) (h : XOk x) : p10 N0 (x.1, (x.2.1, (x.2.2, ()))) = some ((textF x, ()), ()) := by
  unfold p10
  have hn := h.name
  have l1 := rl (name := nClass) (by decide) (ok_class h)
  have l2 := rl (name := nNext) (by decide) h.next
  have l3 := rl (name := nMark) (by decide) (ok_mark h)
  have l4 := rl (name := nAction) (by decide) (ok_acts h)
  have l5 := rl (name := nGoto) (by decide) h.gots
  have l6 := rl (name := nProd) (by decide) (ok_prod h)
  have c1 := p24_eq' nClass _ (by decide) (ok_class h)
  have c2 := p24_eq' nNext _ (by decide) h.next
  have c3 := p24_eq' nMark _ (by decide) (ok_mark h)
  have c4 := p24_eq' nAction _ (by decide) (ok_acts h)
  have c5 := p24_eq' nGoto _ (by decide) h.gots
  have c6 := p24_eq' nProd _ (by decide) (ok_prod h)
  refine (loop_up (fun i => ((), (x.2.1.1.take i, ((i : Int), ())))) (fun _ => some ((textF x, ()), ())) 256 (fun i hi k hk => ?_) N0 0 (Nat.zero_le _) (by unfold N0; omega))
  rcases Nat.lt_or_ge i 256 with hlt | hge
  · have hk := hk hlt
    have hc : (i : Int) < 256 := by omega
    have hil : i < x.2.1.1.length := by rw [h.cls.len]; exact hlt
    obtain ⟨b1, b2⟩ := h.cls.u8 _ (List.getElem_mem hil)
    rw [takeS hil] at hk
    have hl : (x.2.1.1.take i).length ≤ 256 := by rw [List.length_take]; omega
    have zi : (0 : Int) ≤ (i : Int) := Int.natCast_nonneg _
    simp only
    rw [decide_eq_true hc, cond_true, if_pos zi, Int.toNat_natCast, List.getElem?_eq_getElem hil]
    simp only [w_succ (show i ≤ 1000000000 by omega), wrap64 (show -9223372036854775808 ≤ x.2.1.1[i] by omega) (by omega)]
    rw [if_pos (by simp only [List.length_cons, List.length_nil]; omega), if_pos (by simp only [List.length_cons, List.length_nil]; omega)]
    exact hk
  have hc : ¬ (i : Int) < 256 := by omega
  rw [List.take_of_length_le (show x.2.1.1.length ≤ i by rw [h.cls.len]; exact hge)]
  simp only
  rw [decide_eq_false hc, cond_false]
  clear hk
  refine (loop_up (fun i => ((x.2.1.1, ()), (actsI (x.2.2.1.take i), ((i : Int), ())))) (fun _ => some ((textF x, ()), ())) x.2.2.1.length (fun i hi k hk => ?_) N0 0 (Nat.zero_le _) (by have := h.sz.a; unfold N0; omega))
  have ha := h.sz.a
  rcases Nat.lt_or_ge i x.2.2.1.length with hlt | hge
  · have hk := hk hlt
    have hc : (i : Int) < (x.2.2.1.length : Int) := by omega
    have hrow := h.sz.ar _ (List.getElem_mem hlt)
    have e : actsI (x.2.2.1.take (i + 1)) = actsI (x.2.2.1.take i) ++ [x.2.2.1[i].map actI] := by unfold actsI; rw [takeS hlt, List.map_append]; rfl
    rw [e] at hk
    have hal : (actsI (x.2.2.1.take i)).length ≤ 1000000 := by simp only [actsI, List.length_map, List.length_take]; omega
    have g := List.getElem?_eq_getElem hlt
    simp only
    rw [decide_eq_true hc, cond_true]
    generalize x.2.2.1[i] = row at hrow hk g
    refine (loop_up (fun j => ((x.2.1.1, (actsI (x.2.2.1.take i), ())), ((row.take j).map actI, ((j : Int), ())))) (fun _ => some ((textF x, ()), ())) row.length (fun j hj k2 hk2 => ?_) N0 0 (Nat.zero_le _) (by unfold N0; omega))
    have zi : (0 : Int) ≤ (i : Int) := Int.natCast_nonneg _
    have zj : (0 : Int) ≤ (j : Int) := Int.natCast_nonneg _
    simp only [zi, zj, if_true, Int.toNat_natCast, g]
    rcases Nat.lt_or_ge j row.length with hlt2 | hge2
    · have hk2 := hk2 hlt2
      have hc2 : (j : Int) < (row.length : Int) := by omega
      rw [takeS hlt2, List.map_append] at hk2
      have hml : ((row.take j).map actI).length ≤ 1000000 := by simp only [List.length_map, List.length_take]; omega
      rw [decide_eq_true hc2, cond_true]
      simp only [List.getElem?_eq_getElem hlt2, w_succ (show j ≤ 1000000000 by omega), p23_eq', callB_some]
      rw [if_pos (by simp only [List.length_cons, List.length_nil]; omega), if_pos (by simp only [List.length_cons, List.length_nil]; omega)]
      exact hk2
    · have hc2 : ¬ (j : Int) < (row.length : Int) := by omega
      rw [List.take_of_length_le hge2, decide_eq_false hc2, cond_false]
      simp only [w_succ (show i ≤ 1000000000 by omega)]
      rw [if_pos (by simp only [List.length_cons, List.length_nil]; omega), if_pos (by simp only [List.length_cons, List.length_nil]; omega)]
      exact hk
  have hc : ¬ (i : Int) < (x.2.2.1.length : Int) := by omega
  rw [List.take_of_length_le hge]
  simp only
  rw [decide_eq_false hc, cond_false]
  clear hk
  have ht : textF x = packI x.1 ++ ([10] ++ rowsI nClass [x.2.1.1]) ++ ([10] ++ rowsI nNext x.2.1.2.1) ++ ([10] ++ rowsI nMark [x.2.1.2.2]) ++ ([10] ++ rowsI nAction (actsI x.2.2.1)) ++ ([10] ++ rowsI nGoto x.2.2.2.1) ++ ([10] ++ rowsI nProd [x.2.2.2.2.1, x.2.2.2.2.2]) := rfl
  rw [ht]
  have e1 : ([99, 108, 97, 115, 115] : List Int) = nClass := rfl
  have e2 : ([110, 101, 120, 116] : List Int) = nNext := rfl
  have e3 : ([109, 97, 114, 107] : List Int) = nMark := rfl
  have e4 : ([97, 99, 116, 105, 111, 110] : List Int) = nAction := rfl
  have e5 : ([103, 111, 116, 111, 95] : List Int) = nGoto := rfl
  have e6 : ([112, 114, 111, 100] : List Int) = nProd := rfl
  rw [e1, e2, e3, e4, e5, e6]
  rw [if_pos (by simp only [List.length_append, List.length_cons, List.length_nil]; omega), if_pos (by simp only [List.length_append, List.length_cons, List.length_nil]; omega), callB_eq c1]
  generalize rowsI nClass [x.2.1.1] = r1 at l1 c1
  simp only
  rw [if_pos (by simp only [List.length_append, List.length_cons, List.length_nil]; omega), if_pos (by simp only [List.length_append, List.length_cons, List.length_nil]; omega), callB_eq c2]
  generalize rowsI nNext x.2.1.2.1 = r2 at l2 c2
  simp only
  rw [if_pos (by simp only [List.length_append, List.length_cons, List.length_nil]; omega), if_pos (by simp only [List.length_append, List.length_cons, List.length_nil]; omega), callB_eq c3]
  generalize rowsI nMark [x.2.1.2.2] = r3 at l3 c3
  simp only
  rw [if_pos (by simp only [List.length_append, List.length_cons, List.length_nil]; omega), if_pos (by simp only [List.length_append, List.length_cons, List.length_nil]; omega), callB_eq c4]
  generalize rowsI nAction (actsI x.2.2.1) = r4 at l4 c4
  simp only
  rw [if_pos (by simp only [List.length_append, List.length_cons, List.length_nil]; omega), if_pos (by simp only [List.length_append, List.length_cons, List.length_nil]; omega), callB_eq c5]
  generalize rowsI nGoto x.2.2.2.1 = r5 at l5 c5
  simp only
  rw [if_pos (by simp only [List.length_append, List.length_cons, List.length_nil]; omega), if_pos (by simp only [List.length_append, List.length_cons, List.length_nil]; omega), callB_eq c6]
  generalize rowsI nProd [x.2.2.2.2.1, x.2.2.2.2.2] = r6 at l6 c6
  simp only
  rw [if_pos (by simp only [List.length_append, List.length_cons, List.length_nil]; omega)]
  simp [packI]

/-- May they be? -/
def rightX (x : Tabs) : Bool := rightB x.2.1 && (decide (x.2.2.1.length ≠ 0) && (decide ((x.2.2.1.getD 0 []).length ≠ 0) && (decide (x.2.2.2.1.length ≠ 0) && checkB x.2.2 ((x.2.2.1.getD 0 []).length - 1) ((x.2.2.2.1.getD 0 []).length))))
theorem p11_eq' (x : Tabs) (h : XOk x) (hrl : ∀ r ∈ x.2.1.2.1, r.length ≤ 100000000) : p11 N0 (x, ()) = some ((rightX x, ()), ()) := by
  unfold p11 rightX
  simp only [joinB_eq]
  rw [callB_eq (p25_eq' x.2.1 h.cls hrl)]
  have ha := h.sz.a
  cases rightB x.2.1
  · rfl
  simp only [Bool.not_true, cond_false, Bool.true_and]
  by_cases c0 : (x.2.2.1.length : Int) = 0
  · rw [decide_eq_true c0, decide_eq_false (show ¬ x.2.2.1.length ≠ 0 by omega)]; rfl
  rw [decide_eq_false c0, decide_eq_true (show x.2.2.1.length ≠ 0 by omega), cond_false, Bool.true_and]
  have hl : 0 < x.2.2.1.length := by omega
  have z0 : (0 : Int) ≤ 0 := by omega
  have g0 : x.2.2.1[((0 : Int)).toNat]? = some x.2.2.1[0] := List.getElem?_eq_getElem hl
  have hrow := h.sz.ar _ (List.getElem_mem hl)
  rw [if_pos z0, g0, getD_lt hl]
  simp only
  generalize x.2.2.1[0] = row at hrow
  by_cases c1 : (row.length : Int) = 0
  · rw [decide_eq_true c1, decide_eq_false (show ¬ row.length ≠ 0 by omega)]; rfl
  rw [decide_eq_false c1, decide_eq_true (show row.length ≠ 0 by omega), cond_false, Bool.true_and]
  by_cases c2 : (x.2.2.2.1.length : Int) = 0
  · rw [decide_eq_true c2, decide_eq_false (show ¬ x.2.2.2.1.length ≠ 0 by omega)]; rfl
  rw [decide_eq_false c2, decide_eq_true (show x.2.2.2.1.length ≠ 0 by omega), cond_false, Bool.true_and]
  have hg : 0 < x.2.2.2.1.length := by omega
  have g1 : x.2.2.2.1[((0 : Int)).toNat]? = some x.2.2.2.1[0] := List.getElem?_eq_getElem hg
  have w : IntKind.wrap .i64 ((row.length : Int) - 1) = ((row.length - 1 : Nat) : Int) := by rw [wrap64 (by omega) (by omega)]; omega
  rw [if_pos z0, if_pos z0, g1, getD_lt hg]
  simp only [w]
  rw [callB_eq (p26_eq' x.2.2 (row.length - 1) x.2.2.2.1[0].length h.sz (by omega))]
  cases checkB x.2.2 (row.length - 1) x.2.2.2.1[0].length <;> rfl
theorem p9_eq' (x : Tabs) (h : XOk x) (hrl : ∀ r ∈ x.2.1.2.1, r.length ≤ 100000000) : p9 N0 (x.2.1, (x.2.2, ())) = some ((rightX x, ()), ()) := by
  unfold p9 rightX
  simp only [joinB_eq]
  rw [callB_eq (p21_eq' x.2.1 h.cls hrl)]
  have ha := h.sz.a
  cases rightB x.2.1
  · rfl
  simp only [Bool.not_true, cond_false, Bool.true_and]
  by_cases c0 : (x.2.2.1.length : Int) = 0
  · rw [decide_eq_true c0, decide_eq_false (show ¬ x.2.2.1.length ≠ 0 by omega)]; rfl
  rw [decide_eq_false c0, decide_eq_true (show x.2.2.1.length ≠ 0 by omega), cond_false, Bool.true_and]
  have hl : 0 < x.2.2.1.length := by omega
  have z0 : (0 : Int) ≤ 0 := by omega
  have g0 : x.2.2.1[((0 : Int)).toNat]? = some x.2.2.1[0] := List.getElem?_eq_getElem hl
  have hrow := h.sz.ar _ (List.getElem_mem hl)
  rw [if_pos z0, g0, getD_lt hl]
  simp only
  generalize x.2.2.1[0] = row at hrow
  by_cases c1 : (row.length : Int) = 0
  · rw [decide_eq_true c1, decide_eq_false (show ¬ row.length ≠ 0 by omega)]; rfl
  rw [decide_eq_false c1, decide_eq_true (show row.length ≠ 0 by omega), cond_false, Bool.true_and]
  by_cases c2 : (x.2.2.2.1.length : Int) = 0
  · rw [decide_eq_true c2, decide_eq_false (show ¬ x.2.2.2.1.length ≠ 0 by omega)]; rfl
  rw [decide_eq_false c2, decide_eq_true (show x.2.2.2.1.length ≠ 0 by omega), cond_false, Bool.true_and]
  have hg : 0 < x.2.2.2.1.length := by omega
  have g1 : x.2.2.2.1[((0 : Int)).toNat]? = some x.2.2.2.1[0] := List.getElem?_eq_getElem hg
  have w : IntKind.wrap .i64 ((row.length : Int) - 1) = ((row.length - 1 : Nat) : Int) := by rw [wrap64 (by omega) (by omega)]; omega
  rw [if_pos z0, if_pos z0, g1, getD_lt hg]
  simp only [w]
  rw [callB_eq (p22_eq' x.2.2 (row.length - 1) x.2.2.2.1[0].length h.sz (by omega))]

/-- An action that is told as just itself. -/
def okPlain (t : Tbl) (a : Int × Int) : Prop := ((a.1 = 1 ∨ a.1 = 2) ∧ 0 ≤ a.2 ∧ a.2 < 1073741823) ∨ (a.1 = 0 ∧ a.2 = 0) ∨ (a.1 = 3 ∧ a.2 = (t.2.2.1.length : Int))
theorem rdAct_plain (t : Tbl) (n : Int) : okPlain t (rdAct (t.2.2.1.length : Int) n) := by
  unfold rdAct okPlain
  repeat' split
  · exact .inr (.inr ⟨rfl, rfl⟩)
  · exact .inl ⟨.inl rfl, by simp only; omega, by simp only; omega⟩
  · exact .inl ⟨.inr rfl, by simp only; omega, by simp only; omega⟩
  · exact .inr (.inl ⟨rfl, rfl⟩)
theorem p14_true (t : Tbl) (h : Sized t) (hp : ∀ r ∈ t.1, ∀ a ∈ r, okPlain t a) : p14 N0 (t, ()) = some ((true, ()), ()) := by
  unfold p14
  simp only [joinB_eq]
  have ha := h.a
  refine (loop_up (fun i => ((), ((i : Int), ()))) (fun _ => some ((true, ()), ())) t.1.length (fun i hi k hk => ?_) N0 0 (Nat.zero_le _) (by unfold N0; omega))
  rcases Nat.lt_or_ge i t.1.length with hlt | hge
  · have hk := hk hlt
    have hc : (i : Int) < (t.1.length : Int) := by omega
    have hrow := h.ar _ (List.getElem_mem hlt)
    have hpl := hp _ (List.getElem_mem hlt)
    have g := List.getElem?_eq_getElem hlt
    simp only
    rw [decide_eq_true hc, cond_true]
    generalize t.1[i] = row at hrow hpl g
    refine (loop_up (fun j => ((), ((j : Int), ()))) (fun _ => some ((true, ()), ())) row.length (fun j hj k2 hk2 => ?_) N0 0 (Nat.zero_le _) (by unfold N0; omega))
    have zi : (0 : Int) ≤ (i : Int) := Int.natCast_nonneg _
    have zj : (0 : Int) ≤ (j : Int) := Int.natCast_nonneg _
    simp only [zi, zj, if_true, Int.toNat_natCast, g]
    rcases Nat.lt_or_ge j row.length with hlt2 | hge2
    · have hk2 := hk2 hlt2
      have hc2 : (j : Int) < (row.length : Int) := by omega
      have hpa := hpl _ (List.getElem_mem hlt2)
      rw [decide_eq_true hc2, cond_true]
      simp only [List.getElem?_eq_getElem hlt2, w_succ (show j ≤ 1000000000 by omega)]
      generalize row[j] = e at hpa
      obtain ⟨a, n⟩ := e
      unfold okPlain at hpa
      simp only at hpa ⊢
      rcases hpa with ⟨h1, h2, h3⟩ | ⟨h1, h2⟩ | ⟨h1, h2⟩
      · have d1 : ¬ n < 0 := by omega
        have d2 : ¬ 1073741823 ≤ n := by omega
        rcases h1 with rfl | rfl
        · simp [d1, d2]; exact hk2
        · simp [d1, d2]; exact hk2
      · subst h1; subst h2; simp; exact hk2
      · subst h1; simp [h2]; exact hk2
    · have hc2 : ¬ (j : Int) < (row.length : Int) := by omega
      rw [decide_eq_false hc2, cond_false]
      simp only [w_succ (show i ≤ 1000000000 by omega)]
      exact hk
  · have hc : ¬ (i : Int) < (t.1.length : Int) := by omega
    simp only
    rw [decide_eq_false hc, cond_false]
end Go.Proofs.YtgonfcjdhbjkcaaDoor.Rf
