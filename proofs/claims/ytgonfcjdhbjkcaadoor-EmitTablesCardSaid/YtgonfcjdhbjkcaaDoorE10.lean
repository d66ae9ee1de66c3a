/- A name and rows read: both texts compute what the text tells. -/
import Derived.Test.YtgonfcjdhbjkcaaDoorE9
set_option linter.unusedVariables false
set_option linter.unusedSimpArgs false
namespace Go.Proofs.YtgonfcjdhbjkcaaDoor.Rf
open Go

/-- Where a line ends. -/
theorem cut10 (s : List Int) : (∃ a r, s = a ++ 10 :: r ∧ no10 a ∧ cutI s [10] = (a, (r, true))) ∨ (no10 s ∧ cutI s [10] = (s, ([], false))) := by
  by_cases h : no10 s
  · right
    refine ⟨h, ?_⟩
    unfold cutI
    rw [show idxI s [10] = -1 from idx_none h, if_neg (by omega)]
  · left
    obtain ⟨u, v, e, hu⟩ : ∃ u v, s = u ++ 10 :: v ∧ no10 u := by
      induction s with
      | nil => exact absurd (fun _ h => by cases h) h
      | cons c a ih =>
        by_cases hc : c = 10
        · subst hc; exact ⟨[], a, rfl, fun _ h => by cases h⟩
        · have : ¬ no10 a := fun h2 => h (fun d hd => by
            rcases List.mem_cons.1 hd with rfl | hd
            · exact hc
            · exact h2 d hd)
          obtain ⟨u, v, rfl, hu⟩ := ih this
          exact ⟨c :: u, v, rfl, fun d hd => by
            rcases List.mem_cons.1 hd with rfl | hd
            · exact hc
            · exact hu d hd⟩
    refine ⟨u, v, e, hu, ?_⟩
    have e2 : s = u ++ (10 :: []) ++ v := by rw [e]; simp
    unfold cutI
    have hi : idxI s [10] = u.length := by rw [e2]; exact idx_here hu
    rw [hi, if_pos (by omega), Int.toNat_natCast, e]
    rw [List.take_left, show u ++ 10 :: v = (u ++ [10]) ++ v by simp, show u.length + ([10] : List Int).length = (u ++ [10]).length by simp, List.drop_left]
theorem p42_eq' (s sep : List Int) (hs : s.length ≤ 100000000) : p42 N0 (s, (sep, ())) = some (((cutI s sep).1, ((cutI s sep).2.1, ((cutI s sep).2.2, ()))), ()) := by
  unfold p42
  rw [if_pos (by simp only; omega)]

/-- The rows of lines. -/
noncomputable def rowsL (r : List Int) : Option (List (List Int)) := open Classical in if h : ∃ l : List (List Int), (∀ x ∈ l, Ins x) ∧ l.flatMap lineI = r then some (Classical.choose h) else none
theorem rowsL_is {r : List Int} {l : List (List Int)} (h1 : ∀ x ∈ l, Ins x) (h2 : l.flatMap lineI = r) : rowsL r = some l := by
  have hx : ∃ l : List (List Int), (∀ x ∈ l, Ins x) ∧ l.flatMap lineI = r := ⟨l, h1, h2⟩
  unfold rowsL
  rw [dif_pos hx, flat_inj ((Classical.choose_spec hx).2.trans h2.symm)]
theorem rowsL_some {r : List Int} {l : List (List Int)} (h : rowsL r = some l) : (∀ x ∈ l, Ins x) ∧ l.flatMap lineI = r := by
  unfold rowsL at h
  split at h
  · rename_i hx
    have := Classical.choose_spec hx
    injection h with h
    rw [h] at this; exact this
  · cases h
theorem rowsL_nil : rowsL [] = some [] := rowsL_is (by simp) rfl
theorem rowsL_cons {row r : List Int} (h : Ins row) : rowsL (lineI row ++ r) = (rowsL r).map (row :: ·) := by
  cases hr : rowsL r with
  | some l =>
    obtain ⟨h1, h2⟩ := rowsL_some hr
    refine rowsL_is (l := row :: l) (fun x hx => ?_) (by rw [List.flatMap_cons, h2])
    rcases List.mem_cons.1 hx with rfl | hx
    · exact h
    · exact h1 x hx
  | none =>
    cases hq : rowsL (lineI row ++ r) with
    | none => rfl
    | some l =>
      exfalso
      obtain ⟨h1, h2⟩ := rowsL_some hq
      have e : lin (l.flatMap lineI ++ []) [] = lin ([row].flatMap lineI ++ r) [] := by rw [List.append_nil, h2]; simp
      rw [lin_rows, lin_rows] at e
      cases l with
      | nil =>
        have := congrArg List.length h2
        simp [lineI] at this
      | cons a l =>
        simp only [List.map_cons, List.map_nil, List.cons_append, List.nil_append, List.cons.injEq] at e
        have e1 := lineL_inj e.1
        subst e1
        rw [List.flatMap_cons] at h2
        have := rowsL_is (fun x hx => h1 x (by simp [hx])) (List.append_cancel_left h2)
        rw [hr] at this; cases this
theorem rowsL_none {r : List Int} (h0 : r ≠ []) (h : ∀ row t, Ins row → r ≠ lineI row ++ t) : rowsL r = none := by
  cases hq : rowsL r with
  | none => rfl
  | some l =>
    exfalso
    obtain ⟨h1, h2⟩ := rowsL_some hq
    cases l with
    | nil => exact h0 h2.symm
    | cons a l => exact h a (l.flatMap lineI) (h1 a (by simp)) (by rw [← h2, List.flatMap_cons])
theorem cutI_len (s sep : List Int) : (cutI s sep).1.length ≤ s.length ∧ (cutI s sep).2.1.length ≤ s.length := by
  unfold cutI
  split
  · simp only [List.length_take, List.length_drop]; omega
  · simp

set_option maxHeartbeats 100000000 in
theorem p45_eq' (s : List Int) (hs : s.length ≤ 100000000) : p45 N0 (s, ()) = some (((readRowsF s).1, ((readRowsF s).2.1, ((readRowsF s).2.2, ()))), ()) := by
  unfold p45
  simp only [joinB_eq]
  rw [callB_eq (p42_eq' s [10] hs)]
  obtain ⟨hl1, hl2⟩ := cutI_len s [10]
  have hl3 := cpI_len (cutI s [10]).1 [118, 97, 114, 32]
  have hl4 := csI_len (cpI (cutI s [10]).1 [118, 97, 114, 32]).1 tailH
  have hl5 := csI_len (cutI s [10]).2.1 [125, 10]
  simp only
  rw [callB_eq (p43_eq' _ _)]
  simp only
  rw [show ([32, 61, 32, 91, 93, 91, 93, 105, 110, 116, 123] : List Int) = tailH from rfl, callB_eq (p53_eq' (cpI (cutI s [10]).1 [118, 97, 114, 32]).1 tailH (by omega) (by unfold tailH; simp))]
  simp only
  rw [callB_eq (p53_eq' (cutI s [10]).2.1 [125, 10] (by omega) (by simp))]
  simp only
  have nope : ∀ b : Prop, b → (∀ x, ¬ RowsOf s x) → readRowsF s = ([], ([], false)) := fun _ _ h => readRowsF_none h
  -- what a text of rows looks like
  have looks : ∀ x, RowsOf s x → cutI s [10] = (headL x.1, (x.2.flatMap lineI ++ [125, 10], true)) := by
    intro x hx
    have hn := headL_no10 (name_no10 hx.1)
    have e : s = headL x.1 ++ 10 :: (x.2.flatMap lineI ++ [125, 10]) := by
      rw [← hx.2.2]; unfold rowsI; rw [headI_eq]; simp
    rcases cut10 s with ⟨a, r, e1, ha, e2⟩ | ⟨h1, _⟩
    · rw [e] at e1
      obtain ⟨q1, q2⟩ := pre_unique (k := 10) hn ha (.inr ⟨_, rfl⟩) (.inr ⟨_, rfl⟩) e1
      simp only [List.cons.injEq, true_and] at q2
      rw [e2, q1, q2]
    · exact absurd rfl (h1 10 (by rw [e]; simp))
  by_cases g1 : (cutI s [10]).2.2 = false
  · rw [readRowsF_none (fun x hx => by rw [looks x hx] at g1; cases g1), g1]; rfl
  have g1 : (cutI s [10]).2.2 = true := by cases h : (cutI s [10]).2.2 <;> simp_all
  rw [g1]
  simp only [Bool.not_true, cond_false]
  rcases cut10 s with ⟨a, r, es, ha, ec⟩ | ⟨_, ec⟩
  case inr => rw [ec] at g1; cases g1
  rw [ec] at looks hl1 hl2 hl3 hl4 hl5 ⊢
  simp only at looks hl1 hl2 hl3 hl4 hl5 ⊢
  have looks : ∀ x, RowsOf s x → a = headL x.1 ∧ r = x.2.flatMap lineI ++ [125, 10] := fun x hx => by
    have := looks x hx
    simp only [Prod.mk.injEq, and_true] at this
    exact this
  cases g2 : (cpI a [118, 97, 114, 32]).2
  · rw [readRowsF_none (fun x hx => (cpI_false g2).2 (x.1 ++ tailH) (by rw [(looks x hx).1]; simp [headL]))]; rfl
  have e2 := cpI_true g2
  simp only [Bool.not_true, cond_false]
  generalize (cpI a [118, 97, 114, 32]).1 = n1 at e2 hl3 hl4
  cases g3 : (csI n1 tailH).2
  · rw [readRowsF_none (fun x hx => (csI_false g3).2 x.1 (by
      have := (looks x hx).1
      rw [e2] at this
      unfold headL at this
      rw [List.append_assoc] at this
      exact List.append_cancel_left this))]; rfl
  have e3 := csI_true g3
  simp only [Bool.not_true, cond_false]
  generalize (csI n1 tailH).1 = name at e3 hl4
  cases g4 : (csI r [125, 10]).2
  · rw [readRowsF_none (fun x hx => (csI_false g4).2 _ (looks x hx).2)]; rfl
  have e4 := csI_true g4
  simp only [Bool.not_true, cond_false]
  generalize (csI r [125, 10]).1 = r2 at e4 hl5
  have ea : a = headL name := by rw [e2, e3]; simp [headL]
  have es2 : s = headI name ++ r2 ++ [125, 10] := by rw [es, e4, ea, headI_eq]; simp
  have looks2 : ∀ x, RowsOf s x → name = x.1 ∧ r2 = x.2.flatMap lineI := fun x hx => by
    obtain ⟨q1, q2⟩ := looks x hx
    rw [ea] at q1
    rw [e4] at q2
    exact ⟨headL_inj q1, List.append_cancel_right q2⟩
  rw [callB_eq (p44_eq' name)]
  cases g5 : nameB name
  · rw [readRowsF_none (fun x hx => by
      have := hx.1
      rw [← (looks2 x hx).1, g5] at this; cases this)]; rfl
  simp only [Bool.not_true, cond_false]
  have hr : readRowsF s = (match rowsL r2 with | some l => (name, (l, true)) | none => ([], ([], false))) := by
    cases h : rowsL r2 with
    | some l =>
      obtain ⟨h1, h2⟩ := rowsL_some h
      exact readRowsF_is (x := (name, l)) ⟨g5, h1, by rw [es2]; unfold rowsI; rw [h2]⟩
    | none =>
      exact readRowsF_none fun x hx => by
        have := rowsL_is hx.2.1 (looks2 x hx).2.symm
        rw [h] at this; cases this
  rw [hr]
  clear hr looks looks2 nope
  have hr2 : r2.length ≤ 100000000 := by omega
  refine (loop_rule (fun mm x q => ∃ (u : List Int) (acc : List (List Int)), x = ((), (u, (acc, ()))) ∧ mm = u.length ∧ u.length + acc.length ≤ r2.length ∧ q = (match rowsL u with | some l => some ((name, (acc ++ l, (true, ()))), ()) | none => some (([], ([], (false, ()))), ()))) ?_ N0 r2.length _ _ (by unfold N0; omega) ⟨r2, [], rfl, rfl, by simp, rfl⟩).trans (by
    cases rowsL r2 <;> rfl)
  rintro mm x q ⟨u, acc, rfl, rfl, hua, rfl⟩ k hk
  by_cases hu : u = []
  · subst hu
    rw [rowsL_nil]
    simp
  simp only
  rw [decide_eq_false hu, Bool.not_false, cond_true, callB_eq (p42_eq' u [10] (by omega))]
  simp only
  obtain ⟨l1, l2⟩ := cutI_len u [10]
  have l3 := cpI_len (cutI u [10]).1 [9]
  have l4 := csI_len (cpI (cutI u [10]).1 [9]).1 [44]
  rw [callB_eq (p43_eq' _ _)]
  simp only
  rw [callB_eq (p53_eq' (cpI (cutI u [10]).1 [9]).1 [44] (by omega) (by simp))]
  simp only
  rw [callB_eq (p54_eq' _ (by omega))]
  have looks : ∀ row t, Ins row → u = lineI row ++ t → cutI u [10] = (lineL row, (t, true)) := by
    intro row t hrow e
    rw [lineI_eq, show lineL row ++ [10] ++ t = lineL row ++ 10 :: t by simp] at e
    rcases cut10 u with ⟨a, r, e1, ha, e2⟩ | ⟨h1, _⟩
    · rw [e] at e1
      obtain ⟨q1, q2⟩ := pre_unique (k := 10) (lineL_no10 row) ha (.inr ⟨_, rfl⟩) (.inr ⟨_, rfl⟩) e1
      simp only [List.cons.injEq, true_and] at q2
      rw [e2, q1, q2]
    · exact absurd rfl (h1 10 (by rw [e]; simp))
  rcases cut10 u with ⟨a, t, eu, ha2, ec⟩ | ⟨_, ec⟩
  case inr =>
    rw [rowsL_none hu (fun row t h e => by have := looks row t h e; rw [ec] at this; simp at this), ec]; rfl
  rw [ec] at looks l1 l2 l3 l4 ⊢
  simp only at looks l1 l2 l3 l4 ⊢
  have looks : ∀ row t', Ins row → u = lineI row ++ t' → a = lineL row := fun row t' h e => by
    have := looks row t' h e
    simp only [Prod.mk.injEq, and_true] at this
    exact this.1
  simp only [Bool.not_true, cond_false]
  cases g6 : (cpI a [9]).2
  · rw [rowsL_none hu (fun row t h e => (cpI_false g6).2 (rowI row ++ [44]) (looks row t h e))]; rfl
  have e6 := cpI_true g6
  simp only [Bool.not_true, cond_false]
  generalize (cpI a [9]).1 = b at e6 l3 l4
  cases g7 : (csI b [44]).2
  · rw [rowsL_none hu (fun row t h e => (csI_false g7).2 (rowI row) (by
      have := looks row t h e
      rw [e6] at this
      simp only [lineL, List.cons_append, List.nil_append, List.cons.injEq, true_and] at this
      exact this))]; rfl
  have e7 := csI_true g7
  simp only [Bool.not_true, cond_false]
  generalize (csI b [44]).1 = c at e7 l4
  have ea2 : a = 9 :: (c ++ [44]) := by rw [e6, e7]; rfl
  rcases readF_cases c with ⟨row, q1, q2, q3⟩ | ⟨q1, q3⟩
  · have eu2 : u = lineI row ++ t := by rw [eu, ea2, ← q2]; simp [lineI]
    have hul : u.length = (lineI row).length + t.length := by rw [eu2, List.length_append]
    have hll : 1 ≤ (lineI row).length := by simp [lineI]
    have hrd : rowsL u = (rowsL t).map (row :: ·) := by rw [eu2]; exact rowsL_cons q1
    rw [q3, hrd]
    simp only [Bool.not_true, cond_false, List.length_cons, List.length_nil]
    rw [if_pos (by omega), if_pos (by omega)]
    refine (hk t.length _ _ (by omega) ⟨t, acc ++ [row], rfl, rfl, by simp only [List.length_append, List.length_cons, List.length_nil]; omega, rfl⟩).trans ?_
    cases rowsL t <;> simp
  · rw [q3, rowsL_none hu (fun row t' h e => q1 row h (by
      have := looks row t' h e
      rw [ea2] at this
      simp only [lineL, List.cons.injEq, true_and] at this
      exact (List.append_cancel_right this).symm))]; rfl
end Go.Proofs.YtgonfcjdhbjkcaaDoor.Rf
