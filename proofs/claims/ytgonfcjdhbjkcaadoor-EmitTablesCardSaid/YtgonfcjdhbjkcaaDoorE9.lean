/- Lines; which name and rows a text tells. -/
import Derived.Test.YtgonfcjdhbjkcaaDoorE8
set_option linter.unusedVariables false
set_option linter.unusedSimpArgs false
namespace Go.Proofs.YtgonfcjdhbjkcaaDoor.Rf
open Go

def no10 (a : List Int) : Prop := ∀ c ∈ a, c ≠ 10
def lin : List Int → List Int → List (List Int)
  | [], cur => [cur]
  | c :: r, cur => if c = 10 then cur :: lin r [] else lin r (cur ++ [c])
theorem lin_app : ∀ (a r cur : List Int), no10 a → lin (a ++ 10 :: r) cur = (cur ++ a) :: lin r [] := by
  intro a
  induction a with
  | nil => intro r cur _; simp [lin]
  | cons c a ih =>
    intro r cur h
    show (if c = 10 then _ else lin (a ++ 10 :: r) (cur ++ [c])) = _
    rw [if_neg (h c (by simp)), ih _ _ (fun d hd => h d (by simp [hd]))]
    simp
theorem lin_ends {t : List Int} (ht : no10 t) (r : List Int) : ∀ (b cur : List Int), ∃ p ∈ lin (b ++ t ++ 10 :: r) cur, ∃ u, p = u ++ t := by
  intro b
  induction b with
  | nil => intro cur; exact ⟨cur ++ t, by rw [List.nil_append, lin_app _ _ _ ht]; simp, cur, rfl⟩
  | cons c b ih =>
    intro cur
    show ∃ p ∈ (if c = 10 then cur :: lin (b ++ t ++ 10 :: r) [] else lin (b ++ t ++ 10 :: r) (cur ++ [c])), _
    split
    · obtain ⟨p, h1, h2⟩ := ih []
      exact ⟨p, List.mem_cons_of_mem _ h1, h2⟩
    · exact ih _
theorem lin_len : ∀ (s cur : List Int), (lin s cur).length ≤ s.length + 1 := by
  intro s
  induction s with
  | nil => intro cur; simp [lin]
  | cons c r ih =>
    intro cur
    simp only [lin]
    split
    · have := ih []; simp only [List.length_cons]; omega
    · have := ih (cur ++ [c]); simp only [List.length_cons]; omega
theorem lin_mem : ∀ (s cur : List Int), ∀ p ∈ lin s cur, p.length ≤ cur.length + s.length := by
  intro s
  induction s with
  | nil => intro cur p hp; rw [List.mem_singleton.1 hp]; simp
  | cons c r ih =>
    intro cur p hp
    simp only [lin] at hp
    split at hp
    · rcases List.mem_cons.1 hp with rfl | hp
      · simp
      · have := ih [] p hp; simp only [List.length_nil, List.length_cons] at this ⊢; omega
    · have := ih _ p hp
      simp only [List.length_append, List.length_cons, List.length_nil] at this ⊢; omega
/-! ### A text of rows -/
def tailH : List Int := [32, 61, 32, 91, 93, 91, 93, 105, 110, 116, 123]
def headL (name : List Int) : List Int := [118, 97, 114, 32] ++ name ++ tailH
def lineL (r : List Int) : List Int := 9 :: (rowI r ++ [44])
theorem headI_eq (name : List Int) : headI name = headL name ++ [10] := by simp [headI, headL, tailH]
theorem lineI_eq (r : List Int) : lineI r = lineL r ++ [10] := by simp [lineI, lineL]
theorem rowI_mem (l : List Int) : ∀ c ∈ rowI l, c ≠ 10 := by
  have ht : ∀ l : List Int, ∀ c ∈ tailB l, c ≠ 10 := by
    intro l c hc
    unfold tailB at hc
    obtain ⟨n, _, hn⟩ := List.mem_flatMap.1 hc
    rcases List.mem_cons.1 hn with rfl | hn
    · decide
    rcases List.mem_cons.1 hn with rfl | hn
    · decide
    · exact digI_ne n 10 (by omega) c hn
  intro c hc
  unfold rowI at hc
  rcases List.mem_append.1 hc with hc | hc
  · rcases List.mem_append.1 hc with hc | hc
    · rw [List.mem_singleton.1 hc]; decide
    · cases l with
      | nil => cases hc
      | cons n l =>
        rcases List.mem_append.1 hc with hc | hc
        · exact digI_ne n 10 (by omega) c hc
        · exact ht l c hc
  · rw [List.mem_singleton.1 hc]; decide
theorem lineL_no10 (r : List Int) : no10 (lineL r) := by
  intro c hc
  rcases List.mem_cons.1 hc with rfl | hc
  · decide
  · rcases List.mem_append.1 hc with hc | hc
    · exact rowI_mem r c hc
    · rw [List.mem_singleton.1 hc]; decide
theorem headL_no10 {name : List Int} (h : no10 name) : no10 (headL name) := by
  intro c hc
  unfold headL tailH at hc
  rcases List.mem_append.1 hc with hc | hc
  · rcases List.mem_append.1 hc with hc | hc
    · intro e; subst e; simp at hc
    · exact h c hc
  · intro e; subst e; simp at hc
theorem lin_rows : ∀ (l : List (List Int)) (r : List Int), lin (l.flatMap lineI ++ r) [] = l.map lineL ++ lin r [] := by
  intro l
  induction l with
  | nil => intro r; rfl
  | cons a l ih =>
    intro r
    rw [List.flatMap_cons, lineI_eq, show lineL a ++ [10] ++ l.flatMap lineI ++ r = lineL a ++ 10 :: (l.flatMap lineI ++ r) by simp, lin_app _ _ _ (lineL_no10 a), ih]
    rfl
theorem lin_rowsI {name : List Int} (h : no10 name) (l : List (List Int)) : lin (rowsI name l) [] = headL name :: (l.map lineL ++ [[125], []]) := by
  unfold rowsI
  rw [headI_eq, show headL name ++ [10] ++ l.flatMap lineI ++ [125, 10] = headL name ++ 10 :: (l.flatMap lineI ++ [125, 10]) by simp, lin_app _ _ _ (headL_no10 h), lin_rows]
  rfl
theorem lineL_inj {a b : List Int} (h : lineL a = lineL b) : a = b := by
  simp only [lineL, List.cons.injEq, true_and] at h
  exact rowI_inj (List.append_cancel_right h)
theorem map_lineL_inj : ∀ {a b : List (List Int)}, a.map lineL = b.map lineL → a = b := by
  intro a
  induction a with
  | nil => intro b h; cases b <;> simp_all
  | cons x a ih =>
    intro b h
    cases b with
    | nil => simp at h
    | cons y b =>
      simp only [List.map_cons, List.cons.injEq] at h
      rw [lineL_inj h.1, ih h.2]
theorem flat_inj {a b : List (List Int)} (h : a.flatMap lineI = b.flatMap lineI) : a = b := by
  have e : lin (a.flatMap lineI ++ []) [] = lin (b.flatMap lineI ++ []) [] := by rw [h]
  rw [lin_rows, lin_rows] at e
  exact map_lineL_inj (List.append_cancel_right e)
theorem headL_inj {a b : List Int} (h : headL a = headL b) : a = b := by
  unfold headL at h
  exact List.append_cancel_left (List.append_cancel_right h)
theorem rowsI_inj {a b : List Int} {l m : List (List Int)} (ha : no10 a) (hb : no10 b) (h : rowsI a l = rowsI b m) : a = b ∧ l = m := by
  have e := lin_rowsI ha l
  rw [h, lin_rowsI hb m] at e
  simp only [List.cons.injEq] at e
  exact ⟨(headL_inj e.1).symm, (map_lineL_inj (List.append_cancel_right e.2)).symm⟩
/-- Whose rows' text begins as some name's does is that name. -/
theorem rowsI_name {a b : List Int} {l m : List (List Int)} (hb : no10 b) (h : rowsI a l = rowsI b m) : a = b := by
  by_cases ha : no10 a
  · exact (rowsI_inj ha hb h).1
  exfalso
  -- a line break within the name: some line further on ends with a brace
  obtain ⟨u, v, e, hu⟩ : ∃ u v, a = u ++ 10 :: v ∧ no10 u := by
    clear h
    induction a with
    | nil => exact absurd (fun _ h => by cases h) ha
    | cons c a ih =>
      by_cases hc : c = 10
      · subst hc; exact ⟨[], a, rfl, fun _ h => by cases h⟩
      · have : ¬ no10 a := fun h => ha (fun d hd => by
          rcases List.mem_cons.1 hd with rfl | hd
          · exact hc
          · exact h d hd)
        obtain ⟨u, v, rfl, hu⟩ := ih this
        exact ⟨c :: u, v, rfl, fun d hd => by
          rcases List.mem_cons.1 hd with rfl | hd
          · exact hc
          · exact hu d hd⟩
  have e1 : rowsI a l = ([118, 97, 114, 32] ++ u) ++ 10 :: (v ++ tailH ++ 10 :: (l.flatMap lineI ++ [125, 10])) := by
    unfold rowsI; rw [headI_eq, e]; simp [headL]
  have h1 : no10 ([118, 97, 114, 32] ++ u) := by
    intro c hc
    rcases List.mem_append.1 hc with hc | hc
    · intro e; subst e; simp at hc
    · exact hu c hc
  have e2 := lin_rowsI hb m
  rw [← h, e1, lin_app _ _ _ h1] at e2
  simp only [List.cons.injEq] at e2
  obtain ⟨p, hp, w, rfl⟩ := lin_ends (show no10 tailH by unfold no10 tailH; decide) (l.flatMap lineI ++ [125, 10]) v []
  rw [e2.2] at hp
  have hlast : (w ++ tailH).getLast? = some 123 := by rw [List.getLast?_append]; rfl
  rcases List.mem_append.1 hp with hp | hp
  · obtain ⟨q, _, hq⟩ := List.mem_map.1 hp
    rw [← hq] at hlast
    unfold lineL at hlast
    rw [show (9 : Int) :: (rowI q ++ [44]) = (9 :: rowI q) ++ [44] by simp, List.getLast?_append] at hlast
    cases hlast
  · simp only [List.mem_cons, List.not_mem_nil, or_false] at hp
    rcases hp with hp | hp <;> rw [hp] at hlast <;> cases hlast

/-- The name and the rows that a text tells. -/
def RowsOf (s : List Int) (x : List Int × List (List Int)) : Prop := nameB x.1 = true ∧ (∀ r ∈ x.2, Ins r) ∧ rowsI x.1 x.2 = s
noncomputable def readRowsF (s : List Int) : List Int × (List (List Int) × Bool) := open Classical in if h : ∃ x, RowsOf s x then ((Classical.choose h).1, ((Classical.choose h).2, true)) else ([], ([], false))
theorem rowsOf_one {s : List Int} {x y : List Int × List (List Int)} (hx : RowsOf s x) (hy : RowsOf s y) : x = y := by
  obtain ⟨e1, e2⟩ := rowsI_inj (name_no10 hx.1) (name_no10 hy.1) (hx.2.2.trans hy.2.2.symm)
  exact Prod.ext e1 e2
theorem readRowsF_is {s : List Int} {x : List Int × List (List Int)} (h : RowsOf s x) : readRowsF s = (x.1, (x.2, true)) := by
  have hx : ∃ x, RowsOf s x := ⟨x, h⟩
  unfold readRowsF
  rw [dif_pos hx, rowsOf_one (Classical.choose_spec hx) h]
theorem readRowsF_none {s : List Int} (h : ∀ x, ¬ RowsOf s x) : readRowsF s = ([], ([], false)) := by
  unfold readRowsF
  rw [dif_neg (fun ⟨x, hx⟩ => h x hx)]
theorem readRowsF_cases (s : List Int) : (∃ x, RowsOf s x ∧ readRowsF s = (x.1, (x.2, true))) ∨ ((∀ x, ¬ RowsOf s x) ∧ readRowsF s = ([], ([], false))) := by
  by_cases h : ∃ x, RowsOf s x
  · obtain ⟨x, hx⟩ := h
    exact .inl ⟨x, hx, readRowsF_is hx⟩
  · have h' : ∀ x, ¬ RowsOf s x := fun x hx => h ⟨x, hx⟩
    exact .inr ⟨h', readRowsF_none h'⟩
end Go.Proofs.YtgonfcjdhbjkcaaDoor.Rf
