/- The reference's reading of a name and rows: the same. -/
import Derived.Test.YtfnjdegejgocfaaDoorE10
set_option linter.unusedVariables false
set_option linter.unusedSimpArgs false
namespace Go.Proofs.YtfnjdegejgocfaaDoor.Rf
open Go

theorem tailB_len3 (l : List Int) : l.length ≤ (tailB l).length := by have := tailB_len2 l; omega
theorem rowI_len2 (l : List Int) : l.length ≤ (rowI l).length := by
  unfold rowI
  cases l with
  | nil => simp
  | cons n l =>
    have := tailB_len3 l
    simp only [bodyB, List.length_append, List.length_cons, List.length_nil]; omega
theorem headL_len (name : List Int) : (headL name).length = name.length + 15 := by simp only [headL, tailH, List.length_append, List.length_cons, List.length_nil]; omega
theorem cut_headL (name : List Int) : cutL (headL name) 4 (((headL name).length - 11 : Nat) : Int) = name := by
  rw [show (4 : Int) = ((4 : Nat) : Int) from rfl, cutL_mid, headL_len]
  have e : (headL name).drop 4 = name ++ tailH := by unfold headL; rw [List.append_assoc]; rfl
  rw [e, show name.length + 15 - 11 - 4 = name.length by omega, List.take_left]
theorem cut_lineL (r : List Int) : cutL (lineL r) 1 (((lineL r).length - 1 : Nat) : Int) = rowI r := by
  rw [show (1 : Int) = ((1 : Nat) : Int) from rfl, cutL_mid]
  have e : (lineL r).drop 1 = rowI r ++ [44] := rfl
  rw [e]
  exact List.take_left' (by simp [lineL])

set_option maxHeartbeats 1000000 in
theorem p18_eq' (s : List Int) (hs : s.length ≤ 9000) : p18 N0 (s, ()) = some (((readRowsF s).1, ((readRowsF s).2.1, ((readRowsF s).2.2, ()))), ()) := by
  unfold p18
  simp only [joinB_eq]
  rw [callB_eq (p34_eq' s (by omega))]
  have hll := lin_len s []
  have hlm := lin_mem s []
  have looks : ∀ x, RowsOf s x → lin s [] = headL x.1 :: (x.2.map lineL ++ [[125], []]) := fun x hx => by
    rw [← hx.2.2]; exact lin_rowsI (name_no10 hx.1) _
  generalize lin s [] = L at hll hlm looks
  simp only [List.length_nil, Nat.zero_add] at hlm
  simp only
  by_cases h3 : (L.length : Int) < 3
  · rw [readRowsF_none (fun x hx => by
      have := congrArg List.length (looks x hx)
      simp only [List.length_cons, List.length_append, List.length_map, List.length_nil] at this; omega), decide_eq_true h3]; rfl
  rw [decide_eq_false h3, cond_false]
  match L, hll, hlm, looks, h3 with
  | [], _, _, _, h3 => exact absurd (by simp) h3
  | l0 :: L, hll, hlm, looks, h3 =>
  have z0 : (0 : Int) ≤ 0 := by omega
  have g0 : (l0 :: L)[((0 : Int)).toNat]? = some l0 := rfl
  have hl0 := hlm l0 (by simp)
  simp only [z0, if_true, g0]
  by_cases h15 : (l0.length : Int) < 15
  · rw [readRowsF_none (fun x hx => by
      have := (List.cons.inj (looks x hx)).1
      rw [this, headL_len] at h15; omega), decide_eq_true h15]; rfl
  rw [decide_eq_false h15, cond_false]
  have w0 : IntKind.wrap .i64 ((l0.length : Int) - 11) = ((l0.length - 11 : Nat) : Int) := by rw [wrap64 (by omega) (by omega)]; omega
  have c0 : (0 : Int) ≤ 4 ∧ (4 : Int) ≤ ((l0.length - 11 : Nat) : Int) ∧ ((l0.length - 11 : Nat) : Int) ≤ (l0.length : Int) := by omega
  simp only [w0]
  rw [if_pos c0]
  have hname : ∀ x, RowsOf s x → cutL l0 4 ((l0.length - 11 : Nat) : Int) = x.1 ∧ L = x.2.map lineL ++ [[125], []] := fun x hx => by
    obtain ⟨q1, q2⟩ := List.cons.inj (looks x hx)
    rw [q1]; exact ⟨cut_headL _, q2⟩
  have hnl : (cutL l0 4 ((l0.length - 11 : Nat) : Int)).length ≤ 9000 := by
    rw [show (4 : Int) = ((4 : Nat) : Int) from rfl, cutL_mid, List.length_take, List.length_drop]; omega
  generalize cutL l0 4 ((l0.length - 11 : Nat) : Int) = name at hname hnl
  -- line by line; what is told so far, and what each text of rows tells
  refine loop_rule (fun mm x q => ∃ (i : Nat) (acc : List (List Int)), x = ((), (acc, (((i + 1 : Nat) : Int), ()))) ∧ mm + i + 2 = L.length ∧ acc.length = i ∧ (∀ r ∈ acc, Ins r ∧ r.length ≤ 10000) ∧ (∀ x, RowsOf s x → x.2.take i = acc) ∧ q = some (((readRowsF s).1, ((readRowsF s).2.1, ((readRowsF s).2.2, ()))), ())) ?_ N0 (L.length - 2) _ _ (by unfold N0; simp only [List.length_cons] at hll; omega) ⟨0, [], rfl, by simp only [List.length_cons] at h3; omega, rfl, fun r h => (by cases h), fun x hx => rfl, rfl⟩
  rintro mm x q ⟨i, acc, rfl, hmm, hai, hok, hx, rfl⟩ k hk
  have hLl : L.length ≤ 9001 := by simp only [List.length_cons] at hll; omega
  have w1 : IntKind.wrap .i64 (((i + 1 : Nat) : Int) + 2) = ((i + 3 : Nat) : Int) := by rw [wrap64 (by omega) (by omega)]; omega
  have w2 : IntKind.wrap .i64 (((i + 1 : Nat) : Int) + 1) = ((i + 1 + 1 : Nat) : Int) := by rw [wrap64 (by omega) (by omega)]; omega
  rcases Nat.eq_zero_or_pos mm with rfl | hm0
  · have c1 : ¬ ((i + 3 : Nat) : Int) < ((l0 :: L).length : Int) := by simp only [List.length_cons]; omega
    simp only [w1]
    rw [decide_eq_false c1, cond_false, callB_eq (p15_eq' name (by omega))]
    have hall : ∀ x, RowsOf s x → x.2 = acc := fun x hr => by
      have := hx x hr
      have h2 := congrArg List.length (hname x hr).2
      simp only [List.length_append, List.length_map, List.length_cons, List.length_nil] at h2
      rw [List.take_of_length_le (by omega)] at this
      exact this
    cases hn : nameB name
    · rw [readRowsF_none (fun x hr => by
        have := hr.1
        rw [← (hname x hr).1, hn] at this; cases this)]; rfl
    simp only [Bool.not_true, cond_false]
    rw [callB_eq (p13_eq' name acc (by omega) ⟨by omega, hok⟩)]
    by_cases he : rowsI name acc = s
    · rw [readRowsF_is (x := (name, acc)) ⟨hn, fun r hr => (hok r hr).1, he⟩, decide_eq_true he]; rfl
    · rw [readRowsF_none (fun x hr => he (by rw [(hname x hr).1, ← hall x hr]; exact hr.2.2)), decide_eq_false he]; rfl
  obtain ⟨mm, rfl⟩ : ∃ m', mm = m' + 1 := ⟨mm - 1, by omega⟩
  have c1 : ((i + 3 : Nat) : Int) < ((l0 :: L).length : Int) := by simp only [List.length_cons]; omega
  have hiL : i < L.length := by omega
  have g1 : (l0 :: L)[i + 1]? = some L[i] := by rw [List.getElem?_cons_succ, List.getElem?_eq_getElem hiL]
  have zi : (0 : Int) ≤ ((i + 1 : Nat) : Int) := Int.natCast_nonneg _
  have hli := hlm L[i] (by simp)
  -- what a text of rows has there
  have hline : ∀ x, RowsOf s x → ∃ h : i < x.2.length, L[i] = lineL x.2[i] := fun x hr => by
    have e := (hname x hr).2
    have h2 := congrArg List.length e
    simp only [List.length_append, List.length_map, List.length_cons, List.length_nil] at h2
    have hlt : i < x.2.length := by omega
    refine ⟨hlt, ?_⟩
    have e1 : L[i]? = (x.2.map lineL ++ [[125], []])[i]? := by rw [e]
    rw [List.getElem?_eq_getElem hiL, List.getElem?_append_left (by rw [List.length_map]; exact hlt), List.getElem?_map, List.getElem?_eq_getElem hlt] at e1
    exact Option.some.inj e1
  simp only [w1, w2, zi, if_true, Int.toNat_natCast, g1]
  rw [decide_eq_true c1, cond_true]
  generalize L[i] = line at hli hline
  by_cases h2 : (line.length : Int) < 2
  · rw [readRowsF_none (fun x hr => by
      obtain ⟨h, e⟩ := hline x hr
      rw [e] at h2
      simp only [lineL, List.length_cons, List.length_append, List.length_nil] at h2; omega), decide_eq_true h2]; rfl
  have w3 : IntKind.wrap .i64 ((line.length : Int) - 1) = ((line.length - 1 : Nat) : Int) := by rw [wrap64 (by omega) (by omega)]; omega
  have c2 : (0 : Int) ≤ 1 ∧ (1 : Int) ≤ ((line.length - 1 : Nat) : Int) ∧ ((line.length - 1 : Nat) : Int) ≤ (line.length : Int) := by omega
  rw [decide_eq_false h2, cond_false]
  simp only [w3]
  rw [if_pos c2]
  have hcl : (cutL line 1 ((line.length - 1 : Nat) : Int)).length ≤ 9000 := by
    rw [show (1 : Int) = ((1 : Nat) : Int) from rfl, cutL_mid, List.length_take, List.length_drop]; omega
  have hline2 : ∀ x, RowsOf s x → ∃ h : i < x.2.length, cutL line 1 ((line.length - 1 : Nat) : Int) = rowI x.2[i] := fun x hr => by
    obtain ⟨h, e⟩ := hline x hr
    exact ⟨h, by rw [e]; exact cut_lineL _⟩
  generalize cutL line 1 ((line.length - 1 : Nat) : Int) = c at hcl hline2
  rw [callB_eq (p17_eq' c hcl)]
  rcases readF_cases c with ⟨row, q1, q2, q3⟩ | ⟨q1, q3⟩
  · have hrl := rowI_len2 row
    rw [q2] at hrl
    rw [q3]
    simp only [Bool.not_true, cond_false, List.length_cons, List.length_nil]
    rw [if_pos (by omega), if_pos (by omega)]
    refine hk mm _ _ (Nat.lt_succ_self _) ⟨i + 1, acc ++ [row], rfl, by omega, by simp [hai], fun r hr => ?_, fun x hr => ?_, rfl⟩
    · rcases List.mem_append.1 hr with hr | hr
      · exact hok r hr
      · rw [List.mem_singleton.1 hr]; exact ⟨q1, by omega⟩
    · obtain ⟨h, e⟩ := hline2 x hr
      rw [List.take_add_one, List.getElem?_eq_getElem h, hx x hr]
      have : row = x.2[i] := rowI_inj (q2.trans e)
      rw [this]; rfl
  · rw [q3, readRowsF_none (fun x hr => by
      obtain ⟨h, e⟩ := hline2 x hr
      exact q1 _ (hr.2.1 _ (List.getElem_mem h)) e.symm)]; rfl

/-! ### The laws -/
theorem p6_eq' : p6 N0 () = some ((true, ()), ()) := by kernel_rfl
theorem readF_len {s : List Int} : (readF s).1.length ≤ s.length := by
  rcases readF_cases s with ⟨l, _, h2, h3⟩ | ⟨_, h3⟩
  · rw [h3, ← h2]; exact rowI_len2 l
  · rw [h3]; simp
theorem flat_len : ∀ (l : List (List Int)), l.length ≤ (l.flatMap lineI).length ∧ ∀ r ∈ l, r.length ≤ (l.flatMap lineI).length := by
  intro l
  induction l with
  | nil => exact ⟨Nat.le_refl _, fun r h => by cases h⟩
  | cons a l ih =>
    have h1 : (lineI a).length = (rowI a).length + 3 := by simp [lineI]
    have h2 := rowI_len2 a
    rw [List.flatMap_cons, List.length_append]
    refine ⟨by simp only [List.length_cons]; omega, fun r hr => ?_⟩
    rcases List.mem_cons.1 hr with rfl | hr
    · omega
    · have := ih.2 r hr; omega
theorem readRowsF_len {s : List Int} : (readRowsF s).2.1.length ≤ s.length ∧ ∀ r ∈ (readRowsF s).2.1, r.length ≤ s.length := by
  rcases readRowsF_cases s with ⟨x, hx, e⟩ | ⟨_, e⟩
  · rw [e]
    obtain ⟨h1, h2⟩ := flat_len x.2
    have : s.length = (headI x.1).length + (x.2.flatMap lineI).length + 2 := by rw [← hx.2.2]; simp only [rowsI, List.length_append, List.length_cons, List.length_nil]
    exact ⟨by simp only; omega, fun r hr => by have := h2 r hr; omega⟩
  · rw [e]; exact ⟨by simp, fun r h => by cases h⟩
theorem beqB (b : Bool) : (b == b) = true := by cases b <;> rfl
theorem p4_true (s : List Int) : p4 N0 (s, ()) = some ((true, ()), ()) := by
  unfold p4
  simp only [joinB_eq]
  rw [callB_eq p6_eq']
  simp only [Bool.not_true, cond_false]
  by_cases h : (300 : Int) < (s.length : Int)
  · rw [decide_eq_true h, cond_true]
  have hm : maxLen = 9223372036854775807 := rfl
  have l1 := @readF_len s
  obtain ⟨l2, l3⟩ := @readRowsF_len s
  rw [decide_eq_false h, cond_false, callB_eq (p9_eq' s (by omega))]
  simp only
  rw [callB_eq (p17_eq' s (by omega))]
  simp only [beqB, Bool.not_true, cond_false]
  rw [callB_eq (p11_eq' _ _ (by omega))]
  simp only [decide_true, Bool.not_true, cond_false]
  rw [callB_eq (p14_eq' s (by omega))]
  simp only
  rw [callB_eq (p18_eq' s (by omega))]
  simp only [beqB, cond_true, decide_true]
  rw [callB_eq (p16_eq' _ _ (by omega) (fun r hr => by have := l3 r hr; omega))]
  simp only [decide_true]

def fewB (l : List (List Int)) : Bool := decide (l.length ≤ 20) && l.all fun r => decide (r.length ≤ 20)
theorem p7_eq' (l : List (List Int)) : p7 N0 (l, ()) = some ((fewB l, ()), ()) := by
  unfold p7 fewB
  simp only
  by_cases h : (20 : Int) < (l.length : Int)
  · have h2 : ¬ l.length ≤ 20 := by omega
    rw [decide_eq_true h, cond_true, decide_eq_false h2]; rfl
  · have h2 : l.length ≤ 20 := by omega
    rw [decide_eq_false h, cond_false, decide_eq_true h2, Bool.true_and]
    refine (loop_all (after := some ((true, ()), ())) l (fun r => decide (r.length ≤ 20)) (some ((false, ()), ())) (fun j => ((), (j : Int), ())) ?s1 ?f1 N0 ?n1).trans ?_
    case f1 => intro k; simp
    case n1 => unfold N0; omega
    case s1 =>
      intro j hj k
      have hc : (j : Int) < (l.length : Int) := by omega
      have hw : IntKind.wrap .i64 ((j : Int) + 1) = ((j + 1 : Nat) : Int) := by rw [wrap64 (by omega) (by omega)]; simp
      simp only [hc, decide_true, cond_true, if_true, Int.toNat_natCast, Int.natCast_nonneg, List.getElem?_eq_getElem hj, hw]
      by_cases h3 : (20 : Int) < (l[j].length : Int)
      · have h4 : ¬ l[j].length ≤ 20 := by omega
        simp [h3, h4]
      · have h4 : l[j].length ≤ 20 := by omega
        simp [h3, h4]
    · cases l.all (fun r => decide (r.length ≤ 20)) <;> rfl
set_option maxHeartbeats 1000000 in
theorem p3_true (name : List Int) (l : List (List Int)) (hin : ∀ r ∈ l, Ins r) : p3 N0 (name, (l, ())) = some ((true, ()), ()) := by
  unfold p3
  simp only [joinB_eq]
  rw [callB_eq p6_eq']
  simp only [Bool.not_true, cond_false]
  rw [callB_eq (p7_eq' l)]
  cases hf : fewB l
  · simp
  simp only [fewB, Bool.and_eq_true, decide_eq_true_eq, List.all_eq_true] at hf
  obtain ⟨hl, hr⟩ := hf
  simp only [Bool.not_true, cond_false]
  by_cases h60 : (60 : Int) < (name.length : Int)
  · rw [decide_eq_true h60, cond_true]
  rw [decide_eq_false h60, cond_false]
  have hm : maxLen = 9223372036854775807 := rfl
  have hok : OkRows l := ⟨by omega, fun r hx => ⟨hin r hx, by have := hr r hx; omega⟩⟩
  refine (loop_up (fun j => ((), ((j : Int), ()))) (fun j => some ((true, ()), ())) l.length (fun j hj k hk => ?_) N0 0 (Nat.zero_le _) (by unfold N0; omega))
  rcases Nat.lt_or_ge j l.length with hlt | hge
  · have hk := hk hlt
    have hc : (j : Int) < (l.length : Int) := by omega
    have hw : IntKind.wrap .i64 ((j : Int) + 1) = ((j + 1 : Nat) : Int) := by rw [wrap64 (by omega) (by omega)]; simp
    have hmem := List.getElem_mem hlt
    have h1 := hin _ hmem
    have h2 := hr _ hmem
    have h3 := rowI_len h1
    simp only [hc, decide_true, cond_true, if_true, Int.toNat_natCast, Int.natCast_nonneg, List.getElem?_eq_getElem hlt, hw]
    generalize l[j] = r at h1 h2 h3
    rw [callB_eq (p8_eq' r h1 (by omega))]
    simp only
    rw [callB_eq (p9_eq' _ (by omega))]
    simp only
    rw [callB_eq (p10_eq' r h1 (by omega))]
    simp only [readF_row h1 rfl, decide_true, Bool.not_true, cond_false]
    rw [callB_eq (p11_eq' r r (by omega))]
    simp only [decide_true, Bool.not_true, cond_false]
    exact hk
  · have hc : ¬ (j : Int) < (l.length : Int) := by omega
    have hlen : (rowsI name l).length ≤ 1000000 := by
      have : ∀ l : List (List Int), (∀ r ∈ l, Ins r) → (∀ r ∈ l, r.length ≤ 20) → (l.flatMap lineI).length ≤ 1000 * l.length := by
        intro l
        induction l with
        | nil => intro _ _; simp
        | cons a l ih =>
          intro h1 h2
          have h3 := ih (fun r hx => h1 r (by simp [hx])) (fun r hx => h2 r (by simp [hx]))
          have h4 := rowI_len (h1 a (by simp))
          have h5 := h2 a (by simp)
          simp only [List.flatMap_cons, List.length_append, List.length_cons, lineI, List.length_nil]
          omega
      have := this l hin hr
      simp only [rowsI, headI, List.length_append, List.length_cons, List.length_nil]; omega
    simp only
    rw [decide_eq_false hc, cond_false, callB_eq (p12_eq' name l (by omega) hok)]
    simp only
    rw [callB_eq (p13_eq' name l (by omega) hok)]
    simp only [decide_true, Bool.not_true, cond_false]
    rw [callB_eq (p14_eq' _ hlen)]
    simp only
    rw [callB_eq (p15_eq' name (by omega))]
    cases hn : nameB name
    · have : readRowsF (rowsI name l) = ([], ([], false)) := readRowsF_none fun x hx => by
        have := rowsI_name (name_no10 hx.1) hx.2.2.symm
        rw [this, hx.1] at hn; cases hn
      rw [this]; rfl
    · have : readRowsF (rowsI name l) = (name, (l, true)) := readRowsF_is (x := (name, l)) ⟨hn, hin, rfl⟩
      rw [this]
      simp only [Bool.not_true, cond_false, cond_true, decide_true]
      rw [callB_eq (p16_eq' l l (by omega) (fun r hx => by have := hr r hx; omega))]
      simp only [decide_true]
theorem ins_of {l : List (List Int)} (h : WfT y22 l) : ∀ r ∈ l, Ins r := by
  obtain ⟨_, h⟩ := h
  intro r hr n hn
  exact (h r hr).2 n hn
end Go.Proofs.YtfnjdegejgocfaaDoor.Rf
