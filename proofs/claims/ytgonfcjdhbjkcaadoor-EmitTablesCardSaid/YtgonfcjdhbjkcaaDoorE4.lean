/- Rows of numbers as text; alike or not: what both texts compute. -/
import Derived.Test.YtgonfcjdhbjkcaaDoorE3
set_option linter.unusedVariables false
set_option linter.unusedSimpArgs false
namespace Go.Proofs.YtgonfcjdhbjkcaaDoor.Rf
open Go

def tailB (l : List Int) : List Int := l.flatMap fun n => 44 :: 32 :: digI n
def bodyB : List Int → List Int
  | [] => []
  | n :: l => digI n ++ tailB l
def rowI (l : List Int) : List Int := [123] ++ bodyB l ++ [125]
def Ins (l : List Int) : Prop := ∀ n ∈ l, inK .i64 n
def lineI (r : List Int) : List Int := 9 :: (rowI r ++ [44, 10])
def headI (name : List Int) : List Int := [118, 97, 114, 32] ++ name ++ [32, 61, 32, 91, 93, 91, 93, 105, 110, 116, 123, 10]
def rowsI (name : List Int) (l : List (List Int)) : List Int := headI name ++ l.flatMap lineI ++ [125, 10]

theorem tailB_snoc (t : List Int) (n : Int) : tailB (t ++ [n]) = tailB t ++ (44 :: 32 :: digI n) := by unfold tailB; rw [List.flatMap_append]; simp
theorem bodyB_snoc (t : List Int) (n : Int) : bodyB (t ++ [n]) = (if t = [] then bodyB t else bodyB t ++ [44, 32]) ++ digI n := by
  cases t with
  | nil => simp [bodyB, tailB]
  | cons m t =>
    show digI m ++ tailB (t ++ [n]) = _
    rw [tailB_snoc, if_neg (by simp)]
    simp [bodyB]
theorem tailB_len {l : List Int} (h : Ins l) : (tailB l).length ≤ 22 * l.length := by
  induction l with
  | nil => simp [tailB]
  | cons n l ih =>
    have h1 := digI_len (h n (by simp))
    have h2 := ih (fun m hm => h m (by simp [hm]))
    unfold tailB at h2 ⊢
    simp only [List.flatMap_cons, List.length_append, List.length_cons] at h2 ⊢
    omega
theorem bodyB_len {l : List Int} (h : Ins l) : (bodyB l).length ≤ 22 * l.length := by
  cases l with
  | nil => simp [bodyB]
  | cons n l =>
    have h1 := digI_len (h n (by simp))
    have h2 := tailB_len (fun m hm => h m (by simp [hm]) : Ins l)
    simp only [bodyB, List.length_append, List.length_cons]; omega
theorem rowI_len {l : List Int} (h : Ins l) : (rowI l).length ≤ 22 * l.length + 2 := by
  have := bodyB_len h
  simp only [rowI, List.length_append, List.length_cons, List.length_nil]; omega
theorem lines_len {l : List (List Int)} (h : ∀ r ∈ l, Ins r ∧ r.length ≤ 1000000) : (l.flatMap lineI).length ≤ 22000010 * l.length := by
  induction l with
  | nil => simp
  | cons r l ih =>
    obtain ⟨h1, h2⟩ := h r (by simp)
    have h3 := ih (fun m hm => h m (by simp [hm]))
    have h4 := rowI_len h1
    simp only [List.flatMap_cons, List.length_append, List.length_cons, lineI, List.length_nil]
    omega
theorem rowsI_len {name : List Int} {l : List (List Int)} (h : ∀ r ∈ l, Ins r ∧ r.length ≤ 1000000) : (rowsI name l).length ≤ name.length + 22000010 * l.length + 18 := by
  have := lines_len h
  simp only [rowsI, headI, List.length_append, List.length_cons, List.length_nil]; omega

theorem p34_eq' (l : List Int) (hi : Ins l) (hl : l.length ≤ 1000000) : p34 N0 (l, ()) = some ((rowI l, ()), ()) := by
  unfold p34
  simp only [joinB_eq]
  refine (loop_up (fun i => ((), (123 :: bodyB (l.take i), ((i : Int), ())))) (fun _ => some ((rowI l, ()), ())) l.length (fun i hi2 k hk => ?_) N0 0 (Nat.zero_le _) (by unfold N0; omega))
  have hlen := bodyB_len (fun n hn => hi n (List.mem_of_mem_take hn) : Ins (l.take i))
  have htl : (l.take i).length ≤ 1000000 := by rw [List.length_take]; omega
  rcases Nat.lt_or_ge i l.length with hlt | hge
  · have hk := hk hlt
    have hc : (i : Int) < (l.length : Int) := by omega
    have htk : l.take (i + 1) = l.take i ++ [l[i]] := by rw [List.take_add_one, List.getElem?_eq_getElem hlt]; rfl
    have hw : IntKind.wrap .i64 ((i : Int) + 1) = ((i + 1 : Nat) : Int) := by rw [wrap64 (by omega) (by omega)]; simp
    have hin := hi _ (List.getElem_mem hlt)
    have hd := digI_len hin
    rw [htk, bodyB_snoc] at hk
    simp only [hc, decide_true, cond_true, Int.toNat_natCast, Int.natCast_nonneg, if_true, List.getElem?_eq_getElem hlt, hw, p48_eq' _ hin, callB_some]
    by_cases hz : (0 : Int) < (i : Int)
    · have hne : ¬ l.take i = [] := fun h => by
        have := congrArg List.length h
        rw [List.length_take] at this; simp only [List.length_nil] at this; omega
      rw [if_neg hne] at hk
      simp only [hz, decide_true, cond_true, List.length_cons, List.length_nil, List.length_append]
      rw [if_pos (by omega), if_pos (by omega), if_pos (by omega), if_pos (by omega)]
      exact hk
    · have hne : l.take i = [] := by
        have : i = 0 := by omega
        subst this; rfl
      rw [if_pos hne] at hk
      simp only [hz, decide_false, cond_false, List.length_cons, List.length_nil]
      rw [if_pos (by omega), if_pos (by omega)]
      exact hk
  · have hc : ¬ (i : Int) < (l.length : Int) := by omega
    rw [List.take_of_length_le hge] at hlen ⊢
    simp only [hc, decide_false, cond_false, List.length_cons, List.length_nil]
    rw [if_pos (by omega), if_pos (by omega)]; rfl
theorem p38_eq' (l : List Int) (hi : Ins l) (hl : l.length ≤ 1000000) : p38 N0 (l, ()) = some ((rowI l, ()), ()) := by
  unfold p38
  simp only [joinB_eq]
  refine (loop_up (fun i => ((), (123 :: bodyB (l.take i), ((i : Int), ())))) (fun _ => some ((rowI l, ()), ())) l.length (fun i hi2 k hk => ?_) N0 0 (Nat.zero_le _) (by unfold N0; omega))
  have hlen := bodyB_len (fun n hn => hi n (List.mem_of_mem_take hn) : Ins (l.take i))
  have htl : (l.take i).length ≤ 1000000 := by rw [List.length_take]; omega
  rcases Nat.lt_or_ge i l.length with hlt | hge
  · have hk := hk hlt
    have hc : (i : Int) < (l.length : Int) := by omega
    have htk : l.take (i + 1) = l.take i ++ [l[i]] := by rw [List.take_add_one, List.getElem?_eq_getElem hlt]; rfl
    have hw : IntKind.wrap .i64 ((i : Int) + 1) = ((i + 1 : Nat) : Int) := by rw [wrap64 (by omega) (by omega)]; simp
    have hin := hi _ (List.getElem_mem hlt)
    have hd := digI_len hin
    rw [htk, bodyB_snoc] at hk
    simp only [hc, decide_true, cond_true, Int.toNat_natCast, Int.natCast_nonneg, if_true, List.getElem?_eq_getElem hlt, hw, p49_eq' _ hin, callB_some]
    by_cases hz : (0 : Int) < (i : Int)
    · have hne : ¬ l.take i = [] := fun h => by
        have := congrArg List.length h
        rw [List.length_take] at this; simp only [List.length_nil] at this; omega
      rw [if_neg hne] at hk
      simp only [hz, decide_true, cond_true, List.length_cons, List.length_nil, List.length_append]
      rw [if_pos (by omega), if_pos (by omega)]
      exact hk
    · have hne : l.take i = [] := by
        have : i = 0 := by omega
        subst this; rfl
      rw [if_pos hne] at hk
      simp only [hz, decide_false, cond_false, List.length_cons, List.length_nil]
      rw [if_pos (by omega)]
      exact hk
  · have hc : ¬ (i : Int) < (l.length : Int) := by omega
    rw [List.take_of_length_le hge] at hlen ⊢
    simp only [hc, decide_false, cond_false, List.length_cons, List.length_nil]
    rw [if_pos (by omega)]; rfl

def OkRows (l : List (List Int)) : Prop := l.length ≤ 1000000 ∧ ∀ r ∈ l, Ins r ∧ r.length ≤ 1000000
theorem p17_eq' (name : List Int) (l : List (List Int)) (hn : name.length ≤ 100000000) (h : OkRows l) : p17 N0 (name, (l, ())) = some ((rowsI name l, ()), ()) := by
  obtain ⟨hl, hr⟩ := h
  unfold p17
  simp only [List.length_append, List.length_cons, List.length_nil]
  rw [if_pos (by omega), if_pos (by omega)]
  refine (loop_up (fun i => ((), (headI name ++ (l.take i).flatMap lineI, ((i : Int), ())))) (fun _ => some ((rowsI name l, ()), ())) l.length (fun i hi2 k hk => ?_) N0 0 (Nat.zero_le _) (by unfold N0; omega) |> (fun h => by simp only [List.take_zero, List.flatMap_nil, List.append_nil] at h; exact h))
  have hlen := lines_len (fun r hx => hr r (List.mem_of_mem_take hx) : ∀ r ∈ l.take i, Ins r ∧ r.length ≤ 1000000)
  have htl : (l.take i).length ≤ 1000000 := by rw [List.length_take]; omega
  have hhd : (headI name).length = name.length + 16 := by simp only [headI, List.length_append, List.length_cons, List.length_nil]; omega
  rcases Nat.lt_or_ge i l.length with hlt | hge
  · have hk := hk hlt
    have hc : (i : Int) < (l.length : Int) := by omega
    have htk : l.take (i + 1) = l.take i ++ [l[i]] := by rw [List.take_add_one, List.getElem?_eq_getElem hlt]; rfl
    have hw : IntKind.wrap .i64 ((i : Int) + 1) = ((i + 1 : Nat) : Int) := by rw [wrap64 (by omega) (by omega)]; simp
    obtain ⟨hin, hrl⟩ := hr _ (List.getElem_mem hlt)
    have hd := rowI_len hin
    have e : headI name ++ (l.take i ++ [l[i]]).flatMap lineI = headI name ++ (l.take i).flatMap lineI ++ ([9] ++ rowI l[i] ++ [44, 10]) := by
      rw [List.flatMap_append]; simp [lineI]
    rw [htk, e] at hk
    simp only [hc, decide_true, cond_true, Int.toNat_natCast, Int.natCast_nonneg, if_true, List.getElem?_eq_getElem hlt, hw, p34_eq' _ hin hrl, callB_some, List.length_append, List.length_cons, List.length_nil]
    rw [if_pos (by omega), if_pos (by omega), if_pos (by omega), if_pos (by omega)]
    exact hk
  · have hc : ¬ (i : Int) < (l.length : Int) := by omega
    rw [List.take_of_length_le hge] at hlen ⊢
    simp only [hc, decide_false, cond_false, List.length_append, List.length_cons, List.length_nil]
    rw [if_pos (by omega), if_pos (by omega)]; rfl
theorem p24_eq' (name : List Int) (l : List (List Int)) (hn : name.length ≤ 100000000) (h : OkRows l) : p24 N0 (name, (l, ())) = some ((rowsI name l, ()), ()) := by
  obtain ⟨hl, hr⟩ := h
  unfold p24
  simp only [List.length_append, List.length_cons, List.length_nil]
  rw [if_pos (by omega), if_pos (by omega)]
  refine (loop_up (fun i => ((), (headI name ++ (l.take i).flatMap lineI, ((i : Int), ())))) (fun _ => some ((rowsI name l, ()), ())) l.length (fun i hi2 k hk => ?_) N0 0 (Nat.zero_le _) (by unfold N0; omega) |> (fun h => by simp only [List.take_zero, List.flatMap_nil, List.append_nil] at h; exact h))
  have hlen := lines_len (fun r hx => hr r (List.mem_of_mem_take hx) : ∀ r ∈ l.take i, Ins r ∧ r.length ≤ 1000000)
  have htl : (l.take i).length ≤ 1000000 := by rw [List.length_take]; omega
  have hhd : (headI name).length = name.length + 16 := by simp only [headI, List.length_append, List.length_cons, List.length_nil]; omega
  rcases Nat.lt_or_ge i l.length with hlt | hge
  · have hk := hk hlt
    have hc : (i : Int) < (l.length : Int) := by omega
    have htk : l.take (i + 1) = l.take i ++ [l[i]] := by rw [List.take_add_one, List.getElem?_eq_getElem hlt]; rfl
    have hw : IntKind.wrap .i64 ((i : Int) + 1) = ((i + 1 : Nat) : Int) := by rw [wrap64 (by omega) (by omega)]; simp
    obtain ⟨hin, hrl⟩ := hr _ (List.getElem_mem hlt)
    have hd := rowI_len hin
    have e : headI name ++ (l.take i ++ [l[i]]).flatMap lineI = headI name ++ (l.take i).flatMap lineI ++ [9] ++ rowI l[i] ++ [44, 10] := by
      rw [List.flatMap_append]; simp [lineI]
    rw [htk, e] at hk
    simp only [hc, decide_true, cond_true, Int.toNat_natCast, Int.natCast_nonneg, if_true, List.getElem?_eq_getElem hlt, hw, p38_eq' _ hin hrl, callB_some, List.length_append, List.length_cons, List.length_nil]
    rw [if_pos (by omega), if_pos (by omega), if_pos (by omega)]
    exact hk
  · have hc : ¬ (i : Int) < (l.length : Int) := by omega
    rw [List.take_of_length_le hge] at hlen ⊢
    simp only [hc, decide_false, cond_false, List.length_append, List.length_cons, List.length_nil]
    rw [if_pos (by omega)]; rfl

theorem dec_cons_t {α : Type} [DecidableEq α] {x y : α} {xs ys : List α} (e : x = y) : decide (x :: xs = y :: ys) = decide (xs = ys) := by subst e; simp
theorem dec_cons_f {α : Type} [DecidableEq α] {x y : α} {xs ys : List α} (e : ¬ x = y) : decide (x :: xs = y :: ys) = false := decide_eq_false (fun h => e (List.cons.inj h).1)
end Go.Proofs.YtgonfcjdhbjkcaaDoor.Rf
