/- The reference's reading of a name and rows: the same. -/
import Derived.Test.YtgonfcjdhbjkcaaDoorE10
set_option linter.unusedVariables false
set_option linter.unusedSimpArgs false
namespace Go.Proofs.YtgonfcjdhbjkcaaDoor.Rf
open Go

theorem tailB_len3 (l : List Int) : l.length ≤ (tailB l).length := by have := tailB_len2 l; omega
theorem rowI_len2 (l : List Int) : l.length ≤ (rowI l).length := by
  unfold rowI
  cases l with
  | nil => simp
  | cons n l =>
    have := tailB_len3 l
    simp only [bodyB, List.length_append, List.length_cons, List.length_nil]; omega
theorem headL_len (name : List Int) : (headL name).length = name.length + 15 := by simp only [headL, tailH, List.length_append, List.length_cons, List.length_nil]; omega
theorem cut_headL (name : List Int) : cutL (headL name) 4 (((headL name).length - 11 : Nat) : Int) = name := by
  rw [show (4 : Int) = ((4 : Nat) : Int) from rfl, cutL_mid, headL_len]
  have e : (headL name).drop 4 = name ++ tailH := by unfold headL; rw [List.append_assoc]; rfl
  rw [e, show name.length + 15 - 11 - 4 = name.length by omega, List.take_left]
theorem cut_lineL (r : List Int) : cutL (lineL r) 1 (((lineL r).length - 1 : Nat) : Int) = rowI r := by
  rw [show (1 : Int) = ((1 : Nat) : Int) from rfl, cutL_mid]
  have e : (lineL r).drop 1 = rowI r ++ [44] := rfl
  rw [e]
  exact List.take_left' (by simp [lineL])

/-! ### The laws -/
theorem p4_eq' : p4 N0 () = some ((true, ()), ()) := by kernel_rfl
theorem readF_len {s : List Int} : (readF s).1.length ≤ s.length := by
  rcases readF_cases s with ⟨l, _, h2, h3⟩ | ⟨_, h3⟩
  · rw [h3, ← h2]; exact rowI_len2 l
  · rw [h3]; simp
theorem flat_len : ∀ (l : List (List Int)), l.length ≤ (l.flatMap lineI).length ∧ ∀ r ∈ l, r.length ≤ (l.flatMap lineI).length := by
  intro l
  induction l with
  | nil => exact ⟨Nat.le_refl _, fun r h => by cases h⟩
  | cons a l ih =>
    have h1 : (lineI a).length = (rowI a).length + 3 := by simp [lineI]
    have h2 := rowI_len2 a
    rw [List.flatMap_cons, List.length_append]
    refine ⟨by simp only [List.length_cons]; omega, fun r hr => ?_⟩
    rcases List.mem_cons.1 hr with rfl | hr
    · omega
    · have := ih.2 r hr; omega
theorem readRowsF_len {s : List Int} : (readRowsF s).2.1.length ≤ s.length ∧ ∀ r ∈ (readRowsF s).2.1, r.length ≤ s.length := by
  rcases readRowsF_cases s with ⟨x, hx, e⟩ | ⟨_, e⟩
  · rw [e]
    obtain ⟨h1, h2⟩ := flat_len x.2
    have : s.length = (headI x.1).length + (x.2.flatMap lineI).length + 2 := by rw [← hx.2.2]; simp only [rowsI, List.length_append, List.length_cons, List.length_nil]
    exact ⟨by simp only; omega, fun r hr => by have := h2 r hr; omega⟩
  · rw [e]; exact ⟨by simp, fun r h => by cases h⟩
theorem beqB (b : Bool) : (b == b) = true := by cases b <;> rfl
def fewB (l : List (List Int)) : Bool := decide (l.length ≤ 20) && l.all fun r => decide (r.length ≤ 20)
theorem ins_of {l : List (List Int)} (h : WfT y23 l) : ∀ r ∈ l, Ins r := by
  obtain ⟨_, h⟩ := h
  intro r hr n hn
  exact (h r hr).2 n hn
end Go.Proofs.YtgonfcjdhbjkcaaDoor.Rf
