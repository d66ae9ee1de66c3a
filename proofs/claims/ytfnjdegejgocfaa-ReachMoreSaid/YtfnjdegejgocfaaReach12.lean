/- What leads to itself: a search with a row of those to look at; rows of rows. No program in sight. -/
import Derived.Test.YtfnjdegejgocfaaReach11
set_option linter.unusedVariables false
set_option linter.unusedSimpArgs false
namespace Go.Proofs.Ytfnjdegejgocfaa.Rf
open Go

noncomputable def tf (P : Prop) : Bool := @decide P (Classical.propDecidable P)
theorem tf_t {P : Prop} (h : P) : tf P = true := by unfold tf; exact @decide_eq_true P (Classical.propDecidable P) h
theorem tf_f {P : Prop} (h : ¬ P) : tf P = false := by unfold tf; exact @decide_eq_false P (Classical.propDecidable P) h
theorem tf_iff {P : Prop} : tf P = true ↔ P := by
  constructor
  · intro h; exact @of_decide_eq_true P (Classical.propDecidable P) h
  · exact tf_t
theorem tf_congr {P Q : Prop} (h : P ↔ Q) : tf P = tf Q := by
  by_cases hp : P
  · rw [tf_t hp, tf_t (h.1 hp)]
  · rw [tf_f hp, tf_f (fun q => hp (h.2 q))]

/-- The edges that rows of numbers tell. -/
def EN (next : List (List Int)) (j k : Nat) : Prop := ∃ row, next[j]? = some row ∧ (k : Int) ∈ row
def InR (next : List (List Int)) : Prop := ∀ row ∈ next, ∀ x ∈ row, 0 ≤ x ∧ x < (next.length : Int)
structure QInv (next : List (List Int)) (from0 : Nat) (seen : List Bool) (opn : List Int) : Prop where
  len : seen.length = next.length
  inr : ∀ x ∈ opn, 0 ≤ x ∧ x < (next.length : Int)
  way : ∀ x ∈ opn, Way (EN next) from0 x.toNat
  no : bit seen from0 = false
  start : ∀ k, EN next from0 k → bit seen k = true ∨ (k : Int) ∈ opn
  cl : ∀ j k, bit seen j = true → EN next j k → bit seen k = true ∨ (k : Int) ∈ opn

theorem qinv0 {next : List (List Int)} (hr : InR next) {from0 : Nat} {row : List Int} (hf : next[from0]? = some row) : QInv next from0 (List.replicate next.length false) row := by
  refine ⟨by simp, fun x hx => hr _ (List.mem_of_getElem? hf) x hx, fun x hx => ?_, bit_rep _ _, fun k hk => ?_, fun j k hj => ?_⟩
  · have := hr _ (List.mem_of_getElem? hf) x hx
    exact .one ⟨row, hf, by rw [Int.toNat_of_nonneg this.1]; exact hx⟩
  · obtain ⟨r, h1, h2⟩ := hk
    rw [hf] at h1; cases h1; exact .inr h2
  · rw [bit_rep] at hj; cases hj
theorem QInv.done {next : List (List Int)} {from0 : Nat} {seen : List Bool} (h : QInv next from0 seen []) : ¬ Way (EN next) from0 from0 := by
  have key : ∀ i k, Way (EN next) i k → (i = from0 ∨ bit seen i = true) → bit seen k = true := by
    intro i k hw
    induction hw with
    | one he =>
      rintro (rfl | hb)
      · rcases h.start _ he with h1 | h1
        · exact h1
        · cases h1
      · rcases h.cl _ _ hb he with h1 | h1
        · exact h1
        · cases h1
    | more he hw ih =>
      rintro (rfl | hb)
      · rcases h.start _ he with h1 | h1
        · exact ih (.inr h1)
        · cases h1
      · rcases h.cl _ _ hb he with h1 | h1
        · exact ih (.inr h1)
        · cases h1
  intro hw
  have := key _ _ hw (.inl rfl)
  rw [h.no] at this; cases this
theorem QInv.hit {next : List (List Int)} {from0 : Nat} {seen : List Bool} {x : Int} {opn : List Int} (h : QInv next from0 seen (x :: opn)) (e : x = (from0 : Int)) : Way (EN next) from0 from0 := by
  have := h.way x (by simp)
  subst e
  simpa using this
theorem QInv.skip {next : List (List Int)} {from0 : Nat} {seen : List Bool} {x : Int} {opn : List Int} (h : QInv next from0 seen (x :: opn)) (hb : bit seen x.toNat = true) : QInv next from0 seen opn := by
  have hx := h.inr x (by simp)
  have cut : ∀ k : Nat, bit seen k = true ∨ (k : Int) ∈ x :: opn → bit seen k = true ∨ (k : Int) ∈ opn := by
    intro k hk
    rcases hk with h1 | h1
    · exact .inl h1
    · rcases List.mem_cons.1 h1 with h2 | h2
      · exact .inl (by have : k = x.toNat := by omega
                       rw [this]; exact hb)
      · exact .inr h2
  exact ⟨h.len, fun y hy => h.inr y (by simp [hy]), fun y hy => h.way y (by simp [hy]), h.no, fun k hk => cut k (h.start k hk), fun j k hj hk => cut k (h.cl j k hj hk)⟩
theorem QInv.push {next : List (List Int)} (hr : InR next) {from0 : Nat} {seen : List Bool} {x : Int} {opn : List Int} (h : QInv next from0 seen (x :: opn)) (hne : x ≠ (from0 : Int)) {row : List Int} (hrow : next[x.toNat]? = some row) : QInv next from0 (seen.set x.toNat true) (opn ++ row) := by
  have hx := h.inr x (by simp)
  have hlt : x.toNat < seen.length := by rw [h.len]; omega
  have up : ∀ k : Nat, bit seen k = true → bit (seen.set x.toNat true) k = true := by
    intro k hk
    rw [bit_set hlt]; split
    · rfl
    · exact hk
  have cut : ∀ k : Nat, bit seen k = true ∨ (k : Int) ∈ x :: opn → bit (seen.set x.toNat true) k = true ∨ (k : Int) ∈ opn ++ row := by
    intro k hk
    rcases hk with h1 | h1
    · exact .inl (up k h1)
    · rcases List.mem_cons.1 h1 with h2 | h2
      · exact .inl (by rw [bit_set hlt, if_pos (by omega)])
      · exact .inr (by simp [h2])
  refine ⟨by rw [List.length_set]; exact h.len, fun y hy => ?_, fun y hy => ?_, ?_, fun k hk => cut k (h.start k hk), fun j k hj hk => ?_⟩
  · rcases List.mem_append.1 hy with hy | hy
    · exact h.inr y (by simp [hy])
    · exact hr _ (List.mem_of_getElem? hrow) y hy
  · rcases List.mem_append.1 hy with hy | hy
    · exact h.way y (by simp [hy])
    · have := hr _ (List.mem_of_getElem? hrow) y hy
      exact (h.way x (by simp)).trans (.one ⟨row, hrow, by rw [Int.toNat_of_nonneg this.1]; exact hy⟩)
  · rw [bit_set hlt, if_neg (by omega)]; exact h.no
  · rw [bit_set hlt] at hj
    by_cases e : j = x.toNat
    · subst e
      obtain ⟨r, h1, h2⟩ := hk
      rw [hrow] at h1; cases h1
      exact .inr (by simp [h2])
    · rw [if_neg e] at hj
      exact cut k (h.cl j k hj hk)

/-- A square of marks. -/
noncomputable def rowM (n : Nat) (R : Nat → Prop) : List Bool := (List.range n).map fun k => tf (R k)
noncomputable def mat (n : Nat) (W : Nat → Nat → Prop) : List (List Bool) := (List.range n).map fun i => rowM n (W i)
theorem rowM_len (n : Nat) (R : Nat → Prop) : (rowM n R).length = n := by simp [rowM]
theorem mat_len (n : Nat) (W : Nat → Nat → Prop) : (mat n W).length = n := by simp [mat]
theorem rowM_get {n : Nat} {R : Nat → Prop} {k : Nat} (h : k < n) : (rowM n R)[k]? = some (tf (R k)) := by simp [rowM, h]
theorem mat_get {n : Nat} {W : Nat → Nat → Prop} {i : Nat} (h : i < n) : (mat n W)[i]? = some (rowM n (W i)) := by simp [mat, h]
theorem rowM_ext {n : Nat} {R Q : Nat → Prop} (h : ∀ k, k < n → (R k ↔ Q k)) : rowM n R = rowM n Q := by
  unfold rowM
  refine List.map_congr_left fun k hk => tf_congr (h k (List.mem_range.1 hk))
theorem mat_ext {n : Nat} {W V : Nat → Nat → Prop} (h : ∀ i, i < n → ∀ k, k < n → (W i k ↔ V i k)) : mat n W = mat n V := by
  unfold mat
  refine List.map_congr_left fun i hi => rowM_ext (h i (List.mem_range.1 hi))
theorem rowM_set {n : Nat} {R : Nat → Prop} {k : Nat} {P : Prop} : (rowM n R).set k (tf P) = rowM n (fun j => if j = k then P else R j) := by
  refine List.ext_getElem? fun j => ?_
  rw [List.getElem?_set, rowM_len]
  rcases Nat.lt_or_ge j n with hj | hj
  · rw [rowM_get hj, rowM_get hj]
    by_cases e : k = j
    · subst e; simp [hj]
    · have e2 : ¬ j = k := fun h => e h.symm
      simp [e, e2]
  · have h1 : ∀ R : Nat → Prop, (rowM n R)[j]? = none := fun R => List.getElem?_eq_none (by rw [rowM_len]; exact hj)
    rw [h1, h1]
    by_cases e : k = j
    · subst e; simp; omega
    · simp [e]
theorem mat_set {n : Nat} {W : Nat → Nat → Prop} {i : Nat} {R : Nat → Prop} : (mat n W).set i (rowM n R) = mat n (fun a => if a = i then R else W a) := by
  refine List.ext_getElem? fun j => ?_
  rw [List.getElem?_set, mat_len]
  rcases Nat.lt_or_ge j n with hj | hj
  · rw [mat_get hj, mat_get hj]
    by_cases e : i = j
    · subst e; simp [hj]
    · have e2 : ¬ j = i := fun h => e h.symm
      simp [e, e2]
  · have h1 : ∀ W : Nat → Nat → Prop, (mat n W)[j]? = none := fun R => List.getElem?_eq_none (by rw [mat_len]; exact hj)
    rw [h1, h1]
    by_cases e : i = j
    · subst e; simp; omega
    · simp [e]

/-- The first that it is true of; -1. -/
noncomputable def first (P : Nat → Prop) (n : Nat) : Nat → Int
  | 0 => -1
  | k + 1 => if tf (P (n - (k + 1))) = true then ((n - (k + 1) : Nat) : Int) else first P n k
end Go.Proofs.Ytfnjdegejgocfaa.Rf
