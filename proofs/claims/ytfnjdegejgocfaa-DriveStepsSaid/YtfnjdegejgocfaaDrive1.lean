/- Tables: what Check, Ref, Small, Same, Concat and Clone compute. -/
import Derived.Test.YtfnjdegejgocfaaFnC
import Derived.Test.YtfnjdegejgocfaaP0
set_option linter.unusedVariables false
set_option linter.unusedSimpArgs false
namespace Go.Proofs.Ytfnjdegejgocfaa.Rf
open Go

open Classical in
theorem loop_anyI {A R : Type} {body : A → (A → Option R) → Option R} (P : Nat → Prop) (len : Nat) (found after : Option R) (f : Nat → A)
    (step : ∀ j, j < len → ∀ k, (P j → body (f j) k = found) ∧ (¬ P j → body (f j) k = k (f (j + 1)))) (fin : ∀ k, body (f len) k = after) (n : Nat) (hn : len < n) :
    loopB body n (f 0) = if (∃ j, j < len ∧ P j) then found else after := by
  have h := loop_any P len found after f step fin n hn
  split
  · exact h.1 ‹_›
  · exact h.2 ‹_›
abbrev Tb := List (List (Int × Int)) × (List (List Int) × (List Int × List Int))

def okA (t : Tb) (a : Int × Int) : Bool :=
  if a.1 = 1 then decide (0 ≤ a.2) && decide (a.2 < (t.1.length : Int))
  else if a.1 = 2 then decide (0 ≤ a.2) && decide (a.2 < (t.2.2.1.length : Int))
  else decide (a.1 = 0) || decide (a.1 = 3)

theorem p85_eq (t : Tb) (l : List (Int × Int)) (hl : l.length ≤ maxLen) : p85 N0 (t, (l, ())) = some ((l.all (okA t), ()), ()) := by
  unfold p85
  simp only [joinB_eq]
  refine (loop_all (after := some ((true, ()), ())) l (okA t) (some ((false, ()), ())) (fun j => ((), (j : Int), ())) ?s1 ?f1 N0 ?n1).trans ?_
  case f1 => intro k; simp
  case n1 => have := N0_lt hl; omega
  case s1 =>
    intro j hj k
    have hc : (j : Int) < (l.length : Int) := by omega
    simp only [hc, decide_true, cond_true, if_true, Int.toNat_natCast, Int.natCast_nonneg, List.getElem?_eq_getElem hj, wrap_succ hj hl, okA, bif_eq, decide_eq_true_eq]
    generalize l[j] = a
    by_cases h1 : a.1 = 1
    · by_cases h2 : a.2 < 0
      · have : ¬ 0 ≤ a.2 := by omega
        simp [h1, h2, this]
      · have h2' : 0 ≤ a.2 := by omega
        by_cases h3 : (t.1.length : Int) ≤ a.2
        · have : ¬ a.2 < (t.1.length : Int) := by omega
          simp [h1, h2, h2', h3, this]
        · have : a.2 < (t.1.length : Int) := by omega
          simp [h1, h2, h2', h3, this]
    · by_cases h4 : a.1 = 2
      · by_cases h2 : a.2 < 0
        · have : ¬ 0 ≤ a.2 := by omega
          simp [h1, h4, h2, this]
        · have h2' : 0 ≤ a.2 := by omega
          by_cases h3 : (t.2.2.1.length : Int) ≤ a.2
          · have : ¬ a.2 < (t.2.2.1.length : Int) := by omega
            simp [h1, h4, h2, h2', h3, this]
          · have : a.2 < (t.2.2.1.length : Int) := by omega
            simp [h1, h4, h2, h2', h3, this]
      · by_cases h5 : a.1 = 0
        · simp [h1, h4, h5]
        · by_cases h6 : a.1 = 3
          · simp [h1, h4, h5, h6]
          · simp [h1, h4, h5, h6]
  · cases l.all (okA t) <;> rfl

/-- No length of the table is beyond memory. -/
structure TbOk (t : Tb) : Prop where
  a : t.1.length ≤ maxLen
  ar : ∀ r ∈ t.1, r.length ≤ maxLen
  g : t.2.1.length ≤ maxLen
  gr : ∀ r ∈ t.2.1, r.length ≤ maxLen
  s : t.2.2.1.length ≤ maxLen
  l : t.2.2.2.length ≤ maxLen

def okG (t : Tb) (x : Int) : Bool := decide (-1 ≤ x) && decide (x < (t.1.length : Int))
def stBad (t : Tb) (tokens sorts : Int) (j : Nat) : Prop := ∀ r g, t.1[j]? = some r → t.2.1[j]? = some g → ¬ ((r.length : Int) = tokens + 1 ∧ (g.length : Int) = sorts ∧ r.all (okA t) = true ∧ g.all (okG t) = true)
def prBad (t : Tb) (sorts : Int) (j : Nat) : Prop := ∀ s n, t.2.2.1[j]? = some s → t.2.2.2[j]? = some n → ¬ (0 ≤ s ∧ s < sorts ∧ 0 ≤ n ∧ n ≤ 12)
/-- A sound table. -/
structure Chk (t : Tb) (tokens sorts : Int) : Prop where
  z : t.1.length ≠ 0
  g : t.2.1.length = t.1.length
  l : t.2.2.2.length = t.2.2.1.length
  st : ¬ ∃ j, j < t.1.length ∧ stBad t tokens sorts j
  pr : ¬ ∃ j, j < t.2.2.1.length ∧ prBad t sorts j

theorem wrap_eq {n : Nat} {x : Int} (hx : inK .i64 x) (hn : n ≤ maxLen) : ((n : Int) = IntKind.wrap .i64 (x + 1)) ↔ (n : Int) = x + 1 := by
  have hx := inK64 hx
  unfold maxLen at hn
  by_cases h : x = 9223372036854775807
  · subst h
    have : IntKind.wrap .i64 ((9223372036854775807 : Int) + 1) = -9223372036854775808 := by decide
    rw [this]; omega
  · rw [wrap_in (by omega) (by omega)]
theorem wrap_pred {n : Nat} (hn : n ≤ maxLen) : IntKind.wrap .i64 ((n : Int) - 1) = (n : Int) - 1 := by
  unfold maxLen at hn
  exact wrap_in (by omega) (by omega)

open Classical in
noncomputable def code (p : Prop) : Int := if p then 0 else 23
theorem code_t {p : Prop} (h : p) : code p = 0 := if_pos h
theorem code_f {p : Prop} (h : ¬ p) : code p = 23 := if_neg h

theorem stBad_iff {t : Tb} {tokens sorts : Int} {j : Nat} (h1 : j < t.1.length) (h2 : j < t.2.1.length) : stBad t tokens sorts j ↔ ¬ ((t.1[j].length : Int) = tokens + 1 ∧ (t.2.1[j].length : Int) = sorts ∧ t.1[j].all (okA t) = true ∧ t.2.1[j].all (okG t) = true) := by
  unfold stBad
  rw [List.getElem?_eq_getElem h1, List.getElem?_eq_getElem h2]
  constructor
  · intro h; exact h _ _ rfl rfl
  · intro h r g e1 e2; injection e1 with e1; injection e2 with e2; rw [← e1, ← e2]; exact h
theorem prBad_iff {t : Tb} {sorts : Int} {j : Nat} (h1 : j < t.2.2.1.length) (h2 : j < t.2.2.2.length) : prBad t sorts j ↔ ¬ (0 ≤ t.2.2.1[j] ∧ t.2.2.1[j] < sorts ∧ 0 ≤ t.2.2.2[j] ∧ t.2.2.2[j] ≤ 12) := by
  unfold prBad
  rw [List.getElem?_eq_getElem h1, List.getElem?_eq_getElem h2]
  constructor
  · intro h; exact h _ _ rfl rfl
  · intro h r g e1 e2; injection e1 with e1; injection e2 with e2; rw [← e1, ← e2]; exact h

theorem p75_eq (t : Tb) (tokens sorts : Int) (ht : TbOk t) (hk : inK .i64 tokens) : p75 N0 (t, (tokens, (sorts, ()))) = some ((code (Chk t tokens sorts), ()), ()) := by
  unfold p75
  simp only [joinB_eq, bif_eq, decide_eq_true_eq, Bool.not_eq_true', decide_eq_false_iff_not]
  by_cases h1 : t.1.length = 0
  · rw [code_f (fun c => c.z h1)]
    simp [h1]
  have h1' : ¬ (t.1.length : Int) = 0 := by omega
  by_cases h2 : t.2.1.length = t.1.length
  case neg =>
    have h2' : ¬ (t.2.1.length : Int) = (t.1.length : Int) := by omega
    rw [code_f (fun c => h2 c.g)]
    simp only [h1', h2', if_false, not_false_eq_true, if_true]
  have h2' : (t.2.1.length : Int) = (t.1.length : Int) := by omega
  by_cases h3 : t.2.2.2.length = t.2.2.1.length
  case neg =>
    have h3' : ¬ (t.2.2.2.length : Int) = (t.2.2.1.length : Int) := by omega
    rw [code_f (fun c => h3 c.l)]
    simp only [h1', h2', h3', if_false, not_false_eq_true, if_true, not_true, decide_false, Bool.not_false]
  have h3' : (t.2.2.2.length : Int) = (t.2.2.1.length : Int) := by omega
  simp only [h1', h2', h3', if_false, not_true, decide_true, Bool.not_true, Bool.false_eq_true]
  refine (loop_anyI (stBad t tokens sorts) t.1.length (some (((23 : Int), ()), ())) ?a1 (fun j => ((), (j : Int), ())) ?s1 ?f1 N0 ?n1).trans ?_
  case f1 => intro k; simp only [Int.lt_irrefl, if_false]; exact rfl
  case n1 => have := N0_lt ht.a; omega
  case s1 =>
    intro j hj k
    have hj2 : j < t.2.1.length := by omega
    have hc : (j : Int) < (t.1.length : Int) := by omega
    have hr := ht.ar _ (List.getElem_mem hj)
    have hg := ht.gr _ (List.getElem_mem hj2)
    rw [stBad_iff hj hj2]
    simp only [hc, decide_true, cond_true, if_true, Int.toNat_natCast, Int.natCast_nonneg, List.getElem?_eq_getElem hj, List.getElem?_eq_getElem hj2, p85_eq t _ hr, callB_some, wrap_succ hj ht.a, wrap_eq hk hr]
    generalize t.1[j] = r at hr ⊢
    generalize t.2.1[j] = g at hg ⊢
    by_cases a1 : (r.length : Int) = tokens + 1
    case neg => simp [a1]
    by_cases a2 : (g.length : Int) = sorts
    case neg => simp [a1, a2]
    cases a3 : r.all (okA t)
    · simp [a1, a2]
    subst a2
    simp only [a1, not_true, if_false, Bool.not_true, Bool.false_eq_true, true_and, and_true, Decidable.not_not, reduceCtorEq]
    have : ∀ X : Option ((Int × Unit) × Unit), X = (if g.all (okG t) = true then k ((), (((j + 1 : Nat) : Int)), ()) else some (((23 : Int), ()), ())) → ((¬ g.all (okG t) = true → X = some (((23 : Int), ()), ())) ∧ (g.all (okG t) = true → X = k ((), ((j + 1 : Nat) : Int), ()))) := by
      intro X hX; rw [hX]; exact ⟨fun h => if_neg h, fun h => if_pos h⟩
    refine this _ ?_
    refine loop_all g (okG t) (some (((23 : Int), ()), ())) (k ((), (((j + 1 : Nat) : Int)), ())) (fun m => ((), (m : Int), ())) ?s2 ?f2 N0 ?n2
    case f2 => intro k; simp
    case n2 => have := N0_lt hg; omega
    case s2 =>
      intro m hm k2
      have hc2 : (m : Int) < (g.length : Int) := by omega
      simp only [hc2, if_true, Int.toNat_natCast, Int.natCast_nonneg, List.getElem?_eq_getElem hm, wrap_succ hm hg, okG, Bool.and_eq_true, decide_eq_true_eq]
      generalize g[m] = x
      by_cases b1 : x < -1
      · have : ¬ -1 ≤ x := by omega
        simp [b1, this]
      · have b1' : -1 ≤ x := by omega
        by_cases b2 : (t.1.length : Int) ≤ x
        · have : ¬ x < (t.1.length : Int) := by omega
          simp [b1, b1', b2, this]
        · have : x < (t.1.length : Int) := by omega
          simp [b1, b1', b2, this]
  split
  case isTrue hb => rw [code_f (fun c => c.st hb)]
  case isFalse hb =>
  refine (loop_anyI (prBad t sorts) t.2.2.1.length (some (((23 : Int), ()), ())) (some (((0 : Int), ()), ())) (fun j => ((), (j : Int), ())) ?s3 ?f3 N0 ?n3).trans ?_
  case f3 => intro k; simp only [Int.lt_irrefl, if_false]
  case n3 => have := N0_lt ht.s; omega
  case s3 =>
    intro j hj k
    have hj2 : j < t.2.2.2.length := by omega
    have hc : (j : Int) < (t.2.2.1.length : Int) := by omega
    rw [prBad_iff hj hj2]
    simp only [hc, if_true, Int.toNat_natCast, Int.natCast_nonneg, List.getElem?_eq_getElem hj, List.getElem?_eq_getElem hj2, wrap_succ hj ht.s]
    generalize t.2.2.1[j] = s
    generalize t.2.2.2[j] = n
    by_cases b1 : s < 0
    · have : ¬ 0 ≤ s := by omega
      simp [b1, this]
    have b1' : 0 ≤ s := by omega
    by_cases b2 : sorts ≤ s
    · have : ¬ s < sorts := by omega
      simp [b1, b1', b2, this]
    have b2' : s < sorts := by omega
    by_cases b3 : n < 0
    · have : ¬ 0 ≤ n := by omega
      simp [b1, b1', b2, b2', b3, this]
    have b3' : 0 ≤ n := by omega
    by_cases b4 : 12 < n
    · have : ¬ n ≤ 12 := by omega
      simp [b1, b1', b2, b2', b3, b3', b4, this]
    have b4' : n ≤ 12 := by omega
    simp [b1, b1', b2, b2', b3, b3', b4, b4']
  split
  case isTrue hp => rw [code_f (fun c => c.pr hp)]
  case isFalse hp => rw [code_t ⟨h1, h2, h3, hb, hp⟩]
end Go.Proofs.Ytfnjdegejgocfaa.Rf
