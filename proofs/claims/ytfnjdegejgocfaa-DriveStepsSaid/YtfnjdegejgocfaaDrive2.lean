/- Tables: the reference's Check, Ref, Small, Same, Concat, Clone. -/
import Derived.Test.YtfnjdegejgocfaaDrive1
set_option linter.unusedVariables false
set_option linter.unusedSimpArgs false
namespace Go.Proofs.Ytfnjdegejgocfaa.Rf
open Go

open Classical in
noncomputable def bcode (p : Prop) : Bool := if p then true else false
theorem bcode_t {p : Prop} (h : p) : bcode p = true := if_pos h
theorem bcode_f {p : Prop} (h : ¬ p) : bcode p = false := if_neg h

theorem p50_eq (t : Tb) (tokens sorts : Int) (ht : TbOk t) : p50 N0 (t, (tokens, (sorts, ()))) = some ((bcode (Chk t tokens sorts), ()), ()) := by
  unfold p50
  simp only [joinB_eq, bif_eq, decide_eq_true_eq, Bool.not_eq_true', decide_eq_false_iff_not]
  by_cases h1 : t.1.length = 0
  · rw [bcode_f (fun c => c.z h1)]
    simp [h1]
  have h1' : ¬ (t.1.length : Int) = 0 := by omega
  by_cases h2 : t.2.1.length = t.1.length
  case neg =>
    have h2' : ¬ (t.2.1.length : Int) = (t.1.length : Int) := by omega
    rw [bcode_f (fun c => h2 c.g)]
    simp only [h1', h2', if_false, not_false_eq_true, if_true]
  have h2' : (t.2.1.length : Int) = (t.1.length : Int) := by omega
  by_cases h3 : t.2.2.2.length = t.2.2.1.length
  case neg =>
    have h3' : ¬ (t.2.2.2.length : Int) = (t.2.2.1.length : Int) := by omega
    rw [bcode_f (fun c => h3 c.l)]
    simp only [h1', h2', h3', if_false, not_false_eq_true, if_true, not_true, decide_false, Bool.not_false]
  have h3' : (t.2.2.2.length : Int) = (t.2.2.1.length : Int) := by omega
  simp only [h1', h2', h3', if_false, not_true, decide_true, Bool.not_true, Bool.false_eq_true]
  refine (loop_anyI (stBad t tokens sorts) t.1.length (some ((false, ()), ())) ?a1 (fun j => ((), (j : Int), ())) ?s1 ?f1 N0 ?n1).trans ?_
  case f1 => intro k; simp only [Int.lt_irrefl, if_false]; exact rfl
  case n1 => have := N0_lt ht.a; omega
  case s1 =>
    intro j hj k
    have hj2 : j < t.2.1.length := by omega
    have hc : (j : Int) < (t.1.length : Int) := by omega
    have hr := ht.ar _ (List.getElem_mem hj)
    have hg := ht.gr _ (List.getElem_mem hj2)
    rw [stBad_iff hj hj2]
    simp only [hc, decide_true, cond_true, if_true, Int.toNat_natCast, Int.natCast_nonneg, List.getElem?_eq_getElem hj, List.getElem?_eq_getElem hj2, wrap_succ hj ht.a, wrap_pred hr]
    generalize t.1[j] = r at hr ⊢
    generalize t.2.1[j] = g at hg ⊢
    have e1 : ((r.length : Int) - 1 = tokens) ↔ (r.length : Int) = tokens + 1 := by omega
    simp only [e1]
    by_cases a1 : (r.length : Int) = tokens + 1
    case neg => simp [a1]
    by_cases a2 : (g.length : Int) = sorts
    case neg => simp [a1, a2]
    subst a2
    have a0 : tokens = (r.length : Int) - 1 := by omega
    subst a0
    simp only [show (r.length : Int) - 1 + 1 = (r.length : Int) by omega, not_true, if_false, Bool.not_true, Bool.false_eq_true, true_and, and_true, decide_true, reduceCtorEq]
    have : ∀ X : Option ((Bool × Unit) × Unit), X = (if r.all (okA t) = true then (if g.all (okG t) = true then k ((), (((j + 1 : Nat) : Int)), ()) else some ((false, ()), ())) else some ((false, ()), ())) → ((¬ (r.all (okA t) = true ∧ g.all (okG t) = true) → X = some ((false, ()), ())) ∧ (¬ ¬ (r.all (okA t) = true ∧ g.all (okG t) = true) → X = k ((), ((j + 1 : Nat) : Int), ()))) := by
      intro X hX; rw [hX]
      constructor
      · intro h
        by_cases q1 : r.all (okA t) = true
        · rw [if_pos q1]; exact if_neg (fun q2 => h ⟨q1, q2⟩)
        · exact if_neg q1
      · intro h
        have h := Decidable.not_not.1 h
        rw [if_pos h.1, if_pos h.2]
    refine this _ ?_
    refine loop_all r (okA t) (some ((false, ()), ())) (if g.all (okG t) = true then k ((), (((j + 1 : Nat) : Int)), ()) else some ((false, ()), ())) (fun m => ((), (m : Int), ())) ?s2 ?f2 N0 ?n2
    case n2 => have := N0_lt hr; omega
    case f2 =>
      intro k2
      simp only [Int.lt_irrefl, if_false]
      refine loop_all g (okG t) (some ((false, ()), ())) (k ((), (((j + 1 : Nat) : Int)), ())) (fun m => ((), (m : Int), ())) ?s4 ?f4 N0 ?n4
      case f4 => intro k; simp
      case n4 => have := N0_lt hg; omega
      case s4 =>
        intro m hm k2
        have hc2 : (m : Int) < (g.length : Int) := by omega
        simp only [hc2, if_true, Int.toNat_natCast, Int.natCast_nonneg, List.getElem?_eq_getElem hm, wrap_succ hm hg, okG, Bool.and_eq_true, decide_eq_true_eq]
        generalize g[m] = x
        by_cases b1 : x < -1
        · have : ¬ -1 ≤ x := by omega
          simp [b1, this]
        · have b1' : -1 ≤ x := by omega
          by_cases b2 : (t.1.length : Int) ≤ x
          · have : ¬ x < (t.1.length : Int) := by omega
            simp [b1, b1', b2, this]
          · have : x < (t.1.length : Int) := by omega
            simp [b1, b1', b2, this]
    case s2 =>
      intro m hm k2
      have hc2 : (m : Int) < (r.length : Int) := by omega
      simp only [hc2, if_true, Int.toNat_natCast, Int.natCast_nonneg, List.getElem?_eq_getElem hm, wrap_succ hm hr, okA, decide_eq_true_eq]
      generalize r[m] = a
      by_cases h5 : a.1 < 0
      · have : ¬ a.1 = 1 := by omega
        have : ¬ a.1 = 2 := by omega
        have : ¬ a.1 = 0 := by omega
        have : ¬ a.1 = 3 := by omega
        simp [*]
      by_cases h6 : 3 < a.1
      · have : ¬ a.1 = 1 := by omega
        have : ¬ a.1 = 2 := by omega
        have : ¬ a.1 = 0 := by omega
        have : ¬ a.1 = 3 := by omega
        simp [*]
      by_cases h1 : a.1 = 1
      · by_cases h2 : a.2 < 0
        · have : ¬ 0 ≤ a.2 := by omega
          simp [h1, h2, this]
        · have h2' : 0 ≤ a.2 := by omega
          by_cases h3 : (t.1.length : Int) ≤ a.2
          · have : ¬ a.2 < (t.1.length : Int) := by omega
            simp [h1, h2, h2', h3, this]
          · have : a.2 < (t.1.length : Int) := by omega
            simp [h1, h2, h2', h3, this]
      · by_cases h4 : a.1 = 2
        · by_cases h2 : a.2 < 0
          · have : ¬ 0 ≤ a.2 := by omega
            simp [h1, h4, h2, this]
          · have h2' : 0 ≤ a.2 := by omega
            by_cases h3 : (t.2.2.1.length : Int) ≤ a.2
            · have : ¬ a.2 < (t.2.2.1.length : Int) := by omega
              simp [h1, h4, h2, h2', h3, this]
            · have : a.2 < (t.2.2.1.length : Int) := by omega
              simp [h1, h4, h2, h2', h3, this]
        · have h7 : a.1 = 0 ∨ a.1 = 3 := by omega
          simp [h1, h4, h5, h6, h7]
  split
  case isTrue hb => rw [bcode_f (fun c => c.st hb)]
  case isFalse hb =>
  refine (loop_anyI (prBad t sorts) t.2.2.1.length (some ((false, ()), ())) (some ((true, ()), ())) (fun j => ((), (j : Int), ())) ?s3 ?f3 N0 ?n3).trans ?_
  case f3 => intro k; simp only [Int.lt_irrefl, if_false]
  case n3 => have := N0_lt ht.s; omega
  case s3 =>
    intro j hj k
    have hj2 : j < t.2.2.2.length := by omega
    have hc : (j : Int) < (t.2.2.1.length : Int) := by omega
    rw [prBad_iff hj hj2]
    simp only [hc, if_true, Int.toNat_natCast, Int.natCast_nonneg, List.getElem?_eq_getElem hj, List.getElem?_eq_getElem hj2, wrap_succ hj ht.s]
    generalize t.2.2.1[j] = s
    generalize t.2.2.2[j] = n
    by_cases b1 : s < 0
    · have : ¬ 0 ≤ s := by omega
      simp [b1, this]
    have b1' : 0 ≤ s := by omega
    by_cases b2 : sorts ≤ s
    · have : ¬ s < sorts := by omega
      simp [b1, b1', b2, this]
    have b2' : s < sorts := by omega
    by_cases b3 : n < 0
    · have : ¬ 0 ≤ n := by omega
      simp [b1, b1', b2, b2', b3, this]
    have b3' : 0 ≤ n := by omega
    by_cases b4 : 12 < n
    · have : ¬ n ≤ 12 := by omega
      simp [b1, b1', b2, b2', b3, b3', b4, this]
    have b4' : n ≤ 12 := by omega
    simp [b1, b1', b2, b2', b3, b3', b4, b4']
  split
  case isTrue hp => rw [bcode_f (fun c => c.pr hp)]
  case isFalse hp => rw [bcode_t ⟨h1, h2, h3, hb, hp⟩]
end Go.Proofs.Ytfnjdegejgocfaa.Rf
