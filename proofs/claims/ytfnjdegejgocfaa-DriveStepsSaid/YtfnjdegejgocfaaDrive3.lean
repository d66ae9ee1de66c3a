/- Small steps of the machine: Small, Ref, Same, Concat, Clone, State, Act, Goto, reduce. -/
import Derived.Test.YtfnjdegejgocfaaDrive2
set_option linter.unusedVariables false
set_option linter.unusedSimpArgs false
namespace Go.Proofs.Ytfnjdegejgocfaa.Rf
open Go

structure Sm (t : Tb) : Prop where
  a : t.1.length ≤ 40
  g : t.2.1.length ≤ 40
  s : t.2.2.1.length ≤ 40
  l : t.2.2.2.length ≤ 40
  ar : ¬ ∃ j, j < t.1.length ∧ ∃ r, t.1[j]? = some r ∧ 40 < r.length
  gr : ¬ ∃ j, j < t.2.1.length ∧ ∃ r, t.2.1[j]? = some r ∧ 40 < r.length
theorem Sm.row {t : Tb} (h : Sm t) {r : List (Int × Int)} (hr : r ∈ t.1) : r.length ≤ 40 := by
  obtain ⟨j, hj, e⟩ := List.mem_iff_getElem.1 hr
  exact Nat.le_of_not_lt (fun hl => h.ar ⟨j, hj, r, by rw [List.getElem?_eq_getElem hj, e], hl⟩)

theorem p45_eq (t : Tb) (ht : TbOk t) : p45 N0 (t, ()) = some ((bcode (Sm t), ()), ()) := by
  unfold p45
  have e40 : ∀ a : Nat, ((40 : Int) < (a : Int)) ↔ ¬ a ≤ 40 := fun a => by omega
  simp only [joinB_eq, bif_eq, decide_eq_true_eq, e40]
  by_cases h1 : t.1.length ≤ 40
  case neg => rw [bcode_f (fun c => h1 c.a)]; simp [h1]
  by_cases h2 : t.2.1.length ≤ 40
  case neg => rw [bcode_f (fun c => h2 c.g)]; simp [h1, h2]
  by_cases h3 : t.2.2.1.length ≤ 40
  case neg => rw [bcode_f (fun c => h3 c.s)]; simp [h1, h2, h3]
  by_cases h4 : t.2.2.2.length ≤ 40
  case neg => rw [bcode_f (fun c => h4 c.l)]; simp [h1, h2, h3, h4]
  simp only [h1, h2, h3, h4, not_true, if_false, decide_false, Bool.false_eq_true]
  refine (loop_anyI (fun j => ∃ r, t.1[j]? = some r ∧ 40 < r.length) t.1.length (some ((false, ()), ())) ?a1 (fun j => ((), (j : Int), ())) ?s1 ?f1 N0 ?n1).trans ?_
  case f1 => intro k; simp only [Int.lt_irrefl, if_false]; exact rfl
  case n1 => have := N0_lt ht.a; omega
  case s1 =>
    intro j hj k
    have hc : (j : Int) < (t.1.length : Int) := by omega
    simp only [hc, if_true, Int.toNat_natCast, Int.natCast_nonneg, List.getElem?_eq_getElem hj, wrap_succ hj ht.a, Option.some.injEq, exists_eq_left', e40]
    constructor
    · intro h; rw [if_pos (by omega)]
    · intro h; rw [if_neg (by omega)]
  split
  case isTrue hb => rw [bcode_f (fun c => c.ar hb)]
  case isFalse hb =>
  refine (loop_anyI (fun j => ∃ r, t.2.1[j]? = some r ∧ 40 < r.length) t.2.1.length (some ((false, ()), ())) (some ((true, ()), ())) (fun j => ((), (j : Int), ())) ?s3 ?f3 N0 ?n3).trans ?_
  case f3 => intro k; simp only [Int.lt_irrefl, if_false]
  case n3 => have := N0_lt ht.g; omega
  case s3 =>
    intro j hj k
    have hc : (j : Int) < (t.2.1.length : Int) := by omega
    simp only [hc, if_true, Int.toNat_natCast, Int.natCast_nonneg, List.getElem?_eq_getElem hj, wrap_succ hj ht.g, Option.some.injEq, exists_eq_left', e40]
    constructor
    · intro h; rw [if_pos (by omega)]
    · intro h; rw [if_neg (by omega)]
  split
  case isTrue hp => rw [bcode_f (fun c => c.gr hp)]
  case isFalse hp => rw [bcode_t ⟨h1, h2, h3, h4, hb, hp⟩]

theorem p48_eq (t : Tb) (ht : TbOk t) (hs : Sm t) : p48 N0 (t, ()) = some ((t, ()), ()) := by
  unfold p48
  have hz : t.1.length ≤ t.1.length := Nat.le_refl _
  refine (loop_up (fun j => (((([], ([], ([], []))), ((t.1.take j, (t.2.1, (t.2.2.1, t.2.2.2))), ())), ((j : Int), ())))) (fun j => some ((t, ()), ())) t.1.length (fun j hj k hk => ?_) N0 0 (Nat.zero_le _) (by have := N0_lt ht.a; omega))
  rcases Nat.lt_or_ge j t.1.length with hlt | hge
  · have hk := hk hlt
    have hc : ((j : Nat) : Int) < (t.1.length : Int) := by omega
    have hr := ht.ar _ (List.getElem_mem hlt)
    have hr40 := hs.row (List.getElem_mem hlt)
    have h40 := hs.a
    simp only [hc, decide_true, cond_true, Int.toNat_natCast, Int.natCast_nonneg, if_true, List.getElem?_eq_getElem hlt]
    have htk : t.1.take (j + 1) = t.1.take j ++ [t.1[j]] := by rw [List.take_add_one, List.getElem?_eq_getElem hlt]; rfl
    rw [htk] at hk
    generalize t.1[j] = r at hr hr40 hk ⊢
    refine loop_up (fun m => (((([], ([], ([], []))), ((t.1.take j, (t.2.1, (t.2.2.1, t.2.2.2))), ())), ((r.take m, ((m : Int), ()))))) ) (fun m => some ((t, ()), ())) r.length (fun m hm k2 hk2 => ?_) N0 0 (Nat.zero_le _) (by have := N0_lt hr; omega)
    rcases Nat.lt_or_ge m r.length with hlt2 | hge2
    · have hk2 := hk2 hlt2
      have hc2 : ((m : Nat) : Int) < (r.length : Int) := by omega
      have htk2 : r.take (m + 1) = r.take m ++ [r[m]] := by rw [List.take_add_one, List.getElem?_eq_getElem hlt2]; rfl
      rw [htk2] at hk2
      simp only [hc2, decide_true, cond_true, Int.toNat_natCast, Int.natCast_nonneg, if_true, List.getElem?_eq_getElem hlt2, wrap_succ hlt2 hr, List.length_take, List.length_cons, List.length_nil]
      rw [if_pos (by omega), if_pos (by omega)]
      exact hk2
    · have hc2 : ¬ ((m : Nat) : Int) < (r.length : Int) := by omega
      simp only [hc2, decide_false, cond_false, List.length_take, List.length_cons, List.length_nil, wrap_succ hlt ht.a]
      rw [if_pos (by omega), if_pos (by omega), List.take_of_length_le hge2]
      exact hk
  · have hc : ¬ ((j : Nat) : Int) < (t.1.length : Int) := by omega
    simp only [hc, decide_false, cond_false, List.take_of_length_le hge]

theorem p38_eq (a : List Int) (h : a.length ≤ maxLen) : p38 N0 (a, (a, ())) = some ((true, ()), ()) := by
  unfold p38
  simp only [decide_true, Bool.not_true, cond_false]
  refine (loop_up (fun j => ((), ((j : Int), ()))) (fun j => some ((true, ()), ())) a.length (fun j hj k hk => ?_) N0 0 (Nat.zero_le _) (by have := N0_lt h; omega))
  rcases Nat.lt_or_ge j a.length with hlt | hge
  · have hk := hk hlt
    have hc : ((j : Nat) : Int) < (a.length : Int) := by omega
    simp only [hc, decide_true, cond_true, Int.toNat_natCast, Int.natCast_nonneg, if_true, List.getElem?_eq_getElem hlt, Bool.not_true, cond_false, wrap_succ hlt h]
    exact hk
  · have hc : ¬ ((j : Nat) : Int) < (a.length : Int) := by omega
    simp only [hc, decide_false, cond_false]

theorem p76_eq (l : List Int) (h : l.length ≤ 10000000) : p76 N0 (l, ()) = some ((l, ()), ()) := by
  unfold p76
  cases l with
  | nil => simp [nilB, bothB_eq]
  | cons x xs =>
    have c1 : (xs.length + 1) * 8 ≤ 140737488355328 := by simp only [List.length_cons] at h; omega
    have c2 : xs.length + 1 ≤ 9223372036854775807 := by simp only [List.length_cons] at h; omega
    simp [nilB, c1, c2]

theorem p74_eq (a : List Int) (k : Int) (h : a.length ≤ 1000) : p74 N0 ([a, [k]], ()) = some ((a ++ [k], ()), ()) := by
  unfold p74
  obtain ⟨n, hn⟩ : ∃ n, N0 = n + 3 := ⟨18446744073709551613, rfl⟩
  rw [hn]
  have w0 : IntKind.wrap .i64 (a.length : Int) = (a.length : Int) := wrap_in (by omega) (by omega)
  have w1 : IntKind.wrap .i64 ((a.length : Int) + 1) = (a.length : Int) + 1 := wrap_in (by omega) (by omega)
  have w2 : IntKind.wrap .i64 (1 : Int) = 1 := by decide
  have w3 : IntKind.wrap .i64 ((1 : Int) + 1) = 2 := by decide
  have w4 : IntKind.wrap .i64 (2 : Int) = 2 := by decide
  have c1 : ¬ (a.length : Int) < 0 := by omega
  have c2 : ¬ (a.length : Int) + 1 < 0 := by omega
  have c3 : a.length * 8 ≤ 140737488355328 := by omega
  have c4 : a.length ≤ 9223372036854775807 := by omega
  have c5 : (a.length + 1) * 8 ≤ 140737488355328 := by omega
  have c6 : a.length + 1 ≤ 9223372036854775807 := by omega
  have g : p84 (n + 3) ([], ((a.length : Int) + 1, ())) = some (([], ()), ()) := by
    unfold p84
    rw [if_pos ⟨rfl, by simp only; omega, by simp only; omega⟩]
  simp [loopB_succ, w0, w1, w2, w3, w4, c1, c2, c3, c4, c5, c6, g]
  omega

end Go.Proofs.Ytfnjdegejgocfaa.Rf
