/- The reference's Looped: what it computes: the same. -/
import Derived.Test.YtfnjdegejgocfaaReach15
set_option linter.unusedVariables false
set_option linter.unusedSimpArgs false
namespace Go.Proofs.Ytfnjdegejgocfaa.Rf
open Go

theorem war_l {E : Nat → Nat → Prop} {m i : Nat} : War E (m + 1) i m ↔ War E m i m := ⟨fun h => h.elim id fun h => h.1, .inl⟩
theorem war_r {E : Nat → Nat → Prop} {m k : Nat} : War E (m + 1) m k ↔ War E m m k := ⟨fun h => h.elim id fun h => h.2, .inl⟩
theorem rowM_none {n : Nat} {R : Nat → Prop} (h : ∀ k, ¬ R k) : List.replicate n false = rowM n R := by
  refine List.ext_getElem? fun j => ?_
  rw [List.getElem?_replicate]
  rcases Nat.lt_or_ge j n with hj | hj
  · rw [rowM_get hj, if_pos hj, tf_f (h j)]
  · rw [if_neg (by omega), List.getElem?_eq_none (by rw [rowM_len]; exact hj)]

/-- The marks in the midst of round m: those ahead of (i, k) are told anew. -/
def Mid (E : Nat → Nat → Prop) (m i k a b : Nat) : Prop := if a < i ∨ (a = i ∧ b < k) then War E (m + 1) a b else War E m a b
theorem mid_set {E : Nat → Nat → Prop} {n m i k : Nat} (hi : i < n) (hk : k < n) : (mat n (Mid E m i k)).set i ((rowM n (Mid E m i k i)).set k (tf (War E (m + 1) i k))) = mat n (Mid E m i (k + 1)) := by
  rw [rowM_set, mat_set]
  refine mat_ext fun a ha b hb => ?_
  unfold Mid
  by_cases e : a = i
  · subst e
    simp only [if_true, Nat.lt_irrefl, false_or, true_and]
    by_cases e2 : b = k
    · subst e2; simp
    · simp only [e2, if_false]
      by_cases h : b < k
      · have : b < k + 1 := by omega
        simp [h, this]
      · have : ¬ b < k + 1 := by omega
        simp [h, this]
  · simp only [e, if_false, false_and, or_false]

set_option maxHeartbeats 2000000 in
theorem p63_eq (g : Grm) (hg : GOk g) (hn : g.2.1.length ≤ 100) (hp : g.2.2.1.length ≤ 100) (hb : ∀ p ∈ g.2.2.1, p.2.2.1.length ≤ 20) : p63 N0 (g, ()) = some ((loopF (leastF g) g.2.1.length g.2.2.1, ()), ()) := by
  unfold p63
  simp only [joinB_eq]
  rw [callB_eq (p57_eq g hg hn)]
  have hcap := (leastF_ok g).2.cap
  generalize leastF g = d at hcap
  have hal := fun (a b : Nat) (ha : a < g.2.1.length) (hbk : b < g.2.1.length) => p81_eq g hp hb d hcap ha hbk
  have hE : ∀ i k, Edge d g.2.1.length g.2.2.1 i k → k < g.2.1.length := by
    rintro i k ⟨p, _, m, _, h⟩
    exact h.2.2.1
  have hres : loopF d g.2.1.length g.2.2.1 = first (fun i => War (Edge d g.2.1.length g.2.2.1) g.2.1.length i i) g.2.1.length g.2.1.length :=
    first_congr (fun i hi => ⟨way_war hE, war_way _ _ _⟩) _ (Nat.le_refl _)
  rw [hres]
  generalize Edge d g.2.1.length g.2.2.1 = E at hal
  clear hE hres
  generalize hns : g.2.1.length = n at hn hal
  have z0 : (0 : Int) ≤ (n : Int) ∧ (n : Int) ≤ (n : Int) := by omega
  have hw : ∀ j : Nat, j < n → IntKind.wrap .i64 ((j : Int) + 1) = ((j + 1 : Nat) : Int) := fun j hj => by rw [wrap_in (by omega) (by omega)]; simp
  refine (loop_up (fun i => ((), ((List.range i).map fun a => rowM n (E a), ((i : Int), ())))) (fun _ => some ((first (fun i => War E n i i) n n, ()), ())) n (fun i hi k hk => ?_) N0 0 (Nat.zero_le _) (by unfold N0; omega))
  rcases Nat.lt_or_ge i n with hlt | hge
  · have hk := hk hlt
    have c1 : (i : Int) < (n : Int) := by omega
    simp only [c1, decide_true, cond_true, z0, and_self, if_true, Int.toNat_natCast]
    rw [if_pos (by omega)]
    refine (loop_up (fun j => (((List.range i).map fun a => rowM n (E a), (rowM n (fun b => b < j ∧ E i b), ())), ((j : Int), ()))) (fun _ => some ((first (fun i => War E n i i) n n, ()), ())) n (fun j hj k2 hk2 => ?_) N0 0 (Nat.zero_le _) (by unfold N0; omega) |> (fun h => by rw [rowM_none (n := n) (R := fun b => b < 0 ∧ E i b) (fun k h => by omega)]; exact h))
    rcases Nat.lt_or_ge j n with hjlt | hjge
    · have hk2 := hk2 hjlt
      have c2 : (j : Int) < (n : Int) := by omega
      have e1 : (fun b => if b = j then E i j else b < j ∧ E i b) = fun b => b < j + 1 ∧ E i b := by
        funext b
        by_cases e : b = j
        · subst e; simp
        · have : (b < j + 1) = (b < j) := propext ⟨fun _ => by omega, fun _ => by omega⟩
          simp [e, this]
      simp only [c2, decide_true, cond_true, hal i j hlt hjlt, callB_some, Int.natCast_nonneg, if_true, Int.toNat_natCast, rowM_get hjlt, rowM_set, hw j hjlt, e1]
      exact hk2
    · have c2 : ¬ (j : Int) < (n : Int) := by omega
      have e : j = n := by omega
      subst e
      have e1 : rowM j (fun b => b < j ∧ E i b) = rowM j (E i) := rowM_ext fun b hb => by simp [hb]
      have e2 : (List.range i).map (fun a => rowM j (E a)) ++ [rowM j (E i)] = (List.range (i + 1)).map fun a => rowM j (E a) := by rw [List.range_succ, List.map_append]; rfl
      simp only [c2, decide_false, cond_false, e1, e2, hw i hlt, List.length_map, List.length_range, List.length_cons, List.length_nil]
      rw [if_pos (by omega), if_pos (by omega)]
      exact hk
  have c1 : ¬ (i : Int) < (n : Int) := by omega
  have e : i = n := by omega
  subst e
  have e0 : (List.range i).map (fun a => rowM i (E a)) = mat i (War E 0) := rfl
  simp only [c1, decide_false, cond_false, e0]
  clear hk hge hi c1 e0
  refine (loop_up (fun m => ((mat i (War E m), ()), ((m : Int), ()))) (fun _ => some ((first (fun a => War E i a a) i i, ()), ())) i (fun m hm k hk => ?_) N0 0 (Nat.zero_le _) (by unfold N0; omega))
  rcases Nat.lt_or_ge m i with hlt | hge
  · have hk := hk hlt
    have c1 : (m : Int) < (i : Int) := by omega
    simp only [c1, decide_true, cond_true, hw m hlt]
    refine (loop_up (fun a => ((mat i (Mid E m a 0), ()), ((a : Int), ()))) (fun _ => some ((first (fun a => War E i a a) i i, ()), ())) i (fun a ha k2 hk2 => ?_) N0 0 (Nat.zero_le _) (by unfold N0; omega) |> (fun h => by rw [mat_ext (W := War E m) (V := Mid E m 0 0) fun a _ b _ => by unfold Mid; simp]; exact h))
    rcases Nat.lt_or_ge a i with halt | hage
    · have hk2 := hk2 halt
      have c2 : (a : Int) < (i : Int) := by omega
      simp only [c2, decide_true, cond_true, hw a halt]
      refine (loop_up (fun b => ((mat i (Mid E m a b), ()), ((b : Int), ()))) (fun _ => some ((first (fun a => War E i a a) i i, ()), ())) i (fun b hb k3 hk3 => ?_) N0 0 (Nat.zero_le _) (by unfold N0; omega))
      rcases Nat.lt_or_ge b i with hblt | hbge
      · have hk3 := hk3 hblt
        have c3 : (b : Int) < (i : Int) := by omega
        rw [← mid_set halt hblt] at hk3
        have w1 : Mid E m a b a b ↔ War E m a b := by unfold Mid; simp
        have w2 : Mid E m a b a m ↔ War E m a m := by unfold Mid; split; exact war_l; exact Iff.rfl
        have w3 : Mid E m a b m b ↔ War E m m b := by unfold Mid; split; exact war_r; exact Iff.rfl
        simp only [c3, decide_true, cond_true, Int.natCast_nonneg, if_true, Int.toNat_natCast, mat_get halt, mat_get hlt, rowM_get hblt, rowM_get hlt, hw b hblt, tf_congr w1, tf_congr w2, tf_congr w3]
        by_cases h1 : War E m a b
        · have h4 : War E (m + 1) a b := .inl h1
          rw [tf_t h4] at hk3
          simp only [tf_t h1, cond_true]
          exact hk3
        · by_cases h2 : War E m a m
          · have h4 : War E (m + 1) a b ↔ War E m m b := ⟨fun h => h.elim (fun h => absurd h h1) fun h => h.2, fun h => .inr ⟨h2, h⟩⟩
            rw [tf_congr h4] at hk3
            simp only [tf_f h1, tf_t h2, cond_true, cond_false]
            exact hk3
          · have h4 : ¬ War E (m + 1) a b := fun h => h.elim h1 fun h => h2 h.1
            rw [tf_f h4] at hk3
            simp only [tf_f h1, tf_f h2, cond_true, cond_false]
            exact hk3
      · have c3 : ¬ (b : Int) < (i : Int) := by omega
        have e : b = i := by omega
        subst e
        have e1 : mat b (Mid E m a b) = mat b (Mid E m (a + 1) 0) := mat_ext fun x hx y hy => by
          unfold Mid
          have : (x < a ∨ (x = a ∧ y < b)) ↔ (x < a + 1 ∨ (x = a + 1 ∧ y < 0)) := by omega
          simp only [this]
        simp only [c3, decide_false, cond_false, e1]
        exact hk2
    · have c2 : ¬ (a : Int) < (i : Int) := by omega
      have e : a = i := by omega
      subst e
      have e1 : mat a (Mid E m a 0) = mat a (War E (m + 1)) := mat_ext fun x hx y hy => by unfold Mid; simp [hx]
      simp only [c2, decide_false, cond_false, e1]
      exact hk
  have c1 : ¬ (m : Int) < (i : Int) := by omega
  have e : m = i := by omega
  subst e
  simp only [c1, decide_false, cond_false]
  clear hk hge hm c1
  refine (loop_up (fun j => ((mat m (War E m), ()), ((j : Int), ()))) (fun j => some ((first (fun a => War E m a a) m (m - j), ()), ())) m (fun j hj k hk => ?_) N0 0 (Nat.zero_le _) (by unfold N0; omega))
  rcases Nat.lt_or_ge j m with hlt | hge
  · have hk := hk hlt
    have c2 : (j : Int) < (m : Int) := by omega
    simp only [c2, decide_true, cond_true, Int.natCast_nonneg, if_true, Int.toNat_natCast, mat_get hlt, rowM_get hlt, hw j hlt, first_at hlt]
    cases tf (War E m j j)
    · simp only [cond_false, Bool.false_eq_true, if_false]; exact hk
    · simp only [cond_true, if_true]
  · have c2 : ¬ (j : Int) < (m : Int) := by omega
    have e : j = m := by omega
    subst e
    simp only [c2, decide_false, cond_false, Nat.sub_self, first]
end Go.Proofs.Ytfnjdegejgocfaa.Rf
