/- The reference's edges. -/
import Derived.Test.YtfnjdegejgocfaaReach14
set_option linter.unusedVariables false
set_option linter.unusedSimpArgs false
namespace Go.Proofs.Ytfnjdegejgocfaa.Rf
open Go

set_option maxHeartbeats 2000000 in
theorem p81_eq (g : Grm) (hp : g.2.2.1.length ≤ 100) (hb : ∀ p ∈ g.2.2.1, p.2.2.1.length ≤ 20) (d : List Int) (hcap : Cap d) {a b : Nat} (ha : a < g.2.1.length) (hbk : b < g.2.1.length) : p81 N0 (g, (d, ((a : Int), ((b : Int), ())))) = some ((tf (Edge d g.2.1.length g.2.2.1 a b), ()), ()) := by
  unfold p81
  simp only [joinB_eq]
  refine loop_rule (fun mm x r => ∃ (i : Nat), x = ((), ((i : Int), ())) ∧ mm + i = g.2.2.1.length ∧ (¬ Edge d g.2.1.length (g.2.2.1.take i) a b) ∧ r = some ((tf (Edge d g.2.1.length g.2.2.1 a b), ()), ())) ?_ N0 g.2.2.1.length _ _ (by unfold N0; omega) ⟨0, rfl, rfl, fun ⟨p, h1, _⟩ => by simp at h1, rfl⟩
  rintro mm x r ⟨i, rfl, hmm, hi, rfl⟩ k hk
  rcases Nat.eq_zero_or_pos mm with rfl | hm0
  · have c1 : ¬ (i : Int) < (g.2.2.1.length : Int) := by omega
    rw [List.take_of_length_le (by omega)] at hi
    simp only [c1, decide_false, cond_false, tf_f hi]
  obtain ⟨mm, rfl⟩ : ∃ m', mm = m' + 1 := ⟨mm - 1, by omega⟩
  have hip : i < g.2.2.1.length := by omega
  have c1 : (i : Int) < (g.2.2.1.length : Int) := by omega
  have hpm := List.getElem_mem hip
  have hpb := hb _ hpm
  have htk : g.2.2.1.take (i + 1) = g.2.2.1.take i ++ [g.2.2.1[i]] := by rw [List.take_add_one, List.getElem?_eq_getElem hip]; rfl
  have hw0 : IntKind.wrap .i64 ((i : Int) + 1) = ((i + 1 : Nat) : Int) := by rw [wrap_in (by omega) (by omega)]; simp
  have hk' : ¬ EdgeP d g.2.1.length g.2.2.1[i] g.2.2.1[i].2.2.1.length a b → k ((), (((i + 1 : Nat) : Int), ())) = some ((tf (Edge d g.2.1.length g.2.2.1 a b), ()), ()) := fun h' =>
    hk mm _ _ (Nat.lt_succ_self _) ⟨i + 1, rfl, by omega, by
      rw [htk]
      rintro ⟨q, hq, he⟩
      rcases List.mem_append.1 hq with hq | hq
      · exact hi ⟨q, hq, he⟩
      · rcases List.mem_singleton.1 hq with rfl
        exact h' he, rfl⟩
  clear hk htk hi
  have hyes : EdgeP d g.2.1.length g.2.2.1[i] g.2.2.1[i].2.2.1.length a b → Edge d g.2.1.length g.2.2.1 a b := fun h => ⟨_, hpm, h⟩
  simp only [c1, decide_true, cond_true, Int.toNat_natCast, Int.natCast_nonneg, if_true, List.getElem?_eq_getElem hip, hw0]
  generalize g.2.2.1[i] = p at hpb hk' hyes
  refine loop_rule (fun mq x r => ∃ (n : Nat), x = ((), ((n : Int), ())) ∧ mq + n = p.2.2.1.length ∧ (¬ EdgeP d g.2.1.length p n a b) ∧ r = some ((tf (Edge d g.2.1.length g.2.2.1 a b), ()), ())) ?_ N0 p.2.2.1.length _ _ (by unfold N0; omega) ⟨0, rfl, rfl, fun ⟨n, h1, _⟩ => by omega, rfl⟩
  rintro mq x r ⟨n, rfl, hmq, hi, rfl⟩ k2 hk2
  rcases Nat.eq_zero_or_pos mq with rfl | hm0
  · have c2 : ¬ (n : Int) < (p.2.2.1.length : Int) := by omega
    have e : n = p.2.2.1.length := by omega
    subst e
    simp only [c2, decide_false, cond_false]
    exact hk' hi
  obtain ⟨mq, rfl⟩ : ∃ m', mq = m' + 1 := ⟨mq - 1, by omega⟩
  have hn2 : n < p.2.2.1.length := by omega
  have c2 : (n : Int) < (p.2.2.1.length : Int) := by omega
  have hw1 : IntKind.wrap .i64 ((n : Int) + 1) = ((n + 1 : Nat) : Int) := by rw [wrap_in (by omega) (by omega)]; simp
  simp only [c2, decide_true, cond_true]
  by_cases hf : p.1 = (a : Int)
  case neg =>
    simp only [hf, decide_false, cond_false]
    exact hk' fun ⟨m, _, h, _⟩ => hf h
  have c3 : (0 : Int) ≤ 0 ∧ 0 ≤ (n : Int) ∧ (n : Int) ≤ (p.2.2.1.length : Int) := by omega
  have c4 : (0 : Int) ≤ ((n + 1 : Nat) : Int) ∧ ((n + 1 : Nat) : Int) ≤ (p.2.2.1.length : Int) ∧ (p.2.2.1.length : Int) ≤ (p.2.2.1.length : Int) := by omega
  have hrm : (rest p.2.2.1 n).length ≤ maxLen := by unfold rest maxLen; rw [List.length_append, List.length_take, List.length_drop]; omega
  have hL : p79 N0 (g, (p.2.2.1.take n ++ p.2.2.1.drop (n + 1), (d, ()))) = some ((lenA d (rest p.2.2.1 n) 0, ()), ()) := p79_eq g _ d hrm hcap
  have l1 : (p.2.2.1.take n).length ≤ 20 := by rw [List.length_take]; omega
  have l2 : (p.2.2.1.drop (n + 1)).length ≤ 20 := by rw [List.length_drop]; omega
  simp only [hf, decide_true, cond_true, hw1, c3, c4, and_self, if_true, cutL_take, cutL_drop, List.nil_append, List.length_nil, Nat.zero_add]
  rw [if_pos (by omega), if_pos (by omega), if_pos (by omega), if_pos (by omega)]
  have hs? := List.getElem?_eq_getElem hn2
  have hk2' : ¬ SymE d g.2.1.length p n a b → k2 ((), (((n + 1 : Nat) : Int), ())) = some ((tf (Edge d g.2.1.length g.2.2.1 a b), ()), ()) := fun h' =>
    hk2 mq _ _ (Nat.lt_succ_self _) ⟨n + 1, rfl, by omega, by
      rintro ⟨m, h1, h2⟩
      rcases Nat.lt_or_ge m n with hm | hm
      · exact hi ⟨m, hm, h2⟩
      · have : m = n := by omega
        subst this; exact h' h2, rfl⟩
  clear hk2
  have sym_inv : SymE d g.2.1.length p n a b → p.2.2.1[n].1 = true ∧ p.2.2.1[n].2 = (b : Int) ∧ lenA d (rest p.2.2.1 n) 0 = 0 := by
    rintro ⟨_, _, h1, s, h2, h3, h4, h5⟩
    rw [hs?] at h2; cases h2
    exact ⟨h3, h4, h5⟩
  simp only [Int.toNat_natCast, Int.natCast_nonneg, if_true, hs?]
  generalize p.2.2.1[n] = s at hs? sym_inv
  cases s1 : s.1
  · simp only [cond_false]
    exact hk2' fun h => by have := (sym_inv h).1; rw [s1] at this; cases this
  simp only [cond_true]
  by_cases s2 : s.2 = (b : Int)
  case neg =>
    simp only [s2, decide_false, cond_false]
    exact hk2' fun h => s2 (sym_inv h).2.1
  simp only [s2, decide_true, cond_true]
  rw [callB_eq hL]
  by_cases s4 : lenA d (rest p.2.2.1 n) 0 = 0
  case neg =>
    simp only [s4, decide_false, cond_false]
    exact hk2' fun h => s4 (sym_inv h).2.2
  simp only [s4, decide_true, cond_true]
  rw [tf_t (hyes ⟨n, hn2, hf, ha, hbk, s, hs?, s1, s2, s4⟩)]
end Go.Proofs.Ytfnjdegejgocfaa.Rf
