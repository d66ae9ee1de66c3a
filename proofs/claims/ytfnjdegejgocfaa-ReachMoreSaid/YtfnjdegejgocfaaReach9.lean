/- Reached: what it computes. -/
import Derived.Test.YtfnjdegejgocfaaReach8
set_option linter.unusedVariables false
set_option linter.unusedSimpArgs false
namespace Go.Proofs.Ytfnjdegejgocfaa.Rf
open Go

set_option maxHeartbeats 1000000 in
theorem p41_eq (g : Grm) (hg : GOk g) (hn : g.2.1.length ≤ 100) : p41 N0 (g, ()) = some ((reachF g, ()), ()) := by
  unfold p41
  have z0 : (0 : Int) ≤ (g.2.1.length : Int) ∧ (g.2.1.length : Int) ≤ (g.2.1.length : Int) := by omega
  simp only [z0, and_self, if_true, Int.toNat_natCast, joinB_eq]
  rw [if_pos (by omega)]
  simp only [bif_eq, decide_eq_true_eq, List.length_replicate]
  have hpass0 : ∀ k r, passR g.2.2.1 r = r → passes g.2.2.1 k r = r := by
    intro k
    induction k with
    | zero => intro r _; rfl
    | succ k ih => intro r h; simp only [passes, h]; exact ih r h
  by_cases b0 : g.2.2.2.2 < 0 ∨ (g.2.1.length : Int) ≤ g.2.2.2.2
  · have e0 : r0 g = List.replicate g.2.1.length false := by unfold r0; rw [if_pos b0]
    have er : reachF g = List.replicate g.2.1.length false := by
      refine (reach_one ⟨by simp, fun h0 h1 => by simp at h1; omega, fun e he => by rw [← e0]; exact r0_sub he⟩ ⟨by simp, fun h0 h1 => by simp at h1; omega, fun p hp p0 p1 hb => by rw [bit_rep] at hb; cases hb⟩).symm
    rw [er]
    rcases b0 with b0 | b0
    · simp only [b0, if_true]
    · have : ¬ g.2.2.2.2 < 0 := by omega
      simp only [this, b0, if_true, if_false, decide_true]
  have b1 : ¬ g.2.2.2.2 < 0 := by omega
  have b2 : ¬ (g.2.1.length : Int) ≤ g.2.2.2.2 := by omega
  have b3 : (0 : Int) ≤ g.2.2.2.2 := by omega
  have b4 : g.2.2.2.2.toNat < (List.replicate g.2.1.length false).length := by simp; omega
  have e0 : r0 g = (List.replicate g.2.1.length false).set g.2.2.2.2.toNat true := by unfold r0; rw [if_neg b0]
  simp only [b1, b2, b3, if_true, if_false, decide_false, Bool.false_eq_true, List.getElem?_eq_getElem b4, ← e0]
  refine loop_rule (fun m x r => ∃ (q : List Bool) (b : Bool), x = ((q, ()), (b, ())) ∧ RInv g q ∧ (b = true → mf q < m) ∧ (b = false → ClosedR g q) ∧ r = some ((reachF g, ()), ())) ?_ N0 (mf (r0 g) + 1) _ _ (by
    have := mf_le (r0 g)
    rw [r0_len] at this
    unfold N0; omega) ⟨r0 g, true, rfl, rinv0 g, fun _ => Nat.lt_succ_self _, fun h => (by cases h), rfl⟩
  rintro m x r ⟨q, b, rfl, hi, hm, hcl, rfl⟩ k2 hk2
  cases b
  case false =>
    simp only [Bool.false_eq_true, if_false]
    rw [reach_one hi (hcl rfl)]
  have hm := hm rfl
  obtain ⟨m, rfl⟩ : ∃ m', m = m' + 1 := ⟨m - 1, by omega⟩
  simp only [if_true]
  obtain ⟨l1, l2, l3⟩ := passR_mf g.2.2.1 q
  have fin : k2 ((passR g.2.2.1 q, ()), (decide (mf (passR g.2.2.1 q) < mf q), ())) = some ((reachF g, ()), ()) :=
    hk2 m _ _ (Nat.lt_succ_self _) ⟨_, _, rfl, hi.pass, fun h => by have := of_decide_eq_true h; omega, fun h => by
      have h := of_decide_eq_false h
      have e := (l3 (by omega)).1
      rw [e]
      exact passR_closed hi.len hi.start e, rfl⟩
  rw [← fin]
  clear fin l1 l2 l3
  refine loop_rule (fun mm x r => ∃ (i : Nat) (q : List Bool) (b : Bool), x = ((q, ()), (b, ((i : Int), ()))) ∧ mm + i = g.2.2.1.length ∧ r = k2 ((passR (g.2.2.1.drop i) q, ()), (b || decide (mf (passR (g.2.2.1.drop i) q) < mf q), ()))) ?_ N0 g.2.2.1.length _ _ (by have := N0_lt hg.ps; omega) ⟨0, q, false, rfl, rfl, rfl⟩
  clear hi hk2
  rintro mm x r ⟨i, q, b, rfl, hmm, rfl⟩ k hk
  rcases Nat.eq_zero_or_pos mm with rfl | hm0
  · have : ¬ (i : Int) < (g.2.2.1.length : Int) := by omega
    simp only [this, if_false, List.drop_eq_nil_of_le (show g.2.2.1.length ≤ i by omega), passR, List.foldl_nil, Nat.lt_irrefl, decide_false, Bool.or_false]
  obtain ⟨mm, rfl⟩ : ∃ m', mm = m' + 1 := ⟨mm - 1, by omega⟩
  have hi : i < g.2.2.1.length := by omega
  have c1 : (i : Int) < (g.2.2.1.length : Int) := by omega
  have hpb := hg.pb _ (List.getElem_mem hi)
  have flag : ∀ {A B C : Nat} (b : Bool), C ≤ B → B ≤ A → ((b || decide (B < A)) || decide (C < B)) = (b || decide (C < A)) := by
    intro A B C b h1 h2
    cases b
    · by_cases x : C < A
      · by_cases y : B < A
        · simp [x, y]
        · have : C < B := by omega
          simp [x, this]
      · have y : ¬ B < A := by omega
        have z : ¬ C < B := by omega
        simp [x, y, z]
    · simp
  simp only [c1, if_true, Int.toNat_natCast, Int.natCast_nonneg, List.getElem?_eq_getElem hi, wrap_succ hi hg.ps, List.drop_eq_getElem_cons hi, passR, List.foldl_cons]
  generalize g.2.2.1[i] = p at hpb
  have fin : k ((prodR q p, ()), ((b || decide (mf (prodR q p) < mf q)), (((i + 1 : Nat) : Int), ()))) = k2 (((g.2.2.1.drop (i + 1)).foldl prodR (prodR q p), ()), ((b || decide (mf ((g.2.2.1.drop (i + 1)).foldl prodR (prodR q p)) < mf q)), ())) := by
    have := hk mm _ _ (Nat.lt_succ_self _) ⟨i + 1, prodR q p, (b || decide (mf (prodR q p) < mf q)), rfl, by omega, rfl⟩
    rw [flag b ((passR_mf (g.2.2.1.drop (i + 1)) (prodR q p)).2.1) (prodR_mf q p).1] at this
    exact this
  rw [← fin]
  clear fin hk
  unfold prodR
  by_cases a1 : p.1 < 0
  · have n1 : ¬ 0 ≤ p.1 := by omega
    simp only [a1, n1, if_true, false_and, if_false, Nat.lt_irrefl, decide_false, Bool.or_false]
  have a1' : 0 ≤ p.1 := by omega
  by_cases a2 : (q.length : Int) ≤ p.1
  · have n2 : ¬ p.1 < (q.length : Int) := by omega
    simp only [a1, a2, n2, if_true, if_false, false_and, and_false, Nat.lt_irrefl, decide_false, Bool.or_false, decide_true]
  have a2' : p.1 < (q.length : Int) := by omega
  have a3 : p.1.toNat < q.length := by omega
  have hb := bit_eq a3
  cases a4 : q[p.1.toNat]
  · simp only [a1, a2, a1', a2', hb, a4, if_true, if_false, Bool.false_eq_true, and_false, List.getElem?_eq_getElem a3, Bool.not_false, Nat.lt_irrefl, decide_false, Bool.or_false]
  simp only [a1, a2, a1', a2', hb, a4, if_true, if_false, Bool.false_eq_true, and_self, List.getElem?_eq_getElem a3, Bool.not_true]
  refine loop_rule (fun mq x r => ∃ (n : Nat) (q : List Bool) (b : Bool), x = ((q, ()), (b, ((n : Int), ()))) ∧ mq + n = p.2.2.1.length ∧ r = k ((bodyR q (p.2.2.1.drop n), ()), ((b || decide (mf (bodyR q (p.2.2.1.drop n)) < mf q)), (((i + 1 : Nat) : Int), ())))) ?_ N0 p.2.2.1.length _ _ (by have := N0_lt hpb; omega) ⟨0, q, b, rfl, rfl, rfl⟩

  rintro mq x r ⟨n, q, b, rfl, hmq, rfl⟩ k3 hk3
  rcases Nat.eq_zero_or_pos mq with rfl | hm0
  · have : ¬ (n : Int) < (p.2.2.1.length : Int) := by omega
    simp only [this, if_false, List.drop_eq_nil_of_le (show p.2.2.1.length ≤ n by omega), bodyR, List.foldl_nil, Nat.lt_irrefl, decide_false, Bool.or_false]
  obtain ⟨mq, rfl⟩ : ∃ m', mq = m' + 1 := ⟨mq - 1, by omega⟩
  have hn2 : n < p.2.2.1.length := by omega
  have c2 : (n : Int) < (p.2.2.1.length : Int) := by omega
  simp only [c2, if_true, Int.toNat_natCast, Int.natCast_nonneg, List.getElem?_eq_getElem hn2, wrap_succ hn2 hpb, List.drop_eq_getElem_cons hn2, bodyR, List.foldl_cons]
  generalize p.2.2.1[n] = s
  have go : k3 ((addS q s, ()), ((b || decide (mf (addS q s) < mf q)), (((n + 1 : Nat) : Int), ()))) = k (((p.2.2.1.drop (n + 1)).foldl addS (addS q s), ()), ((b || decide (mf ((p.2.2.1.drop (n + 1)).foldl addS (addS q s)) < mf q)), (((i + 1 : Nat) : Int), ()))) := by
    have := hk3 mq _ _ (Nat.lt_succ_self _) ⟨n + 1, addS q s, (b || decide (mf (addS q s) < mf q)), rfl, by omega, rfl⟩
    have f2 := flag b ((bodyR_mf (addS q s) (p.2.2.1.drop (n + 1))).2.1) (addS_mf q s).1
    rw [f2] at this
    exact this
  rw [← go]
  clear go hk3
  unfold addS
  by_cases s1 : s.1 = true
  case neg => simp only [s1, if_false, Bool.false_eq_true, false_and, Nat.lt_irrefl, decide_false, Bool.or_false]
  by_cases s2 : 0 ≤ s.2
  case neg => simp only [s1, s2, if_true, if_false, Bool.false_eq_true, false_and, and_false, Nat.lt_irrefl, decide_false, Bool.or_false]
  by_cases s3 : s.2 < (q.length : Int)
  case neg => simp only [s1, s2, s3, if_true, if_false, Bool.false_eq_true, and_false, Nat.lt_irrefl, decide_false, Bool.or_false]
  have s4 : s.2.toNat < q.length := by omega
  have hb := bit_eq s4
  cases s5 : q[s.2.toNat]
  · have := mf_set s4 (by rw [hb]; exact s5)
    simp only [s1, s2, s3, if_true, and_self, List.getElem?_eq_getElem s4, s5, Bool.not_false, this, decide_true, Bool.or_true]
  · have := set_self (r := q) (i := s.2.toNat) (by rw [hb]; exact s5)
    simp only [s1, s2, s3, if_true, if_false, and_self, List.getElem?_eq_getElem s4, s5, Bool.not_true, Bool.false_eq_true, this, Nat.lt_irrefl, decide_false, Bool.or_false]
end Go.Proofs.Ytfnjdegejgocfaa.Rf
