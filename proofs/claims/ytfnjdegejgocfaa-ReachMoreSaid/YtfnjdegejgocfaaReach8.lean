/- Reached: what the reference computes. -/
import Derived.Test.YtfnjdegejgocfaaReach7
set_option linter.unusedVariables false
set_option linter.unusedSimpArgs false
namespace Go.Proofs.Ytfnjdegejgocfaa.Rf
open Go

set_option maxHeartbeats 1000000 in
theorem p60_eq (g : Grm) (hg : GOk g) (hn : g.2.1.length ≤ 100) : p60 N0 (g, ()) = some ((reachF g, ()), ()) := by
  unfold p60
  have z0 : (0 : Int) ≤ (g.2.1.length : Int) ∧ (g.2.1.length : Int) ≤ (g.2.1.length : Int) := by omega
  simp only [z0, and_self, if_true, Int.toNat_natCast, joinB_eq]
  rw [if_pos (by omega)]
  simp only [bif_eq, decide_eq_true_eq, List.length_replicate]
  have hpass0 : ∀ k r, passR g.2.2.1 r = r → passes g.2.2.1 k r = r := by
    intro k
    induction k with
    | zero => intro r _; rfl
    | succ k ih => intro r h; simp only [passes, h]; exact ih r h
  by_cases b0 : g.2.2.2.2 < 0 ∨ (g.2.1.length : Int) ≤ g.2.2.2.2
  · have e0 : r0 g = List.replicate g.2.1.length false := by unfold r0; rw [if_pos b0]
    have er : reachF g = List.replicate g.2.1.length false := by
      refine (reach_one ⟨by simp, fun h0 h1 => by simp at h1; omega, fun e he => by rw [← e0]; exact r0_sub he⟩ ⟨by simp, fun h0 h1 => by simp at h1; omega, fun p hp p0 p1 hb => by rw [bit_rep] at hb; cases hb⟩).symm
    rw [er]
    rcases b0 with b0 | b0
    · simp only [b0, if_true]
    · have : ¬ g.2.2.2.2 < 0 := by omega
      simp only [this, b0, if_true, if_false, decide_true]
  have b1 : ¬ g.2.2.2.2 < 0 := by omega
  have b2 : ¬ (g.2.1.length : Int) ≤ g.2.2.2.2 := by omega
  have b3 : (0 : Int) ≤ g.2.2.2.2 := by omega
  have b4 : g.2.2.2.2.toNat < (List.replicate g.2.1.length false).length := by simp; omega
  have e0 : r0 g = (List.replicate g.2.1.length false).set g.2.2.2.2.toNat true := by unfold r0; rw [if_neg b0]
  simp only [b1, b2, b3, if_true, if_false, decide_false, Bool.false_eq_true, List.getElem?_eq_getElem b4, ← e0]
  refine loop_rule (fun m x r => ∃ (j : Nat) (q : List Bool), x = ((q, ()), ((j : Int), ())) ∧ m + j = g.2.1.length ∧ q.length = g.2.1.length ∧ r = some ((passes g.2.2.1 m q, ()), ())) ?_ N0 g.2.1.length _ _ (by unfold N0; omega) ⟨0, r0 g, rfl, rfl, r0_len g, rfl⟩
  rintro m x r ⟨j, q, rfl, hm, hq, rfl⟩ k2 hk2
  rcases Nat.eq_zero_or_pos m with rfl | hm0
  · have : ¬ (j : Int) < (q.length : Int) := by omega
    simp only [this, if_false, passes]
  obtain ⟨m, rfl⟩ : ∃ m', m = m' + 1 := ⟨m - 1, by omega⟩
  have c0 : (j : Int) < (q.length : Int) := by omega
  have hw : IntKind.wrap .i64 ((j : Int) + 1) = ((j + 1 : Nat) : Int) := by rw [wrap_in (by omega) (by omega)]; simp
  simp only [c0, if_true, passes, hw]
  have fin : k2 ((passR g.2.2.1 q, ()), (((j + 1 : Nat) : Int), ())) = some ((passes g.2.2.1 m (passR g.2.2.1 q), ()), ()) :=
    hk2 m _ _ (Nat.lt_succ_self _) ⟨j + 1, _, rfl, by omega, by rw [(passR_mf _ _).1]; exact hq, rfl⟩
  rw [← fin]
  clear fin
  refine loop_rule (fun mm x r => ∃ (i : Nat) (q : List Bool), x = ((q, ()), ((i : Int), ())) ∧ mm + i = g.2.2.1.length ∧ r = k2 ((passR (g.2.2.1.drop i) q, ()), (((j + 1 : Nat) : Int), ()))) ?_ N0 g.2.2.1.length _ _ (by have := N0_lt hg.ps; omega) ⟨0, q, rfl, rfl, rfl⟩
  clear hq c0 q hk2
  rintro mm x r ⟨i, q, rfl, hmm, rfl⟩ k hk
  rcases Nat.eq_zero_or_pos mm with rfl | hm0
  · have : ¬ (i : Int) < (g.2.2.1.length : Int) := by omega
    simp only [this, if_false, List.drop_eq_nil_of_le (show g.2.2.1.length ≤ i by omega), passR, List.foldl_nil]
  obtain ⟨mm, rfl⟩ : ∃ m', mm = m' + 1 := ⟨mm - 1, by omega⟩
  have hi : i < g.2.2.1.length := by omega
  have c1 : (i : Int) < (g.2.2.1.length : Int) := by omega
  have hpb := hg.pb _ (List.getElem_mem hi)
  simp only [c1, if_true, Int.toNat_natCast, Int.natCast_nonneg, List.getElem?_eq_getElem hi, wrap_succ hi hg.ps, List.drop_eq_getElem_cons hi, passR, List.foldl_cons]
  generalize g.2.2.1[i] = p at hpb
  have fin : k ((prodR q p, ()), (((i + 1 : Nat) : Int), ())) = k2 (((g.2.2.1.drop (i + 1)).foldl prodR (prodR q p), ()), (((j + 1 : Nat) : Int), ())) :=
    hk mm _ _ (Nat.lt_succ_self _) ⟨i + 1, _, rfl, by omega, rfl⟩
  rw [← fin]
  clear fin hk
  refine loop_rule (fun mq x r => ∃ (n : Nat) (q : List Bool), x = ((q, ()), ((n : Int), ())) ∧ mq + n = p.2.2.1.length ∧ r = k ((if 0 ≤ p.1 ∧ p.1 < (q.length : Int) ∧ bit q p.1.toNat = true then bodyR q (p.2.2.1.drop n) else q, ()), (((i + 1 : Nat) : Int), ()))) ?_ N0 p.2.2.1.length _ _ (by have := N0_lt hpb; omega) ⟨0, q, rfl, rfl, rfl⟩
  clear q
  rintro mq x r ⟨n, q, rfl, hmq, rfl⟩ k3 hk3
  rcases Nat.eq_zero_or_pos mq with rfl | hm0
  · have : ¬ (n : Int) < (p.2.2.1.length : Int) := by omega
    simp only [this, if_false, Bool.false_eq_true, List.drop_eq_nil_of_le (show p.2.2.1.length ≤ n by omega), bodyR, List.foldl_nil, ite_self]
  obtain ⟨mq, rfl⟩ : ∃ m', mq = m' + 1 := ⟨mq - 1, by omega⟩
  have hn2 : n < p.2.2.1.length := by omega
  have c2 : (n : Int) < (p.2.2.1.length : Int) := by omega
  by_cases a1 : 0 ≤ p.1
  case neg => simp only [c2, a1, if_true, if_false, Bool.false_eq_true, false_and]
  by_cases a2 : p.1 < (q.length : Int)
  case neg => simp only [c2, a1, a2, if_true, if_false, Bool.false_eq_true, false_and, and_false]
  have a3 : p.1.toNat < q.length := by omega
  have hb := bit_eq a3
  cases a4 : q[p.1.toNat]
  · simp only [c2, a1, a2, if_true, if_false, Bool.false_eq_true, List.getElem?_eq_getElem a3, a4, hb, and_false]
  have hup := addS_up q p.2.2.1[n]
  have hb2 : bit (addS q p.2.2.1[n]) p.1.toNat = true := hup.2 _ (by rw [hb]; exact a4)
  have go : k3 ((addS q p.2.2.1[n], ()), (((n + 1 : Nat) : Int), ())) = k ((bodyR (addS q p.2.2.1[n]) (p.2.2.1.drop (n + 1)), ()), (((i + 1 : Nat) : Int), ())) :=
    hk3 mq _ _ (Nat.lt_succ_self _) ⟨n + 1, _, rfl, by omega, by rw [if_pos ⟨a1, by rw [addS_len]; exact a2, hb2⟩]⟩
  simp only [c2, a1, a2, if_true, List.getElem?_eq_getElem a3, a4, hb, and_self, Int.toNat_natCast, Int.natCast_nonneg, List.getElem?_eq_getElem hn2, wrap_succ hn2 hpb, List.drop_eq_getElem_cons hn2, bodyR, List.foldl_cons] at go ⊢
  rw [← go]
  clear go hb2 hup hk3
  generalize p.2.2.1[n] = s
  unfold addS
  by_cases s1 : s.1 = true
  case neg => simp only [s1, if_false, Bool.false_eq_true, false_and]
  by_cases s2 : 0 ≤ s.2
  case neg => simp only [s1, s2, if_true, if_false, Bool.false_eq_true, false_and, and_false]
  by_cases s3 : s.2 < (q.length : Int)
  case neg => simp only [s1, s2, s3, if_true, if_false, Bool.false_eq_true, and_false]
  have s4 : s.2.toNat < q.length := by omega
  simp only [s1, s2, s3, if_true, and_self, List.getElem?_eq_getElem s4]
end Go.Proofs.Ytfnjdegejgocfaa.Rf
