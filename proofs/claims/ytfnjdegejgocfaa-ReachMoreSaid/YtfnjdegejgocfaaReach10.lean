/- Used: what both compute; the page's example. -/
import Derived.Test.YtfnjdegejgocfaaReach9
set_option linter.unusedVariables false
set_option linter.unusedSimpArgs false
namespace Go.Proofs.Ytfnjdegejgocfaa.Rf
open Go

theorem p40_eq : p40 N0 () = some ((true, ()), ()) := by kernel_rfl

def addT (u : List Bool) (s : Bool × Int) : List Bool := if s.1 = false ∧ 0 ≤ s.2 ∧ s.2 < (u.length : Int) then u.set s.2.toNat true else u
def prodU (r : List Bool) (u : List Bool) (p : Prd) : List Bool := if 0 ≤ p.1 ∧ p.1 < (r.length : Int) ∧ bit r p.1.toNat = true then p.2.2.1.foldl addT u else u
def usedF (g : Grm) : List Bool := g.2.2.1.foldl (prodU (reachF g)) (List.replicate g.1.length false)

set_option maxHeartbeats 1000000 in
theorem p62_eq (g : Grm) (hg : GOk g) (hn : g.2.1.length ≤ 100) (hr : g.1.length ≤ 100) : p62 N0 (g, ()) = some ((usedF g, ()), ()) := by
  unfold p62
  have z0 : (0 : Int) ≤ (g.1.length : Int) ∧ (g.1.length : Int) ≤ (g.1.length : Int) := by omega
  simp only [z0, and_self, if_true, Int.toNat_natCast, joinB_eq]
  rw [if_pos (by omega), callB_eq (p60_eq g hg hn)]
  simp only [bif_eq, decide_eq_true_eq]
  generalize hrr : reachF g = r
  refine loop_rule (fun mm x r2 => ∃ (i : Nat) (q : List Bool), x = ((q, ()), ((i : Int), ())) ∧ mm + i = g.2.2.1.length ∧ r2 = some (((g.2.2.1.drop i).foldl (prodU r) q, ()), ())) ?_ N0 g.2.2.1.length _ _ (by have := N0_lt hg.ps; omega) ⟨0, List.replicate g.1.length false, rfl, rfl, by unfold usedF; rw [hrr]; rfl⟩
  rintro mm x r2 ⟨i, q, rfl, hmm, rfl⟩ k hk
  rcases Nat.eq_zero_or_pos mm with rfl | hm0
  · have : ¬ (i : Int) < (g.2.2.1.length : Int) := by omega
    simp only [this, if_false, List.drop_eq_nil_of_le (show g.2.2.1.length ≤ i by omega), List.foldl_nil]
  obtain ⟨mm, rfl⟩ : ∃ m', mm = m' + 1 := ⟨mm - 1, by omega⟩
  have hi : i < g.2.2.1.length := by omega
  have c1 : (i : Int) < (g.2.2.1.length : Int) := by omega
  have hpb := hg.pb _ (List.getElem_mem hi)
  simp only [c1, if_true, Int.toNat_natCast, Int.natCast_nonneg, List.getElem?_eq_getElem hi, wrap_succ hi hg.ps, List.drop_eq_getElem_cons hi, List.foldl_cons]
  generalize g.2.2.1[i] = p at hpb
  have fin : k ((prodU r q p, ()), (((i + 1 : Nat) : Int), ())) = some (((g.2.2.1.drop (i + 1)).foldl (prodU r) (prodU r q p), ()), ()) :=
    hk mm _ _ (Nat.lt_succ_self _) ⟨i + 1, _, rfl, by omega, rfl⟩
  rw [← fin]
  clear fin hk
  unfold prodU
  refine loop_rule (fun mq x r2 => ∃ (n : Nat) (q : List Bool), x = ((q, ()), ((n : Int), ())) ∧ mq + n = p.2.2.1.length ∧ r2 = k ((if 0 ≤ p.1 ∧ p.1 < (r.length : Int) ∧ bit r p.1.toNat = true then (p.2.2.1.drop n).foldl addT q else q, ()), (((i + 1 : Nat) : Int), ()))) ?_ N0 p.2.2.1.length _ _ (by have := N0_lt hpb; omega) ⟨0, q, rfl, rfl, rfl⟩
  clear q
  rintro mq x r2 ⟨n, q, rfl, hmq, rfl⟩ k3 hk3
  rcases Nat.eq_zero_or_pos mq with rfl | hm0
  · have : ¬ (n : Int) < (p.2.2.1.length : Int) := by omega
    simp only [this, if_false, Bool.false_eq_true, List.drop_eq_nil_of_le (show p.2.2.1.length ≤ n by omega), List.foldl_nil, ite_self]
  obtain ⟨mq, rfl⟩ : ∃ m', mq = m' + 1 := ⟨mq - 1, by omega⟩
  have hn2 : n < p.2.2.1.length := by omega
  have c2 : (n : Int) < (p.2.2.1.length : Int) := by omega
  by_cases a1 : 0 ≤ p.1
  case neg => simp only [c2, a1, if_true, if_false, Bool.false_eq_true, false_and]
  by_cases a2 : p.1 < (r.length : Int)
  case neg => simp only [c2, a1, a2, if_true, if_false, Bool.false_eq_true, false_and, and_false]
  have a3 : p.1.toNat < r.length := by omega
  have hb := bit_eq a3
  cases a4 : r[p.1.toNat]
  · simp only [c2, a1, a2, if_true, if_false, Bool.false_eq_true, List.getElem?_eq_getElem a3, a4, hb, and_false]
  have go : k3 ((addT q p.2.2.1[n], ()), (((n + 1 : Nat) : Int), ())) = k (((p.2.2.1.drop (n + 1)).foldl addT (addT q p.2.2.1[n]), ()), (((i + 1 : Nat) : Int), ())) :=
    hk3 mq _ _ (Nat.lt_succ_self _) ⟨n + 1, _, rfl, by omega, by rw [if_pos ⟨a1, a2, by rw [hb]; exact a4⟩]⟩
  simp only [c2, a1, a2, if_true, List.getElem?_eq_getElem a3, a4, hb, and_self, Int.toNat_natCast, Int.natCast_nonneg, List.getElem?_eq_getElem hn2, wrap_succ hn2 hpb, List.drop_eq_getElem_cons hn2, List.foldl_cons, Bool.not_eq_true'] at go ⊢
  rw [← go]
  clear go hk3
  generalize p.2.2.1[n] = s
  unfold addT
  by_cases s1 : s.1 = false
  case neg => simp only [s1, if_false, Bool.false_eq_true, false_and, reduceCtorEq]
  by_cases s2 : 0 ≤ s.2
  case neg => simp only [s1, s2, if_true, if_false, Bool.false_eq_true, false_and, and_false]
  by_cases s3 : s.2 < (q.length : Int)
  case neg => simp only [s1, s2, s3, if_true, if_false, Bool.false_eq_true, and_false]
  have s4 : s.2.toNat < q.length := by omega
  simp only [s1, s2, s3, if_true, and_self, List.getElem?_eq_getElem s4]
set_option maxHeartbeats 1000000 in
theorem p61_eq (g : Grm) (hg : GOk g) (hn : g.2.1.length ≤ 100) (hr : g.1.length ≤ 100) : p61 N0 (g, ()) = some ((usedF g, ()), ()) := by
  unfold p61
  have z0 : (0 : Int) ≤ (g.1.length : Int) ∧ (g.1.length : Int) ≤ (g.1.length : Int) := by omega
  simp only [z0, and_self, if_true, Int.toNat_natCast, joinB_eq]
  rw [if_pos (by omega), callB_eq (p41_eq g hg hn)]
  simp only [bif_eq, decide_eq_true_eq]
  generalize hrr : reachF g = r
  refine loop_rule (fun mm x r2 => ∃ (i : Nat) (q : List Bool), x = ((q, ()), ((i : Int), ())) ∧ mm + i = g.2.2.1.length ∧ r2 = some (((g.2.2.1.drop i).foldl (prodU r) q, ()), ())) ?_ N0 g.2.2.1.length _ _ (by have := N0_lt hg.ps; omega) ⟨0, List.replicate g.1.length false, rfl, rfl, by unfold usedF; rw [hrr]; rfl⟩
  rintro mm x r2 ⟨i, q, rfl, hmm, rfl⟩ k hk
  rcases Nat.eq_zero_or_pos mm with rfl | hm0
  · have : ¬ (i : Int) < (g.2.2.1.length : Int) := by omega
    simp only [this, if_false, List.drop_eq_nil_of_le (show g.2.2.1.length ≤ i by omega), List.foldl_nil]
  obtain ⟨mm, rfl⟩ : ∃ m', mm = m' + 1 := ⟨mm - 1, by omega⟩
  have hi : i < g.2.2.1.length := by omega
  have c1 : (i : Int) < (g.2.2.1.length : Int) := by omega
  have hpb := hg.pb _ (List.getElem_mem hi)
  simp only [c1, if_true, Int.toNat_natCast, Int.natCast_nonneg, List.getElem?_eq_getElem hi, wrap_succ hi hg.ps, List.drop_eq_getElem_cons hi, List.foldl_cons]
  generalize g.2.2.1[i] = p at hpb
  have fin : k ((prodU r q p, ()), (((i + 1 : Nat) : Int), ())) = some (((g.2.2.1.drop (i + 1)).foldl (prodU r) (prodU r q p), ()), ()) :=
    hk mm _ _ (Nat.lt_succ_self _) ⟨i + 1, _, rfl, by omega, rfl⟩
  rw [← fin]
  clear fin hk
  unfold prodU
  by_cases a1 : p.1 < 0
  · have n1 : ¬ 0 ≤ p.1 := by omega
    simp only [a1, n1, if_true, false_and, if_false]
  have a1' : 0 ≤ p.1 := by omega
  by_cases a2 : (r.length : Int) ≤ p.1
  · have n2 : ¬ p.1 < (r.length : Int) := by omega
    simp only [a1, a2, n2, if_true, if_false, false_and, and_false, decide_true]
  have a2' : p.1 < (r.length : Int) := by omega
  have a3 : p.1.toNat < r.length := by omega
  have hb := bit_eq a3
  cases a4 : r[p.1.toNat]
  · simp only [a1, a2, a1', a2', hb, a4, if_true, if_false, Bool.false_eq_true, and_false, List.getElem?_eq_getElem a3, Bool.not_false]
  simp only [a1, a2, a1', a2', hb, a4, if_true, if_false, Bool.false_eq_true, and_self, List.getElem?_eq_getElem a3, Bool.not_true]
  refine loop_rule (fun mq x r2 => ∃ (n : Nat) (q : List Bool), x = ((q, ()), ((n : Int), ())) ∧ mq + n = p.2.2.1.length ∧ r2 = k (((p.2.2.1.drop n).foldl addT q, ()), (((i + 1 : Nat) : Int), ()))) ?_ N0 p.2.2.1.length _ _ (by have := N0_lt hpb; omega) ⟨0, q, rfl, rfl, rfl⟩
  clear q
  rintro mq x r2 ⟨n, q, rfl, hmq, rfl⟩ k3 hk3
  rcases Nat.eq_zero_or_pos mq with rfl | hm0
  · have : ¬ (n : Int) < (p.2.2.1.length : Int) := by omega
    simp only [this, if_false, List.drop_eq_nil_of_le (show p.2.2.1.length ≤ n by omega), List.foldl_nil]
  obtain ⟨mq, rfl⟩ : ∃ m', mq = m' + 1 := ⟨mq - 1, by omega⟩
  have hn2 : n < p.2.2.1.length := by omega
  have c2 : (n : Int) < (p.2.2.1.length : Int) := by omega
  have go : k3 ((addT q p.2.2.1[n], ()), (((n + 1 : Nat) : Int), ())) = k (((p.2.2.1.drop (n + 1)).foldl addT (addT q p.2.2.1[n]), ()), (((i + 1 : Nat) : Int), ())) :=
    hk3 mq _ _ (Nat.lt_succ_self _) ⟨n + 1, _, rfl, by omega, rfl⟩
  simp only [c2, if_true, Int.toNat_natCast, Int.natCast_nonneg, List.getElem?_eq_getElem hn2, wrap_succ hn2 hpb, List.drop_eq_getElem_cons hn2, List.foldl_cons, Bool.not_eq_true']
  rw [← go]
  clear go hk3
  generalize p.2.2.1[n] = s
  unfold addT
  by_cases s1 : s.1 = false
  case neg => simp only [s1, if_false, Bool.false_eq_true, false_and, reduceCtorEq]
  by_cases s2 : 0 ≤ s.2
  case neg => simp only [s1, s2, if_true, if_false, Bool.false_eq_true, false_and, and_false]
  by_cases s3 : s.2 < (q.length : Int)
  case neg => simp only [s1, s2, s3, if_true, if_false, Bool.false_eq_true, and_false]
  have s4 : s.2.toNat < q.length := by omega
  simp only [s1, s2, s3, if_true, and_self, List.getElem?_eq_getElem s4]
end Go.Proofs.Ytfnjdegejgocfaa.Rf
