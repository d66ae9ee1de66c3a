/- Least: what both functions compute. -/
import Derived.Test.YtfnjdegejgocfaaReach2
set_option linter.unusedVariables false
set_option linter.unusedSimpArgs false
namespace Go.Proofs.Ytfnjdegejgocfaa.Rf
open Go

def d0 (g : Grm) : List Int := List.replicate g.2.1.length (-1)
/-- Of each sort. -/
def leastF (g : Grm) : List Int := iter g.2.2.1 (mu (d0 g) + 1) (d0 g)

theorem inv0 (g : Grm) : LInv g.2.2.1 g.2.1.length (d0 g) := by
  refine ⟨by simp [d0], fun v hv => ?_, fun v hv => ?_, fun e he => ⟨by rw [he.len]; simp [d0], fun i hi => ?_⟩⟩
  · rw [List.eq_of_mem_replicate hv]; omega
  · rw [List.eq_of_mem_replicate hv]; omega
  · exfalso
    have : at1 (d0 g) i = -1 := by
      unfold at1 d0
      rw [List.getD_eq_getElem?_getD, List.getElem?_replicate]
      split <;> rfl
    omega
theorem leastF_ok (g : Grm) : LInv g.2.2.1 g.2.1.length (leastF g) ∧ Closed g.2.2.1 g.2.1.length (leastF g) := iter_ok _ _ (Nat.lt_succ_self _) (inv0 g)

theorem rep_set {α : Type} {a b : α} {n j : Nat} (h : j < n) : (List.replicate j a ++ List.replicate (n - j) b).set j a = List.replicate (j + 1) a ++ List.replicate (n - (j + 1)) b := by
  obtain ⟨k, rfl⟩ : ∃ k, n = j + 1 + k := ⟨n - (j + 1), by omega⟩
  rw [show j + 1 + k - j = k + 1 by omega, show j + 1 + k - (j + 1) = k by omega, List.replicate_succ, List.set_append_right _ _ (by simp), List.length_replicate, Nat.sub_self, List.set_cons_zero, List.replicate_succ', List.append_assoc]
  rfl

set_option maxHeartbeats 1000000 in
theorem p42_eq (g : Grm) (hg : GOk g) (hn : g.2.1.length ≤ 100) : p42 N0 (g, ()) = some ((leastF g, ()), ()) := by
  unfold p42
  have z0 : (0 : Int) ≤ (g.2.1.length : Int) ∧ (g.2.1.length : Int) ≤ (g.2.1.length : Int) := by omega
  have z1 : ((g.2.1.length : Int)).toNat * 8 ≤ 140737488355328 := by omega
  simp only [z0, z1, and_self, if_true, Int.toNat_natCast, List.length_replicate]
  rw [if_pos (by omega)]
  refine (loop_up (fun j => ((List.replicate j (-1 : Int) ++ List.replicate (g.2.1.length - j) 0, ()), (((j : Nat) : Int), ()))) (fun _ => some ((leastF g, ()), ())) g.2.1.length (fun j hj k hk => ?_) N0 0 (Nat.zero_le _) (by have := N0_lt hg.so; omega))
  rcases Nat.lt_or_ge j g.2.1.length with hlt | hge
  · have hk := hk hlt
    have hc : ((j : Nat) : Int) < (g.2.1.length : Int) := by omega
    have hl : j < (List.replicate j (-1 : Int) ++ List.replicate (g.2.1.length - j) 0).length := by simp; omega
    simp only [hc, decide_true, cond_true, Int.toNat_natCast, Int.natCast_nonneg, if_true, List.getElem?_eq_getElem hl, rep_set hlt, wrap_succ hlt hg.so]
    exact hk
  have hc : ¬ ((j : Nat) : Int) < (g.2.1.length : Int) := by omega
  have e0 : List.replicate j (-1 : Int) ++ List.replicate (g.2.1.length - j) 0 = d0 g := by
    have : j = g.2.1.length := by omega
    subst this
    simp [d0]
  simp only [hc, decide_false, cond_false, e0]
  refine loop_rule (fun m x r => ∃ (d : List Int) (b : Bool), x = ((d, ()), (b, ())) ∧ LInv g.2.2.1 g.2.1.length d ∧ (b = true → mu d < m) ∧ r = some ((if b = true then iter g.2.2.1 m d else d, ()), ())) ?_ N0 (mu (d0 g) + 1) _ _ (by
    have := mu_le (inv0 g).cap
    rw [(inv0 g).len] at this
    have : g.2.1.length * 1073741825 ≤ 100 * 1073741825 := Nat.mul_le_mul_right _ hn
    unfold N0; omega) ⟨d0 g, true, rfl, inv0 g, fun _ => Nat.lt_succ_self _, rfl⟩
  rintro m x r ⟨d, b, rfl, hi, hm, rfl⟩ k2 hk2
  cases b
  case false => simp only [cond_false, Bool.false_eq_true, if_false]
  have hm := hm rfl
  obtain ⟨m, rfl⟩ : ∃ m', m = m' + 1 := ⟨m - 1, by omega⟩
  simp only [if_true, iter]
  rw [cond_true]
  obtain ⟨i1, i2, i3, i4⟩ := pass_inv g.2.2.1 (fun p hp => hp) d false hi
  have fin : k2 (((pass g.2.2.1 d false).1, ()), ((pass g.2.2.1 d false).2, ())) = some ((if (pass g.2.2.1 d false).2 = true then iter g.2.2.1 m (pass g.2.2.1 d false).1 else (pass g.2.2.1 d false).1, ()), ()) :=
    hk2 m _ _ (Nat.lt_succ_self _) ⟨_, _, rfl, i1, fun h => by have := i3 h rfl; omega, rfl⟩
  rw [← fin]
  clear fin i1 i2 i3 i4
  refine loop_rule (fun mm x r => ∃ (j : Nat) (d : List Int) (b : Bool), x = ((d, ()), (b, ((j : Int), ()))) ∧ mm + j = g.2.2.1.length ∧ LInv g.2.2.1 g.2.1.length d ∧ r = k2 (((pass (g.2.2.1.drop j) d b).1, ()), ((pass (g.2.2.1.drop j) d b).2, ()))) ?_ N0 g.2.2.1.length _ _ (by have := N0_lt hg.ps; omega) ⟨0, d, false, rfl, rfl, hi, rfl⟩
  clear hi hm hk2
  rintro mm x r ⟨j, d, b, rfl, hmm, hi, rfl⟩ k hk
  rcases Nat.eq_zero_or_pos mm with rfl | hm0
  · have : ¬ (j : Int) < (g.2.2.1.length : Int) := by omega
    simp only [this, decide_false, cond_false, List.drop_eq_nil_of_le (show g.2.2.1.length ≤ j by omega), pass]
  obtain ⟨mm, rfl⟩ : ∃ m', mm = m' + 1 := ⟨mm - 1, by omega⟩
  have hj : j < g.2.2.1.length := by omega
  have c1 : (j : Int) < (g.2.2.1.length : Int) := by omega
  have hpm := List.getElem_mem hj
  have hpb := hg.pb _ hpm
  simp only [c1, decide_true, cond_true, Int.toNat_natCast, Int.natCast_nonneg, if_true, List.getElem?_eq_getElem hj, wrap_succ hj hg.ps, joinB_eq, bif_eq, decide_eq_true_eq, List.drop_eq_getElem_cons hj, pass, p71_eq _ d hpb hi.cap, callB_some]
  generalize g.2.2.1[j] = p at hpm
  by_cases a1 : p.1 < 0
  · have ng : ¬ gain d p := fun h => by have := h.1; omega
    simp only [ng, a1, if_true, if_false]
    exact hk mm _ _ (Nat.lt_succ_self _) ⟨j + 1, d, b, rfl, by omega, hi, rfl⟩
  by_cases a2 : (d.length : Int) ≤ p.1
  · have ng : ¬ gain d p := fun h => by have := h.2.1; omega
    simp only [ng, a1, a2, if_true, if_false, decide_true]
    exact hk mm _ _ (Nat.lt_succ_self _) ⟨j + 1, d, b, rfl, by omega, hi, rfl⟩
  have b1 : 0 ≤ p.1 := by omega
  have b2 : p.1 < (d.length : Int) := by omega
  have b3 : p.1.toNat < d.length := by omega
  have hat : at1 d p.1.toNat = d[p.1.toNat] := by unfold at1; rw [List.getD_eq_getElem?_getD, List.getElem?_eq_getElem b3]; rfl
  simp only [a1, a2, b1, b2, if_true, if_false, decide_false, Bool.false_eq_true, List.getElem?_eq_getElem b3, true_and, hat]
  by_cases a3 : 0 ≤ lenA d p.2.2.1 0
  case neg =>
    have ng : ¬ gain d p := fun h => a3 h.2.2.1
    simp only [ng, a3, if_false, false_and, Bool.false_eq_true]
    exact hk mm _ _ (Nat.lt_succ_self _) ⟨j + 1, d, b, rfl, by omega, hi, rfl⟩
  have hst : gain d p → LInv g.2.2.1 g.2.1.length (d.set p.1.toNat (lenA d p.2.2.1 0)) := fun h => hi.step hpm h
  by_cases a4 : d[p.1.toNat] < 0
  · have yg : gain d p := ⟨b1, b2, a3, .inl (by rw [hat]; exact a4)⟩
    simp only [yg, a3, a4, if_true, decide_true]
    exact hk mm _ _ (Nat.lt_succ_self _) ⟨j + 1, _, true, rfl, by omega, hst yg, rfl⟩
  by_cases a5 : lenA d p.2.2.1 0 < d[p.1.toNat]
  · have yg : gain d p := ⟨b1, b2, a3, .inr (by rw [hat]; exact a5)⟩
    simp only [yg, a3, a4, a5, if_true, if_false, decide_true]
    exact hk mm _ _ (Nat.lt_succ_self _) ⟨j + 1, _, true, rfl, by omega, hst yg, rfl⟩
  · have ng : ¬ gain d p := fun h => by
      rcases h.2.2.2 with h | h
      · rw [hat] at h; exact a4 h
      · rw [hat] at h; exact a5 h
    simp only [ng, a3, a4, a5, if_true, if_false, decide_false, Bool.false_eq_true]
    exact hk mm _ _ (Nat.lt_succ_self _) ⟨j + 1, d, b, rfl, by omega, hi, rfl⟩
set_option maxHeartbeats 1000000 in
theorem p57_eq (g : Grm) (hg : GOk g) (hn : g.2.1.length ≤ 100) : p57 N0 (g, ()) = some ((leastF g, ()), ()) := by
  unfold p57
  refine (loop_up (fun j => ((), (List.replicate j (-1 : Int), (((j : Nat) : Int), ())))) (fun _ => some ((leastF g, ()), ())) g.2.1.length (fun j hj k hk => ?_) N0 0 (Nat.zero_le _) (by have := N0_lt hg.so; omega))
  rcases Nat.lt_or_ge j g.2.1.length with hlt | hge
  · have hk := hk hlt
    have hc : ((j : Nat) : Int) < (g.2.1.length : Int) := by omega
    simp only [hc, decide_true, cond_true, wrap_succ hlt hg.so, List.length_replicate, List.length_cons, List.length_nil]
    rw [if_pos (by omega), if_pos (by omega), ← List.replicate_succ']
    exact hk
  have hc : ¬ ((j : Nat) : Int) < (g.2.1.length : Int) := by omega
  have e0 : List.replicate j (-1 : Int) = d0 g := by
    have : j = g.2.1.length := by omega
    subst this
    rfl
  simp only [hc, decide_false, cond_false, e0]
  refine loop_rule (fun m x r => ∃ (d : List Int) (b : Bool), x = ((d, ()), (b, ())) ∧ LInv g.2.2.1 g.2.1.length d ∧ (b = true → mu d < m) ∧ r = some ((if b = true then iter g.2.2.1 m d else d, ()), ())) ?_ N0 (mu (d0 g) + 1) _ _ (by
    have := mu_le (inv0 g).cap
    rw [(inv0 g).len] at this
    have : g.2.1.length * 1073741825 ≤ 100 * 1073741825 := Nat.mul_le_mul_right _ hn
    unfold N0; omega) ⟨d0 g, true, rfl, inv0 g, fun _ => Nat.lt_succ_self _, rfl⟩
  rintro m x r ⟨d, b, rfl, hi, hm, rfl⟩ k2 hk2
  cases b
  case false => simp only [cond_false, Bool.false_eq_true, if_false]
  have hm := hm rfl
  obtain ⟨m, rfl⟩ : ∃ m', m = m' + 1 := ⟨m - 1, by omega⟩
  simp only [if_true, iter]
  rw [cond_true]
  obtain ⟨i1, i2, i3, i4⟩ := pass_inv g.2.2.1 (fun p hp => hp) d false hi
  have fin : k2 (((pass g.2.2.1 d false).1, ()), ((pass g.2.2.1 d false).2, ())) = some ((if (pass g.2.2.1 d false).2 = true then iter g.2.2.1 m (pass g.2.2.1 d false).1 else (pass g.2.2.1 d false).1, ()), ()) :=
    hk2 m _ _ (Nat.lt_succ_self _) ⟨_, _, rfl, i1, fun h => by have := i3 h rfl; omega, rfl⟩
  rw [← fin]
  clear fin i1 i2 i3 i4
  refine loop_rule (fun mm x r => ∃ (j : Nat) (d : List Int) (b : Bool), x = ((d, ()), (b, ((j : Int), ()))) ∧ mm + j = g.2.2.1.length ∧ LInv g.2.2.1 g.2.1.length d ∧ r = k2 (((pass (g.2.2.1.drop j) d b).1, ()), ((pass (g.2.2.1.drop j) d b).2, ()))) ?_ N0 g.2.2.1.length _ _ (by have := N0_lt hg.ps; omega) ⟨0, d, false, rfl, rfl, hi, rfl⟩
  clear hi hm hk2
  rintro mm x r ⟨j, d, b, rfl, hmm, hi, rfl⟩ k hk
  rcases Nat.eq_zero_or_pos mm with rfl | hm0
  · have : ¬ (j : Int) < (g.2.2.1.length : Int) := by omega
    simp only [this, decide_false, cond_false, List.drop_eq_nil_of_le (show g.2.2.1.length ≤ j by omega), pass]
  obtain ⟨mm, rfl⟩ : ∃ m', mm = m' + 1 := ⟨mm - 1, by omega⟩
  have hj : j < g.2.2.1.length := by omega
  have c1 : (j : Int) < (g.2.2.1.length : Int) := by omega
  have hpm := List.getElem_mem hj
  have hpb := hg.pb _ hpm
  simp only [c1, decide_true, cond_true, Int.toNat_natCast, Int.natCast_nonneg, if_true, List.getElem?_eq_getElem hj, wrap_succ hj hg.ps, joinB_eq, bif_eq, decide_eq_true_eq, List.drop_eq_getElem_cons hj, pass, p79_eq g _ d hpb hi.cap, callB_some]
  generalize g.2.2.1[j] = p at hpm
  by_cases a1 : p.1 < 0
  · have ng : ¬ gain d p := fun h => by have := h.1; omega
    simp only [ng, a1, if_true, if_false]
    exact hk mm _ _ (Nat.lt_succ_self _) ⟨j + 1, d, b, rfl, by omega, hi, rfl⟩
  by_cases a2 : (d.length : Int) ≤ p.1
  · have ng : ¬ gain d p := fun h => by have := h.2.1; omega
    simp only [ng, a1, a2, if_true, if_false, decide_true]
    exact hk mm _ _ (Nat.lt_succ_self _) ⟨j + 1, d, b, rfl, by omega, hi, rfl⟩
  have b1 : 0 ≤ p.1 := by omega
  have b2 : p.1 < (d.length : Int) := by omega
  have b3 : p.1.toNat < d.length := by omega
  have hat : at1 d p.1.toNat = d[p.1.toNat] := by unfold at1; rw [List.getD_eq_getElem?_getD, List.getElem?_eq_getElem b3]; rfl
  simp only [a1, a2, b1, b2, if_true, if_false, decide_false, Bool.false_eq_true, List.getElem?_eq_getElem b3, true_and, hat]
  by_cases a3 : 0 ≤ lenA d p.2.2.1 0
  case neg =>
    have ng : ¬ gain d p := fun h => a3 h.2.2.1
    simp only [ng, a3, if_false, false_and, Bool.false_eq_true]
    exact hk mm _ _ (Nat.lt_succ_self _) ⟨j + 1, d, b, rfl, by omega, hi, rfl⟩
  have hst : gain d p → LInv g.2.2.1 g.2.1.length (d.set p.1.toNat (lenA d p.2.2.1 0)) := fun h => hi.step hpm h
  by_cases a4 : d[p.1.toNat] < 0
  · have yg : gain d p := ⟨b1, b2, a3, .inl (by rw [hat]; exact a4)⟩
    simp only [yg, a3, a4, if_true, decide_true]
    exact hk mm _ _ (Nat.lt_succ_self _) ⟨j + 1, _, true, rfl, by omega, hst yg, rfl⟩
  by_cases a5 : lenA d p.2.2.1 0 < d[p.1.toNat]
  · have yg : gain d p := ⟨b1, b2, a3, .inr (by rw [hat]; exact a5)⟩
    simp only [yg, a3, a4, a5, if_true, if_false, decide_true]
    exact hk mm _ _ (Nat.lt_succ_self _) ⟨j + 1, _, true, rfl, by omega, hst yg, rfl⟩
  · have ng : ¬ gain d p := fun h => by
      rcases h.2.2.2 with h | h
      · rw [hat] at h; exact a4 h
      · rw [hat] at h; exact a5 h
    simp only [ng, a3, a4, a5, if_true, if_false, decide_false, Bool.false_eq_true]
    exact hk mm _ _ (Nat.lt_succ_self _) ⟨j + 1, d, b, rfl, by omega, hi, rfl⟩
end Go.Proofs.Ytfnjdegejgocfaa.Rf
