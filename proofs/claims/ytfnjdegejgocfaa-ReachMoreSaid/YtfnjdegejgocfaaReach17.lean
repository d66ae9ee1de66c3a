/- ReachTells: the law's function gives true. -/
import Derived.Test.YtfnjdegejgocfaaReach16
set_option linter.unusedVariables false
set_option linter.unusedSimpArgs false
namespace Go.Proofs.Ytfnjdegejgocfaa.Rf
open Go

theorem same_int (a : List Int) (h : a.length ≤ maxLen) : p38 N0 (a, (a, ())) = some ((true, ()), ()) := by
  unfold p38
  simp only [decide_true, Bool.not_true, cond_false]
  refine (loop_up (fun j => ((), ((j : Int), ()))) (fun j => some ((true, ()), ())) a.length (fun j hj k hk => ?_) N0 0 (Nat.zero_le _) (by have := N0_lt h; omega))
  rcases Nat.lt_or_ge j a.length with hlt | hge
  · have hk := hk hlt
    have hc : ((j : Nat) : Int) < (a.length : Int) := by omega
    simp only [hc, decide_true, cond_true, Int.toNat_natCast, Int.natCast_nonneg, if_true, List.getElem?_eq_getElem hlt, Bool.not_true, cond_false, wrap_succ hlt h]
    exact hk
  · have hc : ¬ ((j : Nat) : Int) < (a.length : Int) := by omega
    simp only [hc, decide_false, cond_false]

structure FewOk (g : Grm) : Prop where
  ru : g.1.length ≤ 20
  so : g.2.1.length ≤ 20
  pr : g.2.2.1.length ≤ 40
  bo : ∀ p ∈ g.2.2.1, p.2.2.1.length ≤ 20
theorem few_ok {g : Grm} (h : few g = true) : FewOk g := by
  simp only [few, few11, Bool.and_eq_true, decide_eq_true_eq, List.all_eq_true] at h
  obtain ⟨⟨h1, _⟩, h2, h3, _, _, h4, _⟩ := h
  refine ⟨h1, h2, h3, fun p hp => ?_⟩
  have := h4 p hp
  simp only [prodOk, Bool.and_eq_true, decide_eq_true_eq] at this
  exact this.1
theorem foldl_len {α β : Type} {f : List β → α → List β} (h : ∀ r a, (f r a).length = r.length) : ∀ (l : List α) (r : List β), (l.foldl f r).length = r.length := by
  intro l
  induction l with
  | nil => intro r; rfl
  | cons a l ih => intro r; rw [List.foldl_cons, ih, h]
theorem usedF_len (g : Grm) : (usedF g).length = g.1.length := by
  unfold usedF
  rw [foldl_len]
  · simp
  · intro r p
    unfold prodU
    split
    · rw [foldl_len]
      intro r a
      unfold addT
      split <;> simp
    · rfl

set_option maxHeartbeats 1000000 in
theorem p11_true (g : Grm) (hg : GOk g) : p11 N0 (g, ()) = some ((true, ()), ()) := by
  unfold p11
  simp only [joinB_eq]
  rw [callB_eq p40_eq]
  simp only [Bool.not_true, cond_false]
  rw [callB_eq (p13_eq g hg)]
  cases hf : few g
  · simp
  have F := few_ok hf
  have n100 : g.2.1.length ≤ 100 := by have := F.so; omega
  have r100 : g.1.length ≤ 100 := by have := F.ru; omega
  have pr100 : g.2.2.1.length ≤ 100 := by have := F.pr; omega
  have hl1 := (leastF_ok g).2.len
  have hl2 := (reachF_ok g).2.len
  have hl3 := usedF_len g
  simp only [Bool.not_true, cond_false]
  rw [callB_eq (p57_eq g hg n100)]
  simp only
  rw [callB_eq (p58_eq g hg n100)]
  have e1 : ((fruitF g).length : Int) = ((leastF g).length : Int) := by unfold fruitF; rw [List.length_map]
  have e2 : (fruitF g).length = (leastF g).length := by unfold fruitF; rw [List.length_map]
  simp only [e1, decide_true, Bool.not_true, cond_false]
  rw [callB_eq (p42_eq g hg n100)]
  simp only
  rw [callB_eq (same_int _ (by unfold maxLen; omega))]
  simp only [Bool.not_true, cond_false]
  refine (loop_up (fun j => ((), ((j : Int), ()))) (fun j => some ((true, ()), ())) (leastF g).length (fun j hj k hk => ?_) N0 0 (Nat.zero_le _) (by unfold N0; omega))
  rcases Nat.lt_or_ge j (leastF g).length with hlt | hge
  · have hk := hk hlt
    have hc : ((j : Nat) : Int) < ((leastF g).length : Int) := by omega
    have hw : IntKind.wrap .i64 ((j : Int) + 1) = ((j + 1 : Nat) : Int) := by rw [wrap_in (by omega) (by omega)]; simp
    have e3 : (fruitF g)[j]? = some (decide (0 ≤ (leastF g)[j])) := by
      unfold fruitF
      rw [List.getElem?_map, List.getElem?_eq_getElem hlt]; rfl
    have e4 : ∀ b : Bool, (b == b) = true := by intro b; cases b <;> rfl
    simp only [hc, decide_true, cond_true, Int.toNat_natCast, Int.natCast_nonneg, if_true, e3, List.getElem?_eq_getElem hlt, e4, Bool.not_true, cond_false, hw]
    exact hk
  · have hc : ¬ ((j : Nat) : Int) < ((leastF g).length : Int) := by omega
    simp only [hc, decide_false, cond_false]
    rw [callB_eq (p41_eq g hg n100)]
    simp only
    rw [callB_eq (p60_eq g hg n100)]
    simp only
    rw [callB_eq (p59_eq _ (by unfold maxLen; omega))]
    simp only [cond_true]
    rw [callB_eq (p61_eq g hg n100 r100)]
    simp only
    rw [callB_eq (p62_eq g hg n100 r100)]
    simp only
    rw [callB_eq (p59_eq _ (by unfold maxLen; omega))]
    simp only [cond_true]
    rw [callB_eq (p43_eq g hg n100 pr100 F.bo)]
    simp only
    rw [callB_eq (p63_eq g hg n100 pr100 F.bo)]
    simp only [decide_true]
end Go.Proofs.Ytfnjdegejgocfaa.Rf
