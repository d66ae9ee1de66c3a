/- ReachMore: the law's function gives true. -/
import Derived.Test.YtfnjdegejgocfaaReach17
set_option linter.unusedVariables false
set_option linter.unusedSimpArgs false
namespace Go.Proofs.Ytfnjdegejgocfaa.Rf
open Go

def gx (g : Grm) (p : Prd) : Grm := (g.1, (g.2.1, (g.2.2.1 ++ [p], g.2.2.2)))
theorem more_reached (g : Grm) (p : Prd) : subB (reachF g) (reachF (gx g p)) := by
  obtain ⟨_, hc⟩ := reachF_ok (gx g p)
  exact (reachF_ok g).1.least _ ⟨hc.len, hc.start, fun q hq => hc.no q (List.mem_append_left _ hq)⟩
theorem more_least (g : Grm) (p : Prd) : leD (leastF (gx g p)) (leastF g) := by
  obtain ⟨_, hc⟩ := leastF_ok (gx g p)
  exact (leastF_ok g).1.least _ ⟨hc.len, hc.cap, hc.lo, fun q hq => hc.no q (List.mem_append_left _ hq)⟩
theorem more_looped (g : Grm) (p : Prd) (h : 0 ≤ loopF (leastF g) g.2.1.length g.2.2.1) : 0 ≤ loopF (leastF (gx g p)) g.2.1.length (g.2.2.1 ++ [p]) := by
  unfold loopF at h ⊢
  have h1 : ¬ (∀ i, g.2.1.length - g.2.1.length ≤ i → i < g.2.1.length → ¬ Way (Edge (leastF g) g.2.1.length g.2.2.1) i i) := fun hx => by
    have := (first_neg _ (Nat.le_refl _)).2 hx
    omega
  refine Int.not_lt.1 fun hx => h1 fun i hi hi2 hw => (first_neg _ (Nat.le_refl _)).1 hx i hi hi2 (hw.mono ?_)
  rintro j k ⟨q, hq, n, hn, e1, e2, e3, s, e4, e5, e6, e7⟩
  refine ⟨q, List.mem_append_left _ hq, n, hn, e1, e2, e3, s, e4, e5, e6, ?_⟩
  have := lenA_mono (more_least g p) (rest q.2.2.1 n) 0 0 (by omega) (by omega) (by omega) (by omega)
  omega

set_option maxHeartbeats 2000000 in
theorem p8_true (g : Grm) (p : Prd) (hg : GOk g) : p8 N0 (g, (p, ())) = some ((true, ()), ()) := by
  unfold p8
  simp only [joinB_eq]
  rw [callB_eq p40_eq]
  simp only [Bool.not_true, cond_false]
  rw [callB_eq (p13_eq g hg)]
  cases hf : few g
  · simp
  have F := few_ok hf
  simp only [Bool.not_true, cond_false]
  by_cases h20 : (20 : Int) < (p.2.2.1.length : Int)
  · simp only [h20, decide_true, cond_true]
  simp only [h20, decide_false, cond_false]
  have pr40 := F.pr
  have so20 := F.so
  simp only [List.nil_append, List.length_nil, List.length_append, List.length_cons, Nat.zero_add]
  rw [if_pos (by omega), if_pos (by omega), if_pos (by omega), if_pos (by omega)]
  have n100 : g.2.1.length ≤ 100 := by omega
  have pr100 : g.2.2.1.length ≤ 100 := by omega
  have px100 : (g.2.2.1 ++ [p]).length ≤ 100 := by simp only [List.length_append, List.length_cons, List.length_nil]; omega
  have hbx : ∀ q ∈ g.2.2.1 ++ [p], q.2.2.1.length ≤ 20 := fun q hq => by
    rcases List.mem_append.1 hq with hq | hq
    · exact F.bo q hq
    · rcases List.mem_singleton.1 hq with rfl; omega
  have hgx : GOk (gx g p) := ⟨hg.ls, hg.lr, by show (g.2.2.1 ++ [p]).length ≤ maxLen; unfold maxLen; omega, fun q hq => by have := hbx q hq; unfold maxLen; omega, hg.rs, hg.so⟩
  have a1 : p41 N0 ((g.1, (g.2.1, (g.2.2.1 ++ [p], g.2.2.2))), ()) = some ((reachF (gx g p), ()), ()) := p41_eq (gx g p) hgx n100
  have a2 : p42 N0 ((g.1, (g.2.1, (g.2.2.1 ++ [p], g.2.2.2))), ()) = some ((leastF (gx g p), ()), ()) := p42_eq (gx g p) hgx n100
  have a3 : p43 N0 ((g.1, (g.2.1, (g.2.2.1 ++ [p], g.2.2.2))), ()) = some ((loopF (leastF (gx g p)) g.2.1.length (g.2.2.1 ++ [p]), ()), ()) := p43_eq (gx g p) hgx n100 px100 hbx
  rw [callB_eq (p41_eq g hg n100)]
  simp only
  rw [callB_eq a1]
  simp only
  rw [callB_eq (p42_eq g hg n100)]
  simp only
  rw [callB_eq a2]
  have l1 : (reachF g).length = g.2.1.length := (reachF_ok g).2.len
  have l2 : (reachF (gx g p)).length = g.2.1.length := (reachF_ok (gx g p)).2.len
  have l3 : (leastF g).length = g.2.1.length := (leastF_ok g).2.len
  have l4 : (leastF (gx g p)).length = g.2.1.length := (leastF_ok (gx g p)).2.len
  simp only [l1, l2, l3, l4, decide_true, Bool.not_true, cond_false]
  refine (loop_up (fun j => ((), ((j : Int), ()))) (fun j => some ((true, ()), ())) g.2.1.length (fun j hj k hk => ?_) N0 0 (Nat.zero_le _) (by unfold N0; omega))
  rcases Nat.lt_or_ge j g.2.1.length with hlt | hge
  · have hk := hk hlt
    have hc : ((j : Nat) : Int) < (g.2.1.length : Int) := by omega
    have hw : IntKind.wrap .i64 ((j : Int) + 1) = ((j + 1 : Nat) : Int) := by rw [wrap_in (by omega) (by omega)]; simp
    have j1 : j < (reachF g).length := by omega
    have j2 : j < (reachF (gx g p)).length := by omega
    have j3 : j < (leastF g).length := by omega
    have j4 : j < (leastF (gx g p)).length := by omega
    have m1 := (more_reached g p).2 j
    have m2 := (more_least g p).2 j
    have m3 := (leastF_ok (gx g p)).2.lo _ (List.getElem_mem j4)
    have at3 : at1 (leastF g) j = (leastF g)[j] := by unfold at1; rw [List.getD_eq_getElem?_getD, List.getElem?_eq_getElem j3]; rfl
    have at4 : at1 (leastF (gx g p)) j = (leastF (gx g p))[j] := by unfold at1; rw [List.getD_eq_getElem?_getD, List.getElem?_eq_getElem j4]; rfl
    rw [bit_eq j1, bit_eq j2] at m1
    rw [at3, at4] at m2
    simp only [hc, decide_true, cond_true, Int.toNat_natCast, Int.natCast_nonneg, if_true, List.getElem?_eq_getElem j1, List.getElem?_eq_getElem j2, List.getElem?_eq_getElem j3, List.getElem?_eq_getElem j4, hw]
    generalize (reachF g)[j] = b1 at m1
    generalize (reachF (gx g p))[j] = b2 at m1
    generalize (leastF g)[j] = c at m2
    generalize (leastF (gx g p))[j] = d at m2 m3
    have n3 : ¬ d < -1 := by omega
    by_cases hc0 : 0 ≤ c
    · obtain ⟨q1, q2⟩ := m2 hc0
      have n1 : ¬ d < 0 := by omega
      have n2 : ¬ c < d := by omega
      cases b1
      · simp only [cond_false, hc0, n1, n2, n3, decide_true, decide_false, cond_true]; exact hk
      · rw [m1 rfl]; simp only [cond_true, Bool.not_true, cond_false, hc0, n1, n2, n3, decide_true, decide_false]; exact hk
    · cases b1
      · simp only [cond_false, hc0, n3, decide_false]; exact hk
      · rw [m1 rfl]; simp only [cond_true, Bool.not_true, cond_false, hc0, n3, decide_false]; exact hk
  · have hc : ¬ ((j : Nat) : Int) < (g.2.1.length : Int) := by omega
    simp only [hc, decide_false, cond_false]
    rw [callB_eq (p43_eq g hg n100 pr100 F.bo)]
    by_cases hlo : loopF (leastF g) g.2.1.length g.2.2.1 < 0
    · simp only [hlo, decide_true, cond_true]
    · simp only [hlo, decide_false, cond_false]
      rw [callB_eq a3]
      have := more_looped g p (by omega)
      simp only [this, decide_true]
end Go.Proofs.Ytfnjdegejgocfaa.Rf
