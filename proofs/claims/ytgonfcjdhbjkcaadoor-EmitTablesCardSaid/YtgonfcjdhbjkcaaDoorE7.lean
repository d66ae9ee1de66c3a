/- A row read: both texts compute the numbers that it tells. -/
import Derived.Test.YtgonfcjdhbjkcaaDoorE6
set_option linter.unusedVariables false
set_option linter.unusedSimpArgs false
namespace Go.Proofs.YtgonfcjdhbjkcaaDoor.Rf
open Go

theorem splI_len (sep : List Int) : ∀ (k : Nat) (s : List Int), (splI sep k s).length ≤ k + 1 := by
  intro k
  induction k with
  | zero => intro s; simp [splI]
  | succ k ih =>
    intro s
    simp only [splI]
    split
    · simp
    · have := ih (s.drop ((idxI s sep).toNat + sep.length)); simp only [List.length_cons]; omega
theorem splI_mem (sep : List Int) : ∀ (k : Nat) (s : List Int), ∀ p ∈ splI sep k s, p.length ≤ s.length := by
  intro k
  induction k with
  | zero => intro s p hp; rw [List.mem_singleton.1 hp]; exact Nat.le_refl _
  | succ k ih =>
    intro s p hp
    simp only [splI] at hp
    split at hp
    · rw [List.mem_singleton.1 hp]; exact Nat.le_refl _
    · rcases List.mem_cons.1 hp with rfl | hp
      · rw [List.length_take]; omega
      · have := ih _ p hp
        rw [List.length_drop] at this; omega
set_option maxHeartbeats 100000000 in
theorem p54_eq' (s : List Int) (hs : s.length ≤ 100000000) : p54 N0 (s, ()) = some (((readF s).1, ((readF s).2, ())), ()) := by
  unfold p54
  simp only [joinB_eq]
  rw [callB_eq (p43_eq' s [123])]
  simp only
  have hl1 := cpI_len s [123]
  rw [callB_eq (p53_eq' (cpI s [123]).1 [125] (by omega) (by simp))]
  simp only
  have hl2 := csI_len (cpI s [123]).1 [125]
  cases h1 : (cpI s [123]).2
  · have : readF s = ([], false) := readF_none fun l _ e => (cpI_false h1).2 (bodyB l ++ [125]) (by rw [← e]; rfl)
    rw [this]; rfl
  have e1 := cpI_true h1
  cases h2 : (csI (cpI s [123]).1 [125]).2
  · have : readF s = ([], false) := readF_none fun l _ e => by
      have : cpI s [123] = (bodyB l ++ [125], true) := by rw [← e]; exact cpI_app [123] _
      rw [this] at h2
      rw [csI_app] at h2; cases h2
    rw [this]; rfl
  have e2 := csI_true h2
  rw [e2] at e1
  simp only [Bool.not_true, cond_false]
  generalize (csI (cpI s [123]).1 [125]).1 = t at e1 hl2
  by_cases ht : t = []
  · have : readF s = ([], true) := readF_row (fun _ h => by cases h) (by rw [e1, ht]; rfl)
    rw [decide_eq_true ht, this]; rfl
  rw [decide_eq_false ht, cond_false, callB_eq (p59_eq' t [44, 32] (by omega) (by simp) (by simp))]
  have hr : readF s = (match allNum (splI [44, 32] (countI t [44, 32]) t) with | some l => (l, true) | none => ([], false)) := by rw [e1, ← List.append_assoc]; exact read_pieces ht
  have hpl : (splI [44, 32] (countI t [44, 32]) t).length ≤ 100000002 := by
    have h3 := splI_len [44, 32] (countI t [44, 32]) t
    have h4 : countI t [44, 32] ≤ t.length := countF_le [44, 32] (by simp) _ t
    omega
  have hpm := splI_mem [44, 32] (countI t [44, 32]) t
  generalize splI [44, 32] (countI t [44, 32]) t = ps at hr hpl hpm
  rw [hr]
  clear hr
  refine (loop_rule (fun mm x r => ∃ (i : Nat) (acc : List Int), x = ((), (acc, ((i : Int), ()))) ∧ mm + i = ps.length ∧ acc.length = i ∧ r = (match allNum (ps.drop i) with | some l => some (((acc ++ l), (true, ())), ()) | none => some (([], (false, ())), ()))) ?_ N0 ps.length _ _ (by unfold N0; omega) ⟨0, [], rfl, rfl, rfl, rfl⟩).trans (by
    rw [List.drop_zero]
    cases allNum ps <;> rfl)
  rintro mm x r ⟨i, acc, rfl, hmm, ha, rfl⟩ k hk
  rcases Nat.eq_zero_or_pos mm with rfl | hm0
  · have c1 : ¬ (i : Int) < (ps.length : Int) := by omega
    simp only
    rw [decide_eq_false c1, cond_false, List.drop_eq_nil_of_le (by omega)]
    simp [allNum]
  obtain ⟨mm, rfl⟩ : ∃ m', mm = m' + 1 := ⟨mm - 1, by omega⟩
  have hi : i < ps.length := by omega
  have c1 : (i : Int) < (ps.length : Int) := by omega
  have hw : IntKind.wrap .i64 ((i : Int) + 1) = ((i + 1 : Nat) : Int) := by rw [wrap64 (by omega) (by omega)]; simp
  have hpl := hpm _ (List.getElem_mem hi)
  have fin : ∀ n, k ((), (acc ++ [n], (((i + 1 : Nat) : Int), ()))) = (match allNum (ps.drop (i + 1)) with | some l => some (((acc ++ [n] ++ l), (true, ())), ()) | none => some (([], (false, ())), ())) := fun n =>
    hk mm _ _ (Nat.lt_succ_self _) ⟨i + 1, acc ++ [n], rfl, by omega, by simp [ha], rfl⟩
  rw [List.drop_eq_getElem_cons hi]
  simp only [Int.natCast_nonneg, if_true, Int.toNat_natCast, List.getElem?_eq_getElem hi, hw]
  rw [decide_eq_true c1, cond_true, callB_eq (p60_eq' _ (by omega))]
  simp only [allNum]
  rcases numF_cases ps[i] with ⟨n, g1, g2, g3⟩ | ⟨_, g3⟩
  · rw [g3]
    simp only [Bool.not_true, cond_false, if_true, List.length_cons, List.length_nil]
    rw [if_pos (by omega), if_pos (by omega), fin n]
    cases allNum (ps.drop (i + 1)) <;> simp
  · rw [g3]; rfl

end Go.Proofs.YtgonfcjdhbjkcaaDoor.Rf
