/- Split; a row read: what both texts compute. -/
import Derived.Test.YtgonfcjdhbjkcaaDoorE5
set_option linter.unusedVariables false
set_option linter.unusedSimpArgs false
namespace Go.Proofs.YtgonfcjdhbjkcaaDoor.Rf
open Go

set_option maxHeartbeats 100000000 in
theorem p67_eq' (s sep : List Int) (hs : s.length ≤ 100000000) (hp : 0 < sep.length) (hp2 : sep.length ≤ 1000) : p67 N0 (s, (sep, ((0 : Int), ((-1 : Int), ())))) = some ((splI sep (countI s sep) s, ()), ()) := by
  unfold p67
  have c0 : ¬ ((-1 : Int) = 0) := by omega
  have c1 : ¬ sep = [] := fun h => by rw [h] at hp; simp at hp
  have c2 : (-1 : Int) < 0 := by omega
  simp only [joinB_eq]
  rw [decide_eq_false c0, cond_false, decide_eq_false c1, cond_false, decide_eq_true c2, cond_true]
  have h61 : p71 N0 (s, (sep, ())) = some ((((countI s sep : Nat) : Int), ()), ()) := by
    unfold p71
    rw [if_pos (by simp only; omega)]
  rw [callB_eq h61]
  have hcnt : countI s sep ≤ s.length := countF_le sep hp _ s
  generalize hct : countI s sep = ct at hcnt
  have w1 : IntKind.wrap .i64 ((ct : Int) + 1) = ((ct + 1 : Nat) : Int) := by rw [wrap64 (by omega) (by omega)]; simp
  have w2 : IntKind.wrap .i64 ((s.length : Int) + 1) = ((s.length + 1 : Nat) : Int) := by rw [wrap64 (by omega) (by omega)]; simp
  have c3 : ¬ ((s.length + 1 : Nat) : Int) < ((ct + 1 : Nat) : Int) := by omega
  have w3 : IntKind.wrap .i64 (((ct + 1 : Nat) : Int) - 1) = (ct : Int) := by rw [wrap64 (by omega) (by omega)]; omega
  have z0 : (0 : Int) ≤ ((ct + 1 : Nat) : Int) ∧ ((ct + 1 : Nat) : Int) ≤ ((ct + 1 : Nat) : Int) := by omega
  simp only [w1, w2]
  rw [if_neg c3]
  simp only [w3]
  rw [if_pos z0, if_pos (by omega), Int.toNat_natCast]
  -- the end: what is left is the last piece
  have fin : ∀ (dn : List (List Int)) (s' : List Int), dn.length ≤ ct → (if (0 : Int) ≤ ((dn.length : Nat) : Int) then (match (dn ++ List.replicate (ct + 1 - dn.length) ([] : List Int))[((dn.length : Nat) : Int).toNat]? with | some v6 => (if (0 : Int) ≤ ((dn.length : Nat) : Int) then (match (dn ++ List.replicate (ct + 1 - dn.length) ([] : List Int))[((dn.length : Nat) : Int).toNat]? with | some v7 => (if (0 : Int) ≤ (0 : Int) ∧ (0 : Int) ≤ (IntKind.wrap .i64 (((dn.length : Nat) : Int) + (1 : Int))) ∧ (IntKind.wrap .i64 (((dn.length : Nat) : Int) + (1 : Int))) ≤ ((List.length (List.set (dn ++ List.replicate (ct + 1 - dn.length) ([] : List Int)) (((dn.length : Nat) : Int)).toNat s') : Nat) : Int) then (some (((cutL (List.set (dn ++ List.replicate (ct + 1 - dn.length) ([] : List Int)) (((dn.length : Nat) : Int)).toNat s') (0 : Int) (IntKind.wrap .i64 (((dn.length : Nat) : Int) + (1 : Int)))), ()), ())) else none) | none => none) else none) | none => none) else none) = (some ((dn ++ [s'], ()), ()) : Option ((List (List Int) × Unit) × Unit)) := by
    intro dn s' hd
    have w4 : IntKind.wrap .i64 (((dn.length : Nat) : Int) + 1) = ((dn.length + 1 : Nat) : Int) := by rw [wrap64 (by omega) (by omega)]; simp
    have g : (dn ++ List.replicate (ct + 1 - dn.length) ([] : List Int))[dn.length]? = some [] := by
      rw [List.getElem?_append_right (Nat.le_refl _), Nat.sub_self, List.getElem?_replicate, if_pos (by omega)]
    have hset : (dn ++ List.replicate (ct + 1 - dn.length) ([] : List Int)).set dn.length s' = dn ++ s' :: List.replicate (ct - dn.length) [] := by
      rw [List.set_append_right _ _ (Nat.le_refl _), Nat.sub_self, show ct + 1 - dn.length = (ct - dn.length) + 1 by omega, List.replicate_succ, List.set_cons_zero]
    have hcut : cutL (dn ++ s' :: List.replicate (ct - dn.length) ([] : List Int)) 0 ((dn.length + 1 : Nat) : Int) = dn ++ [s'] := by
      rw [cutL_to, show dn ++ s' :: List.replicate (ct - dn.length) ([] : List Int) = (dn ++ [s']) ++ List.replicate (ct - dn.length) [] by simp]
      exact List.take_left' (by simp)
    have zd : (0 : Int) ≤ ((dn.length : Nat) : Int) := Int.natCast_nonneg _
    simp only [zd, if_true, Int.toNat_natCast, g, w4, hset, hcut]
    rw [if_pos ⟨by omega, by omega, by simp only [List.length_append, List.length_cons, List.length_replicate]; omega⟩]
  refine loop_rule (fun mm x r => ∃ (dn : List (List Int)) (s' : List Int), x = ((dn ++ List.replicate (ct + 1 - dn.length) [], ()), (s', (((dn.length : Nat) : Int), ()))) ∧ mm + dn.length = ct ∧ s'.length ≤ s.length ∧ dn ++ splI sep (ct - dn.length) s' = splI sep ct s ∧ r = some ((splI sep ct s, ()), ())) ?_ N0 ct _ _ (by unfold N0; omega) ⟨[], s, rfl, rfl, Nat.le_refl _, rfl, rfl⟩
  rintro mm x r ⟨dn, s', rfl, hmm, hlen, hsp, rfl⟩ k hk
  rcases Nat.eq_zero_or_pos mm with rfl | hm0
  · have c4 : ¬ ((dn.length : Nat) : Int) < (ct : Int) := by omega
    simp only
    rw [decide_eq_false c4, cond_false, ← hsp, show ct - dn.length = 0 by omega]
    exact fin dn s' (by omega)
  obtain ⟨mm, rfl⟩ : ∃ m', mm = m' + 1 := ⟨mm - 1, by omega⟩
  have c4 : ((dn.length : Nat) : Int) < (ct : Int) := by omega
  have h62 : p72 N0 (s', (sep, ())) = some ((idxI s' sep, ()), ()) := by
    unfold p72
    rw [if_pos (by simp only; omega)]
  simp only
  rw [decide_eq_true c4, cond_true, callB_eq h62]
  have hge := idx_ge s' sep
  by_cases h1 : idxI s' sep = -1
  · have c5 : idxI s' sep < 0 := by omega
    simp only
    rw [decide_eq_true c5, cond_true, ← hsp, show ct - dn.length = mm + 1 by omega]
    simp only [splI]
    rw [if_pos h1]
    exact fin dn s' (by omega)
  · have c5 : ¬ idxI s' sep < 0 := by omega
    have hle := idx_le h1
    have w5 : IntKind.wrap .i64 (idxI s' sep + 0) = (((idxI s' sep).toNat : Nat) : Int) := by rw [wrap64 (by omega) (by omega)]; omega
    have w6 : IntKind.wrap .i64 (idxI s' sep + (sep.length : Int)) = (((idxI s' sep).toNat + sep.length : Nat) : Int) := by rw [wrap64 (by omega) (by omega)]; omega
    have w7 : IntKind.wrap .i64 (((dn.length : Nat) : Int) + 1) = ((dn.length + 1 : Nat) : Int) := by rw [wrap64 (by omega) (by omega)]; simp
    have g : (dn ++ List.replicate (ct + 1 - dn.length) ([] : List Int))[dn.length]? = some [] := by
      rw [List.getElem?_append_right (Nat.le_refl _), Nat.sub_self, List.getElem?_replicate, if_pos (by omega)]
    have hset : ∀ q, (dn ++ List.replicate (ct + 1 - dn.length) ([] : List Int)).set dn.length q = (dn ++ [q]) ++ List.replicate (ct + 1 - (dn ++ [q]).length) [] := by
      intro q
      rw [List.set_append_right _ _ (Nat.le_refl _), Nat.sub_self, show ct + 1 - dn.length = (ct - dn.length) + 1 by omega, List.replicate_succ, List.set_cons_zero]
      simp only [List.append_assoc, List.singleton_append, List.length_append, List.length_cons, List.length_nil]
      rw [show ct + 1 - (dn.length + (0 + 1)) = ct - dn.length by omega]
    simp only
    rw [decide_eq_false c5, cond_false]
    have zd : (0 : Int) ≤ ((dn.length : Nat) : Int) := Int.natCast_nonneg _
    simp only [w5, w6, w7, zd, if_true, Int.toNat_natCast, g, hset, cutL_to, cutL_from]
    rw [if_pos (by omega), if_pos (by omega)]
    have e9 : ((dn.length + 1 : Nat) : Int) = (((dn ++ [s'.take (idxI s' sep).toNat]).length : Nat) : Int) := by simp
    rw [e9]
    refine hk mm _ _ (Nat.lt_succ_self _) ⟨dn ++ [s'.take (idxI s' sep).toNat], s'.drop ((idxI s' sep).toNat + sep.length), rfl, by simp only [List.length_append, List.length_cons, List.length_nil]; omega, by rw [List.length_drop]; omega, ?_, rfl⟩
    rw [← hsp, show ct - dn.length = (ct - (dn ++ [s'.take (idxI s' sep).toNat]).length) + 1 by simp only [List.length_append, List.length_cons, List.length_nil]; omega]
    simp only [splI]
    rw [if_neg h1]
    simp
theorem p59_eq' (s sep : List Int) (hs : s.length ≤ 100000000) (hp : 0 < sep.length) (hp2 : sep.length ≤ 1000) : p59 N0 (s, (sep, ())) = some ((splI sep (countI s sep) s, ()), ()) := by
  unfold p59
  simp only
  rw [callB_eq (p67_eq' s sep hs hp hp2)]
end Go.Proofs.YtgonfcjdhbjkcaaDoor.Rf
