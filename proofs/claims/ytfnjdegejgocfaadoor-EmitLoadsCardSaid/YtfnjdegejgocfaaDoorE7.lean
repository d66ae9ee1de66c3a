/- A row read: both texts compute the numbers that it tells. -/
import Derived.Test.YtfnjdegejgocfaaDoorE6
set_option linter.unusedVariables false
set_option linter.unusedSimpArgs false
namespace Go.Proofs.YtfnjdegejgocfaaDoor.Rf
open Go

theorem splI_len (sep : List Int) : ∀ (k : Nat) (s : List Int), (splI sep k s).length ≤ k + 1 := by
  intro k
  induction k with
  | zero => intro s; simp [splI]
  | succ k ih =>
    intro s
    simp only [splI]
    split
    · simp
    · have := ih (s.drop ((idxI s sep).toNat + sep.length)); simp only [List.length_cons]; omega
theorem splI_mem (sep : List Int) : ∀ (k : Nat) (s : List Int), ∀ p ∈ splI sep k s, p.length ≤ s.length := by
  intro k
  induction k with
  | zero => intro s p hp; rw [List.mem_singleton.1 hp]; exact Nat.le_refl _
  | succ k ih =>
    intro s p hp
    simp only [splI] at hp
    split at hp
    · rw [List.mem_singleton.1 hp]; exact Nat.le_refl _
    · rcases List.mem_cons.1 hp with rfl | hp
      · rw [List.length_take]; omega
      · have := ih _ p hp
        rw [List.length_drop] at this; omega
set_option maxHeartbeats 1000000 in
theorem p9_eq' (s : List Int) (hs : s.length ≤ 1000000) : p9 N0 (s, ()) = some (((readF s).1, ((readF s).2, ())), ()) := by
  unfold p9
  simp only [joinB_eq]
  rw [callB_eq (p25_eq' s [123])]
  simp only
  have hl1 := cpI_len s [123]
  rw [callB_eq (p26_eq' (cpI s [123]).1 [125] (by omega) (by simp))]
  simp only
  have hl2 := csI_len (cpI s [123]).1 [125]
  cases h1 : (cpI s [123]).2
  · have : readF s = ([], false) := readF_none fun l _ e => (cpI_false h1).2 (bodyB l ++ [125]) (by rw [← e]; rfl)
    rw [this]; rfl
  have e1 := cpI_true h1
  cases h2 : (csI (cpI s [123]).1 [125]).2
  · have : readF s = ([], false) := readF_none fun l _ e => by
      have : cpI s [123] = (bodyB l ++ [125], true) := by rw [← e]; exact cpI_app [123] _
      rw [this] at h2
      rw [csI_app] at h2; cases h2
    rw [this]; rfl
  have e2 := csI_true h2
  rw [e2] at e1
  simp only [Bool.not_true, cond_false]
  generalize (csI (cpI s [123]).1 [125]).1 = t at e1 hl2
  by_cases ht : t = []
  · have : readF s = ([], true) := readF_row (fun _ h => by cases h) (by rw [e1, ht]; rfl)
    rw [decide_eq_true ht, this]; rfl
  rw [decide_eq_false ht, cond_false, callB_eq (p27_eq' t [44, 32] (by omega) (by simp) (by simp))]
  have hr : readF s = (match allNum (splI [44, 32] (countI t [44, 32]) t) with | some l => (l, true) | none => ([], false)) := by rw [e1, ← List.append_assoc]; exact read_pieces ht
  have hpl : (splI [44, 32] (countI t [44, 32]) t).length ≤ 1000002 := by
    have h3 := splI_len [44, 32] (countI t [44, 32]) t
    have h4 : countI t [44, 32] ≤ t.length := countF_le [44, 32] (by simp) _ t
    omega
  have hpm := splI_mem [44, 32] (countI t [44, 32]) t
  generalize splI [44, 32] (countI t [44, 32]) t = ps at hr hpl hpm
  rw [hr]
  clear hr
  refine (loop_rule (fun mm x r => ∃ (i : Nat) (acc : List Int), x = ((), (acc, ((i : Int), ()))) ∧ mm + i = ps.length ∧ acc.length = i ∧ r = (match allNum (ps.drop i) with | some l => some (((acc ++ l), (true, ())), ()) | none => some (([], (false, ())), ()))) ?_ N0 ps.length _ _ (by unfold N0; omega) ⟨0, [], rfl, rfl, rfl, rfl⟩).trans (by
    rw [List.drop_zero]
    cases allNum ps <;> rfl)
  rintro mm x r ⟨i, acc, rfl, hmm, ha, rfl⟩ k hk
  rcases Nat.eq_zero_or_pos mm with rfl | hm0
  · have c1 : ¬ (i : Int) < (ps.length : Int) := by omega
    simp only
    rw [decide_eq_false c1, cond_false, List.drop_eq_nil_of_le (by omega)]
    simp [allNum]
  obtain ⟨mm, rfl⟩ : ∃ m', mm = m' + 1 := ⟨mm - 1, by omega⟩
  have hi : i < ps.length := by omega
  have c1 : (i : Int) < (ps.length : Int) := by omega
  have hw : IntKind.wrap .i64 ((i : Int) + 1) = ((i + 1 : Nat) : Int) := by rw [wrap64 (by omega) (by omega)]; simp
  have hpl := hpm _ (List.getElem_mem hi)
  have fin : ∀ n, k ((), (acc ++ [n], (((i + 1 : Nat) : Int), ()))) = (match allNum (ps.drop (i + 1)) with | some l => some (((acc ++ [n] ++ l), (true, ())), ()) | none => some (([], (false, ())), ())) := fun n =>
    hk mm _ _ (Nat.lt_succ_self _) ⟨i + 1, acc ++ [n], rfl, by omega, by simp [ha], rfl⟩
  rw [List.drop_eq_getElem_cons hi]
  simp only [Int.natCast_nonneg, if_true, Int.toNat_natCast, List.getElem?_eq_getElem hi, hw]
  rw [decide_eq_true c1, cond_true, callB_eq (p28_eq' _ (by omega))]
  simp only [allNum]
  rcases numF_cases ps[i] with ⟨n, g1, g2, g3⟩ | ⟨_, g3⟩
  · rw [g3]
    simp only [Bool.not_true, cond_false, if_true, List.length_cons, List.length_nil]
    rw [if_pos (by omega), if_pos (by omega), fin n]
    cases allNum (ps.drop (i + 1)) <;> simp
  · rw [g3]; rfl

set_option maxHeartbeats 1000000 in
theorem p17_eq' (s : List Int) (hs : s.length ≤ 9000) : p17 N0 (s, ()) = some (((readF s).1, ((readF s).2, ())), ()) := by
  unfold p17
  simp only [joinB_eq]
  -- what is told at the end
  have ends : ∀ o, Ins o → o.length ≤ 10000 → (readF s = (o, true) ∧ rowI o = s) ∨ (readF s = ([], false) ∧ rowI o ≠ s) → callB (p10 N0 (o, ())) (fun (v16 : (((List Int) × Unit) × Unit)) => (bif (!(decide (v16.1.1 = s))) then (some ((([] : List Int), (false, ())), ())) else (some ((o, (true, ())), ())))) = (some (((readF s).1, ((readF s).2, ())), ()) : Option ((List Int × Bool × Unit) × Unit)) := by
    intro o ho hl h
    rw [callB_eq (p10_eq' o ho hl)]
    rcases h with ⟨h1, h2⟩ | ⟨h1, h2⟩
    · rw [h1, decide_eq_true h2]; rfl
    · rw [h1, decide_eq_false h2]; rfl
  have hend : ∀ o, Ins o → o = colN s [] [] → (readF s = (o, true) ∧ rowI o = s) ∨ (readF s = ([], false) ∧ rowI o ≠ s) := by
    intro o ho e
    rcases readF_cases s with ⟨l, g1, g2, g3⟩ | ⟨g1, g3⟩
    · have : o = l := by rw [e, ← g2]; exact colN_row g1
      subst this; exact .inl ⟨g3, g2⟩
    · exact .inr ⟨g3, g1 o ho⟩
  refine loop_rule (fun mm x r => ∃ (i f : Nat) (out : List Int), x = ((), (out, ((f : Int), ((i : Int), ())))) ∧ mm + i = s.length + 1 ∧ Ins out ∧ out.length ≤ i ∧ (i ≤ s.length → f ≤ i ∧ colN (s.drop i) ((s.drop f).take (i - f)) out = colN s [] []) ∧ (s.length < i → out = colN s [] []) ∧ r = some (((readF s).1, ((readF s).2, ())), ())) ?_ N0 (s.length + 1) _ _ (by unfold N0; omega) ⟨0, 0, [], rfl, rfl, fun _ h => (by cases h), Nat.le_refl _, fun _ => ⟨Nat.le_refl _, by simp⟩, fun h => by omega, rfl⟩
  rintro mm x r ⟨i, f, out, rfl, hmm, hin, hol, hcol, hdone, rfl⟩ k hk
  rcases Nat.eq_zero_or_pos mm with rfl | hm0
  · have c1 : ¬ (i : Int) ≤ (s.length : Int) := by omega
    simp only
    rw [decide_eq_false c1, cond_false]
    exact ends out hin (by omega) (hend out hin (hdone (by omega)))
  obtain ⟨mm, rfl⟩ : ∃ m', mm = m' + 1 := ⟨mm - 1, by omega⟩
  have c1 : (i : Int) ≤ (s.length : Int) := by omega
  obtain ⟨hfi, hcol⟩ := hcol (by omega)
  have hw : IntKind.wrap .i64 ((i : Int) + 1) = ((i + 1 : Nat) : Int) := by rw [wrap64 (by omega) (by omega)]; simp
  have zi : (0 : Int) ≤ (i : Int) := Int.natCast_nonneg _
  -- a piece ends here
  have push : (∀ o', o' = pushN ((s.drop f).take (i - f)) out → k ((), (o', (((i + 1 : Nat) : Int), (((i + 1 : Nat) : Int), ())))) = some (((readF s).1, ((readF s).2, ())), ())) → (if (0 : Int) ≤ (f : Int) ∧ (f : Int) ≤ (i : Int) ∧ (i : Int) ≤ ((List.length s : Nat) : Int) then (callB (p33 N0 ((cutL s (f : Int) (i : Int)), ())) (fun (v8 : ((Int × (Bool × Unit)) × Unit)) => ((fun v10 => (bif v8.1.2.1 then (if (List.length out + List.length (v8.1.1 :: ([] : List Int))) * 8 ≤ 140737488355328 then (if List.length out + List.length (v8.1.1 :: ([] : List Int)) ≤ 9223372036854775807 then (v10 ((), ((out ++ (v8.1.1 :: ([] : List Int))), ()))) else none) else none) else (v10 ((), (out, ()))))) (fun (v9 : (Unit × ((List Int) × Unit))) => k ((), (v9.2.1, ((IntKind.wrap .i64 ((i : Int) + (1 : Int))), ((IntKind.wrap .i64 ((i : Int) + (1 : Int))), ())))))))) else none) = (some (((readF s).1, ((readF s).2, ())), ()) : Option ((List Int × Bool × Unit) × Unit)) := by
    intro hk2
    have c2 : (0 : Int) ≤ (f : Int) ∧ (f : Int) ≤ (i : Int) ∧ (i : Int) ≤ (s.length : Int) := by omega
    rw [if_pos c2, cutL_mid, callB_eq (p33_eq' _ (by rw [List.length_take, List.length_drop]; omega))]
    simp only [hw]
    unfold pushN at hk2
    cases hq : (numF ((s.drop f).take (i - f))).2
    · rw [hq] at hk2
      simp only [cond_false]
      exact hk2 _ rfl
    · rw [hq] at hk2
      simp only [cond_true, List.length_cons, List.length_nil]
      rw [if_pos (by omega), if_pos (by omega)]
      exact hk2 _ rfl
  simp only [hw] at push
  rcases Nat.lt_or_ge i s.length with hlt | hge
  · -- within the text
    have c2 : (i : Int) < (s.length : Int) := by omega
    have hdr := List.drop_eq_getElem_cons hlt
    rw [hdr] at hcol
    have hcol2 : (if sepc s[i] then colN (s.drop (i + 1)) [] (pushN ((s.drop f).take (i - f)) out) else colN (s.drop (i + 1)) ((s.drop f).take (i - f) ++ [s[i]]) out) = colN s [] [] := hcol
    have hp1 := pushN_in (cur := (s.drop f).take (i - f)) hin
    have stop : sepc s[i] → ∀ o', o' = pushN ((s.drop f).take (i - f)) out → k ((), (o', (((i + 1 : Nat) : Int), (((i + 1 : Nat) : Int), ())))) = some (((readF s).1, ((readF s).2, ())), ()) := by
      rintro hs o' rfl
      rw [if_pos hs] at hcol2
      exact hk mm _ _ (Nat.lt_succ_self _) ⟨i + 1, i + 1, _, rfl, by omega, hp1.1, by omega, fun _ => ⟨Nat.le_refl _, by rw [Nat.sub_self, List.take_zero]; exact hcol2⟩, fun h => by omega, rfl⟩
    have go : ¬ sepc s[i] → k ((), (out, ((f : Int), (((i + 1 : Nat) : Int), ())))) = some (((readF s).1, ((readF s).2, ())), ()) := by
      intro hs
      rw [if_neg hs] at hcol2
      refine hk mm _ _ (Nat.lt_succ_self _) ⟨i + 1, f, out, rfl, by omega, hin, by omega, fun _ => ⟨by omega, ?_⟩, fun h => by omega, rfl⟩
      have e : (s.drop f).take (i + 1 - f) = (s.drop f).take (i - f) ++ [s[i]] := by
        rw [show i + 1 - f = (i - f) + 1 by omega, List.take_add_one, List.getElem?_drop, show f + (i - f) = i by omega, List.getElem?_eq_getElem hlt]; rfl
      rw [e]; exact hcol2
    have g := List.getElem?_eq_getElem hlt
    simp only
    rw [decide_eq_true c1, cond_true, decide_eq_true c2, cond_true]
    simp only [zi, if_true, Int.toNat_natCast, g, hw]
    generalize s[i] = c at stop go
    unfold sepc at stop go
    by_cases d1 : c = 123
    · rw [decide_eq_true d1, Bool.not_true, cond_false, cond_false]
      exact (push (stop (by omega)))
    rw [decide_eq_false d1, Bool.not_false, cond_true]
    by_cases d2 : c = 125
    · rw [decide_eq_true d2, Bool.not_true, cond_false, cond_false]
      exact (push (stop (by omega)))
    rw [decide_eq_false d2, Bool.not_false, cond_true]
    by_cases d3 : c = 44
    · rw [decide_eq_true d3, Bool.not_true, cond_false, cond_false]
      exact (push (stop (by omega)))
    rw [decide_eq_false d3, Bool.not_false, cond_true]
    by_cases d4 : c = 32
    · rw [decide_eq_true d4, Bool.not_true, cond_false]
      exact (push (stop (by omega)))
    rw [decide_eq_false d4, Bool.not_false, cond_true]
    exact go (by omega)
  · have e : i = s.length := by omega
    have c2 : ¬ (i : Int) < (s.length : Int) := by omega
    simp only [hw]
    rw [decide_eq_true c1, cond_true, decide_eq_false c2, cond_false, cond_false]
    refine push ?_
    rintro o' rfl
    rw [List.drop_eq_nil_of_le hge] at hcol
    have hp1 := pushN_in (cur := (s.drop f).take (i - f)) hin
    exact hk mm _ _ (Nat.lt_succ_self _) ⟨i + 1, i + 1, _, rfl, by omega, hp1.1, by omega, fun h => by omega, fun _ => hcol, rfl⟩
end Go.Proofs.YtfnjdegejgocfaaDoor.Rf
