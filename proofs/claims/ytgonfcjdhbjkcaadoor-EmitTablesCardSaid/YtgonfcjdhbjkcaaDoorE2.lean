/- Prefixes, suffixes; numbers read from digits: what both texts compute. -/
import Derived.Test.YtgonfcjdhbjkcaaDoorE1
set_option linter.unusedVariables false
set_option linter.unusedSimpArgs false
namespace Go.Proofs.YtgonfcjdhbjkcaaDoor.Rf
open Go

def cpI (s pre : List Int) : List Int × Bool := if s.take pre.length = pre then (s.drop pre.length, true) else (s, false)
def csI (s suf : List Int) : List Int × Bool := if s.drop (s.length - suf.length) = suf then (s.take (s.length - suf.length), true) else (s, false)
theorem cpI_app (pre t : List Int) : cpI (pre ++ t) pre = (t, true) := by
  unfold cpI
  rw [if_pos (by simp)]; simp
theorem csI_app (t suf : List Int) : csI (t ++ suf) suf = (t, true) := by
  unfold csI
  have e : (t ++ suf).length - suf.length = t.length := by rw [List.length_append]; omega
  rw [e, if_pos (by simp)]; simp
theorem cpI_true {s pre : List Int} (h : (cpI s pre).2 = true) : s = pre ++ (cpI s pre).1 := by
  unfold cpI at h ⊢
  split at h
  · rename_i e
    rw [if_pos e]
    simp only
    conv => lhs; rw [← List.take_append_drop pre.length s, e]
  · cases h
theorem csI_true {s suf : List Int} (h : (csI s suf).2 = true) : s = (csI s suf).1 ++ suf := by
  unfold csI at h ⊢
  split at h
  · rename_i e
    rw [if_pos e]
    simp only
    conv => lhs; rw [← List.take_append_drop (s.length - suf.length) s, e]
  · cases h
theorem cpI_false {s pre : List Int} (h : (cpI s pre).2 = false) : (cpI s pre).1 = s ∧ ∀ t, s ≠ pre ++ t := by
  constructor
  · unfold cpI at h ⊢
    split at h
    · cases h
    · rename_i e; rw [if_neg e]
  · rintro t rfl
    rw [cpI_app] at h; cases h
theorem csI_false {s suf : List Int} (h : (csI s suf).2 = false) : (csI s suf).1 = s ∧ ∀ t, s ≠ t ++ suf := by
  constructor
  · unfold csI at h ⊢
    split at h
    · cases h
    · rename_i e; rw [if_neg e]
  · rintro t rfl
    rw [csI_app] at h; cases h
theorem cpI_len (s pre : List Int) : (cpI s pre).1.length ≤ s.length := by
  unfold cpI; split <;> simp
theorem csI_len (s suf : List Int) : (csI s suf).1.length ≤ s.length := by
  unfold csI; split
  · simp only [List.length_take]; omega
  · simp

theorem cutL_to {α : Type} (b : List α) (n : Nat) : cutL b 0 (n : Int) = b.take n := by unfold cutL; simp
theorem cutL_from {α : Type} (b : List α) (n : Nat) : cutL b (n : Int) (b.length : Int) = b.drop n := by
  unfold cutL
  simp only [Int.toNat_natCast]
  exact List.take_of_length_le (by rw [List.length_drop]; omega)
theorem cutL_mid {α : Type} (b : List α) (n m : Nat) : cutL b (n : Int) (m : Int) = (b.drop n).take (m - n) := by unfold cutL; simp

theorem p57_eq' (s pre : List Int) : p57 N0 (s, (pre, ())) = some (((cpI s pre).2, ()), ()) := by
  unfold p57
  simp only [joinB_eq]
  by_cases h : (pre.length : Int) ≤ (s.length : Int)
  · have c : (0 : Int) ≤ 0 ∧ (0 : Int) ≤ (pre.length : Int) ∧ (pre.length : Int) ≤ (s.length : Int) := by omega
    simp only [h, c, decide_true, cond_true, and_self, if_true, cutL_to]
    unfold cpI
    by_cases e : s.take pre.length = pre
    · simp only [e, decide_true, if_true]
    · simp only [e, decide_false, if_false]
  · have e : ¬ s.take pre.length = pre := fun e => by
      have := congrArg List.length e
      rw [List.length_take] at this; omega
    simp only [h, decide_false, cond_false]
    unfold cpI
    simp only [e, if_false]
theorem p43_eq' (s pre : List Int) : p43 N0 (s, (pre, ())) = some (((cpI s pre).1, ((cpI s pre).2, ())), ()) := by
  have h43 : p51 N0 (s, (pre, ())) = some (((cpI s pre).1, ((cpI s pre).2, ())), ()) := by
    unfold p51
    simp only
    rw [callB_eq (p57_eq' s pre)]
    cases h : (cpI s pre).2
    · have := (cpI_false h).1
      simp only [Bool.not_false, cond_true, this]
    · have e := cpI_true h
      have hl : pre.length ≤ s.length := by rw [e, List.length_append]; omega
      have c : (0 : Int) ≤ (pre.length : Int) ∧ (pre.length : Int) ≤ (s.length : Int) ∧ (s.length : Int) ≤ (s.length : Int) := by omega
      have e2 : (cpI s pre).1 = s.drop pre.length := by
        unfold cpI at h ⊢
        split at h
        · rename_i e; rw [if_pos e]
        · cases h
      simp only [Bool.not_true, cond_false, c, and_self, if_true, cutL_from, e2]
  unfold p43
  simp only
  rw [callB_eq h43]
theorem p66_eq' (s suf : List Int) (hs : s.length ≤ 100000000) (hf : suf.length ≤ 100000000) : p66 N0 (s, (suf, ())) = some (((csI s suf).2, ()), ()) := by
  unfold p66
  simp only [joinB_eq]
  by_cases h : (suf.length : Int) ≤ (s.length : Int)
  · have w : IntKind.wrap .i64 ((s.length : Int) - (suf.length : Int)) = ((s.length - suf.length : Nat) : Int) := by rw [wrap64 (by omega) (by omega)]; omega
    have c : (0 : Int) ≤ ((s.length - suf.length : Nat) : Int) ∧ ((s.length - suf.length : Nat) : Int) ≤ (s.length : Int) ∧ (s.length : Int) ≤ (s.length : Int) := by omega
    simp only [h, decide_true, cond_true, w, c, and_self, if_true, cutL_from]
    unfold csI
    by_cases e : s.drop (s.length - suf.length) = suf
    · simp only [e, decide_true, if_true]
    · simp only [e, decide_false, if_false]
  · have e : ¬ s.drop (s.length - suf.length) = suf := fun e => by
      have := congrArg List.length e
      rw [List.length_drop] at this; omega
    simp only [h, decide_false, cond_false]
    unfold csI
    simp only [e, if_false]
theorem p53_eq' (s suf : List Int) (hs : s.length ≤ 100000000) (hf : suf.length ≤ 100000000) : p53 N0 (s, (suf, ())) = some (((csI s suf).1, ((csI s suf).2, ())), ()) := by
  have h44 : p58 N0 (s, (suf, ())) = some (((csI s suf).1, ((csI s suf).2, ())), ()) := by
    unfold p58
    simp only
    rw [callB_eq (p66_eq' s suf hs hf)]
    cases h : (csI s suf).2
    · have := (csI_false h).1
      simp only [Bool.not_false, cond_true, this]
    · have e := csI_true h
      have hl : suf.length ≤ s.length := by rw [e, List.length_append]; omega
      have w : IntKind.wrap .i64 ((s.length : Int) - (suf.length : Int)) = ((s.length - suf.length : Nat) : Int) := by rw [wrap64 (by omega) (by omega)]; omega
      have c : (0 : Int) ≤ 0 ∧ (0 : Int) ≤ ((s.length - suf.length : Nat) : Int) ∧ ((s.length - suf.length : Nat) : Int) ≤ (s.length : Int) := by omega
      have e2 : (csI s suf).1 = s.take (s.length - suf.length) := by
        unfold csI at h ⊢
        split at h
        · rename_i e; rw [if_pos e]
        · cases h
      simp only [Bool.not_true, cond_false, w, c, and_self, if_true, cutL_to, e2]
  unfold p53
  simp only
  rw [callB_eq h44]

/-- The number whose digits a text is. -/
noncomputable def numF (s : List Int) : Int × Bool := open Classical in if h : ∃ n, inK .i64 n ∧ digI n = s then (Classical.choose h, true) else (0, false)
theorem numF_dig {n : Int} (h : inK .i64 n) {s : List Int} (e : digI n = s) : numF s = (n, true) := by
  have hx : ∃ n, inK .i64 n ∧ digI n = s := ⟨n, h, e⟩
  unfold numF
  rw [dif_pos hx]
  have := Classical.choose_spec hx
  rw [digI_inj (this.2.trans e.symm)]
theorem numF_none {s : List Int} (h : ∀ n, inK .i64 n → digI n ≠ s) : numF s = (0, false) := by
  unfold numF
  rw [dif_neg (fun ⟨n, h1, h2⟩ => h n h1 h2)]
theorem numF_cases (s : List Int) : (∃ n, inK .i64 n ∧ digI n = s ∧ numF s = (n, true)) ∨ ((∀ n, inK .i64 n → digI n ≠ s) ∧ numF s = (0, false)) := by
  by_cases h : ∃ n, inK .i64 n ∧ digI n = s
  · obtain ⟨n, h1, h2⟩ := h
    exact .inl ⟨n, h1, h2, numF_dig h1 h2⟩
  · have h' : ∀ n, inK .i64 n → digI n ≠ s := fun n h1 h2 => h ⟨n, h1, h2⟩
    exact .inr ⟨h', numF_none h'⟩
theorem digI_forms (n : Int) : (n < 0 ∧ digI n = 45 :: natD n.natAbs) ∨ (0 ≤ n ∧ digI n = natD n.natAbs) := by
  unfold digI
  by_cases h : n < 0
  · rw [if_pos h]; exact .inl ⟨h, rfl⟩
  · rw [if_neg h]; exact .inr ⟨by omega, rfl⟩
theorem dvl_lt : ∀ (t : List Int), (∀ c ∈ t, isDig c) → dvl t < ((10 ^ t.length : Nat) : Int) := by
  have key : ∀ (k : Nat) (t : List Int), t.length = k → (∀ c ∈ t, isDig c) → dvl t < ((10 ^ k : Nat) : Int) := by
    intro k
    induction k with
    | zero => intro t h _; rw [List.eq_nil_of_length_eq_zero h]; decide
    | succ k ih =>
      intro t hl hd
      rcases List.eq_nil_or_concat t with rfl | ⟨s, c, h⟩
      · simp at hl
      · rw [List.concat_eq_append] at h
        subst h
        have h1 := ih s (by simpa using hl) (fun c hc => hd c (by simp [hc]))
        have h2 := hd c (by simp)
        unfold isDig at h2
        rw [dvl_snoc, Nat.pow_succ]
        omega
  exact fun t h => key _ t rfl h

set_option maxHeartbeats 100000000 in
theorem p60_eq' (s : List Int) (hs : s.length ≤ 100000000) : p60 N0 (s, ()) = some (((numF s).1, ((numF s).2, ())), ()) := by
  unfold p60
  simp only [joinB_eq]
  rw [callB_eq (p43_eq' s [45])]
  generalize hN : N0 = N
  have hbig : 1000000000 < N := by rw [← hN]; unfold N0; omega
  -- what is read is t, behind a sign or not
  obtain ⟨t, low, ht, hst, hlow⟩ : ∃ t low, cpI s [45] = (t, low) ∧ (s = if low = true then 45 :: t else t) ∧ (low = false → ∀ u, s ≠ 45 :: u) := by
    refine ⟨(cpI s [45]).1, (cpI s [45]).2, rfl, ?_, fun h u e => (cpI_false h).2 u e⟩
    cases h : (cpI s [45]).2
    · simp only [Bool.false_eq_true, if_false]; exact (cpI_false h).1.symm
    · simp only [if_true]; exact cpI_true h
  have htl : t.length ≤ 100000000 := by
    cases low <;> simp only [if_true, if_false, Bool.false_eq_true] at hst
    · rw [← hst]; exact hs
    · rw [hst] at hs; simp only [List.length_cons] at hs; omega
  have forms : ∀ n, inK .i64 n → digI n = s → t = natD n.natAbs ∧ (low = true ↔ n < 0) := by
    intro n hn e
    rcases digI_forms n with ⟨h1, h2⟩ | ⟨h1, h2⟩
    · rw [h2] at e
      cases low
      · exact absurd e.symm (hlow rfl _)
      · simp only [if_true] at hst
        rw [hst] at e
        simp only [List.cons.injEq, true_and] at e
        exact ⟨e.symm, by simp [h1]⟩
    · rw [h2] at e
      cases low
      · simp only [Bool.false_eq_true, if_false] at hst
        exact ⟨by rw [← hst, e], by simp; omega⟩
      · simp only [if_true] at hst
        rw [hst] at e
        exact absurd e (natD_no45 _)
  simp only [ht]
  by_cases e0 : t = []
  · have : numF s = (0, false) := numF_none fun n hn e => by
      have := (forms n hn e).1
      have h2 := natD_pos n.natAbs
      rw [← this, e0] at h2; simp at h2
    simp only [e0, decide_true, cond_true, this]
  by_cases e1 : (19 : Int) < (t.length : Int)
  · have : numF s = (0, false) := numF_none fun n hn e => by
      have h1 := (forms n hn e).1
      simp only [inK, kLo, kHi] at hn
      have h2 := natD_len 18 n.natAbs (by omega)
      rw [← h1] at h2; omega
    simp only [e0, e1, decide_true, decide_false, cond_true, cond_false, this]
  have tp : 0 < t.length := List.length_pos_iff.2 e0
  have g0 : t[((0 : Int)).toNat]? = some t[0] := List.getElem?_eq_getElem tp
  have z0 : (0 : Int) ≤ 0 := by omega
  rw [decide_eq_false e0, cond_false, decide_eq_false e1, cond_false, if_pos z0, g0]
  simp only []
  -- behind the looks: the digits
  have main : (t[0] = 48 → low = false ∧ t.length = 1) → ∀ r, r = some (((numF s).1, ((numF s).2, ())), ()) → (loopB (fun (v5 : (Unit × (Int × (Int × Unit)))) => (fun v6 => (bif (decide (v5.2.2.1 < ((List.length t : Nat) : Int))) then ((fun v9 => (if (0 : Int) ≤ v5.2.2.1 then (match t[(v5.2.2.1).toNat]? with | some v10 => (bif (decide (v10 < (48 : Int))) then (v9 ((), (true, ()))) else (if (0 : Int) ≤ v5.2.2.1 then (match t[(v5.2.2.1).toNat]? with | some v11 => (v9 ((), ((decide ((57 : Int) < v11)), ()))) | none => none) else none)) | none => none) else none)) (fun (v7 : (Unit × (Bool × Unit))) => (bif v7.2.1 then (some (((0 : Int), (false, ())), ())) else (if (0 : Int) ≤ v5.2.2.1 then (match t[(v5.2.2.1).toNat]? with | some v8 => (v6 ((), ((IntKind.wrap .u64 ((IntKind.wrap .u64 (v5.2.1 * (10 : Int))) + (IntKind.wrap .u64 (IntKind.wrap .u8 (v8 - (48 : Int)))))), ((IntKind.wrap .i64 (v5.2.2.1 + (1 : Int))), ())))) | none => none) else none)))) else ((fun v15 => (bif low then (v15 ((), ((decide (v5.2.1 ≤ (9223372036854775808 : Int))), ()))) else (v15 ((), (false, ()))))) (fun (v12 : (Unit × (Bool × Unit))) => (bif v12.2.1 then (some (((IntKind.wrap .i64 (IntKind.wrap .u64 ((0 : Int) - v5.2.1))), (true, ())), ())) else ((fun v14 => (bif (!low) then (v14 ((), ((decide (v5.2.1 < (9223372036854775808 : Int))), ()))) else (v14 ((), (false, ()))))) (fun (v13 : (Unit × (Bool × Unit))) => (bif v13.2.1 then (some (((IntKind.wrap .i64 v5.2.1), (true, ())), ())) else (some (((0 : Int), (false, ())), ()))))))))))) N ((), ((0 : Int), ((0 : Int), ())))) = r := by
    rintro hhead r rfl
    refine loop_rule (fun mm x r => ∃ (i : Nat), x = ((), (dvl (t.take i), ((i : Int), ()))) ∧ mm + i = t.length ∧ (∀ c ∈ t.take i, isDig c) ∧ r = some (((numF s).1, ((numF s).2, ())), ())) ?_ N t.length _ _ (by omega) ⟨0, rfl, rfl, by simp, rfl⟩
    rintro mm x r ⟨i, rfl, hmm, hd, rfl⟩ k hk
    rcases Nat.eq_zero_or_pos mm with rfl | hm0
    · have c1 : ¬ (i : Int) < (t.length : Int) := by omega
      rw [List.take_of_length_le (by omega)] at hd
      simp only [c1, decide_false, cond_false, List.take_of_length_le (show t.length ≤ i by omega)]
      have hv0 := dvl_nonneg t hd
      have hn := natD_of t e0 hd (fun h => by
        have : t[0] = 48 := by
          rw [List.head?_eq_getElem?, List.getElem?_eq_getElem tp] at h
          exact Option.some.inj h
        exact (hhead this).2)
      have hv1 := dvl_lt t hd
      have hlt19 : ((10 ^ t.length : Nat) : Int) ≤ 10000000000000000000 := by
        have : 10 ^ t.length ≤ 10 ^ 19 := Nat.pow_le_pow_right (by decide) (by omega)
        have h19 : (10 : Nat) ^ 19 = 10000000000000000000 := by decide
        omega
      cases hl : low
      · simp only [hl, cond_false, Bool.not_false, cond_true]
        by_cases c2 : dvl t < 9223372036854775808
        · have hin : inK .i64 (dvl t) := by simp only [inK, kLo, kHi]; omega
          have e : digI (dvl t) = s := by
            unfold digI
            rw [if_neg (by omega), hst, hl]
            simp only [Bool.false_eq_true, if_false]
            rw [← hn]; congr 1; rw [hn]; omega
          rw [numF_dig hin e]
          simp only [c2, decide_true, cond_true, wrap64 (show -9223372036854775808 ≤ dvl t by omega) (by omega)]
        · have : numF s = (0, false) := numF_none fun n hin e => by
            have h1 := (forms n hin e).1
            have h2 := natD_val n.natAbs
            rw [← h1] at h2
            have h3 := (forms n hin e).2
            rw [hl] at h3
            simp only [inK, kLo, kHi] at hin
            have : ¬ n < 0 := fun h => by have := h3.2 h; cases this
            omega
          rw [this]
          simp only [c2, decide_false, cond_false]
      · have ht0 : dvl t ≠ 0 := fun h => by
          rw [h] at hn
          have e1 : natD (0 : Int).toNat = [48] := natD_lt (by decide)
          rw [e1] at hn
          have : t[0] = 48 := by simp only [← hn]; rfl
          have := (hhead this).1
          rw [hl] at this; cases this
        simp only [hl, cond_true]
        by_cases c2 : dvl t ≤ 9223372036854775808
        · have hin : inK .i64 (-(dvl t)) := by simp only [inK, kLo, kHi]; omega
          have e : digI (-(dvl t)) = s := by
            unfold digI
            rw [if_pos (by omega), hst, hl]
            simp only [if_true]
            rw [show (-(dvl t)).natAbs = (dvl t).toNat by omega, hn]
          rw [numF_dig hin e]
          have w : IntKind.wrap .i64 (IntKind.wrap .u64 (0 - dvl t)) = -(dvl t) := by
            have e1 : IntKind.wrap .u64 (0 - dvl t) = 18446744073709551616 - dvl t := by
              simp only [IntKind.wrap, IntKind.bits, IntKind.signed]
              simp only [Bool.false_and, Bool.false_eq_true, if_false]
              omega
            rw [e1]
            simp [IntKind.wrap, IntKind.bits, IntKind.signed] <;> (try split) <;> omega
          simp only [c2, decide_true, cond_true, w]
        · have : numF s = (0, false) := numF_none fun n hin e => by
            have h1 := (forms n hin e).1
            have h2 := natD_val n.natAbs
            rw [← h1] at h2
            simp only [inK, kLo, kHi] at hin
            omega
          rw [this]
          simp only [c2, decide_false, cond_false, Bool.not_true]
    obtain ⟨mm, rfl⟩ : ∃ m', mm = m' + 1 := ⟨mm - 1, by omega⟩
    have hi : i < t.length := by omega
    have c1 : (i : Int) < (t.length : Int) := by omega
    have hw : IntKind.wrap .i64 ((i : Int) + 1) = ((i + 1 : Nat) : Int) := by rw [wrap64 (by omega) (by omega)]; simp
    have htk : t.take (i + 1) = t.take i ++ [t[i]] := by rw [List.take_add_one, List.getElem?_eq_getElem hi]; rfl
    have hv0 := dvl_nonneg _ hd
    have hv1 := dvl_lt _ hd
    have hlt18 : ((10 ^ (t.take i).length : Nat) : Int) ≤ 1000000000000000000 := by
      have : 10 ^ (t.take i).length ≤ 10 ^ 18 := Nat.pow_le_pow_right (by decide) (by rw [List.length_take]; omega)
      have h18 : (10 : Nat) ^ 18 = 1000000000000000000 := by decide
      omega
    have bad : ¬ isDig t[i] → numF s = (0, false) := fun hb => numF_none fun n hin e => by
      have h1 := (forms n hin e).1
      have h2 := natD_dig n.natAbs
      rw [← h1] at h2
      exact hb (h2 _ (List.getElem_mem hi))
    have fin : isDig t[i] → k ((), (dvl (t.take i) * 10 + (t[i] - 48), (((i + 1 : Nat) : Int), ()))) = some (((numF s).1, ((numF s).2, ())), ()) := fun hg =>
      hk mm _ _ (Nat.lt_succ_self _) ⟨i + 1, by rw [htk, dvl_snoc], by omega, fun c hc => by
        rw [htk] at hc
        rcases List.mem_append.1 hc with hc | hc
        · exact hd c hc
        · rw [List.mem_singleton.1 hc]; exact hg, rfl⟩
    simp only [c1, decide_true, cond_true, Int.natCast_nonneg, if_true, Int.toNat_natCast, List.getElem?_eq_getElem hi, hw]
    generalize t[i] = c at bad fin
    unfold isDig at bad fin
    by_cases d1 : c < 48
    · rw [bad (by omega)]
      simp only [d1, decide_true, cond_true]
    by_cases d2 : 57 < c
    · rw [bad (by omega)]
      simp only [d1, d2, decide_true, decide_false, cond_true, cond_false]
    have e3 : IntKind.wrap .u64 (IntKind.wrap .u8 (c - 48)) = c - 48 := by rw [wrapu8 (by omega) (by omega), wrapu64 (by omega) (by omega)]
    have e4 : IntKind.wrap .u64 (dvl (t.take i) * 10) = dvl (t.take i) * 10 := wrapu64 (by omega) (by omega)
    have e5 : IntKind.wrap .u64 (dvl (t.take i) * 10 + (c - 48)) = dvl (t.take i) * 10 + (c - 48) := wrapu64 (by omega) (by omega)
    simp only [d1, d2, decide_false, cond_false, e3, e4, e5]
    exact fin (by omega)
  by_cases h48 : t[0] = 48
  · rw [decide_eq_true h48, cond_true]
    have bad : (low = true ∨ 1 < t.length) → numF s = (0, false) := fun hb => numF_none fun n hin e => by
      have h1 := (forms n hin e).1
      have h2 := (forms n hin e).2
      by_cases h10 : 10 ≤ n.natAbs
      · obtain ⟨c, u, h3, h4⟩ := natD_head h10
        have : t[0] = c := by simp only [h1, h3]; rfl
        exact h4 (this.symm.trans h48)
      · have h3 := natD_lt (show n.natAbs < 10 by omega)
        rw [← h1] at h3
        have h4 : t[0] = 48 + (n.natAbs : Int) := by simp only [h3]; rfl
        have h5 : t.length = 1 := by rw [h3]; rfl
        rcases hb with hb | hb
        · have := h2.1 hb; omega
        · omega
    cases hl : low
    · simp only [cond_false]
      by_cases h1 : (1 : Int) < (t.length : Int)
      · rw [bad (.inr (by omega)), decide_eq_true h1]
        rfl
      · rw [decide_eq_false h1, cond_false]
        have := main (fun _ => ⟨hl, by omega⟩) _ rfl
        rw [hl] at this
        exact this
    · rw [bad (.inl hl)]
      simp only [cond_true]
  · rw [decide_eq_false h48, cond_false, cond_false]
    exact main (fun h => absurd h h48) _ rfl
end Go.Proofs.YtgonfcjdhbjkcaaDoor.Rf
