/- The reference's reading of a number: the same. -/
import Derived.Test.YtfnjdegejgocfaaDoorE2
set_option linter.unusedVariables false
set_option linter.unusedSimpArgs false
namespace Go.Proofs.YtfnjdegejgocfaaDoor.Rf
open Go

def stepW (m c : Int) : Int := if 48 ≤ c ∧ c ≤ 57 then IntKind.wrap .i64 (IntKind.wrap .i64 (m * 10) - IntKind.wrap .i64 (IntKind.wrap .u8 (c - 48))) else m
theorem stepW_in {m : Int} (h : inK .i64 m) (c : Int) : inK .i64 (stepW m c) := by
  unfold stepW; split
  · exact inK_wrap _ _
  · exact h
theorem foldW_in : ∀ (l : List Int) {m : Int}, inK .i64 m → inK .i64 (l.foldl stepW m) := by
  intro l
  induction l with
  | nil => intro m h; exact h
  | cons c l ih => intro m h; exact ih (stepW_in h c)
def dv (l : List Int) (v : Int) : Int := l.foldl (fun v c => v * 10 + (c - 48)) v
theorem dv_up : ∀ (l : List Int) (v : Int), 0 ≤ v → (∀ c ∈ l, isDig c) → v ≤ dv l v := by
  intro l
  induction l with
  | nil => intro v _ _; exact Int.le_refl _
  | cons c l ih =>
    intro v hv hd
    have hc := hd c (by simp)
    unfold isDig at hc
    have := ih (v * 10 + (c - 48)) (by omega) (fun d hd' => hd d (by simp [hd']))
    show v ≤ dv l (v * 10 + (c - 48))
    omega
theorem foldW_dig : ∀ (l : List Int) (v : Int), 0 ≤ v → (∀ c ∈ l, isDig c) → dv l v ≤ 9223372036854775808 → l.foldl stepW (-v) = -(dv l v) := by
  intro l
  induction l with
  | nil => intro v _ _ _; rfl
  | cons c l ih =>
    intro v hv hd hb
    have hc := hd c (by simp)
    unfold isDig at hc
    have hdl : ∀ d ∈ l, isDig d := fun d hd' => hd d (by simp [hd'])
    have hb' : dv l (v * 10 + (c - 48)) ≤ 9223372036854775808 := hb
    have hu := dv_up l (v * 10 + (c - 48)) (by omega) hdl
    have e : stepW (-v) c = -(v * 10 + (c - 48)) := by
      unfold stepW
      rw [if_pos (by omega), wrapu8 (show (0 : Int) ≤ c - 48 by omega) (by omega), wrap64 (show -9223372036854775808 ≤ c - 48 by omega) (by omega), wrap64 (show -9223372036854775808 ≤ -v * 10 by omega) (by omega), wrap64 (by omega) (by omega)]
      omega
    show List.foldl stepW (stepW (-v) c) l = _
    rw [e, ih _ (by omega) hdl hb']; rfl
/-- Of a number's digits the loop tells the number, below nought. -/
theorem foldW_digI {n : Int} (h : inK .i64 n) : (digI n).foldl stepW 0 = -((n.natAbs : Nat) : Int) := by
  simp only [inK, kLo, kHi] at h
  have hv := natD_val n.natAbs
  have e : (natD n.natAbs).foldl stepW 0 = -((n.natAbs : Nat) : Int) := by
    have := foldW_dig (natD n.natAbs) 0 (by omega) (natD_dig _) (by show dvl _ ≤ _; rw [hv]; omega)
    rw [Int.neg_zero] at this
    rw [this]
    show -(dvl _) = _
    rw [hv]
  rcases digI_forms n with ⟨h1, h2⟩ | ⟨h1, h2⟩
  · rw [h2]
    have : stepW 0 45 = 0 := by unfold stepW; rw [if_neg (by omega)]
    rw [List.foldl_cons, this, e]
  · rw [h2, e]

set_option maxHeartbeats 1000000 in
theorem p33_eq' (s : List Int) (hs : s.length ≤ 1000000) : p33 N0 (s, ()) = some (((numF s).1, ((numF s).2, ())), ()) := by
  unfold p33
  simp only [joinB_eq]
  -- the loop, for a sign or none
  have main : ∀ low : Bool, (low = true ↔ ∃ u, s = 45 :: u) → (loopB (fun (v4 : (Unit × (Int × (Int × Unit)))) => (fun v5 => (joinB (fun (v6 : (Unit × (Bool × Unit))) => (bif v6.2.1 then (joinB (fun (v7 : (Unit × (Bool × Unit))) => (joinB (fun (v8 : (Unit × (Int × Unit))) => (v5 ((), (v8.2.1, ((IntKind.wrap .i64 (v4.2.2.1 + (1 : Int))), ()))))) (fun v9 => (bif v7.2.1 then (if (0 : Int) ≤ v4.2.2.1 then (match s[(v4.2.2.1).toNat]? with | some v10 => (v9 ((), ((IntKind.wrap .i64 ((IntKind.wrap .i64 (v4.2.1 * (10 : Int))) - (IntKind.wrap .i64 (IntKind.wrap .u8 (v10 - (48 : Int)))))), ()))) | none => none) else none) else (v9 ((), (v4.2.1, ()))))))) (fun v11 => (if (0 : Int) ≤ v4.2.2.1 then (match s[(v4.2.2.1).toNat]? with | some v12 => (bif (decide ((48 : Int) ≤ v12)) then (if (0 : Int) ≤ v4.2.2.1 then (match s[(v4.2.2.1).toNat]? with | some v13 => (v11 ((), ((decide (v13 ≤ (57 : Int))), ()))) | none => none) else none) else (v11 ((), (false, ())))) | none => none) else none))) else (joinB (fun (v14 : (Unit × (Int × Unit))) => (callB (p29 N0 (v14.2.1, ())) (fun (v15 : (((List Int) × Unit) × Unit)) => (bif (!(decide (v15.1.1 = s))) then (some (((0 : Int), (false, ())), ())) else (some ((v14.2.1, (true, ())), ())))))) (fun v16 => (bif (!low) then (v16 ((), ((IntKind.wrap .i64 ((0 : Int) - v4.2.1)), ()))) else (v16 ((), (v4.2.1, ())))))))) (fun v17 => (bif (decide (v4.2.2.1 < ((List.length s : Nat) : Int))) then (v17 ((), ((decide (v4.2.2.1 < (20 : Int))), ()))) else (v17 ((), (false, ())))))))) N0 ((), ((0 : Int), ((0 : Int), ())))) = some (((numF s).1, ((numF s).2, ())), ()) := by
    intro low hlow
    simp only [joinB_eq]
    refine loop_rule (fun mm x r => ∃ (i : Nat), x = ((), ((s.take i).foldl stepW 0, ((i : Int), ()))) ∧ mm + i = min s.length 20 ∧ r = some (((numF s).1, ((numF s).2, ())), ())) ?_ N0 (min s.length 20) _ _ (by unfold N0; omega) ⟨0, rfl, rfl, rfl⟩
    rintro mm x r ⟨i, rfl, hmm, rfl⟩ k hk
    have hin0 : inK .i64 ((s.take i).foldl stepW 0) := foldW_in _ (by simp only [inK, kLo, kHi]; omega)
    rcases Nat.eq_zero_or_pos mm with rfl | hm0
    · -- behind the loop
      have fin : ∀ m, inK .i64 m → (∀ n, inK .i64 n → digI n = s → m = n) → callB (p29 N0 (m, ())) (fun (v15 : (((List Int) × Unit) × Unit)) => (bif (!(decide (v15.1.1 = s))) then (some (((0 : Int), (false, ())), ())) else (some ((m, (true, ())), ())))) = (some (((numF s).1, ((numF s).2, ())), ()) : Option ((Int × Bool × Unit) × Unit)) := by
        intro m hm hgood
        rw [callB_eq (p29_eq' m hm)]
        rcases numF_cases s with ⟨n, h1, h2, h3⟩ | ⟨h1, h3⟩
        · have := hgood n h1 h2
          subst this
          rw [h3, decide_eq_true h2]; rfl
        · rw [h3, decide_eq_false (h1 m hm)]; rfl
      have hall : ∀ n, inK .i64 n → digI n = s → (s.take i).foldl stepW 0 = -((n.natAbs : Nat) : Int) := by
        intro n hn e
        have hl := digI_len hn
        rw [e] at hl
        rw [List.take_of_length_le (by omega), ← e]
        exact foldW_digI hn
      have hb : ∀ b : Bool, b = false → (bif b then (none : Option ((Int × Bool × Unit) × Unit)) else none) = none := by intro b _; cases b <;> rfl
      have tail : ((fun v16 => (bif (!low) then (v16 ((), ((IntKind.wrap .i64 ((0 : Int) - (s.take i).foldl stepW 0)), ()))) else (v16 ((), ((s.take i).foldl stepW 0, ()))))) (fun (v14 : (Unit × (Int × Unit))) => (callB (p29 N0 (v14.2.1, ())) (fun (v15 : (((List Int) × Unit) × Unit)) => (bif (!(decide (v15.1.1 = s))) then (some (((0 : Int), (false, ())), ())) else (some ((v14.2.1, (true, ())), ()))))))) = (some (((numF s).1, ((numF s).2, ())), ()) : Option ((Int × Bool × Unit) × Unit)) := by
        cases hl : low
        · refine fin _ (inK_wrap _ _) fun n hn e => ?_
          simp only [hall n hn e]
          simp only [inK, kLo, kHi] at hn
          have hnn : ¬ n < 0 := fun h => by
            rcases digI_forms n with ⟨_, h2⟩ | ⟨h1, _⟩
            · have := hlow.2 ⟨_, e.symm.trans h2⟩
              rw [hl] at this; cases this
            · omega
          show IntKind.wrap .i64 (0 - -((n.natAbs : Nat) : Int)) = n
          rw [wrap64 (by omega) (by omega)]; omega
        · refine fin _ hin0 fun n hn e => ?_
          rw [hall n hn e]
          obtain ⟨u, hu⟩ := hlow.1 hl
          rcases digI_forms n with ⟨h1, _⟩ | ⟨_, h2⟩
          · show -((n.natAbs : Nat) : Int) = n
            omega
          · rw [e, hu] at h2
            exact absurd h2.symm (natD_no45 _)
      by_cases c1 : (i : Int) < (s.length : Int)
      · have c2 : ¬ (i : Int) < 20 := by omega
        simp only
        rw [decide_eq_true c1, cond_true, decide_eq_false c2, cond_false]
        exact tail
      · simp only
        rw [decide_eq_false c1, cond_false, cond_false]
        exact tail
    obtain ⟨mm, rfl⟩ : ∃ m', mm = m' + 1 := ⟨mm - 1, by omega⟩
    have hi : i < s.length := by omega
    have c1 : (i : Int) < (s.length : Int) := by omega
    have c2 : (i : Int) < 20 := by omega
    have hw : IntKind.wrap .i64 ((i : Int) + 1) = ((i + 1 : Nat) : Int) := by rw [wrap64 (by omega) (by omega)]; simp
    have htk : (s.take (i + 1)).foldl stepW 0 = stepW ((s.take i).foldl stepW 0) s[i] := by
      rw [List.take_add_one, List.getElem?_eq_getElem hi, List.foldl_append]; rfl
    have fin : k ((), (stepW ((s.take i).foldl stepW 0) s[i], (((i + 1 : Nat) : Int), ()))) = some (((numF s).1, ((numF s).2, ())), ()) :=
      hk mm _ _ (Nat.lt_succ_self _) ⟨i + 1, by rw [htk], by omega, rfl⟩
    simp only
    rw [decide_eq_true c1, cond_true, decide_eq_true c2, cond_true]
    simp only [Int.natCast_nonneg, if_true, Int.toNat_natCast, List.getElem?_eq_getElem hi, hw]
    generalize s[i] = c at fin
    unfold stepW at fin
    by_cases d1 : 48 ≤ c
    · by_cases d2 : c ≤ 57
      · rw [if_pos ⟨d1, d2⟩] at fin
        rw [decide_eq_true d1, cond_true, decide_eq_true d2, cond_true]
        exact fin
      · rw [if_neg (fun h => d2 h.2)] at fin
        rw [decide_eq_true d1, cond_true, decide_eq_false d2, cond_false]
        exact fin
    · rw [if_neg (fun h => d1 h.1)] at fin
      rw [decide_eq_false d1, cond_false, cond_false]
      exact fin
  cases s with
  | nil =>
    have z : ¬ (0 : Int) < (([] : List Int).length : Int) := by simp
    rw [decide_eq_false z, cond_false]
    exact main false (by simp)
  | cons a t =>
    have z : (0 : Int) < ((a :: t).length : Int) := by simp only [List.length_cons]; omega
    have z0 : (0 : Int) ≤ 0 := by omega
    have g0 : (a :: t)[((0 : Int)).toNat]? = some a := rfl
    rw [decide_eq_true z, cond_true, if_pos z0, g0]
    simp only
    refine main (decide (a = 45)) ?_
    rw [decide_eq_true_eq]
    constructor
    · rintro rfl; exact ⟨t, rfl⟩
    · rintro ⟨u, h⟩; exact (List.cons.inj h).1
end Go.Proofs.YtfnjdegejgocfaaDoor.Rf
