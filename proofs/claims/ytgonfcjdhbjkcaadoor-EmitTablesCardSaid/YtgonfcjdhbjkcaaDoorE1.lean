/- Numbers as digits: what both texts compute. -/
import Derived.Test.YtgonfcjdhbjkcaaDoorFnA
import Derived.Test.YtgonfcjdhbjkcaaDoorP0
set_option linter.unusedVariables false
set_option linter.unusedSimpArgs false
namespace Go.Proofs.YtgonfcjdhbjkcaaDoor.Rf
open Go

theorem wrap64 {n : Int} (h1 : -9223372036854775808 ≤ n) (h2 : n ≤ 9223372036854775807) : IntKind.wrap .i64 n = n := wrap_in h1 h2
theorem wrapu64 {n : Int} (h1 : 0 ≤ n) (h2 : n ≤ 18446744073709551615) : IntKind.wrap .u64 n = n := wrap_inK ⟨h1, h2⟩
theorem wrapu8 {n : Int} (h1 : 0 ≤ n) (h2 : n ≤ 255) : IntKind.wrap .u8 n = n := wrap_inK ⟨h1, h2⟩

def natD (n : Nat) : List Int := if h : n < 10 then [48 + (n : Int)] else natD (n / 10) ++ [48 + ((n % 10 : Nat) : Int)]
def digI (n : Int) : List Int := if n < 0 then 45 :: natD n.natAbs else natD n.natAbs

theorem natD_lt {n : Nat} (h : n < 10) : natD n = [48 + (n : Int)] := by unfold natD; rw [dif_pos h]
theorem natD_ge {n : Nat} (h : ¬ n < 10) : natD n = natD (n / 10) ++ [48 + ((n % 10 : Nat) : Int)] := by rw [natD, dif_neg h]
theorem natD_len_le : ∀ (n : Nat), (natD n).length ≤ n + 1 := by
  intro n
  induction n using Nat.strongRecOn with
  | ind n ih =>
    by_cases h : n < 10
    · rw [natD_lt h]; simp
    · rw [natD_ge h, List.length_append]
      have := ih (n / 10) (by omega)
      simp only [List.length_cons, List.length_nil]; omega
theorem natD_len : ∀ (k n : Nat), n < 10 ^ (k + 1) → (natD n).length ≤ k + 1 := by
  intro k
  induction k with
  | zero => intro n h; rw [natD_lt (by simpa using h)]; simp
  | succ k ih =>
    intro n h
    by_cases h1 : n < 10
    · rw [natD_lt h1]; simp
    · rw [natD_ge h1, List.length_append]
      have := ih (n / 10) (by rw [Nat.pow_succ] at h; omega)
      simp only [List.length_cons, List.length_nil]; omega
theorem natD_pos (n : Nat) : 0 < (natD n).length := by
  by_cases h : n < 10
  · rw [natD_lt h]; simp
  · rw [natD_ge h, List.length_append]; simp

/-- The value of a row of digits. -/
def dvl (t : List Int) : Int := t.foldl (fun v c => v * 10 + (c - 48)) 0
def isDig (c : Int) : Prop := 48 ≤ c ∧ c ≤ 57
theorem dvl_snoc (t : List Int) (c : Int) : dvl (t ++ [c]) = dvl t * 10 + (c - 48) := by unfold dvl; rw [List.foldl_append]; rfl
theorem natD_dig (n : Nat) : ∀ c ∈ natD n, isDig c := by
  induction n using Nat.strongRecOn with
  | ind n ih =>
    intro c hc
    unfold isDig
    by_cases h : n < 10
    · rw [natD_lt h] at hc
      have := List.mem_singleton.1 hc; omega
    · rw [natD_ge h] at hc
      rcases List.mem_append.1 hc with hc | hc
      · exact ih (n / 10) (by omega) c hc
      · have := List.mem_singleton.1 hc; omega
theorem natD_val (n : Nat) : dvl (natD n) = n := by
  induction n using Nat.strongRecOn with
  | ind n ih =>
    by_cases h : n < 10
    · rw [natD_lt h]; unfold dvl; simp; omega
    · rw [natD_ge h, dvl_snoc, ih (n / 10) (by omega)]; omega
theorem natD_head {n : Nat} (h : 10 ≤ n) : ∃ c t, natD n = c :: t ∧ c ≠ 48 := by
  induction n using Nat.strongRecOn with
  | ind n ih =>
    rw [natD_ge (by omega)]
    by_cases h1 : n / 10 < 10
    · rw [natD_lt h1]
      exact ⟨_, _, rfl, by omega⟩
    · obtain ⟨c, t, e, hc⟩ := ih (n / 10) (by omega) (by omega)
      rw [e]; exact ⟨c, _, rfl, hc⟩
theorem dvl_nonneg : ∀ (t : List Int), (∀ c ∈ t, isDig c) → 0 ≤ dvl t := by
  have key : ∀ (t : List Int) (v : Int), 0 ≤ v → (∀ c ∈ t, isDig c) → 0 ≤ t.foldl (fun v c => v * 10 + (c - 48)) v := by
    intro t
    induction t with
    | nil => intro v h _; exact h
    | cons c t ih =>
      intro v hv hc
      have := hc c (by simp)
      unfold isDig at this
      exact ih (v * 10 + (c - 48)) (by omega) (fun d hd => hc d (by simp [hd]))
  intro t h
  exact key t 0 (by omega) h
/-- Digits without a nought ahead are the digits of their value. -/
theorem natD_of : ∀ (t : List Int), t ≠ [] → (∀ c ∈ t, isDig c) → (t.head? = some 48 → t.length = 1) → natD (dvl t).toNat = t := by
  have key : ∀ (k : Nat) (t : List Int), t.length = k → t ≠ [] → (∀ c ∈ t, isDig c) → (t.head? = some 48 → t.length = 1) → natD (dvl t).toNat = t := by
    intro k
    induction k with
    | zero => intro t h hn; exact absurd (List.eq_nil_of_length_eq_zero h) hn
    | succ k ih =>
      intro t hlen hn hd hh
      obtain ⟨s, c, rfl⟩ : ∃ s c, t = s ++ [c] := by
        rcases List.eq_nil_or_concat t with h | ⟨s, c, h⟩
        · exact absurd h hn
        · exact ⟨s, c, by rw [h, List.concat_eq_append]⟩
      have hc := hd c (by simp)
      unfold isDig at hc
      rw [dvl_snoc]
      rcases List.eq_nil_or_concat s with rfl | ⟨_, _, hs⟩
      · have e0 : dvl [] = 0 := rfl
        rw [e0, natD_lt (by omega)]
        simp only [List.nil_append, List.cons.injEq, and_true]
        omega
      · have hsn : s ≠ [] := by rw [hs]; simp
        have hlen2 : s.length = k := by simpa using hlen
        have hsp : 0 < s.length := List.length_pos_iff.2 hsn
        have hs0 : s.head? ≠ some 48 := fun h => by
          have := hh (by rw [List.head?_append]; rw [h]; rfl)
          rw [List.length_append] at this; simp only [List.length_cons, List.length_nil] at this; omega
        have hsd : ∀ c ∈ s, isDig c := fun d hd' => hd d (by simp [hd'])
        have hi := ih s hlen2 hsn hsd (fun h => absurd h hs0)
        have hv := dvl_nonneg s hsd
        have hne : dvl s ≠ 0 := fun h => by
          rw [h] at hi
          have e1 : natD (0 : Int).toNat = [48] := natD_lt (by decide)
          rw [e1] at hi
          rw [← hi] at hs0
          exact hs0 rfl
        have e2 : (dvl s * 10 + (c - 48)).toNat / 10 = (dvl s).toNat := by omega
        have e3 : (((dvl s * 10 + (c - 48)).toNat % 10 : Nat) : Int) = c - 48 := by omega
        rw [natD_ge (by omega), e2, e3, hi]
        congr 1
        simp only [List.cons.injEq, and_true]
        omega
  exact fun t => key _ t rfl
theorem natD_inj {a b : Nat} (h : natD a = natD b) : a = b := by
  have h1 := natD_val a
  have h2 := natD_val b
  rw [h, h2] at h1
  omega
theorem natD_no45 (n : Nat) {t : List Int} : natD n ≠ 45 :: t := fun h => by
  have := natD_dig n 45 (by rw [h]; simp)
  unfold isDig at this; omega
theorem digI_inj {a b : Int} (h : digI a = digI b) : a = b := by
  unfold digI at h
  split at h <;> split at h
  · simp only [List.cons.injEq, true_and] at h
    have := natD_inj h; omega
  · exact absurd h.symm (natD_no45 _)
  · exact absurd h (natD_no45 _)
  · have := natD_inj h; omega
theorem digI_len {n : Int} (h : inK .i64 n) : (digI n).length ≤ 20 := by
  simp only [inK, kLo, kHi] at h
  unfold digI
  have := natD_len 18 n.natAbs (by omega)
  split
  · simp only [List.length_cons]; omega
  · omega
theorem digI_pos (n : Int) : 0 < (digI n).length := by
  unfold digI
  split
  · simp
  · exact natD_pos _
/-- What digits are made of. -/
theorem digI_mem (n : Int) : ∀ c ∈ digI n, c = 45 ∨ isDig c := by
  intro c hc
  unfold digI at hc
  split at hc
  · rcases List.mem_cons.1 hc with hc | hc
    · exact .inl hc
    · exact .inr (natD_dig _ c hc)
  · exact .inr (natD_dig _ c hc)

theorem p61r_eq : ∀ (d n : Nat), n < 18446744073709551616 → n < d → p61r N0 d ((n : Int), ()) = some ((natD n, ()), ()) := by
  intro d
  induction d with
  | zero => intro n _ h; omega
  | succ d ih =>
    intro n hn hd
    show p61b N0 (p61r N0 d) ((n : Int), ()) = _
    unfold p61b
    by_cases h : n < 10
    · have c1 : (n : Int) < 10 := by omega
      have e : IntKind.wrap .u8 (IntKind.wrap .u64 (48 + (n : Int))) = 48 + (n : Int) := by rw [wrapu64 (by omega) (by omega), wrapu8 (by omega) (by omega)]
      simp only [c1, decide_true, cond_true, e, natD_lt h]
    · have c1 : ¬ (n : Int) < 10 := by omega
      have e1 : IntKind.wrap .u64 (Int.tdiv (n : Int) 10) = ((n / 10 : Nat) : Int) := by
        rw [Int.tdiv_eq_ediv_of_nonneg (by omega), wrapu64 (by omega) (by omega)]; omega
      have e2 : Int.tmod (n : Int) 10 = ((n % 10 : Nat) : Int) := by rw [Int.tmod_eq_emod_of_nonneg (by omega)]; omega
      have e3 : IntKind.wrap .u8 (IntKind.wrap .u64 (48 + ((n % 10 : Nat) : Int))) = 48 + ((n % 10 : Nat) : Int) := by rw [wrapu64 (by omega) (by omega), wrapu8 (by omega) (by omega)]
      have hl := natD_len 19 (n / 10) (by omega)
      have z : ¬ ((10 : Int) = 0) := by omega
      simp only [c1, decide_false, cond_false, z, if_false, e1, e2, e3]
      rw [callB_eq (ih (n / 10) (by omega) (by omega))]
      simp only [List.length_cons, List.length_nil]
      rw [if_pos (by omega), natD_ge h]
theorem p61_eq' (n : Nat) (hn : n < 18446744073709551616) : p61 N0 ((n : Int), ()) = some ((natD n, ()), ()) := p61r_eq N0 n hn (by unfold N0; exact hn)
theorem p55_eq' (n : Int) (h : inK .i64 n) : p55 N0 (n, ()) = some ((digI n, ()), ()) := by
  simp only [inK, kLo, kHi] at h
  unfold p55 digI
  by_cases c : n < 0
  · have e : IntKind.wrap .u64 (IntKind.wrap .i64 (0 - n)) = ((n.natAbs : Nat) : Int) := by
      by_cases hm : n = -9223372036854775808
      · subst hm; decide
      · rw [wrap64 (by omega) (by omega), wrapu64 (by omega) (by omega)]; omega
    have hl := natD_len 19 n.natAbs (by omega)
    simp only [c, decide_true, cond_true, if_true, e]
    rw [callB_eq (p61_eq' _ (by omega))]
    simp only [List.length_cons, List.length_nil]
    rw [if_pos (by omega)]; rfl
  · have e : IntKind.wrap .u64 n = ((n.natAbs : Nat) : Int) := by rw [wrapu64 (by omega) (by omega)]; omega
    simp only [c, decide_false, cond_false, if_false, e]
    rw [callB_eq (p61_eq' _ (by omega))]
theorem p48_eq' (n : Int) (h : inK .i64 n) : p48 N0 (n, ()) = some ((digI n, ()), ()) := by
  unfold p48
  simp only
  rw [callB_eq (p55_eq' n h)]

/-- The reference's digits: from the last one on. -/
theorem p49_eq' (n : Int) (h : inK .i64 n) : p49 N0 (n, ()) = some ((digI n, ()), ()) := by
  simp only [inK, kLo, kHi] at h
  unfold p49
  by_cases c0 : n = 0
  · subst c0
    have : digI 0 = [48] := by unfold digI; rw [if_neg (by omega)]; exact natD_lt (by decide)
    simp only [decide_true, cond_true, this]
  have hsgn : ∀ (m : Int) (s : List Int), m = 0 → natD n.natAbs = s → (bif decide (n < 0) then (if List.length ([45] : List Int) + s.length ≤ 9223372036854775807 then some ((([45] ++ s, ()), ()) : (List Int × Unit) × Unit) else none) else some ((s, ()), ())) = some ((digI n, ()), ()) := by
    intro m s _ hs
    have hl := natD_len 19 n.natAbs (by omega)
    rw [hs] at hl
    unfold digI
    by_cases c : n < 0
    · simp only [c, decide_true, cond_true, if_true, hs, List.length_cons, List.length_nil]
      rw [if_pos (by omega)]; rfl
    · simp only [c, decide_false, cond_false, if_false, hs]
  simp only [c0, decide_false, cond_false, joinB_eq]
  refine loop_rule (fun mm x r => ∃ (m : Int) (s : List Int), x = ((), (m, (s, ()))) ∧ inK .i64 m ∧ (0 < m → 0 ≤ n) ∧ (m < 0 → n ≤ 0) ∧ mm = m.natAbs ∧ s.length ≤ 100 ∧ (m ≠ 0 → s.length + (natD m.natAbs).length ≤ 100) ∧ (m ≠ 0 → natD n.natAbs = natD m.natAbs ++ s) ∧ (m = 0 → natD n.natAbs = s) ∧ r = some ((digI n, ()), ())) ?_ N0 n.natAbs _ _ (by unfold N0; omega) ⟨n, [], rfl, by simp only [inK, kLo, kHi]; omega, by omega, by omega, rfl, by
    simp, fun _ => by
    have := natD_len 19 n.natAbs (by omega)
    simp only [List.length_nil]; omega, fun _ => by simp, fun e => absurd e c0, rfl⟩
  rintro mm x r ⟨m, s, rfl, hin, hp, hng, rfl, hlen0, hlen, hs1, hs0, rfl⟩ k hk
  simp only [inK, kLo, kHi] at hin
  by_cases c1 : m = 0
  · simp only [c1, decide_true, Bool.not_true, cond_false]
    exact hsgn m s c1 (hs0 c1)
  have hlen := hlen c1
  have z : ¬ ((10 : Int) = 0) := by omega
  have hd : (if Int.tmod m 10 < 0 then IntKind.wrap .i64 (0 - Int.tmod m 10) else Int.tmod m 10) = ((m.natAbs % 10 : Nat) : Int) := by
    rcases Int.lt_or_le m 0 with hm | hm
    · have e1 : Int.tmod m 10 = - ((m.natAbs % 10 : Nat) : Int) := by
        obtain ⟨q, rfl⟩ : ∃ q : Nat, m = -(q : Int) := ⟨m.natAbs, by omega⟩
        rw [Int.neg_tmod, Int.tmod_eq_emod_of_nonneg (by omega)]; omega
      rw [e1]
      split
      · rw [wrap64 (by omega) (by omega)]; omega
      · omega
    · have e1 : Int.tmod m 10 = ((m.natAbs % 10 : Nat) : Int) := by
        rw [Int.tmod_eq_emod_of_nonneg hm]; omega
      rw [e1, if_neg (by omega)]
  have hq : IntKind.wrap .i64 (Int.tdiv m 10) = Int.tdiv m 10 ∧ (Int.tdiv m 10).natAbs = m.natAbs / 10 ∧ (0 < Int.tdiv m 10 → 0 < m) ∧ (Int.tdiv m 10 < 0 → m < 0) ∧ -9223372036854775808 ≤ Int.tdiv m 10 ∧ Int.tdiv m 10 ≤ 9223372036854775807 := by
    rcases Int.lt_or_le m 0 with hm | hm
    · obtain ⟨q, rfl⟩ : ∃ q : Nat, m = -(q : Int) := ⟨m.natAbs, by omega⟩
      rw [Int.neg_tdiv, Int.tdiv_eq_ediv_of_nonneg (by omega)]
      exact ⟨wrap64 (by omega) (by omega), by omega, by omega, by omega, by omega, by omega⟩
    · rw [Int.tdiv_eq_ediv_of_nonneg hm]
      exact ⟨wrap64 (by omega) (by omega), by omega, by omega, by omega, by omega, by omega⟩
  obtain ⟨q1, q2, q3, q4, q5, q6⟩ := hq
  have e3 : IntKind.wrap .u8 (IntKind.wrap .i64 (48 + ((m.natAbs % 10 : Nat) : Int))) = 48 + ((m.natAbs % 10 : Nat) : Int) := by rw [wrap64 (by omega) (by omega), wrapu8 (by omega) (by omega)]
  have hlenm := natD_pos m.natAbs
  have fin : k ((), (Int.tdiv m 10, ((48 + ((m.natAbs % 10 : Nat) : Int)) :: s, ()))) = some ((digI n, ()), ()) := by
    refine hk (Int.tdiv m 10).natAbs _ _ (by omega) ⟨_, _, rfl, by simp only [inK, kLo, kHi]; omega, by omega, by omega, rfl, by simp only [List.length_cons]; omega, ?_, ?_, ?_, rfl⟩
    · intro hne
      rw [q2]
      rw [natD_ge (show ¬ m.natAbs < 10 by omega), List.length_append] at hlen
      simp only [List.length_cons, List.length_nil] at hlen ⊢; omega
    · intro hne
      rw [hs1 c1, q2, natD_ge (show ¬ m.natAbs < 10 by omega)]
      simp
    · intro he
      rw [hs1 c1, natD_lt (show m.natAbs < 10 by omega)]
      have : m.natAbs % 10 = m.natAbs := by omega
      rw [this]; rfl
  simp only [c1, decide_false, Bool.not_false, cond_true, z, if_false, List.length_cons, List.length_nil, q1]
  by_cases hneg : Int.tmod m 10 < 0
  · rw [if_pos hneg] at hd
    simp only [hneg, decide_true, cond_true, hd, e3]
    rw [if_pos (by omega)]; exact fin
  · rw [if_neg hneg] at hd
    have hn' : ¬ ((m.natAbs % 10 : Nat) : Int) < 0 := by omega
    simp only [hn', decide_false, cond_false, hd, e3]
    rw [if_pos (by omega)]; exact fin
end Go.Proofs.YtgonfcjdhbjkcaaDoor.Rf
