/- Machines that may be: both texts ask the same. -/
import Derived.Test.YtgonfcjdhbjkcaaDoorE11
import Derived.Test.YtgonfcjdhbjkcaaDoorFnA
set_option linter.unusedVariables false
set_option linter.unusedSimpArgs false
namespace Go.Proofs.YtgonfcjdhbjkcaaDoor.Rf
open Go

abbrev Dfa := List Int × (List (List Int) × List Int)
def cntF (cls : List Int) : Int := cls.foldl (fun n c => if n < c + 1 then c + 1 else n) 0
structure Cls (cls : List Int) : Prop where
  len : cls.length = 256
  u8 : ∀ c ∈ cls, 0 ≤ c ∧ c ≤ 255
theorem cnt_snoc (t : List Int) (c : Int) : cntF (t ++ [c]) = if cntF t < c + 1 then c + 1 else cntF t := by unfold cntF; rw [List.foldl_append]; rfl
theorem cnt_ge (t : List Int) : 0 ≤ cntF t ∧ ∀ c ∈ t, c + 1 ≤ cntF t := by
  have key : ∀ (k : Nat) (t : List Int), t.length = k → 0 ≤ cntF t ∧ ∀ c ∈ t, c + 1 ≤ cntF t := by
    intro k
    induction k with
    | zero => intro t h; rw [List.eq_nil_of_length_eq_zero h]; exact ⟨by decide, fun c h => by cases h⟩
    | succ k ih =>
      intro t hl
      rcases List.eq_nil_or_concat t with rfl | ⟨s, c, h⟩
      · simp at hl
      · rw [List.concat_eq_append] at h
        subst h
        obtain ⟨h1, h2⟩ := ih s (by simpa using hl)
        rw [cnt_snoc]
        refine ⟨by split <;> omega, fun d hd => ?_⟩
        rcases List.mem_append.1 hd with hd | hd
        · have := h2 d hd; split <;> omega
        · rw [List.mem_singleton.1 hd]; split <;> omega
  exact key _ t rfl
theorem cnt_le {t : List Int} (h : ∀ c ∈ t, 0 ≤ c ∧ c ≤ 255) : cntF t ≤ 256 := by
  have key : ∀ (k : Nat) (t : List Int), t.length = k → (∀ c ∈ t, 0 ≤ c ∧ c ≤ 255) → cntF t ≤ 256 := by
    intro k
    induction k with
    | zero => intro t h _; rw [List.eq_nil_of_length_eq_zero h]; decide
    | succ k ih =>
      intro t hl hc
      rcases List.eq_nil_or_concat t with rfl | ⟨s, c, h⟩
      · simp at hl
      · rw [List.concat_eq_append] at h
        subst h
        have h1 := ih s (by simpa using hl) (fun d hd => hc d (by simp [hd]))
        have h2 := hc c (by simp)
        rw [cnt_snoc]
        split <;> omega
  exact key _ t rfl h
theorem takeS {α : Type} {l : List α} {i : Nat} (h : i < l.length) : l.take (i + 1) = l.take i ++ [l[i]] := by rw [List.take_add_one, List.getElem?_eq_getElem h]; rfl
theorem w_succ {i : Nat} (h : i ≤ 1000000000) : IntKind.wrap .i64 ((i : Int) + 1) = ((i + 1 : Nat) : Int) := by rw [wrap64 (by omega) (by omega)]; simp

theorem p39_eq' (cls : List Int) (h : Cls cls) : p39 N0 (cls, ()) = some ((cntF cls, ()), ()) := by
  unfold p39
  refine (loop_up (fun i => ((), (cntF (cls.take i), ((i : Int), ())))) (fun _ => some ((cntF cls, ()), ())) 256 (fun i hi k hk => ?_) N0 0 (Nat.zero_le _) (by unfold N0; omega))
  rcases Nat.lt_or_ge i 256 with hlt | hge
  · have hk := hk hlt
    have hc : (i : Int) < 256 := by omega
    have hil : i < cls.length := by rw [h.len]; exact hlt
    obtain ⟨b1, b2⟩ := h.u8 _ (List.getElem_mem hil)
    rw [takeS hil, cnt_snoc] at hk
    have e1 : IntKind.wrap .i64 (IntKind.wrap .i64 cls[i] + 1) = cls[i] + 1 := by rw [wrap64 (show -9223372036854775808 ≤ cls[i] by omega) (by omega), wrap64 (by omega) (by omega)]
    simp only [hc, decide_true, cond_true, if_true, Int.toNat_natCast, Int.natCast_nonneg, List.getElem?_eq_getElem hil, w_succ (show i ≤ 1000000000 by omega), e1]
    exact hk
  · have hc : ¬ (i : Int) < 256 := by omega
    rw [List.take_of_length_le (by rw [h.len]; omega)]
    simp only [hc, decide_false, cond_false]
theorem p37_eq' (d : Dfa) (h : Cls d.1) : p37 N0 (d, ()) = some ((cntF d.1, ()), ()) := by
  unfold p37
  refine (loop_up (fun i => ((), (cntF (d.1.take i), ((i : Int), ())))) (fun _ => some ((cntF d.1, ()), ())) 256 (fun i hi k hk => ?_) N0 0 (Nat.zero_le _) (by unfold N0; omega))
  rcases Nat.lt_or_ge i 256 with hlt | hge
  · have hk := hk hlt
    have hc : (i : Int) < 256 := by omega
    have hil : i < d.1.length := by rw [h.len]; exact hlt
    obtain ⟨b1, b2⟩ := h.u8 _ (List.getElem_mem hil)
    rw [takeS hil, cnt_snoc] at hk
    have e1 : IntKind.wrap .i64 (IntKind.wrap .i64 d.1[i] + 1) = d.1[i] + 1 := by rw [wrap64 (show -9223372036854775808 ≤ d.1[i] by omega) (by omega), wrap64 (by omega) (by omega)]
    simp only [hc, decide_true, cond_true, if_true, Int.toNat_natCast, Int.natCast_nonneg, List.getElem?_eq_getElem hil, w_succ (show i ≤ 1000000000 by omega), e1]
    exact hk
  · have hc : ¬ (i : Int) < 256 := by omega
    rw [List.take_of_length_le (by rw [h.len]; omega)]
    simp only [hc, decide_false, cond_false]

def gapB (cls : List Int) : Bool := (List.range (cntF cls).toNat).all fun k => decide ((k : Int) ∈ cls)
theorem p40_eq' (cls : List Int) (h : Cls cls) : p40 N0 (cls, (cntF cls, ())) = some ((gapB cls, ()), ()) := by
  unfold p40
  obtain ⟨g1, g2⟩ := cnt_ge cls
  have g3 := cnt_le h.u8
  obtain ⟨n, hn⟩ : ∃ n : Nat, cntF cls = n := ⟨(cntF cls).toNat, by omega⟩
  have hgap : gapB cls = (List.range n).all fun k => decide ((k : Int) ∈ cls) := by unfold gapB; rw [hn, Int.toNat_natCast]
  rw [hgap, hn]
  rw [hn] at g2 g3
  have z : (0 : Int) ≤ (n : Int) ∧ (n : Int) ≤ (n : Int) := by omega
  simp only
  rw [if_pos z, if_pos (by omega), Int.toNat_natCast]
  refine loop_rule (fun mm x r => ∃ (i : Nat) (s : List Bool), x = ((s, ()), ((i : Int), ())) ∧ mm + i = 256 ∧ s = (List.range n).map (fun k : Nat => decide ((k : Int) ∈ cls.take i)) ∧ r = some (((List.range n).all fun k => decide ((k : Int) ∈ cls), ()), ())) ?_ N0 256 _ _ (by unfold N0; omega) ⟨0, _, rfl, rfl, by
    refine List.ext_getElem? fun k => ?_
    rw [List.getElem?_replicate, List.getElem?_map]
    by_cases hk : k < n <;> simp [hk], rfl⟩
  rintro mm x r ⟨i, s, rfl, hmm, hs, rfl⟩ k hk
  have hsl : s.length = n := by rw [hs]; simp
  rcases Nat.eq_zero_or_pos mm with rfl | hm0
  · have hc : ¬ (i : Int) < 256 := by omega
    rw [List.take_of_length_le (by rw [h.len]; omega)] at hs
    simp only
    rw [decide_eq_false hc, cond_false]
    refine (loop_all (after := some ((true, ()), ())) s id (some ((false, ()), ())) (fun j => ((s, ()), ((j : Int), ()))) ?s1 ?f1 N0 ?n1).trans ?_
    case f1 => intro k; simp
    case n1 => unfold N0; omega
    case s1 =>
      intro j hj k
      have hc : (j : Int) < (s.length : Int) := by omega
      simp only [hc, decide_true, cond_true, if_true, Int.toNat_natCast, Int.natCast_nonneg, List.getElem?_eq_getElem hj, w_succ (show j ≤ 1000000000 by omega), id]
      cases s[j] <;> simp
    · rw [hs, List.all_map]
      show (if ((List.range n).all fun k => decide ((k : Int) ∈ cls)) = true then _ else _) = _
      cases (List.range n).all fun k => decide ((k : Int) ∈ cls) <;> rfl
  obtain ⟨mm, rfl⟩ : ∃ m', mm = m' + 1 := ⟨mm - 1, by omega⟩
  have hc : (i : Int) < 256 := by omega
  have hil : i < cls.length := by rw [h.len]; omega
  obtain ⟨b1, b2⟩ := h.u8 _ (List.getElem_mem hil)
  have b3 := g2 _ (List.getElem_mem hil)
  have hcl : cls[i].toNat < s.length := by omega
  have hset : s.set cls[i].toNat true = (List.range n).map (fun k : Nat => decide ((k : Int) ∈ cls.take (i + 1))) := by
    rw [takeS hil]
    refine List.ext_getElem? fun j => ?_
    rw [List.getElem?_set, hs, List.getElem?_map, List.getElem?_map]
    rcases Nat.lt_or_ge j n with hj | hj
    · rw [List.getElem?_range hj]
      by_cases e : cls[i].toNat = j
      · have : (j : Int) = cls[i] := by omega
        have hm : (j : Int) ∈ cls.take i ++ [cls[i]] := by rw [this]; exact List.mem_append_right _ (List.mem_singleton.2 rfl)
        rw [if_pos e, if_pos (by rw [List.length_map, List.length_range]; omega), Option.map_some, decide_eq_true hm]
      · have : ¬ (j : Int) = cls[i] := by omega
        have hm : ((j : Int) ∈ cls.take i ++ [cls[i]]) ↔ (j : Int) ∈ cls.take i := by rw [List.mem_append, List.mem_singleton]; exact ⟨fun h => h.resolve_right this, .inl⟩
        rw [if_neg e, Option.map_some, Option.map_some, decide_eq_decide.2 hm]
    · rw [List.getElem?_eq_none (by simpa using hj)]
      have : ¬ cls[i].toNat = j := by omega
      rw [if_neg this]; rfl
  simp only
  rw [decide_eq_true hc, cond_true]
  simp only [if_true, Int.toNat_natCast, Int.natCast_nonneg, List.getElem?_eq_getElem hil, b1, List.getElem?_eq_getElem hcl, w_succ (show i ≤ 1000000000 by omega)]
  exact hk mm _ _ (Nat.lt_succ_self _) ⟨i + 1, _, rfl, by omega, hset, rfl⟩
theorem p36_eq' (d : Dfa) (h : Cls d.1) : p36 N0 (d, ()) = some ((gapB d.1, ()), ()) := by
  unfold p36
  obtain ⟨g1, g2⟩ := cnt_ge d.1
  have g3 := cnt_le h.u8
  obtain ⟨n, hn⟩ : ∃ n : Nat, cntF d.1 = n := ⟨(cntF d.1).toNat, by omega⟩
  have hgap : gapB d.1 = (List.range n).all fun k => decide ((k : Int) ∈ d.1) := by unfold gapB; rw [hn, Int.toNat_natCast]
  rw [hgap]
  refine (loop_all (after := some ((true, ()), ())) (List.range n) (fun k => decide ((k : Int) ∈ d.1)) (some ((false, ()), ())) (fun j => ((), ((j : Int), ()))) ?s1 ?f1 N0 ?n1).trans ?_
  case f1 =>
    intro k
    simp only
    rw [callB_eq (p37_eq' d h), hn]
    simp
  case n1 => rw [List.length_range]; unfold N0; omega
  case s1 =>
    intro j hj k
    have hj2 : j < n := by simpa using hj
    have hc : (j : Int) < (n : Int) := by omega
    simp only
    rw [callB_eq (p37_eq' d h), hn]
    simp only
    rw [decide_eq_true hc, cond_true]
    simp only [joinB_eq, List.getElem_range]
    refine (loop_up (fun b => ((), (decide ((j : Int) ∈ d.1.take b), ((b : Int), ())))) (fun _ => if decide ((j : Int) ∈ d.1) = true then k ((), (((j + 1 : Nat) : Int), ())) else some ((false, ()), ())) 256 (fun b hb k2 hk2 => ?_) N0 0 (Nat.zero_le _) (by unfold N0; omega) |> (fun h => by simpa using h))
    rcases Nat.lt_or_ge b 256 with hlt | hge
    · have hk2 := hk2 hlt
      have hc : (b : Int) < 256 := by omega
      have hil : b < d.1.length := by rw [h.len]; exact hlt
      obtain ⟨b1, b2⟩ := h.u8 _ (List.getElem_mem hil)
      rw [takeS hil] at hk2
      simp only [hc, decide_true, cond_true, if_true, Int.toNat_natCast, Int.natCast_nonneg, List.getElem?_eq_getElem hil, w_succ (show b ≤ 1000000000 by omega), wrap64 (show -9223372036854775808 ≤ d.1[b] by omega) (by omega)]
      by_cases hm : (j : Int) ∈ d.1.take b
      · have e : decide ((j : Int) ∈ d.1.take b ++ [d.1[b]]) = true := decide_eq_true (List.mem_append_left _ hm)
        rw [e] at hk2
        rw [decide_eq_true hm, cond_true]; exact hk2
      · rw [decide_eq_false hm, cond_false]
        have e : decide ((j : Int) ∈ d.1.take b ++ [d.1[b]]) = decide (d.1[b] = (j : Int)) := by
          refine decide_eq_decide.2 ?_
          rw [List.mem_append, List.mem_singleton]
          exact ⟨fun h => h.elim (fun h => absurd h hm) Eq.symm, fun h => .inr h.symm⟩
        rw [e] at hk2; exact hk2
    · have hc : ¬ (b : Int) < 256 := by omega
      rw [List.take_of_length_le (by rw [h.len]; omega)]
      simp only
      rw [decide_eq_false hc, cond_false, w_succ (show j ≤ 1000000000 by omega)]
      cases decide ((j : Int) ∈ d.1) <;> simp
  · cases (List.range n).all fun k => decide ((k : Int) ∈ d.1) <;> rfl

/-- May a machine be? -/
def okTo (n : Nat) (to : Int) : Bool := decide (-1 ≤ to) && decide (to < (n : Int))
def okRow (d : Dfa) (i : Nat) : Bool := decide (((d.2.1.getD i []).length : Int) = cntF d.1) && (decide (-1 ≤ d.2.2.getD i 0) && (decide (d.2.2.getD i 0 < 32768) && (d.2.1.getD i []).all (okTo d.2.1.length)))
def rightB (d : Dfa) : Bool := decide (1 ≤ d.2.1.length) && (decide (d.2.1.length ≤ 32768) && (decide (d.2.2.length = d.2.1.length) && (gapB d.1 && (List.range d.2.1.length).all (okRow d))))
theorem getD_lt {α : Type} {l : List α} {i : Nat} {z : α} (h : i < l.length) : l.getD i z = l[i] := by rw [List.getD_eq_getElem?_getD, List.getElem?_eq_getElem h]; rfl

set_option maxHeartbeats 100000000 in
theorem p25_eq' (d : Dfa) (h : Cls d.1) (hrl : ∀ r ∈ d.2.1, r.length ≤ 100000000) : p25 N0 (d, ()) = some ((rightB d, ()), ()) := by
  unfold p25 rightB
  simp only [joinB_eq]
  by_cases c0 : (d.2.1.length : Int) = 0
  · rw [decide_eq_true c0, decide_eq_false (show ¬ 1 ≤ d.2.1.length by omega)]; rfl
  rw [decide_eq_false c0, cond_false, decide_eq_true (show 1 ≤ d.2.1.length by omega)]
  by_cases c1 : (32768 : Int) < (d.2.1.length : Int)
  · rw [decide_eq_true c1, decide_eq_false (show ¬ d.2.1.length ≤ 32768 by omega)]; rfl
  rw [decide_eq_false c1, cond_false, decide_eq_true (show d.2.1.length ≤ 32768 by omega)]
  by_cases c2 : (d.2.2.length : Int) = (d.2.1.length : Int)
  case neg => rw [decide_eq_false c2, decide_eq_false (show ¬ d.2.2.length = d.2.1.length by omega)]; rfl
  rw [decide_eq_true c2, decide_eq_true (show d.2.2.length = d.2.1.length by omega)]
  have hml : d.2.2.length = d.2.1.length := by omega
  simp only [Bool.not_true, cond_false, Bool.true_and]
  rw [callB_eq (p39_eq' d.1 h)]
  simp only
  rw [callB_eq (p40_eq' d.1 h)]
  cases hg : gapB d.1
  · rfl
  simp only [Bool.not_true, cond_false, Bool.true_and]
  refine (loop_all (after := some ((true, ()), ())) (List.range d.2.1.length) (okRow d) (some ((false, ()), ())) (fun j => ((), ((j : Int), ()))) ?s1 ?f1 N0 ?n1).trans ?_
  case f1 => intro k; simp
  case n1 => rw [List.length_range]; unfold N0; omega
  case s1 =>
    intro i hi k
    have hi2 : i < d.2.1.length := by simpa using hi
    have hi3 : i < d.2.2.length := by omega
    have hc : (i : Int) < (d.2.1.length : Int) := by omega
    have hr := hrl _ (List.getElem_mem hi2)
    simp only [hc, decide_true, cond_true, if_true, Int.toNat_natCast, Int.natCast_nonneg, List.getElem?_eq_getElem hi2, List.getElem?_eq_getElem hi3, w_succ (show i ≤ 1000000000 by omega), List.getElem_range, okRow, getD_lt hi2, getD_lt hi3]
    generalize d.2.1[i] = row at hr
    generalize d.2.2[i] = m
    by_cases e1 : (row.length : Int) = cntF d.1
    case neg => rw [decide_eq_false e1]; rfl
    rw [decide_eq_true e1]
    simp only [Bool.not_true, cond_false, Bool.true_and]
    by_cases e2 : m < -1
    · rw [decide_eq_true e2, decide_eq_false (show ¬ -1 ≤ m by omega)]; rfl
    rw [decide_eq_false e2, decide_eq_true (show -1 ≤ m by omega)]
    simp only [cond_false, Bool.true_and]
    by_cases e3 : 32768 ≤ m
    · rw [decide_eq_true e3, decide_eq_false (show ¬ m < 32768 by omega)]; rfl
    rw [decide_eq_false e3, decide_eq_true (show m < 32768 by omega)]
    simp only [cond_false, Bool.true_and]
    refine (loop_all (after := k ((), (((i + 1 : Nat) : Int), ()))) row (okTo d.2.1.length) (some ((false, ()), ())) (fun j => ((), ((j : Int), ()))) ?s2 ?f2 N0 ?n2)
    case f2 => intro k; simp
    case n2 => unfold N0; omega
    case s2 =>
      intro j hj k
      have hc : (j : Int) < (row.length : Int) := by omega
      simp only [hc, decide_true, cond_true, if_true, Int.toNat_natCast, Int.natCast_nonneg, List.getElem?_eq_getElem hj, w_succ (show j ≤ 1000000000 by omega), okTo]
      generalize row[j] = to
      by_cases a1 : to < -1
      · have a2 : ¬ -1 ≤ to := by omega
        simp [a1, a2]
      · have a2 : -1 ≤ to := by omega
        by_cases a3 : (d.2.1.length : Int) ≤ to
        · have a4 : ¬ to < (d.2.1.length : Int) := by omega
          simp [a1, a2, a3, a4]
        · have a4 : to < (d.2.1.length : Int) := by omega
          simp [a1, a2, a3, a4]
  · cases (List.range d.2.1.length).all (okRow d) <;> rfl
set_option maxHeartbeats 100000000 in
theorem p21_eq' (d : Dfa) (h : Cls d.1) (hrl : ∀ r ∈ d.2.1, r.length ≤ 100000000) : p21 N0 (d, ()) = some ((rightB d, ()), ()) := by
  unfold p21 rightB
  simp only [joinB_eq]
  by_cases c0 : (d.2.1.length : Int) < 1
  · rw [decide_eq_true c0, decide_eq_false (show ¬ 1 ≤ d.2.1.length by omega)]; rfl
  rw [decide_eq_false c0, cond_false, decide_eq_true (show 1 ≤ d.2.1.length by omega)]
  by_cases c1 : (32768 : Int) < (d.2.1.length : Int)
  · rw [decide_eq_true c1, decide_eq_false (show ¬ d.2.1.length ≤ 32768 by omega)]; rfl
  rw [decide_eq_false c1, cond_false, decide_eq_true (show d.2.1.length ≤ 32768 by omega)]
  by_cases c2 : (d.2.2.length : Int) = (d.2.1.length : Int)
  case neg => rw [decide_eq_false c2, decide_eq_false (show ¬ d.2.2.length = d.2.1.length by omega)]; rfl
  rw [decide_eq_true c2, decide_eq_true (show d.2.2.length = d.2.1.length by omega)]
  have hml : d.2.2.length = d.2.1.length := by omega
  simp only [Bool.not_true, cond_false, Bool.true_and]
  rw [callB_eq (p36_eq' d h)]
  cases hg : gapB d.1
  · rfl
  simp only [Bool.not_true, cond_false, Bool.true_and]
  refine (loop_all (after := some ((true, ()), ())) (List.range d.2.1.length) (okRow d) (some ((false, ()), ())) (fun j => ((), ((j : Int), ()))) ?s1 ?f1 N0 ?n1).trans ?_
  case f1 => intro k; simp
  case n1 => rw [List.length_range]; unfold N0; omega
  case s1 =>
    intro i hi k
    have hi2 : i < d.2.1.length := by simpa using hi
    have hi3 : i < d.2.2.length := by omega
    have hc : (i : Int) < (d.2.1.length : Int) := by omega
    have hr := hrl _ (List.getElem_mem hi2)
    have h56 := p37_eq' d h
    simp only [hc, decide_true, cond_true, if_true, Int.toNat_natCast, Int.natCast_nonneg, List.getElem?_eq_getElem hi2, List.getElem?_eq_getElem hi3, w_succ (show i ≤ 1000000000 by omega), List.getElem_range, okRow, getD_lt hi2, getD_lt hi3, h56, callB_some]
    generalize d.2.1[i] = row at hr
    generalize d.2.2[i] = m
    by_cases e1 : (row.length : Int) = cntF d.1
    case neg => rw [decide_eq_false e1]; rfl
    rw [decide_eq_true e1]
    simp only [Bool.not_true, cond_false, Bool.true_and]
    by_cases e2 : m < -1
    · rw [decide_eq_true e2, decide_eq_false (show ¬ -1 ≤ m by omega)]; rfl
    rw [decide_eq_false e2, decide_eq_true (show -1 ≤ m by omega)]
    simp only [cond_false, Bool.true_and]
    by_cases e3 : 32768 ≤ m
    · rw [decide_eq_true e3, decide_eq_false (show ¬ m < 32768 by omega)]; rfl
    rw [decide_eq_false e3, decide_eq_true (show m < 32768 by omega)]
    simp only [cond_false, Bool.true_and]
    refine (loop_all (after := k ((), (((i + 1 : Nat) : Int), ()))) row (okTo d.2.1.length) (some ((false, ()), ())) (fun j => ((), ((j : Int), ()))) ?s2 ?f2 N0 ?n2)
    case f2 => intro k; simp
    case n2 => unfold N0; omega
    case s2 =>
      intro j hj k
      have hc : (j : Int) < (row.length : Int) := by omega
      simp only [hc, decide_true, cond_true, if_true, Int.toNat_natCast, Int.natCast_nonneg, List.getElem?_eq_getElem hj, w_succ (show j ≤ 1000000000 by omega), okTo]
      generalize row[j] = to
      by_cases a1 : to < -1
      · have a2 : ¬ -1 ≤ to := by omega
        simp [a1, a2]
      · have a2 : -1 ≤ to := by omega
        by_cases a3 : (d.2.1.length : Int) ≤ to
        · have a4 : ¬ to < (d.2.1.length : Int) := by omega
          simp [a1, a2, a3, a4]
        · have a4 : to < (d.2.1.length : Int) := by omega
          simp [a1, a2, a3, a4]
  · cases (List.range d.2.1.length).all (okRow d) <;> rfl
end Go.Proofs.YtgonfcjdhbjkcaaDoor.Rf
