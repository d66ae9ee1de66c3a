/- The strength of tokens and productions: what the functions compute. -/
import Derived.Test.YtfnjdegejgocfaaFnA
import Derived.Test.YtfnjdegejgocfaaP0
set_option linter.unusedVariables false
set_option linter.unusedSimpArgs false
namespace Go.Proofs.Ytfnjdegejgocfaa.Rf
open Go

abbrev Lvl := Int × List Int
abbrev Prd := Int × (List Int × (List (Bool × Int) × (Bool × (Int × List Int))))
abbrev Grm := List (List Int × (Int × List Int)) × (List (List Int) × (List Prd × (List Lvl × Int)))

def lev (r : Int) : List Lvl → Nat → Int × Int
  | [], _ => (0, 0)
  | l :: ls, i => if r ∈ l.2 then (((i + 1 : Nat) : Int), l.1) else lev r ls (i + 1)

abbrev out2 (p : Int × Int) : Option ((Int × (Int × Unit)) × Unit) := some ((p.1, (p.2, ())), ())

theorem p16_eq (g : Grm) (r : Int) (hl : g.2.2.2.1.length ≤ maxLen) (hr : ∀ l ∈ g.2.2.2.1, l.2.length ≤ maxLen) : p16 N0 (g, (r, ())) = out2 (lev r g.2.2.2.1 0) := by
  unfold p16
  refine loop_up (fun j => ((), ((j : Int), ()))) (fun j => out2 (lev r (g.2.2.2.1.drop j) j)) g.2.2.2.1.length (fun j hj k hk => ?_) N0 0 (Nat.zero_le _) (by have := N0_lt hl; omega)
  rcases Nat.lt_or_ge j g.2.2.2.1.length with hlt | hge
  · have hk := hk hlt
    have hc : ((j : Nat) : Int) < (g.2.2.2.1.length : Int) := by omega
    have hd : g.2.2.2.1.drop j = g.2.2.2.1[j] :: g.2.2.2.1.drop (j + 1) := List.drop_eq_getElem_cons hlt
    simp only [hc, decide_true, cond_true, Int.toNat_natCast, Int.natCast_nonneg, if_true, List.getElem?_eq_getElem hlt, hd, lev]
    have hr' := hr _ (List.getElem_mem hlt)
    generalize g.2.2.2.1[j] = l at hr' ⊢
    refine (loop_up (fun m => ((), ((m : Int), ()))) (fun m => if r ∈ l.2.drop m then out2 (((j + 1 : Nat) : Int), l.1) else out2 (lev r (g.2.2.2.1.drop (j + 1)) (j + 1))) l.2.length (fun m hm k2 hk2 => ?_) N0 0 (Nat.zero_le _) (by have := N0_lt hr'; omega)).trans ?_
    · rcases Nat.lt_or_ge m l.2.length with hlt2 | hge2
      · have hk2 := hk2 hlt2
        have hc2 : ((m : Nat) : Int) < (l.2.length : Int) := by omega
        have hd2 : l.2.drop m = l.2[m] :: l.2.drop (m + 1) := List.drop_eq_getElem_cons hlt2
        simp only [hc2, decide_true, cond_true, Int.toNat_natCast, Int.natCast_nonneg, if_true, List.getElem?_eq_getElem hlt2, hd2, List.mem_cons, wrap_succ hlt hl, wrap_succ hlt2 hr', bif_eq, decide_eq_true_eq, hk2]
        by_cases e : l.2[m] = r
        · simp [e]
        · simp [e, Ne.symm e]
      · have hc2 : ¬ ((m : Nat) : Int) < (l.2.length : Int) := by omega
        simp only [hc2, decide_false, cond_false, List.drop_eq_nil_of_le hge2, List.not_mem_nil, if_false, wrap_succ hlt hl]
        exact hk
    · rw [List.drop_zero]; split <;> rfl
  · have hc : ¬ ((j : Nat) : Int) < (g.2.2.2.1.length : Int) := by omega
    simp only [hc, decide_false, cond_false, List.drop_eq_nil_of_le hge, lev]

theorem p28_eq (g : Grm) (r : Int) (hl : g.2.2.2.1.length ≤ maxLen) (hr : ∀ l ∈ g.2.2.2.1, l.2.length ≤ maxLen) : p28 N0 (g, (r, ())) = out2 (lev r g.2.2.2.1 0) := by
  unfold p28
  refine loop_up (fun j => ((), ((j : Int), ()))) (fun j => out2 (lev r (g.2.2.2.1.drop j) j)) g.2.2.2.1.length (fun j hj k hk => ?_) N0 0 (Nat.zero_le _) (by have := N0_lt hl; omega)
  rcases Nat.lt_or_ge j g.2.2.2.1.length with hlt | hge
  · have hk := hk hlt
    have hc : ((j : Nat) : Int) < (g.2.2.2.1.length : Int) := by omega
    have hd : g.2.2.2.1.drop j = g.2.2.2.1[j] :: g.2.2.2.1.drop (j + 1) := List.drop_eq_getElem_cons hlt
    simp only [hc, decide_true, cond_true, Int.toNat_natCast, Int.natCast_nonneg, if_true, List.getElem?_eq_getElem hlt, hd, lev]
    have hr' := hr _ (List.getElem_mem hlt)
    generalize g.2.2.2.1[j] = l at hr' ⊢
    refine (loop_up (fun m => ((), ((m : Int), ()))) (fun m => if r ∈ l.2.drop m then out2 (((j + 1 : Nat) : Int), l.1) else out2 (lev r (g.2.2.2.1.drop (j + 1)) (j + 1))) l.2.length (fun m hm k2 hk2 => ?_) N0 0 (Nat.zero_le _) (by have := N0_lt hr'; omega)).trans ?_
    · rcases Nat.lt_or_ge m l.2.length with hlt2 | hge2
      · have hk2 := hk2 hlt2
        have hc2 : ((m : Nat) : Int) < (l.2.length : Int) := by omega
        have hd2 : l.2.drop m = l.2[m] :: l.2.drop (m + 1) := List.drop_eq_getElem_cons hlt2
        simp only [hc2, decide_true, cond_true, Int.toNat_natCast, Int.natCast_nonneg, if_true, List.getElem?_eq_getElem hlt2, hd2, List.mem_cons, wrap_succ hlt hl, wrap_succ hlt2 hr', bif_eq, decide_eq_true_eq, hk2]
        by_cases e : l.2[m] = r
        · simp [e]
        · simp [e, Ne.symm e]
      · have hc2 : ¬ ((m : Nat) : Int) < (l.2.length : Int) := by omega
        simp only [hc2, decide_false, cond_false, List.drop_eq_nil_of_le hge2, List.not_mem_nil, if_false, wrap_succ hlt hl]
        exact hk
    · rw [List.drop_zero]; split <;> rfl
  · have hc : ¬ ((j : Nat) : Int) < (g.2.2.2.1.length : Int) := by omega
    simp only [hc, decide_false, cond_false, List.drop_eq_nil_of_le hge, lev]

def stronger (ls : List Lvl) (acc : Int × Int) (s : Bool × Int) : Int × Int := if s.1 = true then acc else if 0 < (lev s.2 ls 0).1 then lev s.2 ls 0 else acc
def ofp (g : Grm) (n : Int) : Int × Int :=
  if n < 0 ∨ (g.2.2.1.length : Int) ≤ n then (0, 0) else match g.2.2.1[n.toNat]? with
    | none => (0, 0)
    | some p => if 0 ≤ p.2.2.2.2.1 then lev p.2.2.2.2.1 g.2.2.2.1 0 else p.2.2.1.foldl (stronger g.2.2.2.1) (0, 0)

/-- The lengths that are asked for. -/
structure GOk (g : Grm) : Prop where
  ls : g.2.2.2.1.length ≤ maxLen
  lr : ∀ l ∈ g.2.2.2.1, l.2.length ≤ maxLen
  ps : g.2.2.1.length ≤ maxLen
  pb : ∀ p ∈ g.2.2.1, p.2.2.1.length ≤ maxLen
  rs : g.1.length ≤ maxLen
  so : g.2.1.length ≤ maxLen

theorem p15_eq (g : Grm) (n : Int) (hg : GOk g) : p15 N0 (g, (n, ())) = out2 (ofp g n) := by
  unfold p15
  simp only [joinB_eq, bif_eq]
  unfold ofp
  by_cases h1 : n < 0
  · simp [h1, out2]
  · by_cases h2 : (g.2.2.1.length : Int) ≤ n
    · simp [h1, h2, out2]
    · obtain ⟨m, rfl⟩ : ∃ m : Nat, n = m := ⟨n.toNat, by omega⟩
      have hm : m < g.2.2.1.length := by omega
      simp only [h1, h2, decide_false, Bool.false_eq_true, if_false, or_self, Int.toNat_natCast, Int.natCast_nonneg, if_true, List.getElem?_eq_getElem hm]
      have hb := hg.pb _ (List.getElem_mem hm)
      generalize g.2.2.1[m] = p at hb ⊢
      by_cases h3 : 0 ≤ p.2.2.2.2.1
      · simp only [h3, decide_true, if_true]
        rw [p16_eq g _ hg.ls hg.lr]
        rfl
      · simp only [h3, decide_false, Bool.false_eq_true, if_false]
        have h0 : IntKind.wrap .i64 ((p.2.2.1.length : Int) - 1) = (p.2.2.1.length : Int) - 1 := by unfold maxLen at hb; exact wrap_in (by omega) (by omega)
        rw [h0]
        refine (loop_down (fun j : Nat => ((), ((j : Int) - 1, ()))) (fun j => out2 ((p.2.2.1.take j).foldl (stronger g.2.2.2.1) (0, 0))) p.2.2.1.length (fun j hj k hk => ?_) N0 p.2.2.1.length (Nat.le_refl _) (by have := N0_lt hb; omega)).trans (by rw [List.take_length])
        rcases j with _ | i
        · simp [out2]
        · have hk := hk i rfl
          have e0 : ((i + 1 : Nat) : Int) - 1 = (i : Int) := by omega
          simp only [e0, Int.natCast_nonneg, decide_true, if_true, Int.toNat_natCast]
          have hi : i < p.2.2.1.length := by omega
          · rw [List.take_succ_eq_append_getElem hi, List.foldl_append]
            simp only [List.getElem?_eq_getElem hi, List.foldl_cons, List.foldl_nil]
            have h1 : IntKind.wrap .i64 ((i : Int) - 1) = (i : Int) - 1 := by unfold maxLen at hb; exact wrap_in (by omega) (by omega)
            rw [h1, hk, p16_eq g _ hg.ls hg.lr]
            unfold stronger
            by_cases hs : p.2.2.1[i].1 = true
            · simp [hs]
            · simp only [hs, Bool.false_eq_true, if_false, callB_some]
              by_cases hl : 0 < (lev p.2.2.1[i].2 g.2.2.2.1 0).1
              · simp [hl, out2]
              · simp [hl]

theorem p29_eq (g : Grm) (n : Int) (hg : GOk g) : p29 N0 (g, (n, ())) = out2 (ofp g n) := by
  unfold p29
  simp only [joinB_eq, bif_eq]
  unfold ofp
  by_cases h1 : n < 0
  · simp [h1, out2]
  · by_cases h2 : (g.2.2.1.length : Int) ≤ n
    · simp [h1, h2, out2]
    · obtain ⟨m, rfl⟩ : ∃ m : Nat, n = m := ⟨n.toNat, by omega⟩
      have hm : m < g.2.2.1.length := by omega
      simp only [h1, h2, decide_false, Bool.false_eq_true, if_false, or_self, Int.toNat_natCast, Int.natCast_nonneg, if_true, List.getElem?_eq_getElem hm]
      have hb := hg.pb _ (List.getElem_mem hm)
      generalize g.2.2.1[m] = p at hb ⊢
      by_cases h3 : 0 ≤ p.2.2.2.2.1
      · simp only [h3, decide_true, if_true]
        rw [p28_eq g _ hg.ls hg.lr]
        rfl
      · simp only [h3, decide_false, Bool.false_eq_true, if_false]
        let F := fun j : Nat => (p.2.2.1.take j).foldl (stronger g.2.2.2.1) (0, 0)
        have hF : ∀ i (hi : i < p.2.2.1.length), F (i + 1) = stronger g.2.2.2.1 (F i) p.2.2.1[i] := fun i hi => by
          show (p.2.2.1.take (i + 1)).foldl _ _ = _
          rw [List.take_succ_eq_append_getElem hi, List.foldl_append]; rfl
        refine (loop_up (fun j : Nat => ((), ((F j).1, ((F j).2, ((j : Int), ()))))) (fun j => out2 (F p.2.2.1.length)) p.2.2.1.length (fun j hj k hk => ?_) N0 0 (Nat.zero_le _) (by have := N0_lt hb; omega)).trans (by show out2 ((p.2.2.1.take p.2.2.1.length).foldl _ _) = _; rw [List.take_length])
        rcases Nat.lt_or_ge j p.2.2.1.length with hi | hi
        · have hk := hk hi
          have hc : (j : Int) < (p.2.2.1.length : Int) := by omega
          simp only [hc, decide_true, if_true, Int.toNat_natCast, Int.natCast_nonneg, List.getElem?_eq_getElem hi, wrap_succ hi hb]
          rw [p28_eq g _ hg.ls hg.lr]
          rw [hF j hi] at hk
          unfold stronger at hk
          by_cases hs : p.2.2.1[j].1 = true
          · simp only [hs, if_true] at hk ⊢; exact hk
          · simp only [hs, Bool.false_eq_true, if_false, callB_some] at hk ⊢
            by_cases hl : 0 < (lev p.2.2.1[j].2 g.2.2.2.1 0).1
            · simp only [hl, decide_true, if_true] at hk ⊢; exact hk
            · simp only [hl, decide_false, Bool.false_eq_true, if_false] at hk ⊢; exact hk
        · have hc : ¬ (j : Int) < (p.2.2.1.length : Int) := by omega
          have : j = p.2.2.1.length := by omega
          simp [hc, this, out2]

def dec (a b : Int × Int) : Int :=
  if a.1 = 0 ∨ b.1 = 0 then 3 else if b.1 < a.1 then 1 else if a.1 < b.1 then 0 else if b.2 = 1 then 1 else if b.2 = 2 then 0 else 2
theorem p14_eq (g : Grm) (n t : Int) (hg : GOk g) : p14 N0 (g, (n, (t, ()))) = some ((dec (ofp g n) (lev t g.2.2.2.1 0), ()), ()) := by
  unfold p14
  simp only [p15_eq g n hg, p16_eq g t hg.ls hg.lr, callB_some, joinB_eq, bif_eq, decide_eq_true_eq, dec]
  repeat' split
  all_goals first | rfl | simp_all
theorem p31_eq (g : Grm) (n t : Int) (hg : GOk g) : p31 N0 (g, (n, (t, ()))) = some ((dec (ofp g n) (lev t g.2.2.2.1 0), ()), ()) := by
  unfold p31
  simp only [p29_eq g n hg, p28_eq g t hg.ls hg.lr, callB_some, joinB_eq, bif_eq, decide_eq_true_eq, dec]
  repeat' split
  all_goals first | rfl | (simp_all; done) | (simp_all; omega)

def ruleOk (r : List Int × (Int × List Int)) : Bool := decide (r.2.2.length ≤ 40) && decide (r.1.length ≤ 100)
def few11 (l : List (List Int × (Int × List Int))) : Bool := decide (l.length ≤ 20) && l.all ruleOk
theorem p64_eq (l : List (List Int × (Int × List Int))) (hl : l.length ≤ maxLen) : p64 N0 (l, ()) = some ((few11 l, ()), ()) := by
  unfold p64 few11
  simp only [joinB_eq, bif_eq, decide_eq_true_eq]
  by_cases h1 : (20 : Int) < (l.length : Int)
  · have : ¬ l.length ≤ 20 := by omega
    simp [h1, this]
  · have h2 : l.length ≤ 20 := by omega
    simp only [h1, h2, if_false, decide_true, Bool.true_and]
    refine loop_up (fun j => ((), ((j : Int), ()))) (fun j => some (((l.drop j).all ruleOk, ()), ())) l.length (fun j hj k hk => ?_) N0 0 (Nat.zero_le _) (by have := N0_lt hl; omega)
    rcases Nat.lt_or_ge j l.length with hi | hi
    · have hk := hk hi
      have hc : (j : Int) < (l.length : Int) := by omega
      simp only [hc, if_true, Int.toNat_natCast, Int.natCast_nonneg, List.getElem?_eq_getElem hi, wrap_succ hi hl, List.drop_eq_getElem_cons hi, List.all_cons, hk]
      generalize l[j] = r
      unfold ruleOk
      by_cases h3 : (40 : Int) < (r.2.2.length : Int)
      · have : ¬ r.2.2.length ≤ 40 := by omega
        simp [h3, this]
      · have h4 : r.2.2.length ≤ 40 := by omega
        by_cases h5 : (100 : Int) < (r.1.length : Int)
        · have : ¬ r.1.length ≤ 100 := by omega
          simp [h3, h5, this]
        · have : r.1.length ≤ 100 := by omega
          simp [h3, h4, h5, this]
    · have hc : ¬ (j : Int) < (l.length : Int) := by omega
      simp [hc, List.drop_eq_nil_of_le hi]

def prodOk (p : Prd) : Bool := decide (p.2.2.1.length ≤ 20) && (decide (p.2.2.2.2.2.length ≤ 20) && decide (p.2.1.length ≤ 100))
def few (g : Grm) : Bool := few11 g.1 && (decide (g.2.1.length ≤ 20) && (decide (g.2.2.1.length ≤ 40) && (decide (g.2.2.2.1.length ≤ 20) && (g.2.1.all (fun s => decide (s.length ≤ 100)) && (g.2.2.1.all prodOk && g.2.2.2.1.all (fun l => decide (l.2.length ≤ 20)))))))

theorem le_not {a : Nat} {b : Nat} : (((b : Int) < (a : Int)) ↔ ¬ a ≤ b) := by omega
theorem p13_eq (g : Grm) (hg : GOk g) : p13 N0 (g, ()) = some ((few g, ()), ()) := by
  unfold p13 few
  simp only [joinB_eq, p64_eq g.1 hg.rs, callB_some, bif_eq, decide_eq_true_eq]
  have e20 : ∀ a : Nat, ((20 : Int) < (a : Int)) ↔ ¬ a ≤ 20 := fun a => by omega
  have e40 : ∀ a : Nat, ((40 : Int) < (a : Int)) ↔ ¬ a ≤ 40 := fun a => by omega
  have e100 : ∀ a : Nat, ((100 : Int) < (a : Int)) ↔ ¬ a ≤ 100 := fun a => by omega
  simp only [e20, e40, e100]
  cases h1 : few11 g.1
  · simp
  by_cases h2 : g.2.1.length ≤ 20
  case neg => simp [h2]
  by_cases h3 : g.2.2.1.length ≤ 40
  case neg => simp [h2, h3]
  by_cases h4 : g.2.2.2.1.length ≤ 20
  case neg => simp [h2, h3, h4]
  simp only [h2, h3, h4, Bool.not_true, not_true, Bool.false_eq_true, if_false, decide_false, decide_true, Bool.true_and]
  refine (loop_all (after := ?a1) g.2.1 (fun s => decide (s.length ≤ 100)) (some ((false, ()), ())) (fun j => ((), (j : Int), ())) ?s1 ?f1 N0 ?n1).trans ?_
  case f1 => intro k; simp only [Int.lt_irrefl, if_false]; exact rfl
  case n1 => have := N0_lt hg.so; omega
  case s1 =>
    intro j hj k
    have hc : (j : Int) < (g.2.1.length : Int) := by omega
    simp only [hc, if_true, Int.toNat_natCast, Int.natCast_nonneg, List.getElem?_eq_getElem hj, wrap_succ hj hg.so, e20, decide_eq_true_eq]
    split <;> simp_all
  split
  case isFalse h => simp [h]
  case isTrue h5 =>
  simp only [h5, Bool.true_and]
  refine (loop_all (after := ?a2) g.2.2.1 prodOk (some ((false, ()), ())) (fun j => ((), (j : Int), ())) ?s2 ?f2 N0 ?n2).trans ?_
  case f2 => intro k; simp only [Int.lt_irrefl, if_false]; exact rfl
  case n2 => have := N0_lt hg.ps; omega
  case s2 =>
    intro j hj k
    have hc : (j : Int) < (g.2.2.1.length : Int) := by omega
    simp only [hc, if_true, Int.toNat_natCast, Int.natCast_nonneg, List.getElem?_eq_getElem hj, wrap_succ hj hg.ps, e20, prodOk]
    generalize g.2.2.1[j] = p
    by_cases a1 : p.2.2.1.length ≤ 20 <;> by_cases a2 : p.2.2.2.2.2.length ≤ 20 <;> by_cases a3 : p.2.1.length ≤ 100 <;> simp [a1, a2, a3]
  split
  case isFalse h => simp [h]
  case isTrue h6 =>
  simp only [h6, Bool.true_and]
  refine (loop_all (after := some ((true, ()), ())) g.2.2.2.1 (fun l => decide (l.2.length ≤ 20)) (some ((false, ()), ())) (fun j => ((), (j : Int), ())) ?s3 ?f3 N0 ?n3).trans ?_
  case f3 => intro k; simp only [Int.lt_irrefl, if_false]
  case n3 => have := N0_lt hg.ls; omega
  case s3 =>
    intro j hj k
    have hc : (j : Int) < (g.2.2.2.1.length : Int) := by omega
    simp only [hc, if_true, Int.toNat_natCast, Int.natCast_nonneg, List.getElem?_eq_getElem hj, wrap_succ hj hg.ls, e20, decide_eq_true_eq]
    split <;> simp_all
  split
  case isFalse h => simp [h]
  case isTrue h7 => simp [h7]

def hot (g : Grm) (s : Nat) (j : Nat) : Bool := match g.2.2.1[j]? with | some p => decide (p.1 = (s : Int)) && (!p.2.2.2.1 && decide (0 < (ofp g j).1)) | none => false
def anyS (g : Grm) (s : Nat) : Nat → Bool
  | 0 => false
  | j + 1 => anyS g s j || hot g s j
def sortsF (g : Grm) : Nat → List Bool
  | 0 => List.replicate g.2.1.length false
  | j + 1 => match g.2.2.1[j]? with
    | some p => if (0 < (ofp g j).1 ∧ 0 ≤ p.1) ∧ (p.1 < ((sortsF g j).length : Int) ∧ p.2.2.2.1 = false) then (sortsF g j).set p.1.toNat true else sortsF g j
    | none => sortsF g j
theorem sortsF_len (g : Grm) : ∀ j, (sortsF g j).length = g.2.1.length := by
  intro j
  induction j with
  | zero => simp [sortsF]
  | succ j ih =>
    simp only [sortsF]
    split
    · split
      · simp [ih]
      · exact ih
    · exact ih
theorem sortsF_get (g : Grm) {s : Nat} (hs : s < g.2.1.length) : ∀ j, (sortsF g j)[s]? = some (anyS g s j) := by
  intro j
  induction j with
  | zero => simp [sortsF, anyS, hs]
  | succ j ih =>
    simp only [sortsF, anyS, hot]
    cases hp : g.2.2.1[j]? with
    | none => simp [ih]
    | some p =>
      simp only
      have hl := sortsF_len g j
      split
      · rename_i h
        obtain ⟨⟨h1, h2⟩, h3, h4⟩ := h
        by_cases e : p.1 = (s : Int)
        · have e2 : p.1.toNat = s := by omega
          rw [e2, List.getElem?_set_self (by omega)]
          simp [e, h1, h4]
        · have e2 : p.1.toNat ≠ s := by omega
          rw [List.getElem?_set_ne e2, ih]
          simp [e]
      · rename_i h
        rw [ih]
        by_cases e : p.1 = (s : Int)
        · have h3 : p.1 < ((sortsF g j).length : Int) := by omega
          have h2 : 0 ≤ p.1 := by omega
          by_cases h1 : 0 < (ofp g j).1
          · cases h4 : p.2.2.2.1
            · exact absurd ⟨⟨h1, h2⟩, h3, h4⟩ h
            · simp
          · simp [h1]
        · simp [e]

theorem p30_eq (g : Grm) (hg : GOk g) (h20 : g.2.1.length ≤ 20) : p30 N0 (g, ()) = some ((sortsF g g.2.2.1.length, ()), ()) := by
  unfold p30
  have c1 : (0 : Int) ≤ (g.2.1.length : Int) ∧ (g.2.1.length : Int) ≤ (g.2.1.length : Int) := by omega
  have c2 : g.2.1.length * 1 ≤ 140737488355328 := by omega
  simp only [c1, and_self, if_true, joinB_eq, bif_eq, decide_eq_true_eq, Int.toNat_natCast, c2]
  refine loop_up (fun j => ((sortsF g j, ()), ((j : Int), ()))) (fun j => some ((sortsF g g.2.2.1.length, ()), ())) g.2.2.1.length (fun j hj k hk => ?_) N0 0 (Nat.zero_le _) (by have := N0_lt hg.ps; omega)
  rcases Nat.lt_or_ge j g.2.2.1.length with hi | hi
  · have hk := hk hi
    have hc : (j : Int) < (g.2.2.1.length : Int) := by omega
    simp only [sortsF, List.getElem?_eq_getElem hi] at hk
    simp only [hc, if_true, Int.toNat_natCast, Int.natCast_nonneg, List.getElem?_eq_getElem hi, wrap_succ hi hg.ps]
    rw [p15_eq g _ hg]
    simp only [callB_some]
    generalize g.2.2.1[j] = p at hk ⊢
    have hl := sortsF_len g j
    by_cases h1 : 0 < (ofp g j).1
    case neg => simp only [h1, false_and, if_false, Bool.false_eq_true] at hk ⊢; exact hk
    by_cases h2 : 0 ≤ p.1
    case neg => simp only [h1, h2, and_false, false_and, if_false, if_true, Bool.false_eq_true] at hk ⊢; exact hk
    by_cases h3 : p.1 < ((sortsF g j).length : Int)
    case neg => simp only [h1, h2, h3, and_false, false_and, if_false, if_true, Bool.false_eq_true] at hk ⊢; exact hk
    cases h4 : p.2.2.2.1
    · have h5 : p.1.toNat < (sortsF g j).length := by omega
      simp only [h1, h2, h3, h4, and_self, if_true, Bool.not_false, List.getElem?_eq_getElem h5] at hk ⊢; exact hk
    · simp only [h1, h2, h3, h4, and_self, and_false, Bool.true_eq_false, if_true, if_false, Bool.not_true, Bool.false_eq_true, reduceCtorEq] at hk ⊢; exact hk
  · have hc : ¬ (j : Int) < (g.2.2.1.length : Int) := by omega
    have : j = g.2.2.1.length := by omega
    simp [hc, this]

theorem gok_of {g : Grm} (h : WfT y26 g) : GOk g := by
  obtain ⟨⟨h1, _⟩, ⟨h2, _⟩, ⟨h3, h3'⟩, ⟨h4, h4'⟩, h5⟩ := h
  exact ⟨h4, fun l hl => (h4' l hl).2.1, h3, fun p hp => (h3' p hp).2.2.1.1, h1, h2⟩

theorem p12_eq : p12 N0 () = some ((true, ()), ()) := by
  have h : ∀ a b : Int, ∀ g : Grm, g = ([], ((((69 : Int) :: []) :: []), ((((0 : Int), ([], (((true, (0 : Int)) :: ((false, (1 : Int)) :: ((true, (0 : Int)) :: []))), (false, ((-1 : Int), []))))) :: (((0 : Int), ([], (((true, (0 : Int)) :: ((false, (2 : Int)) :: ((true, (0 : Int)) :: []))), (false, ((-1 : Int), []))))) :: [])), ((((1 : Int), ((1 : Int) :: [])) :: (((1 : Int), ((2 : Int) :: [])) :: [])), (0 : Int))))) → p14 N0 (g, (a, (b, ()))) = some ((dec (ofp g a) (lev b g.2.2.2.1 0), ()), ()) := by
    rintro a b g rfl
    exact p14_eq _ _ _ ⟨by decide, by decide, by decide, by decide, by decide, by decide⟩
  unfold p12
  simp only [joinB_eq]
  rw [h 0 2 _ rfl, h 1 1 _ rfl]
  rfl

theorem p6_true (g : Grm) (prod token : Int) (hg : GOk g) : p6 N0 (g, (prod, (token, ()))) = some ((true, ()), ()) := by
  unfold p6
  simp only [p12_eq, p13_eq g hg, callB_some, bif_eq, Bool.not_true, Bool.false_eq_true, if_false]
  cases hf : few g
  · simp
  have h20 : g.2.1.length ≤ 20 := by simp [few] at hf; omega
  simp only [Bool.not_true, Bool.false_eq_true, if_false, p16_eq g token hg.ls hg.lr, p28_eq g token hg.ls hg.lr, p15_eq g prod hg, p29_eq g prod hg, p30_eq g hg h20, p14_eq g prod token hg, p31_eq g prod token hg, callB_some, joinB_eq, decide_true, sortsF_len, Bool.not_true]
  refine loop_up (fun j => ((), ((j : Int), ()))) (fun j => some ((true, ()), ())) g.2.1.length (fun j hj k hk => ?_) N0 0 (Nat.zero_le _) (by have := N0_lt hg.so; omega)
  rcases Nat.lt_or_ge j g.2.1.length with hi | hi
  · have hk := hk hi
    have hc : (j : Int) < (g.2.1.length : Int) := by omega
    simp only [hc, decide_true, if_true]
    refine loop_up (fun m => ((), (anyS g j m, ((m : Int), ())))) (fun m => some ((true, ()), ())) g.2.2.1.length (fun m hm k2 hk2 => ?_) N0 0 (Nat.zero_le _) (by have := N0_lt hg.ps; omega)
    rcases Nat.lt_or_ge m g.2.2.1.length with hi2 | hi2
    · have hk2 := hk2 hi2
      have hc2 : (m : Int) < (g.2.2.1.length : Int) := by omega
      simp only [anyS, hot, List.getElem?_eq_getElem hi2] at hk2
      simp only [hc2, decide_true, if_true, Int.toNat_natCast, Int.natCast_nonneg, List.getElem?_eq_getElem hi2, wrap_succ hi2 hg.ps]
      rw [p29_eq g _ hg]
      simp only [callB_some]
      generalize g.2.2.1[m] = p at hk2 ⊢
      cases h1 : anyS g j m
      · rw [h1] at hk2
        by_cases h2 : p.1 = (j : Int)
        · cases h3 : p.2.2.2.1
          · simp only [h2, h3, decide_true, Bool.not_false, Bool.true_and, Bool.false_or, Bool.false_eq_true, if_true, if_false] at hk2 ⊢; exact hk2
          · simp only [h2, h3, decide_true, Bool.not_true, Bool.false_and, Bool.and_false, Bool.false_or, Bool.false_eq_true, if_true, if_false] at hk2 ⊢; exact hk2
        · simp only [h2, decide_false, Bool.false_and, Bool.false_or, Bool.false_eq_true, if_false] at hk2 ⊢; exact hk2
      · rw [h1] at hk2
        simp only [Bool.true_or, if_true] at hk2 ⊢; exact hk2
    · have hc2 : ¬ (m : Int) < (g.2.2.1.length : Int) := by omega
      have e : m = g.2.2.1.length := by omega
      subst e
      simp only [Int.lt_irrefl, decide_false, Bool.false_eq_true, if_false, Int.toNat_natCast, Int.natCast_nonneg, if_true, sortsF_get g hi, beq_self_eq_true, Bool.not_true, wrap_succ hi hg.so]
      exact hk
  · have e : j = g.2.1.length := by omega
    subst e
    simp
end Go.Proofs.Ytfnjdegejgocfaa.Rf
