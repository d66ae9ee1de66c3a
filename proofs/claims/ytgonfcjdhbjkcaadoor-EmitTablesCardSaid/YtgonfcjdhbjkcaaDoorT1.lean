/- What a source tells: its tables are read back (under EmitTables' seat). -/
import Derived.Test.YtgonfcjdhbjkcaaDoorE16
set_option linter.unusedVariables false
set_option linter.unusedSimpArgs false
namespace Go.Proofs.YtgonfcjdhbjkcaaDoor.Rf
open Go

/-- A line's end stands ahead of no closing brace. -/
def okA : List Int → Bool
  | [] => true
  | b :: l => (decide (b ≠ 10) || decide (l.head? ≠ some 125)) && okA l
theorem okA_no : ∀ {a : List Int}, no10 a → okA a = true := by
  intro a
  induction a with
  | nil => intro _; rfl
  | cons b a ih =>
    intro h
    have hb : b ≠ 10 := h b (by simp)
    simp only [okA, ih (fun c hc => h c (by simp [hc])), Bool.and_true, decide_eq_true hb, Bool.true_or]
theorem okA_app : ∀ {a b : List Int}, okA a = true → okA b = true → b.head? ≠ some 125 → okA (a ++ b) = true := by
  intro a
  induction a with
  | nil => intro b _ h _; exact h
  | cons c a ih =>
    intro b ha hb hn
    simp only [okA, Bool.and_eq_true] at ha
    simp only [List.cons_append, okA, Bool.and_eq_true]
    refine ⟨?_, ih ha.2 hb hn⟩
    have h1 := ha.1
    simp only [Bool.or_eq_true, decide_eq_true_eq] at h1 ⊢
    refine h1.imp id fun h => ?_
    cases a with
    | nil => simpa using hn
    | cons d a => simpa using h
theorem idxA : ∀ (a t : List Int), okA a = true → idxI (a ++ ([10, 125, 10] ++ t)) [10, 125, 10] = (a.length : Int) := by
  intro a
  induction a with
  | nil =>
    intro t _
    show idxI (10 :: 125 :: 10 :: t) [10, 125, 10] = 0
    simp [idxI]
  | cons b a ih =>
    intro t h
    simp only [okA, Bool.and_eq_true, Bool.or_eq_true, decide_eq_true_eq] at h
    have hi := ih t h.2
    have hp : [10, 125, 10].isPrefixOf (b :: (a ++ ([10, 125, 10] ++ t))) = false := by
      rcases h.1 with hb | hb
      · simp only [List.isPrefixOf_cons_cons]
        have : ((10 : Int) == b) = false := by simpa using fun e : (10 : Int) = b => hb e.symm
        rw [this]; rfl
      · cases a with
        | nil => simp [List.isPrefixOf]
        | cons c a =>
          have hc : c ≠ 125 := by simpa using hb
          have : ((125 : Int) == c) = false := by simpa using fun e : (125 : Int) = c => hc e.symm
          simp only [List.cons_append, List.isPrefixOf_cons_cons, this, Bool.false_and, Bool.and_false]
    rw [List.cons_append, idxI, hp, hi]
    have : ¬ (a.length : Int) = -1 := by omega
    simp only [Bool.false_eq_true, if_false, this, List.length_cons]
    omega
theorem cutA (a t : List Int) (h : okA a = true) : cutI (a ++ ([10, 125, 10] ++ t)) [10, 125, 10] = (a, (t, true)) := by
  have hi := idxA a t h
  unfold cutI
  rw [hi, if_pos (by omega)]
  simp only [Int.toNat_natCast]
  rw [List.take_left, ← List.drop_drop, List.drop_left]
  rfl

/-- A table's text without its end. -/
def bodyT (nm : List Int) (l : List (List Int)) : List Int := headL nm ++ l.flatMap fun r => 10 :: lineL r
theorem lines_body : ∀ (l : List (List Int)), [10] ++ l.flatMap lineI = (l.flatMap fun r => 10 :: lineL r) ++ [10] := by
  intro l
  induction l with
  | nil => rfl
  | cons r l ih =>
    have ih' : 10 :: l.flatMap lineI = (l.flatMap fun r => 10 :: lineL r) ++ [10] := ih
    rw [List.flatMap_cons, List.flatMap_cons, lineI_eq]
    simp only [List.cons_append, List.nil_append, List.append_assoc]
    rw [ih']
theorem rowsI_body (nm : List Int) (l : List (List Int)) : rowsI nm l = bodyT nm l ++ [10, 125, 10] := by
  unfold rowsI bodyT
  rw [headI_eq, List.append_assoc (headL nm), lines_body]
  simp
theorem okA_body {nm : List Int} (h : no10 nm) : ∀ (l : List (List Int)), okA (10 :: bodyT nm l) = true := by
  have lines : ∀ (l : List (List Int)), okA (l.flatMap fun r => 10 :: lineL r) = true := by
    intro l
    induction l with
    | nil => rfl
    | cons r l ih =>
      rw [List.flatMap_cons]
      refine okA_app ?_ ih (by cases l <;> simp)
      have : okA (lineL r) = true := okA_no (lineL_no10 r)
      simp only [okA, this, Bool.and_true, Bool.or_eq_true, decide_eq_true_eq]
      exact .inr (by simp [lineL])
  intro l
  have h1 : okA (10 :: headL nm) = true := by
    have : okA (headL nm) = true := okA_no (headL_no10 h)
    simp only [okA, this, Bool.and_true, Bool.or_eq_true, decide_eq_true_eq]
    exact .inr (by simp [headL])
  exact okA_app (a := 10 :: headL nm) h1 (lines l) (by cases l <;> simp)

def srcI (x : Tabs) : List (List Int × List (List Int)) := [(nClass, [x.2.1.1]), (nNext, x.2.1.2.1), (nMark, [x.2.1.2.2]), (nAction, actsI x.2.2.1), (nGoto, x.2.2.2.1), (nProd, [x.2.2.2.2.1, x.2.2.2.2.2])]
def restT (x : Tabs) (i : Nat) : List Int := ((srcI x).drop i).flatMap fun p => 10 :: rowsI p.1 p.2
theorem textF_rest (x : Tabs) : textF x = packI x.1 ++ restT x 0 := by simp [textF, restT, srcI]
theorem srcI_ok {x : Tabs} (h : XOk x) : ∀ p ∈ srcI x, nameB p.1 = true ∧ OkRows p.2 := by
  intro p hp
  simp only [srcI, List.mem_cons, List.not_mem_nil, or_false] at hp
  rcases hp with rfl | rfl | rfl | rfl | rfl | rfl
  · exact ⟨(show nameB nClass = true by decide), ok_class h⟩
  · exact ⟨(show nameB nNext = true by decide), h.next⟩
  · exact ⟨(show nameB nMark = true by decide), ok_mark h⟩
  · exact ⟨(show nameB nAction = true by decide), ok_acts h⟩
  · exact ⟨(show nameB nGoto = true by decide), h.gots⟩
  · exact ⟨(show nameB nProd = true by decide), ok_prod h⟩

set_option maxHeartbeats 4000000 in
theorem p27_text (x : Tabs) (h : XOk x) (hn : nameB x.1 = true) (hl : (textF x).length ≤ 90000000) : p27 N0 (textF x, ()) = some ((tabsI x, (x.1, (true, ()))), ()) := by
  suffices key : ∀ n, n = N0 → p27 n (textF x, ()) = some ((tabsI x, (x.1, (true, ()))), ()) from key N0 rfl
  intro n hN
  have hno := name_no10 hn
  have e0 : textF x = ([112, 97, 99, 107, 97, 103, 101, 32] ++ x.1) ++ 10 :: restT x 0 := by rw [textF_rest]; simp [packI]
  have hrl : (restT x 0).length ≤ 90000000 := by rw [e0] at hl; simp only [List.length_append, List.length_cons] at hl; omega
  have c0 : cutI (textF x) [10] = ([112, 97, 99, 107, 97, 103, 101, 32] ++ x.1, (restT x 0, true)) := by
    have hno' : no10 ([112, 97, 99, 107, 97, 103, 101, 32] ++ x.1) := by
      intro c hc
      rcases List.mem_append.1 hc with hc | hc
      · simp only [List.mem_cons, List.not_mem_nil, or_false] at hc
        omega
      · exact hno c hc
    have hi : idxI (textF x) [10] = (([112, 97, 99, 107, 97, 103, 101, 32] ++ x.1).length : Int) := by
      have := idx_here (k := 10) (a := [112, 97, 99, 107, 97, 103, 101, 32] ++ x.1) (u := []) (r := restT x 0) hno'
      rw [e0]
      simpa using this
    unfold cutI
    rw [hi, if_pos (by omega), Int.toNat_natCast, e0, List.take_left, ← List.drop_drop, List.drop_left]
    rfl
  simp only [p27]
  rw [callB_eq (show p42 n (textF x, ([10], ())) = _ from by rw [hN]; exact p42_eq' (textF x) [10] (by omega)), c0]
  simp only
  rw [callB_eq (show p43 n _ = _ from by rw [hN]; exact p43_eq' _ _), cpI_app]
  simp only [joinB_eq, Bool.not_true, cond_false]
  rw [callB_eq (show p44 n _ = _ from by rw [hN]; exact p44_eq' x.1), hn]
  simp only [Bool.not_true, cond_false]
  rw [callB_eq (show p18 n () = _ from by rw [hN]; exact p18_eq')]
  refine loop_rule (fun q y r => ∃ i, q + i = 6 ∧ y = ((), (restT x i, ((tabsI x).take i, ((i : Int), ())))) ∧ r = some ((tabsI x, (x.1, (true, ()))), ())) ?_ n 6 _ _ (by rw [hN]; unfold N0; omega) ⟨0, rfl, rfl, rfl⟩
  rintro q y r ⟨i, hq, rfl, rfl⟩ k hk
  have hnl : (namesI.length : Int) = 6 := rfl
  by_cases hi : i < 6
  case neg =>
    have hi6 : i = 6 := by omega
    subst hi6
    rfl
  have c1 : (i : Int) < (namesI.length : Int) := by omega
  have his : i < (srcI x).length := hi
  have hir : restT x i = (10 :: bodyT (srcI x)[i].1 (srcI x)[i].2) ++ ([10, 125, 10] ++ restT x (i + 1)) := by
    unfold restT
    rw [List.drop_eq_getElem_cons his, List.flatMap_cons, rowsI_body]
    simp
  obtain ⟨p1, p2⟩ := srcI_ok h (srcI x)[i] (List.getElem_mem his)
  have hsub : (restT x i).length ≤ 90000000 := by
    have e : restT x 0 = ((srcI x).take i).flatMap (fun p => 10 :: rowsI p.1 p.2) ++ restT x i := by
      unfold restT
      rw [List.drop_zero, ← List.flatMap_append, List.take_append_drop]
    rw [e, List.length_append] at hrl
    omega
  have c2 : cutI (restT x i) [10, 125, 10] = (10 :: bodyT (srcI x)[i].1 (srcI x)[i].2, (restT x (i + 1), true)) := by
    rw [hir]; exact cutA _ _ (okA_body (name_no10 p1) _)
  have hbl : (bodyT (srcI x)[i].1 (srcI x)[i].2).length + 3 ≤ 90000000 := by
    rw [hir] at hsub
    simp only [List.length_append, List.length_cons, List.length_nil] at hsub
    omega
  have hni : i < namesI.length := hi
  have hti : i < (tabsI x).length := hi
  have e1 : (srcI x)[i].1 = namesI[i] := by
    match i, hi with
    | 0, _ => rfl
    | 1, _ => rfl
    | 2, _ => rfl
    | 3, _ => rfl
    | 4, _ => rfl
    | 5, _ => rfl
  have e2 : (srcI x)[i].2 = (tabsI x)[i] := by
    match i, hi with
    | 0, _ => rfl
    | 1, _ => rfl
    | 2, _ => rfl
    | 3, _ => rfl
    | 4, _ => rfl
    | 5, _ => rfl
  have hread : readRowsF (bodyT (srcI x)[i].1 (srcI x)[i].2 ++ [10, 125, 10]) = ((srcI x)[i].1, ((srcI x)[i].2, true)) := by
    rw [← rowsI_body]
    exact readRowsF_is (x := ((srcI x)[i].1, (srcI x)[i].2)) ⟨p1, fun r hr => (p2.2 r hr).1, rfl⟩
  have c3 : cpI (10 :: bodyT (srcI x)[i].1 (srcI x)[i].2) [10] = (bodyT (srcI x)[i].1 (srcI x)[i].2, true) := cpI_app [10] _
  have p45c : p45 n (bodyT (srcI x)[i].1 (srcI x)[i].2 ++ [10, 125, 10], ()) = some ((namesI[i], ((tabsI x)[i], (true, ()))), ()) := by
    rw [hN, p45_eq' _ (by simp only [List.length_append, List.length_cons, List.length_nil]; omega), hread, e1, e2]
  have p43c : p43 n (10 :: bodyT (srcI x)[i].1 (srcI x)[i].2, ([10], ())) = some ((bodyT (srcI x)[i].1 (srcI x)[i].2, (true, ())), ()) := by rw [hN, p43_eq', c3]
  have p42c : p42 n (restT x i, ([10, 125, 10], ())) = some ((10 :: bodyT (srcI x)[i].1 (srcI x)[i].2, (restT x (i + 1), (true, ()))), ()) := by rw [hN, p42_eq' (restT x i) [10, 125, 10] (by omega), c2]; rfl
  clear c2 c3 hread hir e1 e2
  generalize bodyT (srcI x)[i].1 (srcI x)[i].2 = bt at p45c p43c p42c hbl
  simp only
  rw [decide_eq_true c1, cond_true, if_pos (Int.natCast_nonneg i), Int.toNat_natCast, List.getElem?_eq_getElem hni]
  simp only
  rw [callB_eq p42c]
  simp only
  rw [callB_eq p43c]
  simp only
  rw [if_pos (by simp only [List.length_cons, List.length_nil]; omega), callB_eq p45c]
  simp only [Bool.not_true, cond_false, decide_true, List.length_cons, List.length_nil]
  have ht6 : (tabsI x).length = 6 := rfl
  have htl : ((tabsI x).take i).length ≤ 6 := by rw [List.length_take]; omega
  rw [if_pos (by omega), if_pos (by omega), w_succ (show i ≤ 1000000000 by omega)]
  refine Eq.trans (b := k ((), (restT x (i + 1), ((tabsI x).take i ++ [(tabsI x)[i]], (((i + 1 : Nat) : Int), ()))))) ?_ ?_
  · have hd : ∀ (inst : Decidable (namesI[i] = namesI[i])) (a b : Option ((List (List (List Int)) × List Int × Bool × Unit) × Unit)), (bif !(@decide _ inst) then a else b) = b := fun inst a b => by rw [@decide_eq_true _ inst rfl]; rfl
    exact hd _ _ _
  exact hk (q - 1) _ _ (by omega) ⟨i + 1, by omega, by rw [takeS hti], rfl⟩
end Go.Proofs.YtgonfcjdhbjkcaaDoor.Rf
