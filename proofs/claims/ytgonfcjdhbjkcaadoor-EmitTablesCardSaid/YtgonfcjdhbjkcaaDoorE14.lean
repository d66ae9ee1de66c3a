/- A package's text: both write the same. -/
import Derived.Test.YtgonfcjdhbjkcaaDoorE13
set_option linter.unusedVariables false
set_option linter.unusedSimpArgs false
namespace Go.Proofs.YtgonfcjdhbjkcaaDoor.Rf
open Go

abbrev Tabs := List Int × (Dfa × Tbl)
structure XOk (x : Tabs) : Prop where
  name : x.1.length ≤ 100000000
  cls : Cls x.2.1.1
  next : OkRows x.2.1.2.1
  mark : Ins x.2.1.2.2 ∧ x.2.1.2.2.length ≤ 1000000
  sz : Sized x.2.2
  gots : OkRows x.2.2.2.1
  sorts : Ins x.2.2.2.2.1
  lens : Ins x.2.2.2.2.2
def nClass : List Int := [99, 108, 97, 115, 115]
def nNext : List Int := [110, 101, 120, 116]
def nMark : List Int := [109, 97, 114, 107]
def nAction : List Int := [97, 99, 116, 105, 111, 110]
def nGoto : List Int := [103, 111, 116, 111, 95]
def nProd : List Int := [112, 114, 111, 100]
def namesI : List (List Int) := [nClass, nNext, nMark, nAction, nGoto, nProd]
def tabsI (x : Tabs) : List (List (List Int)) := [[x.2.1.1], x.2.1.2.1, [x.2.1.2.2], actsI x.2.2.1, x.2.2.2.1, [x.2.2.2.2.1, x.2.2.2.2.2]]
def packI (name : List Int) : List Int := [112, 97, 99, 107, 97, 103, 101, 32] ++ name ++ [10]
def textF (x : Tabs) : List Int :=
  packI x.1 ++ ([10] ++ rowsI nClass [x.2.1.1]) ++ ([10] ++ rowsI nNext x.2.1.2.1) ++ ([10] ++ rowsI nMark [x.2.1.2.2]) ++ ([10] ++ rowsI nAction (actsI x.2.2.1)) ++ ([10] ++ rowsI nGoto x.2.2.2.1) ++ ([10] ++ rowsI nProd [x.2.2.2.2.1, x.2.2.2.2.2])

theorem ok_class {x : Tabs} (h : XOk x) : OkRows [x.2.1.1] := ⟨by simp, fun r hr => by
  rw [List.mem_singleton.1 hr]
  exact ⟨fun c hc => by have := h.cls.u8 c hc; simp only [inK, kLo, kHi]; omega, by rw [h.cls.len]; omega⟩⟩
theorem ok_mark {x : Tabs} (h : XOk x) : OkRows [x.2.1.2.2] := ⟨by simp, fun r hr => by rw [List.mem_singleton.1 hr]; exact h.mark⟩
theorem ok_acts {x : Tabs} (h : XOk x) : OkRows (actsI x.2.2.1) := ⟨by unfold actsI; rw [List.length_map]; exact h.sz.a, fun r hr => by
  obtain ⟨q, hq, rfl⟩ := List.mem_map.1 hr
  refine ⟨fun n hn => ?_, by rw [List.length_map]; exact h.sz.ar q hq⟩
  obtain ⟨a, _, rfl⟩ := List.mem_map.1 hn
  exact actI_in a⟩
theorem ok_prod {x : Tabs} (h : XOk x) : OkRows [x.2.2.2.2.1, x.2.2.2.2.2] := ⟨by simp, fun r hr => by
  simp only [List.mem_cons, List.not_mem_nil, or_false] at hr
  rcases hr with rfl | rfl
  · exact ⟨h.sorts, h.sz.s⟩
  · exact ⟨h.lens, h.sz.l⟩⟩
theorem rl {name : List Int} (hn : name.length ≤ 100) {l : List (List Int)} (h : OkRows l) : (rowsI name l).length ≤ 30000000000000 := by
  have := @rowsI_len name l h.2
  have := h.1
  omega
def outI (pk : List Int) (rs : List (List Int)) (i : Nat) : List Int := pk ++ (rs.take i).flatMap fun r => 10 :: r
theorem p18_eq' : p18 N0 () = some ((namesI, ()), ()) := rfl

set_option maxHeartbeats 2000000 in
theorem p8_eq' (x : Tabs) (h : XOk x) : p8 N0 (x, ()) = some ((textF x, ()), ()) := by
  unfold p8
  have hn := h.name
  have l0 : (packI x.1).length = x.1.length + 9 := by simp only [packI, List.length_append, List.length_cons, List.length_nil]; omega
  have l1 := rl (name := nClass) (by decide) (ok_class h)
  have l2 := rl (name := nNext) (by decide) h.next
  have l3 := rl (name := nMark) (by decide) (ok_mark h)
  have l4 := rl (name := nAction) (by decide) (ok_acts h)
  have l5 := rl (name := nGoto) (by decide) h.gots
  have l6 := rl (name := nProd) (by decide) (ok_prod h)
  have c1 := p17_eq' nClass _ (by decide) (ok_class h)
  have c2 := p17_eq' nNext _ (by decide) h.next
  have c3 := p17_eq' nMark _ (by decide) (ok_mark h)
  have c4 := p17_eq' nAction _ (by decide) (ok_acts h)
  have c5 := p17_eq' nGoto _ (by decide) h.gots
  have c6 := p17_eq' nProd _ (by decide) (ok_prod h)
  have c7 := p19_eq' x.2.1 h.cls
  have c8 := p20_eq' x.2.2 h.sz.a h.sz.ar
  simp only [joinB_eq]
  rw [if_pos (by simp only [List.length_cons, List.length_nil]; omega), if_pos (by simp only [List.length_append, List.length_cons, List.length_nil]; omega), callB_eq p18_eq']
  generalize hr1 : rowsI nClass [x.2.1.1] = r1 at l1 c1
  generalize hr2 : rowsI nNext x.2.1.2.1 = r2 at l2 c2
  generalize hr3 : rowsI nMark [x.2.1.2.2] = r3 at l3 c3
  generalize hr4 : rowsI nAction (actsI x.2.2.1) = r4 at l4 c4
  generalize hr5 : rowsI nGoto x.2.2.2.1 = r5 at l5 c5
  generalize hr6 : rowsI nProd [x.2.2.2.2.1, x.2.2.2.2.2] = r6 at l6 c6
  have ht : textF x = outI (packI x.1) [r1, r2, r3, r4, r5, r6] 6 := by unfold textF outI; rw [hr1, hr2, hr3, hr4, hr5, hr6]; simp
  rw [ht]
  have hpk : packI x.1 = [112, 97, 99, 107, 97, 103, 101, 32] ++ x.1 ++ [10] := rfl
  rw [← hpk]
  generalize packI x.1 = pk at l0
  refine (loop_up (fun i => ((), (outI pk [r1, r2, r3, r4, r5, r6] i, ((i : Int), ())))) (fun _ => some ((outI pk [r1, r2, r3, r4, r5, r6] 6, ()), ())) 6 (fun i hi k hk => ?_) N0 0 (Nat.zero_le _) (by unfold N0; omega) |> (fun h => by rw [show outI pk [r1, r2, r3, r4, r5, r6] 0 = pk by simp [outI]] at h; exact h))
  have hnl : (namesI.length : Int) = 6 := rfl
  match i, hi, hk with
  | 0, _, hk =>
    have hk := hk (by omega)
    have ho : outI pk [r1, r2, r3, r4, r5, r6] 1 = outI pk [r1, r2, r3, r4, r5, r6] 0 ++ ([10] ++ r1) := by simp [outI]
    have hl : (outI pk [r1, r2, r3, r4, r5, r6] 0).length ≤ 1000000000000000 := by simp only [outI, List.length_append, List.take, List.flatMap_cons, List.flatMap_nil, List.length_cons, List.length_nil]; omega
    have ci : ((0 : Nat) : Int) = 0 := rfl
    have g : namesI[(0 : Int).toNat]? = some nClass := rfl
    have w : IntKind.wrap .i64 ((0 : Int) + 1) = 1 := by decide
    rw [ho] at hk
    generalize outI pk [r1, r2, r3, r4, r5, r6] 0 = o at hk hl
    simp only [hnl, ci, Int.reduceLT, Int.reduceLE, Int.reduceEq, decide_true, decide_false, cond_true, cond_false, if_true, g, w, c7, c1, callB_some]
    rw [if_pos (by simp only [List.length_cons, List.length_nil]; omega), if_pos (by simp only [List.length_append, List.length_cons, List.length_nil]; omega)]
    exact hk
  | 1, _, hk =>
    have hk := hk (by omega)
    have ho : outI pk [r1, r2, r3, r4, r5, r6] 2 = outI pk [r1, r2, r3, r4, r5, r6] 1 ++ ([10] ++ r2) := by simp [outI]
    have hl : (outI pk [r1, r2, r3, r4, r5, r6] 1).length ≤ 1000000000000000 := by simp only [outI, List.length_append, List.take, List.flatMap_cons, List.flatMap_nil, List.length_cons, List.length_nil]; omega
    have ci : ((1 : Nat) : Int) = 1 := rfl
    have g : namesI[(1 : Int).toNat]? = some nNext := rfl
    have w : IntKind.wrap .i64 ((1 : Int) + 1) = 2 := by decide
    rw [ho] at hk
    generalize outI pk [r1, r2, r3, r4, r5, r6] 1 = o at hk hl
    simp only [hnl, ci, Int.reduceLT, Int.reduceLE, Int.reduceEq, decide_true, decide_false, cond_true, cond_false, if_true, g, w, c2, callB_some]
    rw [if_pos (by simp only [List.length_cons, List.length_nil]; omega), if_pos (by simp only [List.length_append, List.length_cons, List.length_nil]; omega)]
    exact hk
  | 2, _, hk =>
    have hk := hk (by omega)
    have ho : outI pk [r1, r2, r3, r4, r5, r6] 3 = outI pk [r1, r2, r3, r4, r5, r6] 2 ++ ([10] ++ r3) := by simp [outI]
    have hl : (outI pk [r1, r2, r3, r4, r5, r6] 2).length ≤ 1000000000000000 := by simp only [outI, List.length_append, List.take, List.flatMap_cons, List.flatMap_nil, List.length_cons, List.length_nil]; omega
    have ci : ((2 : Nat) : Int) = 2 := rfl
    have g : namesI[(2 : Int).toNat]? = some nMark := rfl
    have w : IntKind.wrap .i64 ((2 : Int) + 1) = 3 := by decide
    rw [ho] at hk
    generalize outI pk [r1, r2, r3, r4, r5, r6] 2 = o at hk hl
    simp only [hnl, ci, Int.reduceLT, Int.reduceLE, Int.reduceEq, decide_true, decide_false, cond_true, cond_false, if_true, g, w, c3, callB_some]
    rw [if_pos (by simp only [List.length_cons, List.length_nil]; omega), if_pos (by simp only [List.length_append, List.length_cons, List.length_nil]; omega)]
    exact hk
  | 3, _, hk =>
    have hk := hk (by omega)
    have ho : outI pk [r1, r2, r3, r4, r5, r6] 4 = outI pk [r1, r2, r3, r4, r5, r6] 3 ++ ([10] ++ r4) := by simp [outI]
    have hl : (outI pk [r1, r2, r3, r4, r5, r6] 3).length ≤ 1000000000000000 := by simp only [outI, List.length_append, List.take, List.flatMap_cons, List.flatMap_nil, List.length_cons, List.length_nil]; omega
    have ci : ((3 : Nat) : Int) = 3 := rfl
    have g : namesI[(3 : Int).toNat]? = some nAction := rfl
    have w : IntKind.wrap .i64 ((3 : Int) + 1) = 4 := by decide
    rw [ho] at hk
    generalize outI pk [r1, r2, r3, r4, r5, r6] 3 = o at hk hl
    simp only [hnl, ci, Int.reduceLT, Int.reduceLE, Int.reduceEq, decide_true, decide_false, cond_true, cond_false, if_true, g, w, c8, c4, callB_some]
    rw [if_pos (by simp only [List.length_cons, List.length_nil]; omega), if_pos (by simp only [List.length_append, List.length_cons, List.length_nil]; omega)]
    exact hk
  | 4, _, hk =>
    have hk := hk (by omega)
    have ho : outI pk [r1, r2, r3, r4, r5, r6] 5 = outI pk [r1, r2, r3, r4, r5, r6] 4 ++ ([10] ++ r5) := by simp [outI]
    have hl : (outI pk [r1, r2, r3, r4, r5, r6] 4).length ≤ 1000000000000000 := by simp only [outI, List.length_append, List.take, List.flatMap_cons, List.flatMap_nil, List.length_cons, List.length_nil]; omega
    have ci : ((4 : Nat) : Int) = 4 := rfl
    have g : namesI[(4 : Int).toNat]? = some nGoto := rfl
    have w : IntKind.wrap .i64 ((4 : Int) + 1) = 5 := by decide
    rw [ho] at hk
    generalize outI pk [r1, r2, r3, r4, r5, r6] 4 = o at hk hl
    simp only [hnl, ci, Int.reduceLT, Int.reduceLE, Int.reduceEq, decide_true, decide_false, cond_true, cond_false, if_true, g, w, c5, callB_some]
    rw [if_pos (by simp only [List.length_cons, List.length_nil]; omega), if_pos (by simp only [List.length_append, List.length_cons, List.length_nil]; omega)]
    exact hk
  | 5, _, hk =>
    have hk := hk (by omega)
    have ho : outI pk [r1, r2, r3, r4, r5, r6] 6 = outI pk [r1, r2, r3, r4, r5, r6] 5 ++ ([10] ++ r6) := by simp [outI]
    have hl : (outI pk [r1, r2, r3, r4, r5, r6] 5).length ≤ 1000000000000000 := by simp only [outI, List.length_append, List.take, List.flatMap_cons, List.flatMap_nil, List.length_cons, List.length_nil]; omega
    have ci : ((5 : Nat) : Int) = 5 := rfl
    have g : namesI[(5 : Int).toNat]? = some nProd := rfl
    have w : IntKind.wrap .i64 ((5 : Int) + 1) = 6 := by decide
    rw [ho] at hk ⊢
    generalize outI pk [r1, r2, r3, r4, r5, r6] 5 = o at hk hl
    simp only [hnl, ci, Int.reduceLT, Int.reduceLE, Int.reduceEq, decide_true, decide_false, cond_true, cond_false, if_true, g, w, c6, callB_some]
    rw [if_pos (by simp only [List.length_cons, List.length_nil]; omega), if_pos (by simp only [List.length_append, List.length_cons, List.length_nil]; omega)]
    exact hk
  | 6, _, hk =>
    have ci : ((6 : Nat) : Int) = 6 := rfl
    simp only [hnl, ci, Int.reduceLT, decide_false, cond_false]
  | i + 7, hi, _ => omega
end Go.Proofs.YtgonfcjdhbjkcaaDoor.Rf
