/- Load of a source: the tables, if they may be. -/
import Derived.Test.YtgonfcjdhbjkcaaDoorT1
set_option linter.unusedVariables false
set_option linter.unusedSimpArgs false
namespace Go.Proofs.YtgonfcjdhbjkcaaDoor.Rf
open Go

theorem rdAct_actI (t : Tbl) (a : Int × Int) (h : okPlain t a) : rdAct (t.2.2.1.length : Int) (actI a) = a := by
  obtain ⟨k, n⟩ := a
  unfold okPlain at h
  simp only at h
  rcases h with ⟨h1, h2, h3⟩ | ⟨rfl, rfl⟩ | ⟨rfl, rfl⟩
  · rcases h1 with rfl | rfl
    · have : actI (1, n) = n + 1 := by simp only [actI]; rw [if_neg (by decide), if_neg (by omega), if_pos trivial]
      rw [this]; unfold rdAct
      rw [if_neg (by omega), if_pos ⟨by omega, by omega⟩]
      congr 1; omega
    · have : actI (2, n) = -1 - n := by simp only [actI]; rw [if_neg (by decide), if_neg (by omega), if_neg (by decide), if_pos trivial]
      rw [this]; unfold rdAct
      rw [if_neg (by omega), if_neg (by omega), if_pos ⟨by omega, by omega⟩]
      congr 1; omega
  · rfl
  · rfl
theorem acts_back (t : Tbl) (h : ∀ r ∈ t.1, ∀ a ∈ r, okPlain t a) : (actsI t.1).map (fun r => r.map (rdAct (t.2.2.1.length : Int))) = t.1 := by
  unfold actsI
  rw [List.map_map]
  refine (List.map_congr_left (g := id) fun r hr => ?_).trans (List.map_id _)
  simp only [Function.comp, List.map_map, id]
  exact (List.map_congr_left (g := id) fun a ha => rdAct_actI t a (h r hr a ha)).trans (List.map_id _)

set_option maxHeartbeats 4000000 in
theorem p12_text (x : Tabs) (h : XOk x) (hn : nameB x.1 = true) (hl : (textF x).length ≤ 90000000) (hp : ∀ r ∈ x.2.2.1, ∀ a ∈ r, okPlain x.2.2 a) (hrl : ∀ r ∈ x.2.1.2.1, r.length ≤ 100000000) :
    p12 N0 (textF x, ()) = some (((bif rightX x then x else zeroX), (rightX x, ())), ()) := by
  suffices key : ∀ n, n = N0 → p12 n (textF x, ()) = some (((bif rightX x then x else zeroX), (rightX x, ())), ()) from key N0 rfl
  intro n hN
  have hback := acts_back x.2.2 hp
  have hoa := ok_acts h
  have p27c : p27 n (textF x, ()) = some ((tabsI x, (x.1, (true, ()))), ()) := by rw [hN]; exact p27_text x h hn hl
  have p8c : p8 n (x, ()) = some ((textF x, ()), ()) := by rw [hN]; exact p8_eq' x h
  have p11c : p11 n (x, ()) = some ((rightX x, ()), ()) := by rw [hN]; exact p11_eq' x h hrl
  have p28c : ∀ m pr : Int, inK .i64 m → p28 n (m, (pr, ())) = some ((rdAct pr m, ()), ()) := by intro m pr hm; rw [hN]; exact p28_eq' m pr hm
  obtain ⟨name, ⟨cls, t1, mark⟩, acts, t4, srt, lns⟩ := x
  simp only at hn hl hp hrl hback hoa
  have hcls : Cls cls := h.cls
  simp only [p12]
  generalize textF (name, ((cls, (t1, mark)), (acts, (t4, (srt, lns))))) = s at p27c p8c hl ⊢
  generalize rightX (name, ((cls, (t1, mark)), (acts, (t4, (srt, lns))))) = rb at p11c ⊢
  clear h
  rw [callB_eq p27c]
  generalize hA : actsI acts = A at hback hoa
  have z0 : (0 : Int) ≤ 0 := by omega
  have z1 : (0 : Int) ≤ 1 := by omega
  have z2 : (0 : Int) ≤ 2 := by omega
  have z3 : (0 : Int) ≤ 3 := by omega
  have z4 : (0 : Int) ≤ 4 := by omega
  have z5 : (0 : Int) ≤ 5 := by omega
  have ht : tabsI (name, ((cls, (t1, mark)), (acts, (t4, (srt, lns))))) = [[cls], t1, [mark], A, t4, [srt, lns]] := by rw [← hA]; rfl
  rw [ht]
  have g0 : [[cls], t1, [mark], A, t4, [srt, lns]][((0 : Int)).toNat]? = some [cls] := rfl
  have g1 : [[cls], t1, [mark], A, t4, [srt, lns]][((1 : Int)).toNat]? = some t1 := rfl
  have g2 : [[cls], t1, [mark], A, t4, [srt, lns]][((2 : Int)).toNat]? = some [mark] := rfl
  have g3 : [[cls], t1, [mark], A, t4, [srt, lns]][((3 : Int)).toNat]? = some A := rfl
  have g4 : [[cls], t1, [mark], A, t4, [srt, lns]][((4 : Int)).toNat]? = some t4 := rfl
  have g5 : [[cls], t1, [mark], A, t4, [srt, lns]][((5 : Int)).toNat]? = some [srt, lns] := rfl
  have gc : [cls][((0 : Int)).toNat]? = some cls := rfl
  have gm : [mark][((0 : Int)).toNat]? = some mark := rfl
  have gs : [srt, lns][((0 : Int)).toNat]? = some srt := rfl
  have gn : [srt, lns][((1 : Int)).toNat]? = some lns := rfl
  have q0 : (([cls] : List (List Int)).length : Int) = 1 := rfl
  have q1 : (cls.length : Int) = 256 := by rw [hcls.len]; rfl
  have q2 : (([mark] : List (List Int)).length : Int) = 1 := rfl
  have q3 : (([srt, lns] : List (List Int)).length : Int) = 2 := rfl
  simp only [joinB_eq, Bool.not_true, cond_false, z0, z1, z2, z3, z4, z5, if_true, g0, g1, g2, g3, g4, g5, gc, gm, gs, gn]
  rw [decide_eq_true q0, decide_eq_true q1, decide_eq_true q2, decide_eq_true q3]
  simp only [Bool.not_true, cond_false]
  generalize hres : some (((bif rb then (name, ((cls, (t1, mark)), (acts, (t4, (srt, lns))))) else zeroX), (rb, ())), ()) = res
  refine loop_rule (fun mm y r => ∃ (i : Nat), y = ((zeroX, ((name, ((cls.take i ++ List.replicate (256 - i) 0, ([], [])), ([], ([], ([], []))))), ())), ((i : Int), ())) ∧ mm + i = 256 ∧ r = res) ?_ n 256 _ _ (by rw [hN]; unfold N0; omega) ⟨0, rfl, rfl, rfl⟩
  rintro mm y r ⟨i, rfl, hmm, hr⟩ k hk
  rw [hr]
  clear hr
  rcases Nat.eq_zero_or_pos mm with rfl | hm0
  case inr =>
    obtain ⟨mm, rfl⟩ : ∃ m', mm = m' + 1 := ⟨mm - 1, by omega⟩
    have hi : i < cls.length := by omega
    have c1 : (i : Int) < (cls.length : Int) := by omega
    have zi : (0 : Int) ≤ (i : Int) := Int.natCast_nonneg _
    have hset : (cls.take i ++ List.replicate (256 - i) (0 : Int)).set i cls[i] = cls.take (i + 1) ++ List.replicate (256 - (i + 1)) 0 := by
      have e : (cls.take i).length = i := by rw [List.length_take]; omega
      rw [List.set_append_right _ _ (by omega), e, Nat.sub_self, show 256 - i = (256 - (i + 1)) + 1 by omega, List.replicate_succ, List.set_cons_zero, takeS hi, List.append_assoc]; rfl
    have gx : (cls.take i ++ List.replicate (256 - i) (0 : Int))[i]? = some 0 := by
      have e : (cls.take i).length = i := by rw [List.length_take]; omega
      rw [List.getElem?_append_right (by omega), e, Nat.sub_self, List.getElem?_replicate, if_pos (by omega)]
    have hu := hcls.u8 cls[i] (List.getElem_mem hi)
    simp only [zi, if_true, Int.toNat_natCast, List.getElem?_eq_getElem hi, gx, w_succ (show i ≤ 1000000000 by omega)]
    rw [decide_eq_true c1, cond_true]
    generalize cls[i] = c at hset hu
    have d1 : ¬ c < 0 := by omega
    have d2 : ¬ 255 < c := by omega
    rw [decide_eq_false d1, cond_false, decide_eq_false d2, cond_false, wrapu8 (show (0 : Int) ≤ c by omega) (by omega), hset]
    exact hk mm _ _ (Nat.lt_succ_self _) ⟨i + 1, rfl, by omega, rfl⟩
  have c1 : ¬ (i : Int) < (cls.length : Int) := by omega
  have ei : i = 256 := by omega
  subst ei
  have hcl := hcls.len
  rw [List.take_of_length_le (by omega)]
  simp only [Nat.sub_self, List.replicate_zero, List.append_nil]
  rw [decide_eq_false c1, cond_false]
  clear hk c1
  -- the actions
  have hAl := hoa.1
  refine loop_rule (fun mm y r => ∃ (i : Nat), y = ((zeroX, ((name, ((cls, (t1, mark)), ((A.take i).map (fun r => r.map (rdAct (srt.length : Int))), (t4, (srt, lns))))), ())), ((i : Int), ())) ∧ mm + i = A.length ∧ r = res) ?_ n A.length _ _ (by rw [hN]; unfold N0; omega) ⟨0, rfl, rfl, rfl⟩
  rintro mm y r ⟨i, rfl, hmm, hr⟩ k hk
  rw [hr]
  clear hr
  rcases Nat.eq_zero_or_pos mm with rfl | hm0
  case inr =>
    obtain ⟨mm, rfl⟩ : ∃ m', mm = m' + 1 := ⟨mm - 1, by omega⟩
    have hi : i < A.length := by omega
    have c1 : (i : Int) < (A.length : Int) := by omega
    have zi : (0 : Int) ≤ (i : Int) := Int.natCast_nonneg _
    have hrow := hoa.2 _ (List.getElem_mem hi)
    have e : (A.take (i + 1)).map (fun r => r.map (rdAct (srt.length : Int))) = (A.take i).map (fun r => r.map (rdAct (srt.length : Int))) ++ [A[i].map (rdAct (srt.length : Int))] := by rw [takeS hi, List.map_append]; rfl
    have hal : ((A.take i).map (fun r => r.map (rdAct (srt.length : Int)))).length ≤ 1000000 := by rw [List.length_map, List.length_take]; omega
    simp only [zi, if_true, Int.toNat_natCast, List.getElem?_eq_getElem hi]
    rw [decide_eq_true c1, cond_true]
    have hk' := hk mm _ _ (Nat.lt_succ_self _) ⟨i + 1, rfl, by omega, rfl⟩
    rw [e] at hk'
    generalize A[i] = row at hrow hk'
    refine loop_rule (fun mq y r => ∃ (j : Nat), y = ((zeroX, ((name, ((cls, (t1, mark)), ((A.take i).map (fun r => r.map (rdAct (srt.length : Int))), (t4, (srt, lns))))), ())), ((row.take j).map (rdAct (srt.length : Int)), ((j : Int), ()))) ∧ mq + j = row.length ∧ r = res) ?_ n row.length _ _ (by have := hrow.2; rw [hN]; unfold N0; omega) ⟨0, rfl, rfl, rfl⟩
    rintro mq y r ⟨j, rfl, hmq, hr⟩ k2 hk2
    rw [hr]
    clear hr
    have hrl := hrow.2
    rcases Nat.eq_zero_or_pos mq with rfl | hq0
    · have c2 : ¬ (j : Int) < (row.length : Int) := by omega
      simp only
      rw [decide_eq_false c2, cond_false, List.take_of_length_le (show row.length ≤ j by omega), w_succ (show i ≤ 1000000000 by omega), if_pos (by simp only [List.length_cons, List.length_nil]; omega), if_pos (by simp only [List.length_cons, List.length_nil]; omega)]
      exact hk'
    obtain ⟨mq, rfl⟩ : ∃ m', mq = m' + 1 := ⟨mq - 1, by omega⟩
    have hj : j < row.length := by omega
    have c2 : (j : Int) < (row.length : Int) := by omega
    have zj : (0 : Int) ≤ (j : Int) := Int.natCast_nonneg _
    have hnj := hrow.1 _ (List.getElem_mem hj)
    have e2 : (row.take (j + 1)).map (rdAct (srt.length : Int)) = (row.take j).map (rdAct (srt.length : Int)) ++ [rdAct (srt.length : Int) row[j]] := by rw [takeS hj, List.map_append]; rfl
    have hrl2 : ((row.take j).map (rdAct (srt.length : Int))).length ≤ 1000000 := by rw [List.length_map, List.length_take]; omega
    have hk3 := hk2 mq _ _ (Nat.lt_succ_self _) ⟨j + 1, rfl, by omega, rfl⟩
    rw [e2] at hk3
    simp only [zj, if_true, Int.toNat_natCast, List.getElem?_eq_getElem hj, w_succ (show j ≤ 1000000000 by omega)]
    rw [decide_eq_true c2, cond_true, callB_eq (p28c _ _ hnj)]
    simp only
    rw [if_pos (by simp only [List.length_cons, List.length_nil]; omega), if_pos (by simp only [List.length_cons, List.length_nil]; omega)]
    exact hk3
  have c1 : ¬ (i : Int) < (A.length : Int) := by omega
  rw [List.take_of_length_le (show A.length ≤ i by omega)]
  have hback' : A.map (fun r => r.map (rdAct (srt.length : Int))) = acts := hback
  rw [hback']
  simp only
  rw [decide_eq_false c1, cond_false]
  clear hk
  rw [callB_eq p8c]
  simp only [decide_true, Bool.not_true, cond_false]
  rw [callB_eq p11c, ← hres]
  cases rb <;> rfl
end Go.Proofs.YtgonfcjdhbjkcaaDoor.Rf
