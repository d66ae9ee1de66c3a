/- EmitLoads: what is loaded has that text, and may be; the law's function gives true. -/
import Derived.Test.YtgonfcjdhbjkcaaDoorE15
set_option linter.unusedVariables false
set_option linter.unusedSimpArgs false
namespace Go.Proofs.YtgonfcjdhbjkcaaDoor.Rf
open Go

theorem loop_good {A R : Type} {body : A → (A → Option R) → Option R} (Good : Option R → Prop) (I : Nat → A → Prop)
    (step : ∀ m x, I m x → ∀ k, (∀ m' y, m' < m → I m' y → Good (k y)) → Good (body x k)) : ∀ n m x, m < n → I m x → Good (loopB body n x) := by
  intro n
  induction n with
  | zero => intro m x h; omega
  | succ n ih =>
    intro m x h hi
    rw [loopB_succ]
    exact step m x hi _ (fun m' y hm hi' => ih m' y (by omega) hi')
theorem readRows_ok {s : List Int} (h : s.length ≤ 1000000) : OkRows (readRowsF s).2.1 := by
  obtain ⟨h1, h2⟩ := @readRowsF_len s
  refine ⟨by omega, fun r hr => ⟨?_, by have := h2 r hr; omega⟩⟩
  rcases readRowsF_cases s with ⟨x, hx, e⟩ | ⟨_, e⟩
  · rw [e] at hr; exact hx.2.1 r hr
  · rw [e] at hr; cases hr
def Good35 (r : Option ((List (List (List Int)) × (List Int × (Bool × Unit))) × Unit)) : Prop :=
  ∃ l name ok, r = some ((l, (name, (ok, ()))), ()) ∧ (ok = true → nameB name = true ∧ l.length = 6 ∧ ∀ t ∈ l, OkRows t)
theorem good35_no : Good35 (some (([], ([], (false, ()))), ())) := ⟨_, _, _, rfl, fun h => by cases h⟩

set_option maxHeartbeats 100000000 in
theorem p27_ok (s : List Int) (hs : s.length ≤ 900000) : Good35 (p27 N0 (s, ())) := by
  unfold p27
  simp only [joinB_eq]
  rw [callB_eq (p42_eq' s [10] (by omega))]
  obtain ⟨hl1, hl2⟩ := cutI_len s [10]
  simp only
  rw [callB_eq (p43_eq' _ _)]
  simp only
  cases (cutI s [10]).2.2
  · exact good35_no
  simp only [Bool.not_true, cond_false]
  cases (cpI (cutI s [10]).1 [112, 97, 99, 107, 97, 103, 101, 32]).2
  · exact good35_no
  simp only [Bool.not_true, cond_false]
  generalize (cpI (cutI s [10]).1 [112, 97, 99, 107, 97, 103, 101, 32]).1 = name
  rw [callB_eq (p44_eq' name)]
  cases hn : nameB name
  · exact good35_no
  simp only [Bool.not_true, cond_false]
  rw [callB_eq p18_eq']
  generalize (cutI s [10]).2.1 = rest0 at hl2
  refine loop_good Good35 (fun mm x => ∃ (i : Nat) (rest : List Int) (out : List (List (List Int))), x = ((), (rest, (out, ((i : Int), ())))) ∧ mm + i = 6 ∧ rest.length ≤ 900000 ∧ out.length = i ∧ ∀ t ∈ out, OkRows t) ?_ N0 6 _ (by unfold N0; omega) ⟨0, rest0, [], rfl, rfl, by omega, rfl, fun t h => by cases h⟩
  rintro mm x ⟨i, rest, out, rfl, hmm, hrl, hol, hok⟩ k hk
  have hnl : (namesI.length : Int) = 6 := rfl
  rcases Nat.eq_zero_or_pos mm with rfl | hm0
  · have c1 : ¬ (i : Int) < (namesI.length : Int) := by omega
    simp only
    rw [decide_eq_false c1, cond_false]
    exact ⟨_, _, _, rfl, fun _ => ⟨hn, by omega, hok⟩⟩
  obtain ⟨mm, rfl⟩ : ∃ m', mm = m' + 1 := ⟨mm - 1, by omega⟩
  have c1 : (i : Int) < (namesI.length : Int) := by omega
  have hi : i < namesI.length := by omega
  have zi : (0 : Int) ≤ (i : Int) := Int.natCast_nonneg _
  simp only
  rw [decide_eq_true c1, cond_true, if_pos zi, Int.toNat_natCast, List.getElem?_eq_getElem hi]
  simp only
  rw [callB_eq (p42_eq' rest [10, 125, 10] (by omega))]
  obtain ⟨m1, m2⟩ := cutI_len rest [10, 125, 10]
  have m3 := cpI_len (cutI rest [10, 125, 10]).1 [10]
  simp only
  rw [callB_eq (p43_eq' _ _)]
  simp only
  rw [if_pos (by simp only [List.length_cons, List.length_nil]; omega), callB_eq (p45_eq' _ (by simp only [List.length_append, List.length_cons, List.length_nil]; omega))]
  have hrows := readRows_ok (s := (cpI (cutI rest [10, 125, 10]).1 [10]).1 ++ [10, 125, 10]) (by simp only [List.length_append, List.length_cons, List.length_nil]; omega)
  generalize readRowsF ((cpI (cutI rest [10, 125, 10]).1 [10]).1 ++ [10, 125, 10]) = rr at hrows
  simp only
  cases (cutI rest [10, 125, 10]).2.2
  · exact good35_no
  simp only [Bool.not_true, cond_false]
  cases (cpI (cutI rest [10, 125, 10]).1 [10]).2
  · exact good35_no
  simp only [Bool.not_true, cond_false]
  cases rr.2.2
  · exact good35_no
  simp only [Bool.not_true, cond_false]
  by_cases e : rr.1 = namesI[i]
  case neg =>
    rw [decide_eq_false e]
    exact good35_no
  rw [decide_eq_true e]
  simp only [Bool.not_true, cond_false, List.length_cons, List.length_nil]
  rw [if_pos (by omega), if_pos (by omega), w_succ (show i ≤ 1000000000 by omega)]
  exact hk mm _ (Nat.lt_succ_self _) ⟨i + 1, _, _, rfl, by omega, by omega, by simp [hol], fun t ht => by
    rcases List.mem_append.1 ht with ht | ht
    · exact hok t ht
    · rw [List.mem_singleton.1 ht]; exact hrows⟩

def zeroX : Tabs := ([], ((List.replicate 256 0, ([], [])), ([], ([], ([], [])))))
def Good19 (s : List Int) (r : Option ((Tabs × (Bool × Unit)) × Unit)) : Prop :=
  ∃ x ok, r = some ((x, (ok, ())), ()) ∧ (ok = false → x = zeroX) ∧ (ok = true → nameB x.1 = true ∧ XOk x ∧ (∀ r ∈ x.2.2.1, ∀ a ∈ r, okPlain x.2.2 a) ∧ textF x = s ∧ rightX x = true)
theorem good19_no (s : List Int) : Good19 s (some ((zeroX, (false, ())), ())) := ⟨_, _, rfl, fun _ => rfl, fun h => by cases h⟩

set_option maxHeartbeats 2000000 in
theorem p12_ok (s : List Int) (hs : s.length ≤ 900000) : Good19 s (p12 N0 (s, ())) := by
  unfold p12
  simp only [joinB_eq]
  obtain ⟨l, name, ok, e35, h35⟩ := p27_ok s hs
  rw [callB_eq e35]
  cases ok
  · exact good19_no s
  obtain ⟨hname, hl6, hok⟩ := h35 rfl
  match l, hl6, hok with
  | [t0, t1, t2, t3, t4, t5], _, hok =>
  have o0 := hok t0 (by simp)
  have o1 := hok t1 (by simp)
  have o2 := hok t2 (by simp)
  have o3 := hok t3 (by simp)
  have o4 := hok t4 (by simp)
  have o5 := hok t5 (by simp)
  have z0 : (0 : Int) ≤ 0 := by omega
  have z1 : (0 : Int) ≤ 1 := by omega
  have z2 : (0 : Int) ≤ 2 := by omega
  have z3 : (0 : Int) ≤ 3 := by omega
  have z4 : (0 : Int) ≤ 4 := by omega
  have z5 : (0 : Int) ≤ 5 := by omega
  have g0 : [t0, t1, t2, t3, t4, t5][((0 : Int)).toNat]? = some t0 := rfl
  have g1 : [t0, t1, t2, t3, t4, t5][((1 : Int)).toNat]? = some t1 := rfl
  have g2 : [t0, t1, t2, t3, t4, t5][((2 : Int)).toNat]? = some t2 := rfl
  have g3 : [t0, t1, t2, t3, t4, t5][((3 : Int)).toNat]? = some t3 := rfl
  have g4 : [t0, t1, t2, t3, t4, t5][((4 : Int)).toNat]? = some t4 := rfl
  have g5 : [t0, t1, t2, t3, t4, t5][((5 : Int)).toNat]? = some t5 := rfl
  simp only [Bool.not_true, cond_false, z0, z1, z2, z3, z4, z5, if_true, g0, g1, g2, g3, g4, g5]
  by_cases q0 : (t0.length : Int) = 1
  case neg => rw [decide_eq_false q0]; exact good19_no s
  rw [decide_eq_true q0]
  simp only [Bool.not_true, cond_false]
  match t0, q0, o0 with
  | [cls], _, o0 =>
  have gc : [cls][((0 : Int)).toNat]? = some cls := rfl
  rw [gc]
  simp only
  by_cases q1 : (cls.length : Int) = 256
  case neg => rw [decide_eq_false q1]; exact good19_no s
  rw [decide_eq_true q1]
  simp only [Bool.not_true, cond_false]
  by_cases q2 : (t2.length : Int) = 1
  case neg => rw [decide_eq_false q2]; exact good19_no s
  rw [decide_eq_true q2]
  simp only [Bool.not_true, cond_false]
  by_cases q3 : (t5.length : Int) = 2
  case neg => rw [decide_eq_false q3]; exact good19_no s
  rw [decide_eq_true q3]
  simp only [Bool.not_true, cond_false]
  match t2, q2, o2 with
  | [mark], _, o2 =>
  match t5, q3, o5 with
  | [srt, lns], _, o5 =>
  have gm : [mark][((0 : Int)).toNat]? = some mark := rfl
  have gs : [srt, lns][((0 : Int)).toNat]? = some srt := rfl
  have gn : [srt, lns][((1 : Int)).toNat]? = some lns := rfl
  simp only [gm, gs, gn]
  have hcl : cls.length = 256 := by omega
  have omk := o2.2 mark (by simp)
  have osr := o5.2 srt (by simp)
  have oln := o5.2 lns (by simp)
  -- the class of each byte
  refine loop_good (Good19 s) (fun mm x => ∃ (i : Nat), x = ((zeroX, ((name, ((cls.take i ++ List.replicate (256 - i) 0, ([], [])), ([], ([], ([], []))))), ())), ((i : Int), ())) ∧ mm + i = 256 ∧ ∀ c ∈ cls.take i, 0 ≤ c ∧ c ≤ 255) ?_ N0 256 _ (by unfold N0; omega) ⟨0, rfl, rfl, fun c h => by cases h⟩
  rintro mm x ⟨i, rfl, hmm, hu8⟩ k hk
  rcases Nat.eq_zero_or_pos mm with rfl | hm0
  case inr =>
    obtain ⟨mm, rfl⟩ : ∃ m', mm = m' + 1 := ⟨mm - 1, by omega⟩
    have hi : i < cls.length := by omega
    have c1 : (i : Int) < (cls.length : Int) := by omega
    have zi : (0 : Int) ≤ (i : Int) := Int.natCast_nonneg _
    have hset : (cls.take i ++ List.replicate (256 - i) (0 : Int)).set i cls[i] = cls.take (i + 1) ++ List.replicate (256 - (i + 1)) 0 := by
      have e : (cls.take i).length = i := by rw [List.length_take]; omega
      rw [List.set_append_right _ _ (by omega), e, Nat.sub_self, show 256 - i = (256 - (i + 1)) + 1 by omega, List.replicate_succ, List.set_cons_zero, takeS hi, List.append_assoc]; rfl
    have gx : (cls.take i ++ List.replicate (256 - i) (0 : Int))[i]? = some 0 := by
      have e : (cls.take i).length = i := by rw [List.length_take]; omega
      rw [List.getElem?_append_right (by omega), e, Nat.sub_self, List.getElem?_replicate, if_pos (by omega)]
    have hts := takeS hi
    simp only [zi, if_true, Int.toNat_natCast, List.getElem?_eq_getElem hi, gx, w_succ (show i ≤ 1000000000 by omega)]
    rw [decide_eq_true c1, cond_true]
    generalize cls[i] = c at hset hts
    by_cases d1 : c < 0
    · rw [decide_eq_true d1]; exact good19_no s
    rw [decide_eq_false d1, cond_false]
    by_cases d2 : 255 < c
    · rw [decide_eq_true d2]; exact good19_no s
    rw [decide_eq_false d2, cond_false, wrapu8 (show (0 : Int) ≤ c by omega) (by omega), hset]
    exact hk mm _ (Nat.lt_succ_self _) ⟨i + 1, rfl, by omega, fun d hd => by
      rw [hts] at hd
      rcases List.mem_append.1 hd with hd | hd
      · exact hu8 d hd
      · rw [List.mem_singleton.1 hd]; omega⟩
  have c1 : ¬ (i : Int) < (cls.length : Int) := by omega
  have ei : i = 256 := by omega
  subst ei
  rw [List.take_of_length_le (by omega)] at hu8 ⊢
  simp only [Nat.sub_self, List.replicate_zero, List.append_nil]
  rw [decide_eq_false c1, cond_false]
  have hcls : Cls cls := ⟨hcl, hu8⟩
  clear hk c1
  -- the actions
  refine loop_good (Good19 s) (fun mm x => ∃ (i : Nat), x = ((zeroX, ((name, ((cls, (t1, mark)), ((t3.take i).map (fun r => r.map (rdAct (srt.length : Int))), (t4, (srt, lns))))), ())), ((i : Int), ())) ∧ mm + i = t3.length) ?_ N0 t3.length _ (by have := o3.1; unfold N0; omega) ⟨0, rfl, rfl⟩
  rintro mm x ⟨i, rfl, hmm⟩ k hk
  have ho3 := o3.1
  rcases Nat.eq_zero_or_pos mm with rfl | hm0
  case inr =>
    obtain ⟨mm, rfl⟩ : ∃ m', mm = m' + 1 := ⟨mm - 1, by omega⟩
    have hi : i < t3.length := by omega
    have c1 : (i : Int) < (t3.length : Int) := by omega
    have zi : (0 : Int) ≤ (i : Int) := Int.natCast_nonneg _
    have hrow := o3.2 _ (List.getElem_mem hi)
    have e : (t3.take (i + 1)).map (fun r => r.map (rdAct (srt.length : Int))) = (t3.take i).map (fun r => r.map (rdAct (srt.length : Int))) ++ [t3[i].map (rdAct (srt.length : Int))] := by rw [takeS hi, List.map_append]; rfl
    have hal : ((t3.take i).map (fun r => r.map (rdAct (srt.length : Int)))).length ≤ 1000000 := by rw [List.length_map, List.length_take]; omega
    simp only [zi, if_true, Int.toNat_natCast, List.getElem?_eq_getElem hi]
    rw [decide_eq_true c1, cond_true]
    have hk' := hk mm _ (Nat.lt_succ_self _) ⟨i + 1, rfl, by omega⟩
    rw [e] at hk'
    generalize t3[i] = row at hrow hk'
    refine loop_good (Good19 s) (fun mq x => ∃ (j : Nat), x = ((zeroX, ((name, ((cls, (t1, mark)), ((t3.take i).map (fun r => r.map (rdAct (srt.length : Int))), (t4, (srt, lns))))), ())), ((row.take j).map (rdAct (srt.length : Int)), ((j : Int), ()))) ∧ mq + j = row.length) ?_ N0 row.length _ (by have := hrow.2; unfold N0; omega) ⟨0, rfl, rfl⟩
    rintro mq x ⟨j, rfl, hmq⟩ k2 hk2
    have hrl := hrow.2
    rcases Nat.eq_zero_or_pos mq with rfl | hq0
    · have c2 : ¬ (j : Int) < (row.length : Int) := by omega
      simp only
      rw [decide_eq_false c2, cond_false, List.take_of_length_le (show row.length ≤ j by omega), w_succ (show i ≤ 1000000000 by omega), if_pos (by simp only [List.length_cons, List.length_nil]; omega), if_pos (by simp only [List.length_cons, List.length_nil]; omega)]
      exact hk'
    obtain ⟨mq, rfl⟩ : ∃ m', mq = m' + 1 := ⟨mq - 1, by omega⟩
    have hj : j < row.length := by omega
    have c2 : (j : Int) < (row.length : Int) := by omega
    have zj : (0 : Int) ≤ (j : Int) := Int.natCast_nonneg _
    have hnj := hrow.1 _ (List.getElem_mem hj)
    have e2 : (row.take (j + 1)).map (rdAct (srt.length : Int)) = (row.take j).map (rdAct (srt.length : Int)) ++ [rdAct (srt.length : Int) row[j]] := by rw [takeS hj, List.map_append]; rfl
    have hrl2 : ((row.take j).map (rdAct (srt.length : Int))).length ≤ 1000000 := by rw [List.length_map, List.length_take]; omega
    have hk3 := hk2 mq _ (Nat.lt_succ_self _) ⟨j + 1, rfl, by omega⟩
    rw [e2] at hk3
    simp only [zj, if_true, Int.toNat_natCast, List.getElem?_eq_getElem hj, w_succ (show j ≤ 1000000000 by omega)]
    rw [decide_eq_true c2, cond_true, callB_eq (p28_eq' _ _ hnj)]
    simp only
    rw [if_pos (by simp only [List.length_cons, List.length_nil]; omega), if_pos (by simp only [List.length_cons, List.length_nil]; omega)]
    exact hk3
  have c1 : ¬ (i : Int) < (t3.length : Int) := by omega
  rw [List.take_of_length_le (show t3.length ≤ i by omega)]
  simp only
  rw [decide_eq_false c1, cond_false]
  clear hk
  have hx : XOk (name, ((cls, (t1, mark)), (t3.map (fun r => r.map (rdAct (srt.length : Int))), (t4, (srt, lns))))) :=
    { name := by have := (name_len hname).2; simp only; omega
      cls := hcls
      next := o1
      mark := omk
      sz := ⟨by simp only [List.length_map]; exact o3.1, fun r hr => by
        obtain ⟨q, hq, rfl⟩ := List.mem_map.1 hr
        rw [List.length_map]; exact (o3.2 q hq).2, o4.1, fun r hr => (o4.2 r hr).2, osr.2, oln.2⟩
      gots := o4
      sorts := osr.1
      lens := oln.1 }
  have hpl : ∀ r ∈ t3.map (fun r => r.map (rdAct (srt.length : Int))), ∀ a ∈ r, okPlain (t3.map (fun r => r.map (rdAct (srt.length : Int))), (t4, (srt, lns))) a := by
    intro r hr a ha
    obtain ⟨q, hq, rfl⟩ := List.mem_map.1 hr
    obtain ⟨n, _, rfl⟩ := List.mem_map.1 ha
    exact rdAct_plain _ n
  rw [callB_eq (p8_eq' _ hx)]
  by_cases ht : textF (name, ((cls, (t1, mark)), (t3.map (fun r => r.map (rdAct (srt.length : Int))), (t4, (srt, lns))))) = s
  case neg => rw [decide_eq_false ht]; exact good19_no s
  rw [decide_eq_true ht]
  simp only [Bool.not_true, cond_false]
  rw [callB_eq (p11_eq' _ hx (fun r hr => by have := (o1.2 r hr).2; omega))]
  cases hrx : rightX (name, ((cls, (t1, mark)), (t3.map (fun r => r.map (rdAct (srt.length : Int))), (t4, (srt, lns)))))
  · exact good19_no s
  · exact ⟨_, _, rfl, fun h => (by cases h), fun _ => ⟨hname, hx, hpl, ht, hrx⟩⟩

end Go.Proofs.YtgonfcjdhbjkcaaDoor.Rf
