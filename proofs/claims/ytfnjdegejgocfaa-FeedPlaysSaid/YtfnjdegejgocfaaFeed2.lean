/- Feeds: calls of two of them; what the law shows. -/
import Derived.Test.YtfnjdegejgocfaaFeed1
set_option linter.unusedVariables false
set_option linter.unusedSimpArgs false
namespace Go.Proofs.Ytfnjdegejgocfaa.Rf
open Go

/-- Things go from one to another: what waits, how many went. -/
def mvF (c : Nat) (shut : Bool) (most : Int) : List Int → List Int → Int → List Int × (List Int × Int)
  | [], t, n => ([], (t, n))
  | v :: f, t, n => if n < most ∧ shut = false ∧ t.length < c then mvF c shut most f (t ++ [v]) (incr n) else (v :: f, (t, n))

theorem mvF_ok (c : Nat) (shut : Bool) (most : Int) : ∀ (f t : List Int) (n : Int), t.length ≤ c → (mvF c shut most f t n).1.length ≤ f.length ∧ (mvF c shut most f t n).2.1.length ≤ c := by
  intro f
  induction f with
  | nil => intro t n h; exact ⟨Nat.le_refl _, h⟩
  | cons v f ih =>
    intro t n h
    unfold mvF
    split
    · rename_i hc
      have := ih (t ++ [v]) (incr n) (by simp; omega)
      exact ⟨by simp only [List.length_cons]; omega, this.2⟩
    · exact ⟨Nat.le_refl _, h⟩

theorem p33_eq (a b : Fd) (most : Int) (ha : FdOk a) (hb : FdOk b) : p33 N0 (a, (b, (most, ()))) = some (((mvF b.1.1 b.2.1 most a.1.2 b.1.2 0).2.2, ()), (((a.1.1, (mvF b.1.1 b.2.1 most a.1.2 b.1.2 0).1), a.2), (((b.1.1, (mvF b.1.1 b.2.1 most a.1.2 b.1.2 0).2.1), b.2), ()))) := by
  obtain ⟨⟨ca, la⟩, ga⟩ := a
  obtain ⟨⟨cb, lb⟩, sb, lob⟩ := b
  obtain ⟨h1, h2⟩ := ha
  obtain ⟨h3, h4⟩ := hb
  simp only at h1 h2 h3 h4
  simp only [p33]
  refine loop_rule (fun m x r => ∃ f t n, m = f.length ∧ t.length ≤ cb ∧ x = ((((ca, f), ga), (((cb, t), (sb, lob)), ())), (n, ())) ∧ r = some (((mvF cb sb most f t n).2.2, ()), (((ca, (mvF cb sb most f t n).1), ga), (((cb, (mvF cb sb most f t n).2.1), (sb, lob)), ())))) ?_ N0 la.length _ _ (by unfold N0; omega) ⟨la, lb, 0, rfl, h3, rfl, rfl⟩
  rintro m x r ⟨f, t, n, rfl, ht, rfl, rfl⟩ k hk
  have hst : ∀ n, ¬ n < most ∨ sb = true ∨ ¬ t.length < cb → mvF cb sb most f t n = (f, (t, n)) := by
    intro n hn
    cases f with
    | nil => rfl
    | cons v f =>
      unfold mvF
      rw [if_neg]
      rintro ⟨q1, q2, q3⟩
      rcases hn with hn | hn | hn
      · exact hn q1
      · rw [q2] at hn; cases hn
      · exact hn q3
  by_cases hm : n < most
  case neg =>
    rw [hst n (.inl hm)]
    simp only [decide_eq_false hm, cond_false]
  simp only [decide_eq_true hm, cond_true, joinB_eq]
  cases sb
  case true =>
    rw [hst n (.inr (.inl rfl))]
    rfl
  simp only [cond_false]
  by_cases hl : t.length < cb
  case neg =>
    rw [hst n (.inr (.inr hl))]
    have : (t.length : Int) = (cb : Int) := by omega
    simp only [this, decide_true, cond_true]
  have hne : ¬ (t.length : Int) = (cb : Int) := by omega
  simp only [decide_eq_false hne, cond_false]
  cases f with
  | nil => rfl
  | cons v f =>
    have r1 : chRoom (cb, t) = true := chRoom_iff.2 hl
    have q1 : chPut (cb, t) v = (cb, t ++ [v]) := by simp [chPut, r1]
    have e1 : chHd (ca, v :: f) = v := rfl
    have e2 : chTl (ca, v :: f) = (ca, f) := rfl
    simp only [ix_dec, has_cons, cond_true, e1, e2, r1, q1]
    have e3 : mvF cb false most (v :: f) t n = mvF cb false most f (t ++ [v]) (incr n) := by
      rw [mvF, if_pos ⟨hm, rfl, hl⟩]
    rw [e3]
    exact hk f.length _ _ (by simp) ⟨f, t ++ [v], incr n, rfl, by simp; omega, rfl, rfl⟩

theorem p32_eq (a b : Fd) (most : Int) (ha : FdOk a) (hb : FdOk b) : p32 N0 (rdOf a, (rdOf b, (most, ()))) = some ((rdOf ((a.1.1, (mvF b.1.1 b.2.1 most a.1.2 b.1.2 0).1), a.2), (rdOf ((b.1.1, (mvF b.1.1 b.2.1 most a.1.2 b.1.2 0).2.1), b.2), ((mvF b.1.1 b.2.1 most a.1.2 b.1.2 0).2.2, ()))), ()) := by
  obtain ⟨⟨ca, la⟩, sa, loa⟩ := a
  obtain ⟨⟨cb, lb⟩, sb, lob⟩ := b
  obtain ⟨h1, h2⟩ := ha
  obtain ⟨h3, h4⟩ := hb
  simp only at h1 h2 h3 h4
  simp only [p32]
  refine loop_rule (fun m x r => ∃ f t n y z, m = f.length ∧ f.length ≤ ca ∧ t.length ≤ cb ∧ x = ((rdOf ((ca, f), (sa, loa)), (rdOf ((cb, t), (sb, lob)), (y, (z, ())))), (n, ())) ∧ r = some ((rdOf ((ca, (mvF cb sb most f t n).1), (sa, loa)), (rdOf ((cb, (mvF cb sb most f t n).2.1), (sb, lob)), ((mvF cb sb most f t n).2.2, ()))), ())) ?_ N0 la.length _ _ (by unfold N0; omega) ⟨la, lb, 0, _, _, rfl, h1, h3, rfl, rfl⟩
  rintro m x r ⟨f, t, n, y, z, rfl, hf, ht, rfl, rfl⟩ k hk
  have hst : ∀ n, ¬ n < most ∨ sb = true ∨ ¬ t.length < cb → mvF cb sb most f t n = (f, (t, n)) := by
    intro n hn
    cases f with
    | nil => rfl
    | cons v f =>
      unfold mvF
      rw [if_neg]
      rintro ⟨q1, q2, q3⟩
      rcases hn with hn | hn | hn
      · exact hn q1
      · rw [q2] at hn; cases hn
      · exact hn q3
  by_cases hm : n < most
  case neg =>
    rw [hst n (.inl hm)]
    simp only [joinB_eq, decide_eq_false hm, cond_false]
  simp only [decide_eq_true hm, cond_true, joinB_eq]
  cases f with
  | nil =>
    show (bif decide ((0 : Int) < ((([] : List Int).length : Nat) : Int)) then _ else _) = _
    rw [decide_eq_false (by simp)]
    rfl
  | cons v f =>
  have c0 : (0 : Int) < (((rdOf ((ca, v :: f), (sa, loa))).1.length : Nat) : Int) := by simp [rdOf]
  simp only [decide_eq_true c0, cond_true]
  cases sb
  case true =>
    rw [hst n (.inr (.inl rfl))]
    rfl
  show (bif (!false) then _ else _) = _
  simp only [Bool.not_false, cond_true]
  by_cases hl : t.length < cb
  case neg =>
    rw [hst n (.inr (.inr hl))]
    have : ¬ (((rdOf ((cb, t), (false, lob))).1.length : Nat) : Int) < (rdOf ((cb, t), (false, lob))).2.1 := by simp [rdOf]; omega
    simp only [decide_eq_false this, cond_false]
  have c1 : (((rdOf ((cb, t), (false, lob))).1.length : Nat) : Int) < (rdOf ((cb, t), (false, lob))).2.1 := by simp [rdOf]; omega
  simp only [decide_eq_true c1, cond_true]
  simp only [List.length_cons] at hf
  have r1 : room ((cb, t), (false, lob)) = true := by simp [room, chRoom_iff, hl]
  rw [callB_eq (p35_eq N0 ((ca, v :: f), (sa, loa)) ⟨by simp only [List.length_cons]; omega, h2⟩)]
  simp only [List.headD_cons]
  rw [callB_eq (p67_eq N0 ((cb, t), (false, lob)) v ⟨by simp only; omega, h4⟩)]
  have e3 : mvF cb false most (v :: f) t n = mvF cb false most f (t ++ [v]) (incr n) := by
    rw [mvF, if_pos ⟨hm, rfl, hl⟩]
  rw [e3]
  refine hk f.length _ _ (by simp) ⟨f, t ++ [v], incr n, y, z, rfl, by omega, by simp; omega, ?_, rfl⟩
  simp only [putF, r1, if_true]
  rfl

theorem takeF_ok {f : Fd} (h : FdOk f) : FdOk (takeF f) := ⟨by have := h.le; simp only [takeF, List.length_tail]; omega, h.cap⟩
theorem putF_ok {f : Fd} {v : Int} (h : FdOk f) : FdOk (putF f v) := by
  unfold putF
  split
  · rename_i hr
    simp only [room, Bool.and_eq_true, chRoom_iff] at hr
    exact ⟨by simp; omega, h.cap⟩
  · exact ⟨h.le, h.cap⟩

/-- Either. -/
theorem p34_eq (n : Nat) (a b : Fd) : p34 n (a, (b, ())) = some ((if a.1.2 = [] then (if b.1.2 = [] then (0, (0, (3, ()))) else (b.1.2.headD 0, (1, (0, ())))) else (a.1.2.headD 0, (0, (0, ())))), (takeF a, ((if a.1.2 = [] then takeF b else b), ()))) := by
  obtain ⟨⟨ca, la⟩, ga⟩ := a
  obtain ⟨⟨cb, lb⟩, gb⟩ := b
  simp only [p34]
  rw [callB_eq (p22_eq n ((ca, la), ga))]
  cases la with
  | cons v l => rfl
  | nil =>
    simp only [List.isEmpty_nil, cond_true]
    show (bif decide ((3 : Int) = 0) then _ else _) = _
    rw [decide_eq_false (by decide), cond_false, callB_eq (p22_eq n ((cb, lb), gb))]
    cases lb <;> rfl

/-- One call at both. -/
def oneF (o : Int × (Int × Bool)) (f : Fd) : Fd :=
  if o.1 = 0 then putF f o.2.1 else if o.1 = 1 then takeF f else if o.1 = 2 then f else if o.1 = 3 then emptyF f else if o.1 = 4 then (f.1, (true, f.2.2)) else f
theorem oneF_ok {f : Fd} (o : Int × (Int × Bool)) (h : FdOk f) : FdOk (oneF o f) := by
  unfold oneF
  split
  · exact putF_ok h
  split
  · exact takeF_ok h
  split
  · exact h
  split
  · exact ⟨Nat.zero_le _, h.cap⟩
  split
  · exact ⟨h.le, h.cap⟩
  · exact h
theorem p36_eq (f : Fd) (o : Int × (Int × Bool)) (h : FdOk f) : p36 N0 (f, (rdOf f, (o, ()))) = some ((rdOf (oneF o f), (true, ())), (oneF o f, ())) := by
  have hl : f.1.2.length ≤ 1024 := Nat.le_trans h.le h.cap
  simp only [p36]
  unfold oneF
  by_cases h0 : o.1 = 0
  · rw [decide_eq_true h0, cond_true, if_pos h0, callB_eq (p19_eq N0 f o.2.1), callB_eq (p67_eq N0 f o.2.1 h)]
    cases room f <;> rfl
  rw [decide_eq_false h0, cond_false, if_neg h0]
  by_cases h1 : o.1 = 1
  · rw [decide_eq_true h1, cond_true, if_pos h1, callB_eq (p22_eq N0 f), callB_eq (p35_eq N0 f h)]
    simp only [joinB_eq, decide_true, cond_true]
    cases f.1.2.isEmpty <;> rfl
  rw [decide_eq_false h1, cond_false, if_neg h1]
  by_cases h2 : o.1 = 2
  · rw [decide_eq_true h2, cond_true, if_pos h2, callB_eq (p21_eq f h), callB_eq (p35_eq N0 f h)]
    simp only [joinB_eq, decide_true, cond_true]
    cases f.1.2.isEmpty <;> rfl
  rw [decide_eq_false h2, cond_false, if_neg h2]
  by_cases h3 : o.1 = 3
  · rw [decide_eq_true h3, cond_true, if_pos h3, callB_eq (p39_eq f h)]
    rw [callB_eq (show p38 N0 (f.1.2, ((rdOf f).1, ())) = _ from p38_eq f.1.2 hl)]
    rfl
  rw [decide_eq_false h3, cond_false, if_neg h3]
  by_cases h4 : o.1 = 4
  · rw [decide_eq_true h4, cond_true, if_pos h4, callB_eq (p68_eq N0 f)]
    rfl
  rw [decide_eq_false h4, cond_false, if_neg h4]
theorem p37_eq (n : Nat) (f : Fd) : p37 n (f, (rdOf f, ())) = some ((true, ()), (f, ())) := by
  simp only [p37, joinB_eq]
  rw [callB_eq (p23_eq n f)]
  show (bif decide ((f.1.2.length : Int) = (f.1.2.length : Int)) then _ else _) = _
  rw [decide_eq_true rfl, cond_true, callB_eq (p69_eq n f)]
  show (bif decide ((f.1.1 : Int) = (f.1.1 : Int)) then _ else _) = _
  rw [decide_eq_true rfl, cond_true, callB_eq (p20_eq n f)]
  show (bif decide (f.2.2 = f.2.2) then _ else _) = _
  rw [decide_eq_true rfl, cond_true, callB_eq (p70_eq n f)]
  obtain ⟨⟨c, l⟩, s, lo⟩ := f
  cases s
  · rfl
  · cases l
    · rfl
    · rfl
theorem p17_eq (n : Nat) : p17 n () = some ((true, ()), ()) := by
  simp only [p17]
  rw [callB_eq (show p18 n (1, ()) = _ from p18_ok n 1 (by omega))]
  simp only [joinB_eq, decide_true, cond_true, cond_false, Bool.not_true]
  rw [callB_eq (p19_eq n ((1, []), (false, 0)) 5)]
  rw [show room ((1, []), (false, 0)) = true from rfl]
  simp only [cond_true, decide_true]
  rw [callB_eq (p19_eq n (putF ((1, []), (false, 0)) 5) 6)]
  rfl
end Go.Proofs.Ytfnjdegejgocfaa.Rf
