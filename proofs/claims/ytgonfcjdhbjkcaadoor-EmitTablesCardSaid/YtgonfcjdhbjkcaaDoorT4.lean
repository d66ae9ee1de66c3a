/- EmitTables. -/
import Derived.Test.YtgonfcjdhbjkcaaDoorT3
set_option linter.unusedVariables false
set_option linter.unusedSimpArgs false
namespace Go.Proofs.YtgonfcjdhbjkcaaDoor.Rf
open Go

theorem tailB_ge : ∀ (l : List Int), l.length ≤ (tailB l).length := by
  intro l
  induction l with
  | nil => exact Nat.zero_le _
  | cons n l ih =>
    simp only [tailB, List.flatMap_cons, List.length_append, List.length_cons] at ih ⊢
    omega
theorem lineL_ge (l : List Int) : l.length ≤ (lineL l).length := by
  cases l with
  | nil => exact Nat.zero_le _
  | cons n l =>
    have h1 := tailB_ge l
    have h2 := digI_pos n
    simp only [lineL, rowI, bodyB, List.length_cons, List.length_append, List.length_nil]
    omega
theorem no10_inj : ∀ {a b r s : List Int}, no10 a → no10 b → a ++ 10 :: r = b ++ 10 :: s → a = b ∧ r = s := by
  intro a
  induction a with
  | nil =>
    intro b r s _ hb e
    cases b with
    | nil => simp at e; exact ⟨rfl, e⟩
    | cons c b =>
      simp at e
      exact absurd e.1.symm (hb c (by simp))
  | cons c a ih =>
    intro b r s ha hb e
    cases b with
    | nil =>
      simp at e
      exact absurd e.1 (ha c (by simp))
    | cons d b =>
      simp only [List.cons_append, List.cons.injEq] at e
      obtain ⟨h1, h2⟩ := ih (fun x hx => ha x (by simp [hx])) (fun x hx => hb x (by simp [hx])) e.2
      exact ⟨by rw [e.1, h1], h2⟩
theorem get10 {A B : List Int} (hA : no10 A) (hB : no10 B) {p : Nat} (h : (10 :: (A ++ 10 :: B))[p]? = some 10) : p = 0 ∨ p = A.length + 1 := by
  cases p with
  | zero => exact .inl rfl
  | succ p =>
    right
    rw [List.getElem?_cons_succ] at h
    rcases Nat.lt_trichotomy p A.length with h1 | h1 | h1
    · rw [List.getElem?_append_left h1] at h
      exact absurd rfl (hA 10 (List.mem_of_getElem? h))
    · rw [h1]
    · rw [List.getElem?_append_right (by omega)] at h
      obtain ⟨k, hk⟩ : ∃ k, p - A.length = k + 1 := ⟨p - A.length - 1, by omega⟩
      rw [hk, List.getElem?_cons_succ] at h
      exact absurd rfl (hB 10 (List.mem_of_getElem? h))
theorem rest_class (x : Tabs) : ∃ Q, restT x 0 = (10 :: (headL nClass ++ 10 :: lineL x.2.1.1)) ++ Q := by
  refine ⟨[10, 125, 10] ++ restT x 1, ?_⟩
  show (10 :: rowsI nClass [x.2.1.1]) ++ restT x 1 = _
  rw [rowsI_body]
  simp [bodyT]
theorem name_none (x x' : Tabs) (hx' : XOk x') (hn' : nameB x'.1 = true) (hlen : x.1.length ≤ 60) (he : textF x' = textF x) : nameB x.1 = true := by
  have e : x'.1 ++ 10 :: restT x' 0 = x.1 ++ 10 :: restT x 0 := by
    rw [textF_rest, textF_rest] at he
    simpa [packI] using he
  have hno' : no10 x'.1 := name_no10 hn'
  rcases cut10 x.1 with ⟨a, b, hab, hna, _⟩ | ⟨hno, _⟩
  · exfalso
    rw [hab, List.append_assoc, List.cons_append] at e
    obtain ⟨_, e2⟩ := no10_inj hno' hna e
    obtain ⟨Q, hQ⟩ := rest_class x'
    obtain ⟨Q2, hQ2⟩ := rest_class x
    have hbl : b.length ≤ 59 := by rw [hab] at hlen; simp only [List.length_append, List.length_cons] at hlen; omega
    have hcl := hx'.cls.len
    have hge := lineL_ge x'.2.1.1
    have hh : (headL nClass).length = 20 := by decide
    have hPl : (10 :: (headL nClass ++ 10 :: lineL x'.2.1.1)).length = (headL nClass).length + (lineL x'.2.1.1).length + 2 := by simp only [List.length_cons, List.length_append]; omega
    have g0 : (restT x' 0)[b.length]? = some 10 := by rw [e2]; simp
    have g1 : (restT x' 0)[b.length + 1]? = some 10 := by rw [e2, hQ2]; simp
    rw [hQ, List.getElem?_append_left (by rw [hPl]; omega)] at g0 g1
    have hA : no10 (headL nClass) := headL_no10 (name_no10 (show nameB nClass = true by decide))
    have hB : no10 (lineL x'.2.1.1) := lineL_no10 _
    have r0 := get10 hA hB g0
    have r1 := get10 hA hB g1
    omega
  · obtain ⟨h1, _⟩ := no10_inj hno' hno e
    rw [← h1]; exact hn'

theorem rows_len2 {name : List Int} {l : List (List Int)} (c : Nat) (h : ∀ r ∈ l, Ins r ∧ r.length ≤ c) : (rowsI name l).length ≤ name.length + (22 * c + 5) * l.length + 18 := by
  have lines : (l.flatMap lineI).length ≤ (22 * c + 5) * l.length := by
    induction l with
    | nil => simp
    | cons r l ih =>
      obtain ⟨h1, h2⟩ := h r (by simp)
      have h3 := ih (fun m hm => h m (by simp [hm]))
      have h4 := rowI_len h1
      simp only [List.flatMap_cons, List.length_append, List.length_cons, lineI, List.length_nil, Nat.mul_succ]
      generalize (22 * c + 5) * l.length = K at h3 ⊢
      omega
  simp only [rowsI, headI, List.length_append, List.length_cons, List.length_nil]
  generalize (22 * c + 5) * l.length = K at lines ⊢
  omega
theorem text_len (x : Tabs) (h : XOk x) (hn : x.1.length ≤ 60) (hd : SmD x.2.1) (ht : SmT x.2.2) : (textF x).length ≤ 900000 := by
  have l1 := @rows_len2 nClass [x.2.1.1] 256 (fun r hr => ⟨((ok_class h).2 r hr).1, by rw [List.mem_singleton.1 hr, h.cls.len]; omega⟩)
  have l2 := @rows_len2 nNext x.2.1.2.1 256 (fun r hr => ⟨(h.next.2 r hr).1, hd.r r hr⟩)
  have l3 := @rows_len2 nMark [x.2.1.2.2] 30 (fun r hr => ⟨((ok_mark h).2 r hr).1, by rw [List.mem_singleton.1 hr]; exact hd.m⟩)
  have l4 := @rows_len2 nAction (actsI x.2.2.1) 40 (fun r hr => ⟨((ok_acts h).2 r hr).1, by
    obtain ⟨q, hq, rfl⟩ := List.mem_map.1 hr
    rw [List.length_map]; exact ht.ar q hq⟩)
  have l5 := @rows_len2 nGoto x.2.2.2.1 40 (fun r hr => ⟨(h.gots.2 r hr).1, ht.gr r hr⟩)
  have l6 := @rows_len2 nProd [x.2.2.2.2.1, x.2.2.2.2.2] 40 (fun r hr => ⟨((ok_prod h).2 r hr).1, by
    simp only [List.mem_cons, List.not_mem_nil, or_false] at hr
    rcases hr with rfl | rfl
    · exact ht.s
    · exact ht.l⟩)
  have a1 := hd.n
  have a2 := ht.a
  have a3 := ht.g
  have a4 : (actsI x.2.2.1).length = x.2.2.1.length := by unfold actsI; rw [List.length_map]
  have n1 : nClass.length = 5 := rfl
  have n2 : nNext.length = 4 := rfl
  have n3 : nMark.length = 4 := rfl
  have n4 : nAction.length = 6 := rfl
  have n5 : nGoto.length = 5 := rfl
  have n6 : nProd.length = 4 := rfl
  simp only [List.length_cons, List.length_nil] at l1 l3 l6
  unfold textF
  simp only [packI, List.length_append, List.length_cons, List.length_nil]
  omega

theorem p3_true (name : List Int) (d : Dfa) (t : Tbl) (hc : Cls d.1) (hnx : ∀ r ∈ d.2.1, Ins r) (hmk : Ins d.2.2) (hgt : ∀ r ∈ t.2.1, Ins r) (hs : Ins t.2.2.1) (hl : Ins t.2.2.2) : p3 N0 (name, (d, (t, ()))) = some ((true, ()), ()) := by
  suffices key : ∀ n, n = N0 → p3 n (name, (d, (t, ()))) = some ((true, ()), ()) from key N0 rfl
  intro n hN
  simp only [p3, joinB_eq]
  rw [callB_eq (show p4 n () = _ from by rw [hN]; exact p4_eq')]
  simp only [Bool.not_true, cond_false]
  obtain ⟨b5, e5, h5⟩ := p5_eq' d
  rw [callB_eq (show p5 n (d, ()) = _ from by rw [hN]; exact e5)]
  cases b5
  · rfl
  have hd := h5 rfl
  simp only [Bool.not_true, cond_false]
  obtain ⟨b6, e6, h6⟩ := p6_eq'' t
  rw [callB_eq (show p6 n (t, ()) = _ from by rw [hN]; exact e6)]
  cases b6
  · rfl
  have ht := h6 rfl
  simp only [Bool.not_true, cond_false]
  by_cases hnl : (60 : Int) < (name.length : Int)
  · rw [decide_eq_true hnl, cond_true]
  rw [decide_eq_false hnl, cond_false]
  have hsz : Sized t := ⟨by have := ht.a; omega, fun r hr => by have := ht.ar r hr; omega, by have := ht.g; omega, fun r hr => by have := ht.gr r hr; omega, by have := ht.s; omega, by have := ht.l; omega⟩
  have hx : XOk (name, (d, t)) :=
    { name := by simp only; omega
      cls := hc
      next := ⟨by have := hd.n; simp only; omega, fun r hr => ⟨hnx r hr, by have := hd.r r hr; omega⟩⟩
      mark := ⟨hmk, by have := hd.m; simp only; omega⟩
      sz := hsz
      gots := ⟨by have := ht.g; simp only; omega, fun r hr => ⟨hgt r hr, by have := ht.gr r hr; omega⟩⟩
      sorts := hs
      lens := hl }
  have hrl : ∀ r ∈ d.2.1, r.length ≤ 100000000 := fun r hr => by have := hd.r r hr; omega
  have htl := text_len (name, (d, t)) hx (by simp only; omega) hd ht
  rw [callB_eq (show p7 n (t, ()) = _ from by rw [hN]; exact p7_eq' t hsz.a hsz.ar)]
  simp only
  rw [callB_eq (show p8 n ((name, (d, t)), ()) = _ from by rw [hN]; exact p8_eq' _ hx)]
  simp only
  rw [callB_eq (show p9 n (d, (t, ())) = _ from by rw [hN]; exact p9_eq' (name, (d, t)) hx hrl)]
  simp only
  rw [callB_eq (show p10 n (name, (d, (t, ()))) = _ from by rw [hN]; exact p10_eq' (name, (d, t)) hx)]
  simp only [dec_self, Bool.not_true, cond_false]
  rw [callB_eq (show p11 n ((name, (d, t)), ()) = _ from by rw [hN]; exact p11_eq' _ hx hrl)]
  simp only [beq_self_eq_true, Bool.not_true, cond_false]
  obtain ⟨y, ok, e12, hz, hy⟩ := p12_ok (textF (name, (d, t))) htl
  rw [callB_eq (show p12 n (textF (name, (d, t)), ()) = _ from by rw [hN]; exact e12)]
  have e13 : p13 n (name, ()) = some ((nameB name, ()), ()) := by rw [hN]; exact p13_eq' name (by omega)
  obtain ⟨b14, e14, h14⟩ := p14_eq'' t ht
  have e14' : p14 n (t, ()) = some ((b14, ()), ()) := by rw [hN]; exact e14
  cases hnb : nameB name
  · have hok : ok = false := by
      cases ok
      · rfl
      · obtain ⟨q1, q2, _, q4, _⟩ := hy rfl
        have := name_none (name, (d, t)) y q2 q1 (by simp only; omega) q4
        rw [hnb] at this; cases this
    subst hok
    rw [hz rfl]
    rw [hnb] at e13
    simp only [Bool.not_false, cond_true, zeroX, List.length_nil]
    rw [callB_eq e13]
    rfl
  rw [hnb] at e13
  cases b14
  · cases ok
    · rw [hz rfl]
      simp only [Bool.not_false, cond_true, zeroX, List.length_nil]
      rw [callB_eq e13]
      simp only [Bool.not_true, cond_false]
      rw [callB_eq e14']
      rfl
    · simp only [Bool.not_true, cond_false]
      rw [callB_eq e13]
      simp only [Bool.not_true, cond_false]
      rw [callB_eq e14']
      rfl
  have hp := h14 rfl
  have e12' := p12_text (name, (d, t)) hx hnb (by omega) hp hrl
  rw [e12] at e12'
  simp only [Option.some.injEq, Prod.mk.injEq, and_true] at e12'
  obtain ⟨ey, eo⟩ := e12'
  cases hr : rightX (name, (d, t))
  · rw [hr] at ey eo
    subst eo
    rw [hz rfl]
    simp only [Bool.not_false, cond_true, zeroX, List.length_nil]
    rw [callB_eq e13]
    simp only [Bool.not_true, cond_false]
    rw [callB_eq e14']
    rfl
  · rw [hr] at ey eo
    subst eo
    have ey : y = (name, (d, t)) := ey
    subst ey
    simp only [Bool.not_true, cond_false]
    rw [callB_eq e13]
    simp only [Bool.not_true, cond_false]
    rw [callB_eq e14']
    simp only [Bool.not_true, cond_false, cond_true, dec_self]
    rw [callB_eq (show p15 n (d, (d, ())) = _ from by rw [hN]; exact p15_eq'' d hd)]
    simp only [cond_true]
    rw [callB_eq (show p16 n (t, (t, ())) = _ from by rw [hN]; exact p16_eq'' t ht)]
    rfl
end Go.Proofs.YtgonfcjdhbjkcaaDoor.Rf
