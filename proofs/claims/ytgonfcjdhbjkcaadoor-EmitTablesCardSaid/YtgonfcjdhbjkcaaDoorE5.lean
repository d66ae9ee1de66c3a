/- A row's text cut into pieces; the numbers that a text tells. No program in sight. -/
import Derived.Test.YtgonfcjdhbjkcaaDoorE4
set_option linter.unusedVariables false
set_option linter.unusedSimpArgs false
namespace Go.Proofs.YtgonfcjdhbjkcaaDoor.Rf
open Go

/-- What stands ahead of a sign is one. -/
theorem pre_unique {k : Int} : ∀ {a b x y : List Int}, (∀ c ∈ a, c ≠ k) → (∀ c ∈ b, c ≠ k) → (x = [] ∨ ∃ u, x = k :: u) → (y = [] ∨ ∃ u, y = k :: u) → a ++ x = b ++ y → a = b ∧ x = y := by
  intro a
  induction a with
  | nil =>
    intro b x y _ hb hx hy h
    cases b with
    | nil => exact ⟨rfl, h⟩
    | cons c b =>
      rcases hx with rfl | ⟨u, rfl⟩
      · simp at h
      · simp only [List.nil_append, List.cons_append, List.cons.injEq] at h
        exact absurd h.1.symm (hb c (by simp))
  | cons c a ih =>
    intro b x y ha hb hx hy h
    cases b with
    | nil =>
      rcases hy with rfl | ⟨u, rfl⟩
      · simp at h
      · simp only [List.nil_append, List.cons_append, List.cons.injEq] at h
        exact absurd h.1 (ha c (by simp))
    | cons d b =>
      simp only [List.cons_append, List.cons.injEq] at h
      obtain ⟨e1, e2⟩ := ih (fun z hz => ha z (by simp [hz])) (fun z hz => hb z (by simp [hz])) hx hy h.2
      exact ⟨by rw [h.1, e1], e2⟩
theorem digI_ne (n k : Int) (hk : k < 45 ∨ 57 < k ∨ k = 46 ∨ k = 47) : ∀ c ∈ digI n, c ≠ k := by
  intro c hc e
  have := digI_mem n c hc
  unfold isDig at this
  omega
theorem tailB_head (l : List Int) : tailB l = [] ∨ ∃ u, tailB l = 44 :: u := by
  cases l with
  | nil => exact .inl rfl
  | cons n l => exact .inr ⟨_, rfl⟩
theorem tailB_inj : ∀ {a b : List Int}, tailB a = tailB b → a = b := by
  intro a
  induction a with
  | nil =>
    intro b h
    cases b with
    | nil => rfl
    | cons n b => cases h
  | cons m a ih =>
    intro b h
    cases b with
    | nil => cases h
    | cons n b =>
      have h : 44 :: 32 :: (digI m ++ tailB a) = 44 :: 32 :: (digI n ++ tailB b) := h
      simp only [List.cons.injEq, true_and] at h
      obtain ⟨e1, e2⟩ := pre_unique (digI_ne m 44 (by omega)) (digI_ne n 44 (by omega)) (tailB_head a) (tailB_head b) h
      rw [digI_inj e1, ih e2]
theorem bodyB_inj {a b : List Int} (h : bodyB a = bodyB b) : a = b := by
  cases a with
  | nil =>
    cases b with
    | nil => rfl
    | cons n b =>
      have h2 := digI_pos n
      have := congrArg List.length h
      simp only [bodyB, List.length_append, List.length_nil] at this; omega
  | cons m a =>
    cases b with
    | nil =>
      have h2 := digI_pos m
      have := congrArg List.length h
      simp only [bodyB, List.length_append, List.length_nil] at this; omega
    | cons n b =>
      obtain ⟨e1, e2⟩ := pre_unique (digI_ne m 44 (by omega)) (digI_ne n 44 (by omega)) (tailB_head a) (tailB_head b) h
      rw [digI_inj e1, tailB_inj e2]
theorem rowI_inj {a b : List Int} (h : rowI a = rowI b) : a = b := by
  unfold rowI at h
  have h := List.append_cancel_right h
  exact bodyB_inj (List.append_cancel_left h)

/-- The numbers that a text tells. -/
noncomputable def readF (s : List Int) : List Int × Bool := open Classical in if h : ∃ l, Ins l ∧ rowI l = s then (Classical.choose h, true) else ([], false)
theorem readF_row {l : List Int} (hi : Ins l) {s : List Int} (e : rowI l = s) : readF s = (l, true) := by
  have hx : ∃ l, Ins l ∧ rowI l = s := ⟨l, hi, e⟩
  unfold readF
  rw [dif_pos hx]
  have := Classical.choose_spec hx
  rw [rowI_inj (this.2.trans e.symm)]
theorem readF_none {s : List Int} (h : ∀ l, Ins l → rowI l ≠ s) : readF s = ([], false) := by
  unfold readF
  rw [dif_neg (fun ⟨l, h1, h2⟩ => h l h1 h2)]
theorem readF_cases (s : List Int) : (∃ l, Ins l ∧ rowI l = s ∧ readF s = (l, true)) ∨ ((∀ l, Ins l → rowI l ≠ s) ∧ readF s = ([], false)) := by
  by_cases h : ∃ l, Ins l ∧ rowI l = s
  · obtain ⟨l, h1, h2⟩ := h
    exact .inl ⟨l, h1, h2, readF_row h1 h2⟩
  · have h' : ∀ l, Ins l → rowI l ≠ s := fun l h1 h2 => h ⟨l, h1, h2⟩
    exact .inr ⟨h', readF_none h'⟩

/-! ### Where one row stands in another one -/
theorem idx_ge (s sub : List Int) : -1 ≤ idxI s sub := by
  induction s with
  | nil => unfold idxI; split <;> omega
  | cons b l ih =>
    unfold idxI
    split
    · omega
    · split <;> omega
theorem idx_at {s sub : List Int} (h : idxI s sub ≠ -1) : s = s.take (idxI s sub).toNat ++ (sub ++ s.drop ((idxI s sub).toNat + sub.length)) := by
  induction s with
  | nil =>
    unfold idxI at h
    split at h
    · rename_i e
      have : sub = [] := List.isEmpty_iff.1 e
      subst this; simp
    · exact absurd rfl h
  | cons b l ih =>
    unfold idxI at h ⊢
    split
    · rename_i e
      obtain ⟨t, ht⟩ := List.isPrefixOf_iff_prefix.1 e
      rw [← ht]; simp
    · rename_i e
      rw [if_neg e] at h
      split
      · rename_i e1; rw [if_pos e1] at h; exact absurd rfl h
      · rename_i e1
        have hi := ih e1
        have hg := idx_ge l sub
        have e2 : (idxI l sub + 1).toNat = (idxI l sub).toNat + 1 := by omega
        rw [e2, List.take_succ_cons, show (idxI l sub).toNat + 1 + sub.length = (idxI l sub).toNat + sub.length + 1 by omega, List.drop_succ_cons, List.cons_append, ← hi]
theorem idx_le {s sub : List Int} (h : idxI s sub ≠ -1) : (idxI s sub).toNat + sub.length ≤ s.length := by
  have e := congrArg List.length (idx_at h)
  rw [List.length_append, List.length_append, List.length_take, List.length_drop] at e
  have hn : (idxI s sub).toNat ≤ s.length := by
    clear e
    induction s with
    | nil => unfold idxI; split <;> simp
    | cons b l ih =>
      unfold idxI at h ⊢
      split
      · simp
      · rename_i e; rw [if_neg e] at h
        split
        · rename_i e1; rw [if_pos e1] at h; exact absurd rfl h
        · rename_i e1
          have := ih e1
          have hg := idx_ge l sub
          simp only [List.length_cons]; omega
  omega
theorem idx_none {k : Int} {s u : List Int} (h : ∀ c ∈ s, c ≠ k) : idxI s (k :: u) = -1 := by
  induction s with
  | nil => rfl
  | cons b l ih =>
    unfold idxI
    have hb := h b (by simp)
    have e : (k :: u).isPrefixOf (b :: l) = false := by
      rw [List.isPrefixOf_cons_cons]
      have : (k == b) = false := by rw [beq_eq_false_iff_ne]; exact Ne.symm hb
      rw [this]; rfl
    rw [e, ih (fun c hc => h c (by simp [hc]))]
    rfl
theorem idx_here {k : Int} {a u r : List Int} (h : ∀ c ∈ a, c ≠ k) : idxI (a ++ (k :: u) ++ r) (k :: u) = a.length := by
  induction a with
  | nil =>
    show idxI (k :: (u ++ r)) (k :: u) = 0
    unfold idxI
    have e : (k :: u).isPrefixOf (k :: (u ++ r)) = true := List.isPrefixOf_iff_prefix.2 ⟨r, rfl⟩
    rw [if_pos e]
  | cons b a ih =>
    show idxI (b :: (a ++ (k :: u) ++ r)) (k :: u) = _
    unfold idxI
    have hb := h b (by simp)
    have e : (k :: u).isPrefixOf (b :: (a ++ (k :: u) ++ r)) = false := by
      rw [List.isPrefixOf_cons_cons]
      have : (k == b) = false := by rw [beq_eq_false_iff_ne]; exact Ne.symm hb
      rw [this]; rfl
    rw [e, ih (fun c hc => h c (by simp [hc]))]
    simp only [Bool.false_eq_true, if_false, List.length_cons]
    rw [if_neg (by omega)]; omega
theorem countF_le (sub : List Int) (hs : 0 < sub.length) : ∀ (k : Nat) (s : List Int), countF sub k s ≤ s.length := by
  intro k
  induction k with
  | zero => intro s; simp [countF]
  | succ k ih =>
    intro s
    simp only [countF]
    split
    · omega
    · rename_i h
      have h1 := ih (s.drop ((idxI s sub).toNat + sub.length))
      have h2 := idx_le h
      rw [List.length_drop] at h1; omega

/-- The pieces between. -/
def splI (sep : List Int) : Nat → List Int → List (List Int)
  | 0, s => [s]
  | k + 1, s => if idxI s sep = -1 then [s] else s.take (idxI s sep).toNat :: splI sep k (s.drop ((idxI s sep).toNat + sep.length))
def joinP (sep : List Int) : List (List Int) → List Int
  | [] => []
  | p :: ps => p ++ ps.flatMap fun q => sep ++ q
theorem splI_ne (sep : List Int) (k : Nat) (s : List Int) : splI sep k s ≠ [] := by
  cases k with
  | zero => simp [splI]
  | succ k => simp only [splI]; split <;> simp
theorem join_spl (sep : List Int) : ∀ (k : Nat) (s : List Int), joinP sep (splI sep k s) = s := by
  intro k
  induction k with
  | zero => intro s; simp [splI, joinP]
  | succ k ih =>
    intro s
    simp only [splI]
    split
    · simp [joinP]
    · rename_i h
      have hi := ih (s.drop ((idxI s sep).toNat + sep.length))
      have he := idx_at h
      generalize s.drop ((idxI s sep).toNat + sep.length) = r at hi he
      generalize hq : splI sep k r = q at hi
      cases q with
      | nil => exact absurd hq (splI_ne _ _ _)
      | cons p ps =>
        simp only [joinP, List.flatMap_cons] at hi ⊢
        conv => rhs; rw [he]
        rw [← hi]; simp
theorem spl_body (n : Int) : ∀ (l : List Int) (n : Int) (k : Nat), l.length ≤ k → splI [44, 32] k (digI n ++ tailB l) = (n :: l).map digI := by
  intro l
  induction l with
  | nil =>
    intro n k _
    have e : idxI (digI n) [44, 32] = -1 := idx_none (digI_ne n 44 (by omega))
    cases k with
    | zero => simp [splI, tailB]
    | succ k => simp [splI, tailB, e]
  | cons m l ih =>
    intro n k hk
    cases k with
    | zero => simp at hk
    | succ k =>
      have e0 : digI n ++ tailB (m :: l) = digI n ++ (44 :: [32]) ++ (digI m ++ tailB l) := by simp [tailB]
      have e : idxI (digI n ++ (44 :: [32]) ++ (digI m ++ tailB l)) (44 :: [32]) = (digI n).length := idx_here (digI_ne n 44 (by omega))
      simp only [splI]
      rw [e0, e, if_neg (by omega)]
      have e3 : (digI n ++ 44 :: [32] ++ (digI m ++ tailB l)).take ((digI n).length : Int).toNat = digI n := by simp
      have e4 : (digI n ++ 44 :: [32] ++ (digI m ++ tailB l)).drop (((digI n).length : Int).toNat + ([44, 32] : List Int).length) = digI m ++ tailB l := by
        rw [Int.toNat_natCast, show (digI n).length + ([44, 32] : List Int).length = (digI n ++ 44 :: [32]).length by simp, List.drop_left]
      rw [e3, e4, ih m k (by simpa using hk)]
      rfl
theorem count_body : ∀ (l : List Int) (n : Int) (k : Nat), l.length < k → countF [44, 32] k (digI n ++ tailB l) = l.length := by
  intro l
  induction l with
  | nil =>
    intro n k hk
    have e : idxI (digI n) [44, 32] = -1 := idx_none (digI_ne n 44 (by omega))
    cases k with
    | zero => simp at hk
    | succ k => simp [countF, tailB, e]
  | cons m l ih =>
    intro n k hk
    cases k with
    | zero => simp at hk
    | succ k =>
      have e0 : digI n ++ tailB (m :: l) = digI n ++ (44 :: [32]) ++ (digI m ++ tailB l) := by simp [tailB]
      have e : idxI (digI n ++ (44 :: [32]) ++ (digI m ++ tailB l)) (44 :: [32]) = (digI n).length := idx_here (digI_ne n 44 (by omega))
      simp only [countF]
      rw [e0, e, if_neg (by omega)]
      have e4 : (digI n ++ 44 :: [32] ++ (digI m ++ tailB l)).drop (((digI n).length : Int).toNat + ([44, 32] : List Int).length) = digI m ++ tailB l := by
        rw [Int.toNat_natCast, show (digI n).length + ([44, 32] : List Int).length = (digI n ++ 44 :: [32]).length by simp, List.drop_left]
      rw [e4, ih m k (by simpa using hk), List.length_cons]; omega
theorem tailB_len2 (l : List Int) : 2 * l.length ≤ (tailB l).length := by
  induction l with
  | nil => simp
  | cons n l ih => simp only [tailB, List.flatMap_cons, List.length_append, List.length_cons] at ih ⊢; omega
/-- A row's text falls into its numbers. -/
theorem spl_row (n : Int) (l : List Int) : splI [44, 32] (countI (bodyB (n :: l)) [44, 32]) (bodyB (n :: l)) = (n :: l).map digI := by
  have h := tailB_len2 l
  have hc : countI (bodyB (n :: l)) [44, 32] = l.length := count_body l n _ (by simp only [bodyB, List.length_append]; omega)
  rw [hc]
  exact spl_body n l n _ (Nat.le_refl _)
theorem join_dig (n : Int) (l : List Int) : joinP [44, 32] ((n :: l).map digI) = bodyB (n :: l) := by
  show digI n ++ (l.map digI).flatMap (fun q => [44, 32] ++ q) = digI n ++ tailB l
  congr 1
  unfold tailB
  rw [List.flatMap_map]; rfl

/-- The numbers of all pieces. -/
noncomputable def allNum : List (List Int) → Option (List Int)
  | [] => some []
  | p :: ps => if (numF p).2 = true then (allNum ps).map ((numF p).1 :: ·) else none
theorem allNum_dig : ∀ (l : List Int), Ins l → allNum (l.map digI) = some l := by
  intro l
  induction l with
  | nil => intro _; rfl
  | cons n l ih =>
    intro h
    have hn := numF_dig (h n (by simp)) (rfl : digI n = digI n)
    simp only [List.map_cons, allNum, hn, if_true, ih (fun m hm => h m (by simp [hm])), Option.map_some]
theorem allNum_some : ∀ (ps : List (List Int)) (l : List Int), allNum ps = some l → Ins l ∧ ps = l.map digI := by
  intro ps
  induction ps with
  | nil => intro l h; simp only [allNum, Option.some.injEq] at h; subst h; exact ⟨fun _ h => (by cases h), rfl⟩
  | cons p ps ih =>
    intro l h
    simp only [allNum] at h
    split at h
    · rename_i hp
      cases hq : allNum ps with
      | none => rw [hq] at h; cases h
      | some q =>
        rw [hq] at h
        simp only [Option.map_some, Option.some.injEq] at h
        subst h
        obtain ⟨h1, h2⟩ := ih q hq
        rcases numF_cases p with ⟨n, g1, g2, g3⟩ | ⟨_, g3⟩
        · rw [g3]
          refine ⟨fun m hm => ?_, by simp only [List.map_cons, g2, ← h2]⟩
          rcases List.mem_cons.1 hm with rfl | hm
          · exact g1
          · exact h1 m hm
        · rw [g3] at hp; cases hp
    · cases h
/-- The pieces tell just the numbers of the text. -/
theorem read_pieces {t : List Int} (ht : t ≠ []) : readF ([123] ++ t ++ [125]) = (match allNum (splI [44, 32] (countI t [44, 32]) t) with | some l => (l, true) | none => ([], false)) := by
  cases h : allNum (splI [44, 32] (countI t [44, 32]) t) with
  | some l =>
    obtain ⟨h1, h2⟩ := allNum_some _ _ h
    have h3 := join_spl [44, 32] (countI t [44, 32]) t
    rw [h2] at h3
    refine readF_row h1 ?_
    cases l with
    | nil => exact absurd h2 (splI_ne _ _ _)
    | cons n l =>
      rw [join_dig] at h3
      unfold rowI; rw [h3]
  | none =>
    refine readF_none fun l h1 h2 => ?_
    unfold rowI at h2
    have h3 : bodyB l = t := List.append_cancel_left (List.append_cancel_right h2)
    cases l with
    | nil => exact ht h3.symm
    | cons n l =>
      rw [← h3, spl_row, allNum_dig _ h1] at h
      cases h

/-! ### The reference's way: all numbers between signs -/
def sepc (c : Int) : Prop := c = 123 ∨ c = 125 ∨ c = 44 ∨ c = 32
instance (c : Int) : Decidable (sepc c) := by unfold sepc; exact inferInstance
noncomputable def pushN (cur out : List Int) : List Int := if (numF cur).2 = true then out ++ [(numF cur).1] else out
noncomputable def colN : List Int → List Int → List Int → List Int
  | [], cur, out => pushN cur out
  | c :: r, cur, out => if sepc c then colN r [] (pushN cur out) else colN r (cur ++ [c]) out
theorem pushN_nil (out : List Int) : pushN [] out = out := by
  unfold pushN
  rw [numF_none (fun n _ h => by have := digI_pos n; rw [h] at this; simp at this)]
  rfl
theorem pushN_dig {n : Int} (h : inK .i64 n) (out : List Int) : pushN (digI n) out = out ++ [n] := by
  unfold pushN
  rw [numF_dig h rfl]; rfl
theorem pushN_in {cur out : List Int} (h : Ins out) : Ins (pushN cur out) ∧ (pushN cur out).length ≤ out.length + 1 := by
  unfold pushN
  rcases numF_cases cur with ⟨n, g1, g2, g3⟩ | ⟨_, g3⟩
  · rw [g3]
    simp only [if_true]
    refine ⟨fun m hm => ?_, by simp⟩
    rcases List.mem_append.1 hm with hm | hm
    · exact h m hm
    · rw [List.mem_singleton.1 hm]; exact g1
  · rw [g3]; exact ⟨h, Nat.le_succ _⟩
theorem colN_plain : ∀ (a r cur out : List Int), (∀ c ∈ a, ¬ sepc c) → colN (a ++ r) cur out = colN r (cur ++ a) out := by
  intro a
  induction a with
  | nil => intro r cur out _; simp
  | cons c a ih =>
    intro r cur out h
    show (if sepc c then _ else colN (a ++ r) (cur ++ [c]) out) = _
    rw [if_neg (h c (by simp)), ih _ _ _ (fun d hd => h d (by simp [hd]))]
    simp
theorem digI_plain (n : Int) : ∀ c ∈ digI n, ¬ sepc c := by
  intro c hc h
  have := digI_mem n c hc
  unfold isDig at this
  unfold sepc at h
  omega
theorem colN_tail : ∀ (l : List Int) (n : Int) (out : List Int), inK .i64 n → Ins l → colN (tailB l ++ [125]) (digI n) out = out ++ n :: l := by
  intro l
  induction l with
  | nil =>
    intro n out hn _
    show (if sepc 125 then colN [] [] (pushN (digI n) out) else _) = _
    rw [if_pos (by unfold sepc; simp), pushN_dig hn]
    show pushN [] _ = _
    rw [pushN_nil]
  | cons m l ih =>
    intro n out hn hl
    have e : tailB (m :: l) ++ [125] = 44 :: 32 :: (digI m ++ (tailB l ++ [125])) := by simp [tailB]
    rw [e]
    show (if sepc 44 then (if sepc 32 then colN (digI m ++ (tailB l ++ [125])) [] (pushN [] (pushN (digI n) out)) else _) else _) = _
    rw [if_pos (by unfold sepc; simp), if_pos (by unfold sepc; simp), pushN_nil, pushN_dig hn, colN_plain _ _ _ _ (digI_plain m), List.nil_append, ih m _ (hl m (by simp)) (fun x hx => hl x (by simp [hx]))]
    simp
theorem colN_row {l : List Int} (h : Ins l) : colN (rowI l) [] [] = l := by
  have e : rowI l = 123 :: (bodyB l ++ [125]) := rfl
  rw [e]
  show (if sepc 123 then colN (bodyB l ++ [125]) [] (pushN [] []) else _) = _
  rw [if_pos (by unfold sepc; simp), pushN_nil]
  cases l with
  | nil =>
    show (if sepc 125 then colN [] [] (pushN [] []) else _) = _
    rw [if_pos (by unfold sepc; simp), pushN_nil]
    exact pushN_nil []
  | cons n l =>
    show colN (digI n ++ tailB l ++ [125]) [] [] = _
    rw [List.append_assoc, colN_plain _ _ _ _ (digI_plain n), List.nil_append, colN_tail l n [] (h n (by simp)) (fun x hx => h x (by simp [hx]))]
    rfl
end Go.Proofs.YtgonfcjdhbjkcaaDoor.Rf
