/- Looped: what it computes: the first sort from which a way of edges leads back. -/
import Derived.Test.YtfnjdegejgocfaaReach13
set_option linter.unusedVariables false
set_option linter.unusedSimpArgs false
namespace Go.Proofs.Ytfnjdegejgocfaa.Rf
open Go

def rest (b : List (Bool × Int)) (n : Nat) : List (Bool × Int) := b.take n ++ b.drop (n + 1)
/-- Symbol n of a production leads from j to k, all else coming to nothing. -/
def SymE (d : List Int) (ns : Nat) (p : Prd) (n j k : Nat) : Prop := p.1 = (j : Int) ∧ j < ns ∧ k < ns ∧ ∃ s, p.2.2.1[n]? = some s ∧ s.1 = true ∧ s.2 = (k : Int) ∧ lenA d (rest p.2.2.1 n) 0 = 0
def EdgeP (d : List Int) (ns : Nat) (p : Prd) (m j k : Nat) : Prop := ∃ n, n < m ∧ SymE d ns p n j k
def Edge (d : List Int) (ns : Nat) (ps : List Prd) (j k : Nat) : Prop := ∃ p ∈ ps, EdgeP d ns p p.2.2.1.length j k
noncomputable def loopF (d : List Int) (ns : Nat) (ps : List Prd) : Int := first (fun i => Way (Edge d ns ps) i i) ns ns

theorem Way.mono {E F : Nat → Nat → Prop} (h : ∀ i k, E i k → F i k) {i k : Nat} (hw : Way E i k) : Way F i k := by
  induction hw with
  | one e => exact .one (h _ _ e)
  | more e _ ih => exact .more (h _ _ e) ih
theorem first_at {P : Nat → Prop} {n j : Nat} (h : j < n) : first P n (n - j) = if tf (P j) = true then (j : Int) else first P n (n - (j + 1)) := by
  obtain ⟨k, hk⟩ : ∃ k, n - j = k + 1 := ⟨n - j - 1, by omega⟩
  have e1 : n - (j + 1) = k := by omega
  have e2 : n - (k + 1) = j := by omega
  rw [hk, e1]
  simp only [first, e2]
theorem first_congr {P Q : Nat → Prop} {n : Nat} (h : ∀ i, i < n → (P i ↔ Q i)) : ∀ k, k ≤ n → first P n k = first Q n k := by
  intro k
  induction k with
  | zero => intro _; rfl
  | succ k ih =>
    intro hk
    simp only [first]
    rw [tf_congr (h (n - (k + 1)) (by omega)), ih (by omega)]
theorem first_neg {P : Nat → Prop} {n : Nat} : ∀ k, k ≤ n → (first P n k < 0 ↔ ∀ i, n - k ≤ i → i < n → ¬ P i) := by
  intro k
  induction k with
  | zero => intro _; simp only [first]; constructor
            · intro _ i h1 h2; omega
            · intro _; omega
  | succ k ih =>
    intro hk
    simp only [first]
    by_cases hp : P (n - (k + 1))
    · rw [tf_t hp, if_pos rfl]
      constructor
      · intro h; omega
      · intro h; exact absurd hp (h _ (Nat.le_refl _) (by omega))
    · rw [tf_f hp]
      simp only [Bool.false_eq_true, if_false]
      rw [ih (by omega)]
      constructor
      · intro h i h1 h2
        by_cases e : i = n - (k + 1)
        · subst e; exact hp
        · exact h i (by omega) h2
      · intro h i h1 h2; exact h i (by omega) h2

/-- The rows so far tell just these edges. -/
structure NInv (ns B : Nat) (D : Nat → Nat → Prop) (nx : List (List Int)) : Prop where
  len : nx.length = ns
  inr : InR nx
  few : ∀ row ∈ nx, row.length ≤ B
  edge : ∀ j k, EN nx j k ↔ D j k
theorem NInv.weak {ns B C : Nat} {D F : Nat → Nat → Prop} {nx : List (List Int)} (h : NInv ns B D nx) (hb : B ≤ C) (hd : ∀ j k, D j k ↔ F j k) : NInv ns C F nx :=
  ⟨h.len, h.inr, fun r hr => Nat.le_trans (h.few r hr) hb, fun j k => (h.edge j k).trans (hd j k)⟩
theorem NInv.add {ns B : Nat} {D : Nat → Nat → Prop} {nx : List (List Int)} (h : NInv ns B D nx) {j0 k0 : Nat} {row : List Int} (hrow : nx[j0]? = some row) (hk : k0 < ns) : NInv ns (B + 1) (fun j k => D j k ∨ (j = j0 ∧ k = k0)) (nx.set j0 (row ++ [(k0 : Int)])) := by
  have hj : j0 < nx.length := by
    rcases Nat.lt_or_ge j0 nx.length with h1 | h1
    · exact h1
    · rw [List.getElem?_eq_none h1] at hrow; cases hrow
  refine ⟨by rw [List.length_set]; exact h.len, fun r hr x hx => ?_, fun r hr => ?_, fun j k => ?_⟩
  · rw [List.length_set]
    rcases List.mem_or_eq_of_mem_set hr with hr | rfl
    · exact h.inr r hr x hx
    · rcases List.mem_append.1 hx with hx | hx
      · exact h.inr row (List.mem_of_getElem? hrow) x hx
      · rcases List.mem_singleton.1 hx with rfl
        rw [h.len]; omega
  · rcases List.mem_or_eq_of_mem_set hr with hr | rfl
    · exact Nat.le_succ_of_le (h.few r hr)
    · rw [List.length_append]; have := h.few row (List.mem_of_getElem? hrow); simp only [List.length_cons, List.length_nil]; omega
  · have he := h.edge j k
    unfold EN at he ⊢
    rw [List.getElem?_set]
    by_cases e : j0 = j
    · subst e
      simp only [if_true, hj]
      rw [hrow] at he
      rw [← he]
      constructor
      · rintro ⟨r, h1, h2⟩
        cases h1
        rcases List.mem_append.1 h2 with h2 | h2
        · exact .inl ⟨row, rfl, h2⟩
        · exact .inr ⟨by first | rfl | trivial, by have := List.mem_singleton.1 h2; omega⟩
      · rintro (⟨r, h1, h2⟩ | ⟨_, rfl⟩)
        · cases h1; exact ⟨_, rfl, List.mem_append_left _ h2⟩
        · exact ⟨_, rfl, by simp⟩
    · rw [if_neg e, he]
      constructor
      · exact .inl
      · rintro (h1 | ⟨h1, _⟩)
        · exact h1
        · exact absurd h1.symm e

theorem cutL_take {α : Type} (b : List α) (n : Nat) : cutL b 0 (n : Int) = b.take n := by
  unfold cutL
  simp
theorem cutL_drop {α : Type} (b : List α) (n : Nat) : cutL b (n : Int) (b.length : Int) = b.drop n := by
  unfold cutL
  simp only [Int.toNat_natCast]
  exact List.take_of_length_le (by rw [List.length_drop]; omega)

set_option maxHeartbeats 2000000 in
theorem p43_eq (g : Grm) (hg : GOk g) (hn : g.2.1.length ≤ 100) (hp : g.2.2.1.length ≤ 100) (hb : ∀ p ∈ g.2.2.1, p.2.2.1.length ≤ 20) : p43 N0 (g, ()) = some ((loopF (leastF g) g.2.1.length g.2.2.1, ()), ()) := by
  unfold p43
  simp only [joinB_eq]
  rw [callB_eq (p42_eq g hg hn)]
  have hcap := (leastF_ok g).2.cap
  generalize leastF g = d at hcap
  have z0 : (0 : Int) ≤ (g.2.1.length : Int) ∧ (g.2.1.length : Int) ≤ (g.2.1.length : Int) := by omega
  simp only [z0, and_self, if_true, Int.toNat_natCast]
  rw [if_pos (by omega)]
  have no0 : ∀ j k, EN (List.replicate g.2.1.length ([] : List Int)) j k ↔ Edge d g.2.1.length (g.2.2.1.take 0) j k := by
    intro j k
    constructor
    · rintro ⟨r, h1, h2⟩
      rw [List.getElem?_replicate] at h1
      split at h1
      · cases h1; cases h2
      · cases h1
    · rintro ⟨p, h1, _⟩
      simp at h1
  refine loop_rule (fun mm x r => ∃ (i : Nat) (nx : List (List Int)), x = ((nx, ()), ((i : Int), ())) ∧ mm + i = g.2.2.1.length ∧ NInv g.2.1.length (i * 20) (Edge d g.2.1.length (g.2.2.1.take i)) nx ∧ r = some ((loopF d g.2.1.length g.2.2.1, ()), ())) ?_ N0 g.2.2.1.length _ _ (by unfold N0; omega) ⟨0, _, rfl, rfl, ⟨by simp, fun r hr => by rw [(List.mem_replicate.1 hr).2]; simp, fun r hr => by rw [(List.mem_replicate.1 hr).2]; simp, no0⟩, rfl⟩
  rintro mm x r ⟨i, nx, rfl, hmm, hi, rfl⟩ k hk
  have hlen := hi.len
  rcases Nat.eq_zero_or_pos mm with rfl | hm0
  · -- all rows are told: which leads to itself?
    have c1 : ¬ (i : Int) < (g.2.2.1.length : Int) := by omega
    rw [List.take_of_length_le (by omega)] at hi
    simp only [c1, decide_false, cond_false]
    clear hk
    have hfew : ∀ row ∈ nx, row.length ≤ 10000 := fun row hr => by have := hi.few row hr; omega
    refine (loop_up (fun j => ((nx, ()), ((j : Int), ()))) (fun j => some ((first (fun i => Way (Edge d g.2.1.length g.2.2.1) i i) g.2.1.length (g.2.1.length - j), ()), ())) g.2.1.length (fun j hj k hk => ?_) N0 0 (Nat.zero_le _) (by unfold N0; omega)).trans ?_
    · rcases Nat.lt_or_ge j g.2.1.length with hlt | hge
      · have hk := hk hlt
        have c2 : (j : Int) < (nx.length : Int) := by omega
        have hw : IntKind.wrap .i64 ((j : Int) + 1) = ((j + 1 : Nat) : Int) := by rw [wrap_in (by omega) (by omega)]; simp
        have he : tf (Way (EN nx) j j) = tf (Way (Edge d g.2.1.length g.2.2.1) j j) := tf_congr ⟨Way.mono fun a b => (hi.edge a b).1, Way.mono fun a b => (hi.edge a b).2⟩
        simp only [c2, decide_true, cond_true, p73_eq nx j (by omega) hi.inr hfew (by omega), callB_some, he, first_at hlt, hw]
        cases tf (Way (Edge d g.2.1.length g.2.2.1) j j)
        · simp only [cond_false, Bool.false_eq_true, if_false]; exact hk
        · simp only [cond_true, if_true]
      · have c2 : ¬ (j : Int) < (nx.length : Int) := by omega
        have e : j = g.2.1.length := by omega
        subst e
        simp only [c2, decide_false, cond_false, Nat.sub_self, first]
    · unfold loopF; rfl
  obtain ⟨mm, rfl⟩ : ∃ m', mm = m' + 1 := ⟨mm - 1, by omega⟩
  have hip : i < g.2.2.1.length := by omega
  have c1 : (i : Int) < (g.2.2.1.length : Int) := by omega
  have hpm := List.getElem_mem hip
  have hpb := hb _ hpm
  have htk : g.2.2.1.take (i + 1) = g.2.2.1.take i ++ [g.2.2.1[i]] := by rw [List.take_add_one, List.getElem?_eq_getElem hip]; rfl
  have hw0 : IntKind.wrap .i64 ((i : Int) + 1) = ((i + 1 : Nat) : Int) := by rw [wrap_in (by omega) (by omega)]; simp
  have hk' : ∀ nx', NInv g.2.1.length ((i + 1) * 20) (Edge d g.2.1.length (g.2.2.1.take (i + 1))) nx' → k ((nx', ()), (((i + 1 : Nat) : Int), ())) = some ((loopF d g.2.1.length g.2.2.1, ()), ()) := fun nx' h' =>
    hk mm _ _ (Nat.lt_succ_self _) ⟨i + 1, nx', rfl, by omega, h', rfl⟩
  clear hk
  simp only [c1, decide_true, cond_true, Int.toNat_natCast, Int.natCast_nonneg, if_true, List.getElem?_eq_getElem hip, hw0]
  rw [htk] at hk'
  have hsplit : ∀ p j k, Edge d g.2.1.length (g.2.2.1.take i ++ [p]) j k ↔ (Edge d g.2.1.length (g.2.2.1.take i) j k ∨ EdgeP d g.2.1.length p p.2.2.1.length j k) := by
    intro p j k
    constructor
    · rintro ⟨q, hq, he⟩
      rcases List.mem_append.1 hq with hq | hq
      · exact .inl ⟨q, hq, he⟩
      · rcases List.mem_singleton.1 hq with rfl
        exact .inr he
    · rintro (⟨q, hq, he⟩ | he)
      · exact ⟨q, List.mem_append_left _ hq, he⟩
      · exact ⟨p, by simp, he⟩
  generalize g.2.2.1[i] = p at hpb hk'
  have skip : (p.1 < 0 ∨ (g.2.1.length : Int) ≤ p.1) → k ((nx, ()), (((i + 1 : Nat) : Int), ())) = some ((loopF d g.2.1.length g.2.2.1, ()), ()) := by
    intro h
    refine hk' nx (hi.weak (by omega) fun j k => ?_)
    rw [hsplit]
    constructor
    · exact .inl
    · rintro (h1 | ⟨n, _, h2, h3, _⟩)
      · exact h1
      · omega
  by_cases a1 : p.1 < 0
  · simp only [a1, decide_true, cond_true]
    exact skip (.inl a1)
  by_cases a2 : (nx.length : Int) ≤ p.1
  · simp only [a1, a2, decide_true, decide_false, cond_true, cond_false]
    exact skip (.inr (by omega))
  have a0 : 0 ≤ p.1 := by omega
  have a3 : p.1.toNat < g.2.1.length := by omega
  have a4 : p.1 = (p.1.toNat : Int) := by omega
  simp only [a1, a2, decide_true, decide_false, cond_true, cond_false]
  refine loop_rule (fun mq x r => ∃ (n : Nat) (nx : List (List Int)), x = ((nx, ()), ((n : Int), ())) ∧ mq + n = p.2.2.1.length ∧ NInv g.2.1.length (i * 20 + n) (fun j k => Edge d g.2.1.length (g.2.2.1.take i) j k ∨ EdgeP d g.2.1.length p n j k) nx ∧ r = some ((loopF d g.2.1.length g.2.2.1, ()), ())) ?_ N0 p.2.2.1.length _ _ (by unfold N0; omega) ⟨0, nx, rfl, rfl, hi.weak (by omega) fun j k => ⟨.inl, fun h => h.elim id fun ⟨n, h1, _⟩ => by omega⟩, rfl⟩
  clear skip a2 hi hlen nx
  rintro mq x r ⟨n, nx, rfl, hmq, hi, rfl⟩ k2 hk2
  rcases Nat.eq_zero_or_pos mq with rfl | hm0
  · have c2 : ¬ (n : Int) < (p.2.2.1.length : Int) := by omega
    have e : n = p.2.2.1.length := by omega
    subst e
    simp only [c2, decide_false, cond_false]
    exact hk' nx (hi.weak (by omega) fun j k => (hsplit p j k).symm)
  obtain ⟨mq, rfl⟩ : ∃ m', mq = m' + 1 := ⟨mq - 1, by omega⟩
  have hn2 : n < p.2.2.1.length := by omega
  have c2 : (n : Int) < (p.2.2.1.length : Int) := by omega
  have hw1 : IntKind.wrap .i64 ((n : Int) + 1) = ((n + 1 : Nat) : Int) := by rw [wrap_in (by omega) (by omega)]; simp
  have c3 : (0 : Int) ≤ 0 ∧ 0 ≤ (n : Int) ∧ (n : Int) ≤ (p.2.2.1.length : Int) := by omega
  have c4 : (0 : Int) ≤ ((n + 1 : Nat) : Int) ∧ ((n + 1 : Nat) : Int) ≤ (p.2.2.1.length : Int) ∧ (p.2.2.1.length : Int) ≤ (p.2.2.1.length : Int) := by omega
  have hk2' : ∀ nx', NInv g.2.1.length (i * 20 + n + 1) (fun j k => Edge d g.2.1.length (g.2.2.1.take i) j k ∨ EdgeP d g.2.1.length p (n + 1) j k) nx' → k2 ((nx', ()), (((n + 1 : Nat) : Int), ())) = some ((loopF d g.2.1.length g.2.2.1, ()), ()) := fun nx' h' =>
    hk2 mq _ _ (Nat.lt_succ_self _) ⟨n + 1, nx', rfl, by omega, h', rfl⟩
  clear hk2
  have hlen := hi.len
  have hrl : (p.2.2.1.take n).length + (p.2.2.1.drop (n + 1)).length ≤ 1000 := by simp only [List.length_take, List.length_drop]; omega
  have hrm : (rest p.2.2.1 n).length ≤ maxLen := by unfold rest maxLen; rw [List.length_append]; omega
  simp only [c2, decide_true, cond_true, Int.toNat_natCast, Int.natCast_nonneg, if_true, List.getElem?_eq_getElem hn2, hw1, c3, c4, and_self, cutL_take, cutL_drop]
  rw [callB_eq (p72_eq _ _ hrl)]
  have hL : p71 N0 (p.2.2.1.take n ++ p.2.2.1.drop (n + 1), (d, ())) = some ((lenA d (rest p.2.2.1 n) 0, ()), ()) := p71_eq _ d hrm hcap
  have hs? := List.getElem?_eq_getElem hn2
  have stay : (∀ j k, ¬ SymE d g.2.1.length p n j k) → k2 ((nx, ()), (((n + 1 : Nat) : Int), ())) = some ((loopF d g.2.1.length g.2.2.1, ()), ()) := by
    intro h
    refine hk2' nx (hi.weak (by omega) fun j k => ?_)
    constructor
    · rintro (h1 | ⟨m, h1, h2⟩)
      · exact .inl h1
      · exact .inr ⟨m, by omega, h2⟩
    · rintro (h1 | ⟨m, h1, h2⟩)
      · exact .inl h1
      · rcases Nat.lt_or_ge m n with hm | hm
        · exact .inr ⟨m, hm, h2⟩
        · have : m = n := by omega
          subst this; exact absurd h2 (h j k)
  have sym_inv : ∀ j k, SymE d g.2.1.length p n j k → k < g.2.1.length ∧ p.2.2.1[n].1 = true ∧ p.2.2.1[n].2 = (k : Int) ∧ lenA d (rest p.2.2.1 n) 0 = 0 := by
    rintro j k ⟨_, _, h1, s, h2, h3, h4, h5⟩
    rw [hs?] at h2; cases h2
    exact ⟨h1, h3, h4, h5⟩
  generalize p.2.2.1[n] = s at hs? sym_inv
  cases s1 : s.1
  · simp only [cond_false]
    exact stay fun j k h => by have := (sym_inv j k h).2.1; rw [s1] at this; cases this
  simp only [cond_true]
  by_cases s2 : 0 ≤ s.2
  case neg =>
    simp only [s2, decide_false, cond_false]
    exact stay fun j k h => by have := (sym_inv j k h).2.2.1; omega
  by_cases s3 : s.2 < (nx.length : Int)
  case neg =>
    simp only [s2, s3, decide_false, decide_true, cond_true, cond_false]
    exact stay fun j k h => by have := sym_inv j k h; omega
  simp only [s2, s3, decide_true, cond_true]
  rw [callB_eq hL]
  by_cases s4 : lenA d (rest p.2.2.1 n) 0 = 0
  case neg =>
    simp only [s4, decide_false, cond_false]
    exact stay fun j k h => s4 (sym_inv j k h).2.2.2
  have a5 : p.1.toNat < nx.length := by omega
  have hrow := List.getElem?_eq_getElem a5
  have hrl2 := hi.few _ (List.getElem_mem a5)
  simp only [s4, decide_true, cond_true, a0, if_true, hrow, and_self, List.length_cons, List.length_nil]
  rw [if_pos (by omega), if_pos (by omega)]
  have hs2 : s.2 = (s.2.toNat : Int) := by omega
  have hadd := hi.add hrow (k0 := s.2.toNat) (by omega)
  rw [← hs2] at hadd
  refine hk2' _ (hadd.weak (by omega) fun j k => ?_)
  constructor
  · rintro ((h1 | ⟨m, h1, h2⟩) | ⟨h1, h2⟩)
    · exact .inl h1
    · exact .inr ⟨m, by omega, h2⟩
    · subst h1; subst h2
      exact .inr ⟨n, by omega, a4, a3, by omega, s, hs?, s1, hs2, s4⟩
  · rintro (h1 | ⟨m, h1, h2⟩)
    · exact .inl (.inl h1)
    · rcases Nat.lt_or_ge m n with hm | hm
      · exact .inl (.inr ⟨m, hm, h2⟩)
      · have : m = n := by omega
        subst this
        have q := sym_inv j k h2
        have q1 := h2.1
        exact .inr ⟨by omega, by omega⟩
end Go.Proofs.Ytfnjdegejgocfaa.Rf
