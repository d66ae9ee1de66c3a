/- Fruitful: the sorts of which there is a least one. -/
import Derived.Test.YtfnjdegejgocfaaReach3
set_option linter.unusedVariables false
set_option linter.unusedSimpArgs false
namespace Go.Proofs.Ytfnjdegejgocfaa.Rf
open Go

def bit (f : List Bool) (i : Nat) : Bool := f.getD i false
def symOk (f : List Bool) (s : Bool × Int) : Bool := !s.1 || (decide (0 ≤ s.2) && (decide (s.2 < (f.length : Int)) && bit f s.2.toNat))

theorem bit_eq {f : List Bool} {i : Nat} (h : i < f.length) : bit f i = f[i] := by unfold bit; rw [List.getD_eq_getElem?_getD, List.getElem?_eq_getElem h]; rfl
theorem bit_set {f : List Bool} {i j : Nat} {v : Bool} (hi : i < f.length) : bit (f.set i v) j = if j = i then v else bit f j := by
  unfold bit
  rw [List.getD_eq_getElem?_getD, List.getD_eq_getElem?_getD, List.getElem?_set]
  by_cases e : i = j
  · subst e; simp [hi]
  · rw [if_neg e, if_neg (Ne.symm e)]

theorem p80_eq (b : List (Bool × Int)) (f : List Bool) (hb : b.length ≤ maxLen) : p80 N0 (b, (f, ())) = some ((b.all (symOk f), ()), ()) := by
  unfold p80
  simp only [joinB_eq]
  refine (loop_all (after := some ((true, ()), ())) b (symOk f) (some ((false, ()), ())) (fun j => ((), (j : Int), ())) ?s1 ?f1 N0 ?n1).trans ?_
  case f1 => intro k; simp
  case n1 => have := N0_lt hb; omega
  case s1 =>
    intro j hj k
    have hc : (j : Int) < (b.length : Int) := by omega
    simp only [hc, decide_true, cond_true, if_true, Int.toNat_natCast, Int.natCast_nonneg, List.getElem?_eq_getElem hj, wrap_succ hj hb, symOk, bif_eq, decide_eq_true_eq]
    obtain ⟨q, x⟩ : Bool × Int := b[j]
    cases q
    · simp
    by_cases h2 : x < 0
    · have : ¬ 0 ≤ x := by omega
      simp [h2, this]
    have h2' : 0 ≤ x := by omega
    by_cases h3 : (f.length : Int) ≤ x
    · have : ¬ x < (f.length : Int) := by omega
      simp [h2, h2', h3, this]
    have h3' : x < (f.length : Int) := by omega
    have h4 : x.toNat < f.length := by omega
    have hbx := bit_eq h4
    cases hf : f[x.toNat] <;> simp [h2, h2', h3, h3', List.getElem?_eq_getElem h4, hbx, hf]
  · cases b.all (symOk f) <;> rfl

def subB (f e : List Bool) : Prop := f.length = e.length ∧ ∀ i, bit f i = true → bit e i = true
theorem symOk_mono {f e : List Bool} (h : subB f e) {s : Bool × Int} (hs : symOk f s = true) : symOk e s = true := by
  unfold symOk at hs ⊢
  simp only [Bool.or_eq_true, Bool.not_eq_true', Bool.and_eq_true, decide_eq_true_eq] at hs ⊢
  rcases hs with hs | ⟨h1, h2, h3⟩
  · exact .inl hs
  · exact .inr ⟨h1, by rw [← h.1]; exact h2, h.2 _ h3⟩

def gainF (f : List Bool) (p : Prd) : Prop := 0 ≤ p.1 ∧ p.1 < (f.length : Int) ∧ bit f p.1.toNat = false ∧ p.2.2.1.all (symOk f) = true
instance (f : List Bool) (p : Prd) : Decidable (gainF f p) := by unfold gainF; exact inferInstance
structure ClosedF (ps : List Prd) (ns : Nat) (f : List Bool) : Prop where
  len : f.length = ns
  no : ∀ p ∈ ps, ¬ gainF f p
structure FInv (ps : List Prd) (ns : Nat) (f : List Bool) : Prop where
  len : f.length = ns
  least : ∀ e, ClosedF ps ns e → subB f e

theorem FInv.step {ps : List Prd} {ns : Nat} {f : List Bool} (h : FInv ps ns f) {p : Prd} (hp : p ∈ ps) (hg : gainF f p) : FInv ps ns (f.set p.1.toNat true) := by
  obtain ⟨g0, g1, g2, g3⟩ := hg
  have hi : p.1.toNat < f.length := by omega
  refine ⟨by rw [List.length_set]; exact h.len, fun e he => ?_⟩
  have hs := h.least e he
  refine ⟨by rw [List.length_set]; exact hs.1, fun i hb => ?_⟩
  rw [bit_set hi] at hb
  by_cases e1 : i = p.1.toNat
  · subst e1
    have hall : p.2.2.1.all (symOk e) = true := List.all_eq_true.2 fun s hs2 => symOk_mono hs (List.all_eq_true.1 g3 s hs2)
    cases hb2 : bit e p.1.toNat
    · exact absurd ⟨g0, by rw [← hs.1]; exact g1, hb2, hall⟩ (he.no p hp)
    · rfl
  · rw [if_neg e1] at hb; exact hs.2 i hb

/-- How many are not yet so. -/
def mf (f : List Bool) : Nat := (f.map (fun b => if b = true then 0 else 1)).foldr (· + ·) 0
theorem mf_cons (b : Bool) (f : List Bool) : mf (b :: f) = (if b = true then 0 else 1) + mf f := rfl
theorem mf_set : ∀ {f : List Bool} {i : Nat}, i < f.length → bit f i = false → mf (f.set i true) < mf f := by
  intro f
  induction f with
  | nil => intro i h; simp at h
  | cons x xs ih =>
    intro i h hv
    cases i with
    | zero =>
      simp only [List.set_cons_zero, mf_cons]
      have : x = false := hv
      rw [this]; simp
    | succ i =>
      simp only [List.set_cons_succ, mf_cons]
      have := ih (by simpa using h) (show bit xs i = false from hv)
      omega
theorem mf_le (f : List Bool) : mf f ≤ f.length := by
  induction f with
  | nil => simp [mf]
  | cons x xs ih => rw [mf_cons, List.length_cons]; split <;> omega

/-- Fruitful is: of these there is a least one. -/
theorem fruit_least (g : Grm) {f : List Bool} (hi : FInv g.2.2.1 g.2.1.length f) (hc : ClosedF g.2.2.1 g.2.1.length f) : f = (leastF g).map (fun v => decide (0 ≤ v)) := by
  obtain ⟨l1, l2⟩ := leastF_ok g
  have bitm : ∀ (d : List Int) (i : Nat), bit (d.map fun v => decide (0 ≤ v)) i = decide (0 ≤ at1 d i) := by
    intro d i
    unfold bit at1
    rw [List.getD_eq_getElem?_getD, List.getD_eq_getElem?_getD, List.getElem?_map]
    cases d[i]? <;> rfl
  have fwd : ∀ (d : List Int) (b : List (Bool × Int)) (n : Int), 0 ≤ n → n ≤ 1073741824 → Cap d → b.all (symOk (d.map fun v => decide (0 ≤ v))) = true → 0 ≤ lenA d b n := by
    intro d b
    induction b with
    | nil => intro n h0 _ _ _; exact h0
    | cons s b ih =>
      intro n h0 h1 hcp ha
      simp only [List.all_cons, Bool.and_eq_true] at ha
      simp only [lenA]
      split
      · exact ih _ (by split <;> omega) (by split <;> omega) hcp ha.2
      · rename_i hs
        have hq := ha.1
        unfold symOk at hq
        simp only [Bool.or_eq_true, Bool.not_eq_true', Bool.and_eq_true, decide_eq_true_eq, List.length_map, bitm] at hq
        rcases hq with hq | ⟨h2, h3, h4⟩
        · exact absurd hq hs
        · unfold at1 at h4
          rw [if_neg (by omega)]
          exact ih _ (by split <;> omega) (by split <;> omega) hcp ha.2
  have bwd : ∀ (d : List Int) (b : List (Bool × Int)) (n : Int), 0 ≤ lenA d b n → b.all (symOk (d.map fun v => decide (0 ≤ v))) = true := by
    intro d b
    induction b with
    | nil => intro n _; rfl
    | cons s b ih =>
      intro n h
      simp only [lenA] at h
      rw [List.all_cons, Bool.and_eq_true]
      have hq : ∀ (hx : s.1 = false ∨ (0 ≤ s.2 ∧ s.2 < (d.length : Int) ∧ 0 ≤ at1 d s.2.toNat)), symOk (d.map fun v => decide (0 ≤ v)) s = true := by
        intro hx
        unfold symOk
        simp only [Bool.or_eq_true, Bool.not_eq_true', Bool.and_eq_true, decide_eq_true_eq, List.length_map, bitm]
        exact hx
      split at h
      · rename_i hs; exact ⟨hq (.inl hs), ih _ h⟩
      · split at h
        · omega
        · rename_i hb
          exact ⟨hq (.inr ⟨by omega, by omega, by unfold at1; omega⟩), ih _ h⟩
  -- what is least is closed
  have c1 : ClosedF g.2.2.1 g.2.1.length ((leastF g).map fun v => decide (0 ≤ v)) := by
    refine ⟨by rw [List.length_map]; exact l2.len, fun p hp hg => ?_⟩
    obtain ⟨g0, g1, g2, g3⟩ := hg
    rw [bitm] at g2
    rw [List.length_map] at g1
    exact l2.no p hp ⟨g0, g1, fwd _ _ 0 (by omega) (by omega) l2.cap g3, .inl (by have := of_decide_eq_false g2; omega)⟩
  -- what is fruitful gives what is closed
  have c2 : Closed g.2.2.1 g.2.1.length (f.map fun b => if b = true then (0 : Int) else -1) := by
    have atm : ∀ i, at1 (f.map fun b => if b = true then (0 : Int) else -1) i = if bit f i = true then 0 else -1 := by
      intro i
      unfold at1 bit
      rw [List.getD_eq_getElem?_getD, List.getD_eq_getElem?_getD, List.getElem?_map]
      cases f[i]? <;> rfl
    have back : ((f.map fun b => if b = true then (0 : Int) else -1).map fun v => decide (0 ≤ v)) = f := by
      rw [List.map_map]
      conv => rhs; rw [← List.map_id f]
      refine List.map_congr_left fun b _ => ?_
      cases b <;> rfl
    refine ⟨by rw [List.length_map]; exact hc.len, fun v hv => ?_, fun v hv => ?_, fun p hp hg => ?_⟩
    · obtain ⟨b, _, rfl⟩ := List.mem_map.1 hv; split <;> omega
    · obtain ⟨b, _, rfl⟩ := List.mem_map.1 hv; split <;> omega
    · obtain ⟨g0, g1, g2, g3⟩ := hg
      rw [List.length_map] at g1
      have hall := bwd _ _ _ g2
      rw [back] at hall
      rw [atm] at g3
      cases hb : bit f p.1.toNat
      · exact hc.no p hp ⟨g0, g1, hb, hall⟩
      · rw [hb] at g3; simp only [if_true] at g3; omega
  have s1 := hi.least _ c1
  have s2 := l1.least _ c2
  refine List.ext_getElem (by rw [List.length_map, hc.len, l2.len]) (fun i h1 h2 => ?_)
  have q1 := s1.2 i
  have q2 := s2.2 i
  have atm : at1 (f.map fun b => if b = true then (0 : Int) else -1) i = if bit f i = true then 0 else -1 := by
    unfold at1 bit
    rw [List.getD_eq_getElem?_getD, List.getD_eq_getElem?_getD, List.getElem?_map]
    cases f[i]? <;> rfl
  rw [atm] at q2
  rw [bitm, bit_eq h1] at q1
  rw [bit_eq h1] at q2
  have h3 : i < (leastF g).length := by simpa using h2
  have hat : at1 (leastF g) i = (leastF g)[i] := by unfold at1; rw [List.getD_eq_getElem?_getD, List.getElem?_eq_getElem h3]; rfl
  rw [List.getElem_map]
  rw [hat] at q1 q2
  cases hb : f[i]
  · rw [hb] at q2
    by_cases hx : 0 ≤ (leastF g)[i]
    · have := (q2 hx).1; simp at this
    · simp [hx]
  · exact (q1 hb).symm
end Go.Proofs.Ytfnjdegejgocfaa.Rf
