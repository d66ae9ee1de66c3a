/- Reached: the least row that holds the start and is closed. No program in sight. -/
import Derived.Test.YtfnjdegejgocfaaReach5
set_option linter.unusedVariables false
set_option linter.unusedSimpArgs false
namespace Go.Proofs.Ytfnjdegejgocfaa.Rf
open Go

def addS (r : List Bool) (s : Bool × Int) : List Bool := if s.1 = true ∧ 0 ≤ s.2 ∧ s.2 < (r.length : Int) then r.set s.2.toNat true else r
def bodyR (r : List Bool) (b : List (Bool × Int)) : List Bool := b.foldl addS r
def prodR (r : List Bool) (p : Prd) : List Bool := if 0 ≤ p.1 ∧ p.1 < (r.length : Int) ∧ bit r p.1.toNat = true then bodyR r p.2.2.1 else r
def passR (ps : List Prd) (r : List Bool) : List Bool := ps.foldl prodR r

structure ClosedR (g : Grm) (e : List Bool) : Prop where
  len : e.length = g.2.1.length
  start : 0 ≤ g.2.2.2.2 → g.2.2.2.2 < (e.length : Int) → bit e g.2.2.2.2.toNat = true
  no : ∀ p ∈ g.2.2.1, 0 ≤ p.1 → p.1 < (e.length : Int) → bit e p.1.toNat = true → ∀ s ∈ p.2.2.1, s.1 = true → 0 ≤ s.2 → s.2 < (e.length : Int) → bit e s.2.toNat = true

theorem set_self {r : List Bool} {i : Nat} (h : bit r i = true) : r.set i true = r := by
  rcases Nat.lt_or_ge i r.length with hi | hi
  · have := bit_eq hi
    rw [h] at this
    refine List.ext_getElem (by simp) (fun j h1 h2 => ?_)
    rw [List.getElem_set]
    split
    · rename_i e; subst e; exact this
    · rfl
  · exact List.set_eq_of_length_le hi
theorem addS_len (r : List Bool) (s : Bool × Int) : (addS r s).length = r.length := by unfold addS; split <;> simp
theorem addS_mf (r : List Bool) (s : Bool × Int) : mf (addS r s) ≤ mf r ∧ (mf (addS r s) = mf r → addS r s = r) := by
  unfold addS
  split
  · rename_i h
    have hi : s.2.toNat < r.length := by omega
    cases hb : bit r s.2.toNat
    · have := mf_set hi hb
      exact ⟨by omega, fun e => by omega⟩
    · rw [set_self hb]; exact ⟨Nat.le_refl _, fun _ => rfl⟩
  · exact ⟨Nat.le_refl _, fun _ => rfl⟩
theorem fold_mf {α : Type} {f : List Bool → α → List Bool} (hl : ∀ r a, (f r a).length = r.length) (hf : ∀ r a, mf (f r a) ≤ mf r ∧ (mf (f r a) = mf r → f r a = r)) : ∀ (l : List α) (r : List Bool), (l.foldl f r).length = r.length ∧ mf (l.foldl f r) ≤ mf r ∧ (mf (l.foldl f r) = mf r → l.foldl f r = r ∧ ∀ a ∈ l, f r a = r) := by
  intro l
  induction l with
  | nil => intro r; exact ⟨rfl, Nat.le_refl _, fun _ => ⟨rfl, by simp⟩⟩
  | cons a l ih =>
    intro r
    rw [List.foldl_cons]
    obtain ⟨i1, i2, i3⟩ := ih (f r a)
    obtain ⟨j1, j2⟩ := hf r a
    refine ⟨by rw [i1, hl], by omega, fun e => ?_⟩
    have e1 := j2 (by omega)
    rw [e1] at i3 ⊢
    obtain ⟨k1, k2⟩ := i3 (by rw [e1] at e; exact e)
    refine ⟨k1, fun b hb => ?_⟩
    rcases List.mem_cons.1 hb with rfl | hb
    · exact e1
    · exact k2 b hb
theorem bodyR_mf (r : List Bool) (b : List (Bool × Int)) : (bodyR r b).length = r.length ∧ mf (bodyR r b) ≤ mf r ∧ (mf (bodyR r b) = mf r → bodyR r b = r ∧ ∀ a ∈ b, addS r a = r) := fold_mf addS_len addS_mf b r
theorem prodR_len (r : List Bool) (p : Prd) : (prodR r p).length = r.length := by
  unfold prodR; split
  · exact (bodyR_mf r p.2.2.1).1
  · rfl
theorem prodR_mf (r : List Bool) (p : Prd) : mf (prodR r p) ≤ mf r ∧ (mf (prodR r p) = mf r → prodR r p = r) := by
  unfold prodR; split
  · exact ⟨(bodyR_mf r p.2.2.1).2.1, fun e => ((bodyR_mf r p.2.2.1).2.2 e).1⟩
  · exact ⟨Nat.le_refl _, fun _ => rfl⟩
theorem passR_mf (ps : List Prd) (r : List Bool) : (passR ps r).length = r.length ∧ mf (passR ps r) ≤ mf r ∧ (mf (passR ps r) = mf r → passR ps r = r ∧ ∀ a ∈ ps, prodR r a = r) := fold_mf prodR_len prodR_mf ps r

/-- What a pass leaves alone is closed. -/
theorem passR_closed {g : Grm} {r : List Bool} (hl : r.length = g.2.1.length) (hs : 0 ≤ g.2.2.2.2 → g.2.2.2.2 < (r.length : Int) → bit r g.2.2.2.2.toNat = true) (he : passR g.2.2.1 r = r) : ClosedR g r := by
  refine ⟨hl, hs, fun p hp p0 p1 pb s hs s1 s2 s3 => ?_⟩
  have e1 := ((passR_mf g.2.2.1 r).2.2 (congrArg mf he)).2 p hp
  unfold prodR at e1
  rw [if_pos ⟨p0, p1, pb⟩] at e1
  have e2 := ((bodyR_mf r p.2.2.1).2.2 (congrArg mf e1)).2 s hs
  unfold addS at e2
  rw [if_pos ⟨s1, s2, s3⟩] at e2
  have := bit_set (f := r) (i := s.2.toNat) (j := s.2.toNat) (v := true) (by omega)
  rw [e2, if_pos rfl] at this
  exact this

/-- Nothing but what must be. -/
theorem addS_sub {r e : List Bool} (h : subB r e) {s : Bool × Int} (he : s.1 = true → 0 ≤ s.2 → s.2 < (e.length : Int) → bit e s.2.toNat = true) : subB (addS r s) e := by
  refine ⟨by rw [addS_len]; exact h.1, fun i hb => ?_⟩
  unfold addS at hb
  split at hb
  · rename_i hc
    rw [bit_set (by omega)] at hb
    by_cases e1 : i = s.2.toNat
    · subst e1; exact he hc.1 hc.2.1 (by rw [← h.1]; exact hc.2.2)
    · rw [if_neg e1] at hb; exact h.2 i hb
  · exact h.2 i hb
theorem bodyR_sub {e : List Bool} : ∀ (b : List (Bool × Int)) (r : List Bool), subB r e → (∀ s ∈ b, s.1 = true → 0 ≤ s.2 → s.2 < (e.length : Int) → bit e s.2.toNat = true) → subB (bodyR r b) e := by
  intro b
  induction b with
  | nil => intro r h _; exact h
  | cons s b ih => intro r h hs; exact ih _ (addS_sub h (hs s (by simp))) (fun t ht => hs t (by simp [ht]))
theorem prodR_sub {g : Grm} {r e : List Bool} (h : subB r e) (he : ClosedR g e) {p : Prd} (hp : p ∈ g.2.2.1) : subB (prodR r p) e := by
  unfold prodR
  split
  · rename_i hc
    exact bodyR_sub _ _ h (he.no p hp hc.1 (by rw [← h.1]; exact hc.2.1) (h.2 _ hc.2.2))
  · exact h
theorem passR_sub {g : Grm} {e : List Bool} (he : ClosedR g e) : ∀ (ps : List Prd) (r : List Bool), (∀ p ∈ ps, p ∈ g.2.2.1) → subB r e → subB (passR ps r) e := by
  intro ps
  induction ps with
  | nil => intro r _ h; exact h
  | cons p ps ih => intro r hs h; exact ih _ (fun q hq => hs q (by simp [hq])) (prodR_sub h he (hs p (by simp)))

/-- As many passes. -/
def passes (ps : List Prd) : Nat → List Bool → List Bool
  | 0, r => r
  | k + 1, r => passes ps k (passR ps r)
theorem subB_one {a b : List Bool} (h1 : subB a b) (h2 : subB b a) : a = b := by
  refine List.ext_getElem h1.1 (fun i hi hj => ?_)
  have q1 := h1.2 i
  have q2 := h2.2 i
  rw [bit_eq hi, bit_eq hj] at q1 q2
  cases ha : a[i] <;> cases hb : b[i] <;> simp_all
theorem passes_fix {ps : List Prd} : ∀ (k : Nat) (r : List Bool), mf r ≤ k → passR ps (passes ps k r) = passes ps k r := by
  intro k
  induction k with
  | zero =>
    intro r h
    have := (passR_mf ps r).2.1
    exact ((passR_mf ps r).2.2 (by omega)).1
  | succ k ih =>
    intro r h
    simp only [passes]
    have h1 := (passR_mf ps r).2.1
    by_cases e : mf (passR ps r) = mf r
    · have e1 := ((passR_mf ps r).2.2 e).1
      have st : ∀ j, passes ps j r = r := by
        intro j
        induction j with
        | zero => rfl
        | succ j ihj => simp only [passes, e1, ihj]
      rw [e1, st, e1]
    · exact ih _ (by omega)
def r0 (g : Grm) : List Bool := if g.2.2.2.2 < 0 ∨ (g.2.1.length : Int) ≤ g.2.2.2.2 then List.replicate g.2.1.length false else (List.replicate g.2.1.length false).set g.2.2.2.2.toNat true
/-- The sorts that are reached. -/
def reachF (g : Grm) : List Bool := passes g.2.2.1 g.2.1.length (r0 g)

theorem bit_rep (n i : Nat) : bit (List.replicate n false) i = false := by
  unfold bit
  rw [List.getD_eq_getElem?_getD, List.getElem?_replicate]
  split <;> rfl
theorem r0_len (g : Grm) : (r0 g).length = g.2.1.length := by unfold r0; split <;> simp
theorem r0_start (g : Grm) (h0 : 0 ≤ g.2.2.2.2) (h1 : g.2.2.2.2 < ((r0 g).length : Int)) : bit (r0 g) g.2.2.2.2.toNat = true := by
  rw [r0_len] at h1
  unfold r0
  rw [if_neg (by omega), bit_set (by simp; omega), if_pos rfl]
theorem r0_sub {g : Grm} {e : List Bool} (he : ClosedR g e) : subB (r0 g) e := by
  refine ⟨by rw [r0_len, he.len], fun i hb => ?_⟩
  unfold r0 at hb
  split at hb
  · rw [bit_rep] at hb; cases hb
  · rename_i h
    rw [bit_set (by simp; omega), bit_rep] at hb
    split at hb
    · rename_i e1; subst e1; exact he.start (by omega) (by rw [he.len]; omega)
    · cases hb

/-- What is between the start's row and all that is closed. -/
structure RInv (g : Grm) (r : List Bool) : Prop where
  len : r.length = g.2.1.length
  start : 0 ≤ g.2.2.2.2 → g.2.2.2.2 < (r.length : Int) → bit r g.2.2.2.2.toNat = true
  least : ∀ e, ClosedR g e → subB r e
theorem rinv0 (g : Grm) : RInv g (r0 g) := ⟨r0_len g, r0_start g, fun _ he => r0_sub he⟩
theorem addS_up (r : List Bool) (s : Bool × Int) : subB r (addS r s) := by
  refine ⟨(addS_len r s).symm, fun i hb => ?_⟩
  unfold addS
  split
  · rw [bit_set (by omega)]
    split
    · rfl
    · exact hb
  · exact hb
theorem subB_trans {a b c : List Bool} (h1 : subB a b) (h2 : subB b c) : subB a c := ⟨h1.1.trans h2.1, fun i h => h2.2 i (h1.2 i h)⟩
theorem subB_refl (a : List Bool) : subB a a := ⟨rfl, fun _ h => h⟩
theorem bodyR_up : ∀ (b : List (Bool × Int)) (r : List Bool), subB r (bodyR r b) := by
  intro b
  induction b with
  | nil => intro r; exact subB_refl r
  | cons s b ih => intro r; exact subB_trans (addS_up r s) (ih _)
theorem prodR_up (r : List Bool) (p : Prd) : subB r (prodR r p) := by
  unfold prodR; split
  · exact bodyR_up _ _
  · exact subB_refl r
theorem passR_up : ∀ (ps : List Prd) (r : List Bool), subB r (passR ps r) := by
  intro ps
  induction ps with
  | nil => intro r; exact subB_refl r
  | cons p ps ih => intro r; exact subB_trans (prodR_up r p) (ih _)
theorem RInv.pass {g : Grm} {r : List Bool} (h : RInv g r) : RInv g (passR g.2.2.1 r) := by
  have hu := passR_up g.2.2.1 r
  exact ⟨by rw [← hu.1]; exact h.len, fun h0 h1 => hu.2 _ (h.start h0 (by rw [hu.1]; exact h1)), fun e he => passR_sub he _ _ (fun _ hp => hp) (h.least e he)⟩
theorem RInv.passes {g : Grm} : ∀ k r, RInv g r → RInv g (Rf.passes g.2.2.1 k r) := by
  intro k
  induction k with
  | zero => intro r h; exact h
  | succ k ih => intro r h; exact ih _ h.pass
theorem reachF_ok (g : Grm) : RInv g (reachF g) ∧ ClosedR g (reachF g) := by
  have hi := RInv.passes g.2.1.length _ (rinv0 g)
  refine ⟨hi, passR_closed hi.len hi.start (passes_fix _ _ ?_)⟩
  have := mf_le (r0 g)
  rw [r0_len] at this
  exact this
theorem reach_one {g : Grm} {r : List Bool} (hi : RInv g r) (hc : ClosedR g r) : r = reachF g := by
  obtain ⟨h1, h2⟩ := reachF_ok g
  exact subB_one (hi.least _ h2) (h1.least _ hc)
end Go.Proofs.Ytfnjdegejgocfaa.Rf
