/- Least: a pass, and passes until nothing changes; the least of all that is closed. No program in sight. -/
import Derived.Test.YtfnjdegejgocfaaPrec
import Derived.Test.YtfnjdegejgocfaaReach1
set_option linter.unusedVariables false
set_option linter.unusedSimpArgs false
namespace Go.Proofs.Ytfnjdegejgocfaa.Rf
open Go

def at1 (d : List Int) (i : Nat) : Int := d.getD i (-1)
/-- At least as short, wherever there is one. -/
def leD (d c : List Int) : Prop := d.length = c.length ∧ ∀ i, 0 ≤ at1 c i → 0 ≤ at1 d i ∧ at1 d i ≤ at1 c i

theorem at1_cap {d : List Int} (h : Cap d) (i : Nat) : at1 d i ≤ 1073741824 := by
  unfold at1
  rw [List.getD_eq_getElem?_getD]
  cases hi : d[i]? with
  | none => simp
  | some v => exact h v (List.mem_of_getElem? hi)

theorem lenA_range {d : List Int} (hc : Cap d) : ∀ (b : List (Bool × Int)) (n : Int), 0 ≤ n → n ≤ 1073741824 → -1 ≤ lenA d b n ∧ lenA d b n ≤ 1073741824 := by
  intro b
  induction b with
  | nil => intro n h0 h1; simp only [lenA]; omega
  | cons s b ih =>
    intro n h0 h1
    simp only [lenA]
    split
    · exact ih _ (by split <;> omega) (by split <;> omega)
    · split
      · omega
      · rename_i h
        have := at1_cap hc s.2.toNat
        unfold at1 at this
        have h3 : ¬ d.getD s.2.toNat (-1) < 0 := fun h3 => h (.inr (.inr h3))
        exact ih _ (by split <;> omega) (by split <;> omega)

theorem lenA_mono {d c : List Int} (h : leD d c) : ∀ (b : List (Bool × Int)) (n m : Int), 0 ≤ n → n ≤ m → m ≤ 1073741824 → 0 ≤ lenA c b m → 0 ≤ lenA d b n ∧ lenA d b n ≤ lenA c b m := by
  intro b
  induction b with
  | nil => intro n m h0 h1 h2 h3; simp only [lenA] at h3 ⊢; omega
  | cons s b ih =>
    intro n m h0 h1 h2 h3
    simp only [lenA] at h3 ⊢
    by_cases hs : s.1 = false
    · simp only [hs, if_true] at h3 ⊢
      exact ih _ _ (by split <;> omega) (by split <;> split <;> omega) (by split <;> omega) h3
    · simp only [if_neg hs] at h3 ⊢
      by_cases hb : s.2 < 0 ∨ (c.length : Int) ≤ s.2 ∨ c.getD s.2.toNat (-1) < 0
      · simp only [if_pos hb] at h3; omega
      · simp only [if_neg hb] at h3 ⊢
        have hc0 : 0 ≤ at1 c s.2.toNat := by unfold at1; omega
        obtain ⟨e1, e2⟩ := h.2 _ hc0
        unfold at1 at e1 e2 hc0
        have hl := h.1
        have hd' : ¬ (s.2 < 0 ∨ (d.length : Int) ≤ s.2 ∨ d.getD s.2.toNat (-1) < 0) := by omega
        simp only [if_neg hd']
        exact ih _ _ (by split <;> omega) (by split <;> split <;> omega) (by split <;> omega) h3

/-- Is something gained by a production? -/
def gain (d : List Int) (p : Prd) : Prop := 0 ≤ p.1 ∧ p.1 < (d.length : Int) ∧ 0 ≤ lenA d p.2.2.1 0 ∧ (at1 d p.1.toNat < 0 ∨ lenA d p.2.2.1 0 < at1 d p.1.toNat)
instance (d : List Int) (p : Prd) : Decidable (gain d p) := by unfold gain; exact inferInstance

/-- Nothing is gained. -/
structure Closed (ps : List Prd) (ns : Nat) (d : List Int) : Prop where
  len : d.length = ns
  cap : Cap d
  lo : ∀ v ∈ d, -1 ≤ v
  no : ∀ p ∈ ps, ¬ gain d p
structure LInv (ps : List Prd) (ns : Nat) (d : List Int) : Prop where
  len : d.length = ns
  cap : Cap d
  lo : ∀ v ∈ d, -1 ≤ v
  least : ∀ e, Closed ps ns e → leD e d

theorem at1_set {d : List Int} {i j : Nat} {v : Int} (hi : i < d.length) : at1 (d.set i v) j = if j = i then v else at1 d j := by
  unfold at1
  rw [List.getD_eq_getElem?_getD, List.getD_eq_getElem?_getD, List.getElem?_set]
  by_cases e : i = j
  · subst e; simp [hi]
  · rw [if_neg e, if_neg (Ne.symm e)]

theorem LInv.step {ps : List Prd} {ns : Nat} {d : List Int} (h : LInv ps ns d) {p : Prd} (hp : p ∈ ps) (hg : gain d p) : LInv ps ns (d.set p.1.toNat (lenA d p.2.2.1 0)) := by
  obtain ⟨g0, g1, g2, g3⟩ := hg
  have hi : p.1.toNat < d.length := by omega
  obtain ⟨r1, r2⟩ := lenA_range h.cap p.2.2.1 0 (by omega) (by omega)
  refine ⟨by rw [List.length_set]; exact h.len, fun v hv => ?_, fun v hv => ?_, fun e he => ?_⟩
  · rcases List.mem_or_eq_of_mem_set hv with hv | rfl
    · exact h.cap v hv
    · exact r2
  · rcases List.mem_or_eq_of_mem_set hv with hv | rfl
    · exact h.lo v hv
    · exact r1
  · have hle := h.least e he
    refine ⟨by rw [List.length_set]; exact hle.1, fun i hi0 => ?_⟩
    rw [at1_set hi] at hi0 ⊢
    by_cases e1 : i = p.1.toNat
    · rw [if_pos e1] at hi0 ⊢
      subst e1
      obtain ⟨m1, m2⟩ := lenA_mono hle p.2.2.1 0 0 (by omega) (by omega) (by omega) g2
      have hn := he.no p hp
      have hl : (e.length : Int) = d.length := by rw [hle.1]
      have : ¬ (at1 e p.1.toNat < 0 ∨ lenA e p.2.2.1 0 < at1 e p.1.toNat) := fun hx => hn ⟨g0, by omega, m1, hx⟩
      omega
    · rw [if_neg e1] at hi0 ⊢
      exact hle.2 i hi0

def mu1 (v : Int) : Nat := if v < 0 then 1073741825 else v.toNat
def mu (d : List Int) : Nat := (d.map mu1).foldr (· + ·) 0
theorem mu_cons (v : Int) (d : List Int) : mu (v :: d) = mu1 v + mu d := rfl
theorem mu_set : ∀ {d : List Int} {i : Nat} {v : Int}, i < d.length → mu1 v < mu1 (at1 d i) → mu (d.set i v) < mu d := by
  intro d
  induction d with
  | nil => intro i v h; simp at h
  | cons x xs ih =>
    intro i v h hv
    cases i with
    | zero =>
      simp only [List.set_cons_zero, mu_cons]
      have : at1 (x :: xs) 0 = x := rfl
      rw [this] at hv; omega
    | succ i =>
      simp only [List.set_cons_succ, mu_cons]
      have e : at1 (x :: xs) (i + 1) = at1 xs i := rfl
      rw [e] at hv
      have := ih (by simpa using h) hv
      omega
theorem mu_gain {d : List Int} (hc : Cap d) {p : Prd} (hg : gain d p) : mu (d.set p.1.toNat (lenA d p.2.2.1 0)) < mu d := by
  obtain ⟨g0, g1, g2, g3⟩ := hg
  obtain ⟨r1, r2⟩ := lenA_range hc p.2.2.1 0 (by omega) (by omega)
  refine mu_set (by omega) ?_
  unfold mu1
  rw [if_neg (by omega)]
  split <;> omega
theorem mu_le {d : List Int} (hc : Cap d) : mu d ≤ d.length * 1073741825 := by
  induction d with
  | nil => simp [mu]
  | cons x xs ih =>
    rw [mu_cons, List.length_cons, Nat.succ_mul]
    have h1 := ih (fun v hv => hc v (by simp [hv]))
    have h2 := hc x (by simp)
    have : mu1 x ≤ 1073741825 := by unfold mu1; split <;> omega
    omega

/-- One pass. -/
def pass : List Prd → List Int → Bool → List Int × Bool
  | [], d, m => (d, m)
  | p :: ps, d, m => if gain d p then pass ps (d.set p.1.toNat (lenA d p.2.2.1 0)) true else pass ps d m

theorem pass_inv {ps : List Prd} {ns : Nat} : ∀ (qs : List Prd), (∀ p ∈ qs, p ∈ ps) → ∀ d m, LInv ps ns d → LInv ps ns (pass qs d m).1 ∧ mu (pass qs d m).1 ≤ mu d ∧ ((pass qs d m).2 = true → m = false → mu (pass qs d m).1 < mu d) ∧ ((pass qs d m).2 = false → (pass qs d m).1 = d ∧ ∀ p ∈ qs, ¬ gain d p) := by
  intro qs
  induction qs with
  | nil => intro _ d m h; exact ⟨h, Nat.le_refl _, fun h1 h2 => (by subst h2; cases h1), fun _ => ⟨rfl, by simp⟩⟩
  | cons p qs ih =>
    intro hs d m h
    unfold pass
    split
    · rename_i hg
      obtain ⟨i1, i2, i3, i4⟩ := ih (fun q hq => hs q (by simp [hq])) _ true (h.step (hs p (by simp)) hg)
      have hlt := mu_gain h.cap hg
      have ht : ∀ (qs : List Prd) (d : List Int), (pass qs d true).2 = true := by
        intro qs
        induction qs with
        | nil => intro d; rfl
        | cons q qs ih => intro d; unfold pass; split <;> exact ih _
      exact ⟨i1, by omega, fun _ _ => by omega, fun hf => by rw [ht] at hf; cases hf⟩
    · rename_i hg
      obtain ⟨i1, i2, i3, i4⟩ := ih (fun q hq => hs q (by simp [hq])) d m h
      refine ⟨i1, i2, i3, fun hf => ⟨(i4 hf).1, fun q hq => ?_⟩⟩
      rcases List.mem_cons.1 hq with rfl | hq
      · exact hg
      · exact (i4 hf).2 q hq

/-- Passes until nothing changes. -/
def iter (ps : List Prd) : Nat → List Int → List Int
  | 0, d => d
  | k + 1, d => if (pass ps d false).2 = true then iter ps k (pass ps d false).1 else (pass ps d false).1

theorem iter_ok {ps : List Prd} {ns : Nat} : ∀ k d, mu d < k → LInv ps ns d → LInv ps ns (iter ps k d) ∧ Closed ps ns (iter ps k d) := by
  intro k
  induction k with
  | zero => intro d h; omega
  | succ k ih =>
    intro d h hi
    obtain ⟨i1, i2, i3, i4⟩ := pass_inv ps (fun p hp => hp) d false hi
    unfold iter
    split
    · rename_i hm
      exact ih _ (by have := i3 hm rfl; omega) i1
    · rename_i hm
      have hm : (pass ps d false).2 = false := by cases hh : (pass ps d false).2 <;> simp_all
      obtain ⟨e1, e2⟩ := i4 hm
      rw [e1]
      exact ⟨hi, hi.len, hi.cap, hi.lo, e2⟩

/-- Two that are closed, and least, are one. -/
theorem least_one {ps : List Prd} {ns : Nat} {c d : List Int} (hc : LInv ps ns c) (hc' : Closed ps ns c) (hd : LInv ps ns d) (hd' : Closed ps ns d) : c = d := by
  have h1 := hc.least d hd'
  have h2 := hd.least c hc'
  refine List.ext_getElem (by rw [hc.len, hd.len]) (fun i hi hj => ?_)
  have ec : at1 c i = c[i] := by unfold at1; rw [List.getD_eq_getElem?_getD, List.getElem?_eq_getElem hi]; rfl
  have ed : at1 d i = d[i] := by unfold at1; rw [List.getD_eq_getElem?_getD, List.getElem?_eq_getElem hj]; rfl
  have l1 := hc.lo _ (List.getElem_mem hi)
  have l2 := hd.lo _ (List.getElem_mem hj)
  have a1 := h1.2 i
  have a2 := h2.2 i
  rw [ec, ed] at a1 a2
  by_cases x : 0 ≤ c[i]
  · have := a1 x; have := a2 this.1; omega
  · by_cases y : 0 ≤ d[i]
    · have := a2 y; omega
    · omega
end Go.Proofs.Ytfnjdegejgocfaa.Rf
