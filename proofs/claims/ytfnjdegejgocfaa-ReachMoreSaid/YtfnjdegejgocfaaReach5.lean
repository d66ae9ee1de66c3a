/- Fruitful: what it computes. -/
import Derived.Test.YtfnjdegejgocfaaReach4
set_option linter.unusedVariables false
set_option linter.unusedSimpArgs false
namespace Go.Proofs.Ytfnjdegejgocfaa.Rf
open Go

def passF : List Prd → List Bool → Bool → List Bool × Bool
  | [], d, m => (d, m)
  | p :: ps, d, m => if gainF d p then passF ps (d.set p.1.toNat true) true else passF ps d m

theorem passF_inv {ps : List Prd} {ns : Nat} : ∀ (qs : List Prd), (∀ p ∈ qs, p ∈ ps) → ∀ d m, FInv ps ns d → FInv ps ns (passF qs d m).1 ∧ mf (passF qs d m).1 ≤ mf d ∧ ((passF qs d m).2 = true → m = false → mf (passF qs d m).1 < mf d) ∧ ((passF qs d m).2 = false → (passF qs d m).1 = d ∧ ∀ p ∈ qs, ¬ gainF d p) := by
  intro qs
  induction qs with
  | nil => intro _ d m h; exact ⟨h, Nat.le_refl _, fun h1 h2 => (by subst h2; cases h1), fun _ => ⟨rfl, by simp⟩⟩
  | cons p qs ih =>
    intro hs d m h
    unfold passF
    split
    · rename_i hg
      obtain ⟨i1, i2, i3, i4⟩ := ih (fun q hq => hs q (by simp [hq])) _ true (h.step (hs p (by simp)) hg)
      have hlt : mf (d.set p.1.toNat true) < mf d := mf_set (by have := hg.1; have := hg.2.1; omega) hg.2.2.1
      have ht : ∀ (qs : List Prd) (d : List Bool), (passF qs d true).2 = true := by
        intro qs
        induction qs with
        | nil => intro d; rfl
        | cons q qs ih => intro d; unfold passF; split <;> exact ih _
      exact ⟨i1, by omega, fun _ _ => by omega, fun hf => by rw [ht] at hf; cases hf⟩
    · rename_i hg
      obtain ⟨i1, i2, i3, i4⟩ := ih (fun q hq => hs q (by simp [hq])) d m h
      refine ⟨i1, i2, i3, fun hf => ⟨(i4 hf).1, fun q hq => ?_⟩⟩
      rcases List.mem_cons.1 hq with rfl | hq
      · exact hg
      · exact (i4 hf).2 q hq

def fruitF (g : Grm) : List Bool := (leastF g).map fun v => decide (0 ≤ v)

theorem finv0 (g : Grm) : FInv g.2.2.1 g.2.1.length (List.replicate g.2.1.length false) := by
  refine ⟨by simp, fun e he => ⟨by rw [he.len]; simp, fun i hb => ?_⟩⟩
  exfalso
  unfold bit at hb
  rw [List.getD_eq_getElem?_getD, List.getElem?_replicate] at hb
  split at hb <;> cases hb

set_option maxHeartbeats 1000000 in
theorem p58_eq (g : Grm) (hg : GOk g) (hn : g.2.1.length ≤ 100) : p58 N0 (g, ()) = some ((fruitF g, ()), ()) := by
  unfold p58
  have z0 : (0 : Int) ≤ (g.2.1.length : Int) ∧ (g.2.1.length : Int) ≤ (g.2.1.length : Int) := by omega
  simp only [z0, and_self, if_true, Int.toNat_natCast]
  rw [if_pos (by omega)]
  refine loop_rule (fun m x r => ∃ (d : List Bool) (b : Bool), x = ((d, ()), (b, ())) ∧ FInv g.2.2.1 g.2.1.length d ∧ (b = true → mf d < m) ∧ (b = false → ClosedF g.2.2.1 g.2.1.length d) ∧ r = some ((fruitF g, ()), ())) ?_ N0 (mf (List.replicate g.2.1.length false) + 1) _ _ (by
    have := mf_le (List.replicate g.2.1.length false)
    rw [List.length_replicate] at this
    unfold N0; omega) ⟨_, true, rfl, finv0 g, fun _ => Nat.lt_succ_self _, fun h => (by cases h), rfl⟩
  rintro m x r ⟨d, b, rfl, hi, hm, hcl, rfl⟩ k2 hk2
  cases b
  case false =>
    rw [show fruitF g = d from (fruit_least g hi (hcl rfl)).symm]
    rfl
  have hm := hm rfl
  obtain ⟨m, rfl⟩ : ∃ m', m = m' + 1 := ⟨m - 1, by omega⟩
  simp only [if_true]
  rw [cond_true]
  obtain ⟨i1, i2, i3, i4⟩ := passF_inv g.2.2.1 (fun p hp => hp) d false hi
  have fin : k2 (((passF g.2.2.1 d false).1, ()), ((passF g.2.2.1 d false).2, ())) = some ((fruitF g, ()), ()) :=
    hk2 m _ _ (Nat.lt_succ_self _) ⟨_, _, rfl, i1, fun h => by have := i3 h rfl; omega, fun h => by rw [(i4 h).1]; exact ⟨hi.len, (i4 h).2⟩, rfl⟩
  rw [← fin]
  clear fin i1 i2 i3 i4
  refine loop_rule (fun mm x r => ∃ (j : Nat) (d : List Bool) (b : Bool), x = ((d, ()), (b, ((j : Int), ()))) ∧ mm + j = g.2.2.1.length ∧ r = k2 (((passF (g.2.2.1.drop j) d b).1, ()), ((passF (g.2.2.1.drop j) d b).2, ()))) ?_ N0 g.2.2.1.length _ _ (by have := N0_lt hg.ps; omega) ⟨0, d, false, rfl, rfl, rfl⟩
  clear hi hm hk2 hcl
  rintro mm x r ⟨j, d, b, rfl, hmm, rfl⟩ k hk
  rcases Nat.eq_zero_or_pos mm with rfl | hm0
  · have : ¬ (j : Int) < (g.2.2.1.length : Int) := by omega
    simp only [this, decide_false, cond_false, List.drop_eq_nil_of_le (show g.2.2.1.length ≤ j by omega), passF]
  obtain ⟨mm, rfl⟩ : ∃ m', mm = m' + 1 := ⟨mm - 1, by omega⟩
  have hj : j < g.2.2.1.length := by omega
  have c1 : (j : Int) < (g.2.2.1.length : Int) := by omega
  have hpm := List.getElem_mem hj
  have hpb := hg.pb _ hpm
  simp only [c1, decide_true, cond_true, Int.toNat_natCast, Int.natCast_nonneg, if_true, List.getElem?_eq_getElem hj, wrap_succ hj hg.ps, joinB_eq, bif_eq, decide_eq_true_eq, List.drop_eq_getElem_cons hj, passF, p80_eq _ d hpb, callB_some]
  generalize g.2.2.1[j] = p at hpm
  by_cases a1 : 0 ≤ p.1
  case neg =>
    have ng : ¬ gainF d p := fun h => a1 h.1
    simp only [ng, a1, if_true, if_false, Bool.false_eq_true]
    exact hk mm _ _ (Nat.lt_succ_self _) ⟨j + 1, d, b, rfl, by omega, rfl⟩
  by_cases a2 : p.1 < (d.length : Int)
  case neg =>
    have ng : ¬ gainF d p := fun h => a2 h.2.1
    simp only [ng, a1, a2, if_true, if_false, Bool.false_eq_true]
    exact hk mm _ _ (Nat.lt_succ_self _) ⟨j + 1, d, b, rfl, by omega, rfl⟩
  have b3 : p.1.toNat < d.length := by omega
  have hat := bit_eq b3
  simp only [a1, a2, if_true, List.getElem?_eq_getElem b3]
  cases a3 : d[p.1.toNat]
  case true =>
    have ng : ¬ gainF d p := fun h => by have := h.2.2.1; rw [hat, a3] at this; cases this
    simp only [ng, Bool.not_true, Bool.false_eq_true, if_false]
    exact hk mm _ _ (Nat.lt_succ_self _) ⟨j + 1, d, b, rfl, by omega, rfl⟩
  case false =>
  cases a4 : p.2.2.1.all (symOk d)
  · have ng : ¬ gainF d p := fun h => by have := h.2.2.2; rw [a4] at this; cases this
    simp only [ng, Bool.not_false, Bool.false_eq_true, if_true, if_false]
    exact hk mm _ _ (Nat.lt_succ_self _) ⟨j + 1, d, b, rfl, by omega, rfl⟩
  · have yg : gainF d p := ⟨a1, a2, by rw [hat]; exact a3, a4⟩
    simp only [yg, Bool.not_false, if_true]
    exact hk mm _ _ (Nat.lt_succ_self _) ⟨j + 1, _, true, rfl, by omega, rfl⟩
end Go.Proofs.Ytfnjdegejgocfaa.Rf
