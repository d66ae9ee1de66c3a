/- Ways: the recursion over the nodes between is transitive. No program in sight. -/
import Derived.Test.YtfnjdegejgocfaaReach10
set_option linter.unusedVariables false
set_option linter.unusedSimpArgs false
namespace Go.Proofs.Ytfnjdegejgocfaa.Rf
open Go

def War (E : Nat → Nat → Prop) : Nat → Nat → Nat → Prop
  | 0, i, k => E i k
  | m + 1, i, k => War E m i k ∨ (War E m i m ∧ War E m m k)
theorem war_trans {E : Nat → Nat → Prop} : ∀ (M m : Nat), m < M → ∀ i k, War E M i m → War E M m k → War E M i k := by
  intro M
  induction M with
  | zero => intro m h; omega
  | succ M ih =>
    intro m h i k h1 h2
    rcases Nat.lt_or_ge m M with hlt | hge
    · rcases h1 with h1 | ⟨a1, a2⟩
      · rcases h2 with h2 | ⟨b1, b2⟩
        · exact .inl (ih m hlt i k h1 h2)
        · exact .inr ⟨ih m hlt i M h1 b1, b2⟩
      · rcases h2 with h2 | ⟨b1, b2⟩
        · exact .inr ⟨a1, ih m hlt M k a2 h2⟩
        · exact .inr ⟨a1, b2⟩
    · have e : m = M := by omega
      subst e
      have g1 : War E m i m := by rcases h1 with h1 | ⟨a1, _⟩ <;> assumption
      have g2 : War E m m k := by rcases h2 with h2 | ⟨_, b2⟩ <;> assumption
      exact .inr ⟨g1, g2⟩
/-- A way of one edge at least. -/
inductive Way (E : Nat → Nat → Prop) : Nat → Nat → Prop
  | one {i k} : E i k → Way E i k
  | more {i j k} : E i j → Way E j k → Way E i k
theorem Way.trans {E : Nat → Nat → Prop} {i j k : Nat} (h : Way E i j) (h2 : Way E j k) : Way E i k := by
  induction h with
  | one h => exact .more h h2
  | more h _ ih => exact .more h (ih h2)
theorem war_way {E : Nat → Nat → Prop} : ∀ M i k, War E M i k → Way E i k := by
  intro M
  induction M with
  | zero => intro i k h; exact .one h
  | succ M ih =>
    intro i k h
    rcases h with h | ⟨h1, h2⟩
    · exact ih _ _ h
    · exact (ih _ _ h1).trans (ih _ _ h2)
theorem war_up {E : Nat → Nat → Prop} {i k : Nat} (h : E i k) : ∀ M, War E M i k := by
  intro M
  induction M with
  | zero => exact h
  | succ M ih => exact .inl ih
theorem way_war {E : Nat → Nat → Prop} {M : Nat} (hE : ∀ i k, E i k → k < M) {i k : Nat} (h : Way E i k) : War E M i k := by
  induction h with
  | one h => exact war_up h M
  | more h _ ih => exact war_trans M _ (hE _ _ h) _ _ (war_up h M) ih
end Go.Proofs.Ytfnjdegejgocfaa.Rf
