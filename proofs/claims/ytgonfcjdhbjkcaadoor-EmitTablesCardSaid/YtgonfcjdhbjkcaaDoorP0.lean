/- Plain helpers: loops as recursions, integers that do not wrap. No program in sight. -/
import Derived.Test.YtgonfcjdhbjkcaaDoorRc
set_option linter.unusedVariables false
set_option linter.unusedSimpArgs false
namespace Go.Proofs.YtgonfcjdhbjkcaaDoor.Rf
open Go

theorem loopB_succ {A R : Type} (body : A → (A → Option R) → Option R) (n : Nat) (x : A) : loopB body (n + 1) x = body x (loopB body n) := rfl

/-- A loop whose states are told by how far it is. -/
theorem loop_up {A R : Type} {body : A → (A → Option R) → Option R} (f : Nat → A) (spec : Nat → Option R) (len : Nat)
    (step : ∀ j, j ≤ len → ∀ k, (j < len → k (f (j + 1)) = spec (j + 1)) → body (f j) k = spec j) : ∀ n j, j ≤ len → len - j < n → loopB body n (f j) = spec j := by
  intro n
  induction n with
  | zero => intro j _ h; omega
  | succ n ih =>
    intro j hj hn
    rw [loopB_succ]
    exact step j hj _ (fun hlt => ih (j + 1) hlt (by omega))
/-- A loop that asks each element. -/
theorem loop_all {α A R : Type} {body : A → (A → Option R) → Option R} (l : List α) (ok : α → Bool) (bad after : Option R) (f : Nat → A)
    (step : ∀ j, (h : j < l.length) → ∀ k, body (f j) k = if ok l[j] = true then k (f (j + 1)) else bad) (fin : ∀ k, body (f l.length) k = after) (n : Nat) (hn : l.length < n) : loopB body n (f 0) = if l.all ok = true then after else bad := by
  have := loop_up (body := body) f (fun j => if (l.drop j).all ok = true then after else bad) l.length (fun j hj k hk => by
    rcases Nat.lt_or_ge j l.length with hi | hi
    · rw [step j hi, hk hi, List.drop_eq_getElem_cons hi, List.all_cons]
      cases ok l[j] <;> simp
    · have e : j = l.length := by omega
      rw [e, fin]; simp) n 0 (Nat.zero_le _) (by omega)
  rwa [List.drop_zero] at this
/-- A loop that looks for something. -/
theorem loop_any {A R : Type} {body : A → (A → Option R) → Option R} (P : Nat → Prop) (len : Nat) (found after : Option R) (f : Nat → A)
    (step : ∀ j, j < len → ∀ k, (P j → body (f j) k = found) ∧ (¬ P j → body (f j) k = k (f (j + 1)))) (fin : ∀ k, body (f len) k = after) (n : Nat) (hn : len < n) :
    ((∃ j, j < len ∧ P j) → loopB body n (f 0) = found) ∧ ((¬ ∃ j, j < len ∧ P j) → loopB body n (f 0) = after) := by
  constructor
  · rintro ⟨j, hj, hp⟩
    have key : ∀ n i, i ≤ j → j - i < n → loopB body n (f i) = found := by
      intro n
      induction n with
      | zero => intro i _ h; omega
      | succ n ih =>
        intro i hi hlt
        rw [loopB_succ]
        by_cases hpi : P i
        · exact (step i (by omega) _).1 hpi
        · rw [(step i (by omega) _).2 hpi]
          have hne : i ≠ j := fun e => hpi (e ▸ hp)
          exact ih (i + 1) (by omega) (by omega)
    exact key n 0 (Nat.zero_le _) (by omega)
  · intro hno
    exact loop_up (body := body) f (fun _ => after) len (fun i hi k hk => by
      rcases Nat.lt_or_ge i len with h | h
      · rw [(step i h k).2 (fun hp => hno ⟨i, h, hp⟩)]; exact hk h
      · have e : i = len := by omega
        rw [e]; exact fin k) n 0 (Nat.zero_le _) (by omega)
theorem loop_any2 {A R : Type} {body : A → (A → Option R) → Option R} (P : Nat → Prop) (len : Nat) (r : Option R) (f : Nat → A)
    (step : ∀ j, j < len → ∀ k, (P j → body (f j) k = r) ∧ (¬ P j → body (f j) k = k (f (j + 1)))) (fin : (¬ ∃ j, j < len ∧ P j) → ∀ k, body (f len) k = r) (n : Nat) (hn : len < n) : loopB body n (f 0) = r := by
  by_cases h : ∃ j, j < len ∧ P j
  · obtain ⟨j, hj, hp⟩ := h
    have key : ∀ n i, i ≤ j → j - i < n → loopB body n (f i) = r := by
      intro n
      induction n with
      | zero => intro i _ h; omega
      | succ n ih =>
        intro i hi hlt
        rw [loopB_succ]
        by_cases hpi : P i
        · exact (step i (by omega) _).1 hpi
        · rw [(step i (by omega) _).2 hpi]
          have hne : i ≠ j := fun e => hpi (e ▸ hp)
          exact ih (i + 1) (by omega) (by omega)
    exact key n 0 (Nat.zero_le _) (by omega)
  · exact loop_up (body := body) f (fun _ => r) len (fun i hi k hk => by
      rcases Nat.lt_or_ge i len with h' | h'
      · rw [(step i h' k).2 (fun hp => h ⟨i, h', hp⟩)]; exact hk h'
      · have e : i = len := by omega
        rw [e]; exact fin h k) n 0 (Nat.zero_le _) (by omega)
/-- The same, downward. -/
theorem loop_down {A R : Type} {body : A → (A → Option R) → Option R} (f : Nat → A) (spec : Nat → Option R) (len : Nat)
    (step : ∀ j, j ≤ len → ∀ k, (∀ i, j = i + 1 → k (f i) = spec i) → body (f j) k = spec j) : ∀ n j, j ≤ len → j < n → loopB body n (f j) = spec j := by
  intro n
  induction n with
  | zero => intro j _ h; omega
  | succ n ih =>
    intro j hj hn
    rw [loopB_succ]
    exact step j hj _ (fun i e => ih i (by omega) (by omega))
/-- A loop with a measure. -/
theorem loop_rule {A R : Type} {body : A → (A → Option R) → Option R} (I : Nat → A → Option R → Prop)
    (step : ∀ m x r, I m x r → ∀ k, (∀ m' y r', m' < m → I m' y r' → k y = r') → body x k = r) : ∀ n m x r, m < n → I m x r → loopB body n x = r := by
  intro n
  induction n with
  | zero => intro m x r h; omega
  | succ n ih =>
    intro m x r h hi
    rw [loopB_succ]
    exact step m x r hi _ (fun m' y r' hm hi' => ih m' y r' (by omega) hi')

def N0 : Nat := 18446744073709551616
theorem N0_lt {n : Nat} (h : n ≤ maxLen) : n + 1 < N0 := by unfold maxLen at h; unfold N0; omega

theorem wrap_in {n : Int} (h1 : -9223372036854775808 ≤ n) (h2 : n ≤ 9223372036854775807) : IntKind.wrap .i64 n = n := wrap_inK ⟨h1, h2⟩
theorem wrap_succ {j n : Nat} (h : j < n) (hn : n ≤ maxLen) : IntKind.wrap .i64 ((j : Int) + 1) = ((j + 1 : Nat) : Int) := by
  unfold maxLen at hn
  rw [wrap_in (by omega) (by omega)]; simp
theorem inK64 {n : Int} (h : inK .i64 n) : -9223372036854775808 ≤ n ∧ n ≤ 9223372036854775807 := h

@[simp] theorem joinB_eq {A R : Type} (J : A → Option R) (body : (A → Option R) → Option R) : joinB J body = body J := rfl
@[simp] theorem callB_some {A R : Type} (a : A) (k : A → Option R) : callB (some a) k = k a := rfl
theorem callB_eq {A R : Type} {o : Option A} {a : A} (h : o = some a) (k : A → Option R) : callB o k = k a := by rw [h]; rfl
theorem bif_eq {α : Type} (c : Bool) (a b : α) : (bif c then a else b) = if c = true then a else b := by cases c <;> rfl
end Go.Proofs.YtgonfcjdhbjkcaaDoor.Rf
