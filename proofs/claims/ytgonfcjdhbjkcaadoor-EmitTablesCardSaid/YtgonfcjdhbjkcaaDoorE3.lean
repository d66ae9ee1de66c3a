/- The reference's reading of a number: the same. -/
import Derived.Test.YtgonfcjdhbjkcaaDoorE2
set_option linter.unusedVariables false
set_option linter.unusedSimpArgs false
namespace Go.Proofs.YtgonfcjdhbjkcaaDoor.Rf
open Go

def stepW (m c : Int) : Int := if 48 ≤ c ∧ c ≤ 57 then IntKind.wrap .i64 (IntKind.wrap .i64 (m * 10) - IntKind.wrap .i64 (IntKind.wrap .u8 (c - 48))) else m
theorem stepW_in {m : Int} (h : inK .i64 m) (c : Int) : inK .i64 (stepW m c) := by
  unfold stepW; split
  · exact inK_wrap _ _
  · exact h
theorem foldW_in : ∀ (l : List Int) {m : Int}, inK .i64 m → inK .i64 (l.foldl stepW m) := by
  intro l
  induction l with
  | nil => intro m h; exact h
  | cons c l ih => intro m h; exact ih (stepW_in h c)
def dv (l : List Int) (v : Int) : Int := l.foldl (fun v c => v * 10 + (c - 48)) v
theorem dv_up : ∀ (l : List Int) (v : Int), 0 ≤ v → (∀ c ∈ l, isDig c) → v ≤ dv l v := by
  intro l
  induction l with
  | nil => intro v _ _; exact Int.le_refl _
  | cons c l ih =>
    intro v hv hd
    have hc := hd c (by simp)
    unfold isDig at hc
    have := ih (v * 10 + (c - 48)) (by omega) (fun d hd' => hd d (by simp [hd']))
    show v ≤ dv l (v * 10 + (c - 48))
    omega
theorem foldW_dig : ∀ (l : List Int) (v : Int), 0 ≤ v → (∀ c ∈ l, isDig c) → dv l v ≤ 9223372036854775808 → l.foldl stepW (-v) = -(dv l v) := by
  intro l
  induction l with
  | nil => intro v _ _ _; rfl
  | cons c l ih =>
    intro v hv hd hb
    have hc := hd c (by simp)
    unfold isDig at hc
    have hdl : ∀ d ∈ l, isDig d := fun d hd' => hd d (by simp [hd'])
    have hb' : dv l (v * 10 + (c - 48)) ≤ 9223372036854775808 := hb
    have hu := dv_up l (v * 10 + (c - 48)) (by omega) hdl
    have e : stepW (-v) c = -(v * 10 + (c - 48)) := by
      unfold stepW
      rw [if_pos (by omega), wrapu8 (show (0 : Int) ≤ c - 48 by omega) (by omega), wrap64 (show -9223372036854775808 ≤ c - 48 by omega) (by omega), wrap64 (show -9223372036854775808 ≤ -v * 10 by omega) (by omega), wrap64 (by omega) (by omega)]
      omega
    show List.foldl stepW (stepW (-v) c) l = _
    rw [e, ih _ (by omega) hdl hb']; rfl
/-- Of a number's digits the loop tells the number, below nought. -/
theorem foldW_digI {n : Int} (h : inK .i64 n) : (digI n).foldl stepW 0 = -((n.natAbs : Nat) : Int) := by
  simp only [inK, kLo, kHi] at h
  have hv := natD_val n.natAbs
  have e : (natD n.natAbs).foldl stepW 0 = -((n.natAbs : Nat) : Int) := by
    have := foldW_dig (natD n.natAbs) 0 (by omega) (natD_dig _) (by show dvl _ ≤ _; rw [hv]; omega)
    rw [Int.neg_zero] at this
    rw [this]
    show -(dvl _) = _
    rw [hv]
  rcases digI_forms n with ⟨h1, h2⟩ | ⟨h1, h2⟩
  · rw [h2]
    have : stepW 0 45 = 0 := by unfold stepW; rw [if_neg (by omega)]
    rw [List.foldl_cons, this, e]
  · rw [h2, e]

end Go.Proofs.YtgonfcjdhbjkcaaDoor.Rf
