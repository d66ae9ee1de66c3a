/- 'FeedOrder': whatever the input, the law's function returns true, and its arguments read as they did. Conditions: none beyond the statement's own. -/
import Derived.Test.YtfnjdegejgocfaaRows
import Derived.Test.YtfnjdegejgocfaaFeed3
import Derived.Test.YtfnjdegejgocfaaRc
import Derived.ProofKit
namespace Go.Proofs.Ytfnjdegejgocfaa
open Go Go.ChangeShapes Go.WideShapes Go.ChangeAt Go.RowKit Go.Proofs.Ytfnjdegejgocfaa.Rf
set_option linter.unusedVariables false

theorem feedOrder_own : ownKnob Try.prog.godebug = none := by kernel_rfl
theorem feedOrder_laid : laidOutB Try.prog = true := by kernel_rfl

set_option maxRecDepth 100000 in
theorem feedOrder_lifted (os : Os) (started : os.Started) (H : Type) (enc : TypeId × Value → H) :
    ReturnsInHanded {} Try.checked os 4 .any (Rows.feedOrderSpec.pre6 enc Try.prog Try.f4 Rows.feedOrderRow.domain false) (Rows.feedOrderSpec.post enc Try.prog Try.f4 false true false false) := by
  refine returnsInHanded_of_change (C := Try.checked) feedOrder_own started (by kernel_rfl) Try.func4
    (ChangeSpec.witness6 (enc := enc) (C := Try.checked) false ⟨#[], #[.int .u8 0, .slice none 0 0], []⟩ 8 (by kernel_rfl) (by kernel_rfl) (by kernel_rfl) (by kernel_rfl)) ?_
  intro W base args ds gs before hval0 hW0 hcnd _
  have hW : DataW.Whole enc Try.prog Try.f4.params.toList Rows.feedOrderSpec.vars false W args.toList ds gs before := hW0
  have hval : ∀ (j : Nat) t v, Try.f4.params.toList[j]? = some t → args[j]? = some v → Value.okWide Try.prog W .any base t v := fun j t v h1 h2 => hval0 j t v (by simpa using h1) h2
  have hA : ∃ p, DataW.TrodAll enc Try.prog W 0 (fun _ => true) true Try.f4.params.toList args.toList ds p := by
    obtain ⟨p, q, hA0, _⟩ := hW
    exact ⟨p, hA0⟩
  obtain ⟨p, hA⟩ := hA
  refine (law_calls tab_ok (ok4 N0) (fun x hx => by obtain ⟨m, l, u⟩ := x; exact p4_all m l hx.1) (n := 12) (ts := Try.f4.params.toList) (by rw [Try.params4]; rfl) hA hval (fun p hp => by cases hp)).mono fun e W' he => ?_
  obtain ⟨he, hb⟩ := he
  exact ⟨.bool true, he, law_post feedOrder_laid (s := Rows.feedOrderSpec) rfl ⟨4, by kernel_rfl, Try.underlying4⟩ (fun ds hd => by rw [Try.params4] at hd; match ds, hd with | [_, _], _ => rfl) (by rw [Try.params4]; kernel_rfl) hW hb⟩

theorem feedOrder_holds : Rows.FeedOrderSaid :=
  OpenClaim.holds_of_wide 4 Try.f4 rfl rfl rfl rfl rfl rfl rfl ⟨rfl, rfl, rfl, rfl, rfl⟩ rfl rfl rfl rfl rfl (by kernel_rfl) Try.func4 (by kernel_rfl)
    (of_decide_eq_true (by kernel_rfl)) (by unfold Func.isWrapper; first | (rw [if_pos (by decide +kernel)]; kernel_rfl) | (rw [if_neg (by decide +kernel)]; exact ⟨rfl, rfl⟩))
    (fun os started H enc _ => feedOrder_lifted os started H enc)
end Go.Proofs.Ytfnjdegejgocfaa
