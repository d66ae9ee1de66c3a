/- 'FeedPlays': whatever the input, the law's function returns true, and its arguments read as they did. Conditions: none beyond the statement's own. -/
import Derived.Test.YtfnjdegejgocfaaRows
import Derived.Test.YtfnjdegejgocfaaFeed4
import Derived.Test.YtfnjdegejgocfaaRc
import Derived.ProofKit
namespace Go.Proofs.Ytfnjdegejgocfaa
open Go Go.ChangeShapes Go.WideShapes Go.ChangeAt Go.RowKit Go.Proofs.Ytfnjdegejgocfaa.Rf
set_option linter.unusedVariables false

theorem feedPlays_own : ownKnob Try.prog.godebug = none := by kernel_rfl
theorem feedPlays_laid : laidOutB Try.prog = true := by kernel_rfl

set_option maxRecDepth 100000 in
theorem feedPlays_lifted (os : Os) (started : os.Started) (H : Type) (enc : TypeId × Value → H) :
    ReturnsInHanded {} Try.checked os 7 .any (Rows.feedPlaysSpec.pre6 enc Try.prog Try.f7 Rows.feedPlaysRow.domain false) (Rows.feedPlaysSpec.post enc Try.prog Try.f7 false true false false) := by
  refine returnsInHanded_of_change (C := Try.checked) feedPlays_own started (by kernel_rfl) Try.func7
    (ChangeSpec.witness6 (enc := enc) (C := Try.checked) false ⟨#[], #[.agg #[.int .i64 0, .int .i64 0], .slice none 0 0], []⟩ 8 (by kernel_rfl) (by kernel_rfl) (by kernel_rfl) (by kernel_rfl)) ?_
  intro W base args ds gs before hval0 hW0 hcnd _
  have hW : DataW.Whole enc Try.prog Try.f7.params.toList Rows.feedPlaysSpec.vars false W args.toList ds gs before := hW0
  have hval : ∀ (j : Nat) t v, Try.f7.params.toList[j]? = some t → args[j]? = some v → Value.okWide Try.prog W .any base t v := fun j t v h1 h2 => hval0 j t v (by simpa using h1) h2
  have hA : ∃ p, DataW.TrodAll enc Try.prog W 0 (fun _ => true) true Try.f7.params.toList args.toList ds p := by
    obtain ⟨p, q, hA0, _⟩ := hW
    exact ⟨p, hA0⟩
  obtain ⟨p, hA⟩ := hA
  refine (law_calls tab_ok (ok7 N0) (fun x hx => by obtain ⟨ab, l, u⟩ := x; exact p7_all ab l hx.1.1) (n := 12) (ts := Try.f7.params.toList) (by rw [Try.params7]; rfl) hA hval (fun p hp => by cases hp)).mono fun e W' he => ?_
  obtain ⟨he, hb⟩ := he
  exact ⟨.bool true, he, law_post feedPlays_laid (s := Rows.feedPlaysSpec) rfl ⟨4, by kernel_rfl, Try.underlying4⟩ (fun ds hd => by rw [Try.params7] at hd; match ds, hd with | [_, _], _ => rfl) (by rw [Try.params7]; kernel_rfl) hW hb⟩

theorem feedPlays_holds : Rows.FeedPlaysSaid :=
  OpenClaim.holds_of_wide 7 Try.f7 rfl rfl rfl rfl rfl rfl rfl ⟨rfl, rfl, rfl, rfl, rfl⟩ rfl rfl rfl rfl rfl (by kernel_rfl) Try.func7 (by kernel_rfl)
    (of_decide_eq_true (by kernel_rfl)) (by unfold Func.isWrapper; first | (rw [if_pos (by decide +kernel)]; kernel_rfl) | (rw [if_neg (by decide +kernel)]; exact ⟨rfl, rfl⟩))
    (fun os started H enc _ => feedPlays_lifted os started H enc)
end Go.Proofs.Ytfnjdegejgocfaa
