/- 'EmitLoads': whatever the input, the law's function returns true, and its arguments read as they did; the card ties the listed tables to the program's text. Conditions: none beyond the statement's own. -/
import Derived.Test.YtfnjdegejgocfaaDoorCards
import Derived.Test.YtfnjdegejgocfaaDoorTie
import Derived.Test.YtfnjdegejgocfaaDoorE16
import Derived.Test.YtfnjdegejgocfaaDoorRc
import Derived.ProofKit
import Derived.LaidMore
import Derived.Lay
import Derived.SevenTiedAt
import Derived.Deep.DeepHandedRow
import Derived.Lib.LaidTab
import Derived.Shelf.Vars
namespace Go.Proofs.YtfnjdegejgocfaaDoor
open Go Go.ChangeShapes Go.WideShapes Go.ChangeAt Go.RowKit Go.Proofs.YtfnjdegejgocfaaDoor.Rf
set_option linter.unusedVariables false

theorem emitLoads_own : ownKnob Tryd.prog.godebug = none := by kernel_rfl
theorem emitLoads_laid : laidOutB Tryd.prog = true := by kernel_rfl
/-- The variable of the library's own that searches look into holds some number. -/
theorem emitLoads_gh {W : World} (h : W.ShapedOpen Tryd.prog) : Gh (LtB W) W := by
  intro p hp
  have hp : p = 0 := by simpa [GK] using hp
  subst hp
  have hc := cell_of_shapedOpen_int (g := 0) (t := 3) (zero := #[.int .i64 0]) (k := .i64) h (of_decide_eq_true (by kernel_rfl)) (by kernel_rfl) rfl (by kernel_rfl) (by kernel_rfl) Tryd.underlying3
  refine ⟨?_, hc⟩
  obtain ⟨m, hm⟩ := hc
  show 0 < W.heap.size
  cases hb : W.heap[0]? with
  | none => simp [World.cell?, hb] at hm
  | some b =>
    rcases Nat.lt_or_ge 0 W.heap.size with h1 | h1
    · exact h1
    · rw [Array.getElem?_eq_none h1] at hb; cases hb
theorem emitLoads_met (os : Os) : laidMet Tryd.prog Rows.emitLoadsRow.laid ((World.laidAll Tryd.prog os Rows.emitLoadsRow.laid).forCall (fun _ _ => 0) ⟨#[], #[.string ByteArray.empty], []⟩).memory := laidMet_laidAll _ (by kernel_rfl) (by kernel_rfl)
theorem emitLoads_reads (os : Os) {H : Type} (enc : TypeId × Value → H) : ∃ places, DataW.whole enc Tryd.prog ((World.laidAll Tryd.prog os Rows.emitLoadsRow.laid).forCall (fun _ _ => 0) ⟨#[], #[.string ByteArray.empty], []⟩).memory Tryd.f5.params.toList Rows.emitLoadsSpec.vars false (#[.string ByteArray.empty] : Array Value).toList 8 = some ([.lit (.string [])], [], places) :=
  ⟨[], by kernel_rfl⟩

set_option maxRecDepth 100000 in
theorem emitLoads_lifted (os : Os) (started : os.Started) (H : Type) (enc : TypeId × Value → H) (F : Stop.Interp) :
    ReturnsInHanded {} Tryd.checked os 5 .any ((OpenSpec.ofChange Rows.emitLoadsSpec).preRow enc Tryd.prog Tryd.f5 Rows.emitLoadsRow.domain false Rows.emitLoadsRow.laid) (((OpenSpec.ofChange Rows.emitLoadsSpec).at F).post enc Tryd.prog Tryd.f5 false true false false) := by
  obtain ⟨places, hx⟩ := emitLoads_reads os enc
  refine returnsInHanded_of_row (C := Tryd.checked) (s := OpenSpec.ofChange Rows.emitLoadsSpec) emitLoads_own started (by kernel_rfl) Tryd.func5
    (witness_row_at (enc := enc) (C := Tryd.checked) false (World.laidAll Tryd.prog os Rows.emitLoadsRow.laid) #[.string ByteArray.empty] (World.laidAll_os _ _ _) (by kernel_rfl) (by kernel_rfl) (by kernel_rfl)
      (OpenSpec.preRow_of_cond 8 hx (by kernel_rfl) (fun k hk => by cases hk) (by kernel_rfl) (emitLoads_met os))) ?_
  intro W base args ds gs before hval0 hW0 hcnd _ _ hL hsh _
  have hW : DataW.Whole enc Tryd.prog Tryd.f5.params.toList Rows.emitLoadsSpec.vars false W args.toList ds gs before := hW0
  have hval : ∀ (j : Nat) t v, Tryd.f5.params.toList[j]? = some t → args[j]? = some v → Value.okWide Tryd.prog W .any base t v := fun j t v h1 h2 => hval0 j t v (by simpa using h1) h2
  have hA : ∃ p, DataW.TrodAll enc Tryd.prog W 0 (fun _ => true) true Tryd.f5.params.toList args.toList ds p := by
    obtain ⟨p, q, hA0, _⟩ := hW
    exact ⟨p, hA0⟩
  obtain ⟨p, hA⟩ := hA
  refine (law_calls tab_ok (ok5 N0) (fun x hx => by obtain ⟨s, u⟩ := x; exact p5_true s) (n := 12) (ts := Tryd.f5.params.toList) (by rw [Tryd.params5]; rfl) hA hval (emitLoads_gh hsh)).mono fun e W' he => ?_
  obtain ⟨he, hb⟩ := he
  exact ⟨.bool true, he, law_post emitLoads_laid (s := Rows.emitLoadsSpec) rfl ⟨4, by kernel_rfl, Tryd.underlying4⟩ (fun ds hd => by rw [Tryd.params5] at hd; match ds, hd with | [_], _ => rfl) (by rw [Tryd.params5]; kernel_rfl) hW hb⟩

theorem emitLoads_said : Rows.EmitLoadsSaid :=
  OpenClaim.holds_of_cond 5 Tryd.f5 rfl rfl rfl rfl rfl rfl rfl ⟨rfl, rfl, rfl, rfl, rfl⟩ rfl rfl rfl rfl rfl (by kernel_rfl) Tryd.func5 (by kernel_rfl)
    (of_decide_eq_true (by kernel_rfl)) (by unfold Func.isWrapper; first | (rw [if_pos (by decide +kernel)]; kernel_rfl) | (rw [if_neg (by decide +kernel)]; exact ⟨rfl, rfl⟩))
    (fun os started H enc _ F => by rw [OpenClaim.pre_eq_preRow]; exact emitLoads_lifted os started H enc F)
theorem emitLoads_plain (f : FuncId) (fn : Func) (hf : Tryd.pinned.checked.prog.funcNamed "bosket/bosketlaw45.EmitLoads" = some f) (hfn : Tryd.pinned.checked.prog.funcs[f]? = some fn) :
    false = Tryd.pinned.checked.prog.looks [] ∧ ∀ (j : Nat) t, fn.params[j]? = some t → Tryd.pinned.checked.prog.wantsStandIn t = false := by
  obtain rfl : f = 5 := Option.some.inj ((show Tryd.prog.funcNamed "bosket/bosketlaw45.EmitLoads" = some 5 by kernel_rfl).symm.trans hf) |>.symm
  obtain rfl : fn = Tryd.f5 := (Option.some.inj (Tryd.func5.symm.trans hfn)).symm
  refine ⟨by kernel_rfl, fun j t ht => ?_⟩
  rw [Tryd.params5] at ht
  have hm : t ∈ [9] := by simpa using Array.mem_of_getElem? ht
  have hall : ([9].all fun u => !Tryd.prog.wantsStandIn u) = true := by kernel_rfl
  exact (show Tryd.prog.wantsStandIn t = false by simpa using List.all_eq_true.1 hall t hm)
theorem emitLoads_holds : Rows.EmitLoadsCardSaid :=
  Claim7.holds_tied_plain_at .later [] _ _ _ _ emitLoads_said (fun _ h => by cases h) (by kernel_rfl) (fun _ h => by cases h) emitLoads_row_tie rfl ⟨rfl, rfl⟩ (by kernel_rfl) rfl emitLoads_plain (by kernel_rfl)
end Go.Proofs.YtfnjdegejgocfaaDoor
