/- 'EmitTables': whatever the input, the law's function returns true, and its arguments read as they did; the card ties the listed tables to the program's text. Conditions: none beyond the statement's own. -/
import Derived.Test.YtgonfcjdhbjkcaaDoorCards
import Derived.Test.YtgonfcjdhbjkcaaDoorTie
import Derived.Test.YtgonfcjdhbjkcaaDoorT4
import Derived.Test.YtgonfcjdhbjkcaaDoorRc
import Derived.ProofKit
import Derived.LaidMore
import Derived.Lay
import Derived.SevenTiedAt
import Derived.Deep.DeepHandedRow
import Derived.Lib.LaidTab
import Derived.Shelf.Vars
namespace Go.Proofs.YtgonfcjdhbjkcaaDoor
open Go Go.ChangeShapes Go.WideShapes Go.ChangeAt Go.RowKit Go.Proofs.YtgonfcjdhbjkcaaDoor.Rf
set_option linter.unusedVariables false

theorem emitTables_own : ownKnob Tryd.prog.godebug = none := by kernel_rfl
theorem emitTables_laid : laidOutB Tryd.prog = true := by kernel_rfl
/-- The variable of the library's own that searches look into holds some number. -/
theorem emitTables_gh {W : World} (h : W.ShapedOpen Tryd.prog) : Gh (LtB W) W := by
  intro p hp
  have hp : p = 0 := by simpa [GK] using hp
  subst hp
  have hc := cell_of_shapedOpen_int (g := 0) (t := 3) (zero := #[.int .i64 0]) (k := .i64) h (of_decide_eq_true (by kernel_rfl)) (by kernel_rfl) rfl (by kernel_rfl) (by kernel_rfl) Tryd.underlying3
  refine ⟨?_, hc⟩
  obtain ⟨m, hm⟩ := hc
  show 0 < W.heap.size
  cases hb : W.heap[0]? with
  | none => simp [World.cell?, hb] at hm
  | some b =>
    rcases Nat.lt_or_ge 0 W.heap.size with h1 | h1
    · exact h1
    · rw [Array.getElem?_eq_none h1] at hb; cases hb
theorem emitTables_met (os : Os) : laidMet Tryd.prog Rows.emitTablesRow.laid ((World.laidAll Tryd.prog os Rows.emitTablesRow.laid).forCall (fun _ _ => 0) ⟨#[], #[.string ByteArray.empty, .agg (List.replicate 256 (Value.int .u8 0) ++ [Value.slice none 0 0, Value.slice none 0 0]).toArray, .agg #[.slice none 0 0, .slice none 0 0, .slice none 0 0, .slice none 0 0]], []⟩).memory := laidMet_laidAll _ (by kernel_rfl) (by kernel_rfl)
theorem emitTables_reads (os : Os) {H : Type} (enc : TypeId × Value → H) : ∃ places, DataW.whole enc Tryd.prog ((World.laidAll Tryd.prog os Rows.emitTablesRow.laid).forCall (fun _ _ => 0) ⟨#[], #[.string ByteArray.empty, .agg (List.replicate 256 (Value.int .u8 0) ++ [Value.slice none 0 0, Value.slice none 0 0]).toArray, .agg #[.slice none 0 0, .slice none 0 0, .slice none 0 0, .slice none 0 0]], []⟩).memory Tryd.f3.params.toList Rows.emitTablesSpec.vars false (#[.string ByteArray.empty, .agg (List.replicate 256 (Value.int .u8 0) ++ [Value.slice none 0 0, Value.slice none 0 0]).toArray, .agg #[.slice none 0 0, .slice none 0 0, .slice none 0 0, .slice none 0 0]] : Array Value).toList 8 = some ([.lit (.string []), .agg [.agg (List.replicate 256 (.lit (.int .u8 0))), .nil, .nil], .agg [.nil, .nil, .nil, .nil]], [], places) :=
  ⟨[], by kernel_rfl⟩

set_option maxRecDepth 100000 in
theorem emitTables_lifted (os : Os) (started : os.Started) (H : Type) (enc : TypeId × Value → H) (F : Stop.Interp) :
    ReturnsInHanded {} Tryd.checked os 3 .any ((OpenSpec.ofChange Rows.emitTablesSpec).preRow enc Tryd.prog Tryd.f3 Rows.emitTablesRow.domain false Rows.emitTablesRow.laid) (((OpenSpec.ofChange Rows.emitTablesSpec).at F).post enc Tryd.prog Tryd.f3 false true false false) := by
  obtain ⟨places, hx⟩ := emitTables_reads os enc
  refine returnsInHanded_of_row (C := Tryd.checked) (s := OpenSpec.ofChange Rows.emitTablesSpec) emitTables_own started (by kernel_rfl) Tryd.func3
    (witness_row_at (enc := enc) (C := Tryd.checked) false (World.laidAll Tryd.prog os Rows.emitTablesRow.laid) #[.string ByteArray.empty, .agg (List.replicate 256 (Value.int .u8 0) ++ [Value.slice none 0 0, Value.slice none 0 0]).toArray, .agg #[.slice none 0 0, .slice none 0 0, .slice none 0 0, .slice none 0 0]] (World.laidAll_os _ _ _) (by kernel_rfl) (by kernel_rfl) (by kernel_rfl)
      (OpenSpec.preRow_of_cond 8 hx (by kernel_rfl) (fun k hk => by cases hk) (by kernel_rfl) (emitTables_met os))) ?_
  intro W base args ds gs before hval0 hW0 hcnd _ _ hL hsh _
  have hW : DataW.Whole enc Tryd.prog Tryd.f3.params.toList Rows.emitTablesSpec.vars false W args.toList ds gs before := hW0
  have hval : ∀ (j : Nat) t v, Tryd.f3.params.toList[j]? = some t → args[j]? = some v → Value.okWide Tryd.prog W .any base t v := fun j t v h1 h2 => hval0 j t v (by simpa using h1) h2
  have hA : ∃ p, DataW.TrodAll enc Tryd.prog W 0 (fun _ => true) true Tryd.f3.params.toList args.toList ds p := by
    obtain ⟨p, q, hA0, _⟩ := hW
    exact ⟨p, hA0⟩
  obtain ⟨p, hA⟩ := hA
  refine (law_calls tab_ok (ok3 N0) (fun x hx => by obtain ⟨name, d, t, u⟩ := x; exact p3_true name d t ⟨hx.2.1.1.1, fun c h => (hx.2.1.1.2 c h)⟩ (fun r h => (hx.2.1.2.1.2 r h).2) hx.2.1.2.2.2 (fun r h => (hx.2.2.1.2.1.2 r h).2) hx.2.2.1.2.2.1.2 hx.2.2.1.2.2.2.2) (n := 12) (ts := Tryd.f3.params.toList) (by rw [Tryd.params3]; rfl) hA hval (emitTables_gh hsh)).mono fun e W' he => ?_
  obtain ⟨he, hb⟩ := he
  exact ⟨.bool true, he, law_post emitTables_laid (s := Rows.emitTablesSpec) rfl ⟨4, by kernel_rfl, Tryd.underlying4⟩ (fun ds hd => by rw [Tryd.params3] at hd; match ds, hd with | [_, _, _], _ => rfl) (by rw [Tryd.params3]; kernel_rfl) hW hb⟩

theorem emitTables_said : Rows.EmitTablesSaid :=
  OpenClaim.holds_of_cond 3 Tryd.f3 rfl rfl rfl rfl rfl rfl rfl ⟨rfl, rfl, rfl, rfl, rfl⟩ rfl rfl rfl rfl rfl (by kernel_rfl) Tryd.func3 (by kernel_rfl)
    (of_decide_eq_true (by kernel_rfl)) (by unfold Func.isWrapper; first | (rw [if_pos (by decide +kernel)]; kernel_rfl) | (rw [if_neg (by decide +kernel)]; exact ⟨rfl, rfl⟩))
    (fun os started H enc _ F => by rw [OpenClaim.pre_eq_preRow]; exact emitTables_lifted os started H enc F)
theorem emitTables_plain (f : FuncId) (fn : Func) (hf : Tryd.pinned.checked.prog.funcNamed "bosket/bosketlaw45.EmitTables" = some f) (hfn : Tryd.pinned.checked.prog.funcs[f]? = some fn) :
    false = Tryd.pinned.checked.prog.looks [] ∧ ∀ (j : Nat) t, fn.params[j]? = some t → Tryd.pinned.checked.prog.wantsStandIn t = false := by
  obtain rfl : f = 3 := Option.some.inj ((show Tryd.prog.funcNamed "bosket/bosketlaw45.EmitTables" = some 3 by kernel_rfl).symm.trans hf) |>.symm
  obtain rfl : fn = Tryd.f3 := (Option.some.inj (Tryd.func3.symm.trans hfn)).symm
  refine ⟨by kernel_rfl, fun j t ht => ?_⟩
  rw [Tryd.params3] at ht
  have hm : t ∈ [9, 26, 29] := by simpa using Array.mem_of_getElem? ht
  have hall : ([9, 26, 29].all fun u => !Tryd.prog.wantsStandIn u) = true := by kernel_rfl
  exact (show Tryd.prog.wantsStandIn t = false by simpa using List.all_eq_true.1 hall t hm)
theorem emitTables_holds : Rows.EmitTablesCardSaid :=
  Claim7.holds_tied_plain_at .later [] _ _ _ _ emitTables_said (fun _ h => by cases h) (by kernel_rfl) (fun _ h => by cases h) emitTables_row_tie rfl ⟨rfl, rfl⟩ (by kernel_rfl) rfl emitTables_plain (by kernel_rfl)
end Go.Proofs.YtgonfcjdhbjkcaaDoor
