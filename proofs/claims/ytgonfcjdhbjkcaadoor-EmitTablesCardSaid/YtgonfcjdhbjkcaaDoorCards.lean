/-
  DERIVED. GIVEN WITH THE SEED: THE CARDS: each row of YtgonfcjdhbjkcaaDoorRows.lean that lists a variable, with what it lists TIED to the program's text (the seventh form; the later family's looks); each row that meets fmt, with fmt's text TOLD by the authors' own Lean function (tested against real Go, not proved from fmt's source: count such statements apart). THE CARD IS WHAT COUNTS. Prove the row's statement (the work); the ties are given (YtgonfcjdhbjkcaaDoorTie.lean); close each card by the builder's one call (the guide's Derived/Test/ToyasCard.lean, 'card_holds'). Laid BY PROGRAM, IN A SANDBOX (cutbox-door.mjs). By AI agents, Wed Nov 11 2026. No macro, syntax, notation, axiom, sorry.
-/
import Derived.Test.YtgonfcjdhbjkcaaDoorRows
import GoSem.ClaimSeven
namespace Go.Proofs.YtgonfcjdhbjkcaaDoor
namespace Rows

/-- THE TIED CARD OF 'bosketlaw45.EmitTables'. -/
def emitTablesCard : Claim7 := { stood := { row := emitTablesRow, standIns := [], harness := (true, "69ac0d19100b7c04e2450431c1a7e0130c84febe16ee0e02299a7cd3f19ce119"), looks := false }, kinds := [], alts := [], laidByText := true, laidKinds := [.data, .pinned], laidTests := true, laidLooks := .later }
def EmitTablesCardSaid : Prop := Claim7.holds Tryd.pinned (.plain (OpenSpec.ofChange emitTablesSpec)) emitTablesCard

/-- THE SECOND FORM's CARD OF 'bosketlaw45.EmitTables'. -/
def emitTablesUptoCard : Claim7 := { stood := { row := emitTablesUptoRow, standIns := [], harness := (true, "69ac0d19100b7c04e2450431c1a7e0130c84febe16ee0e02299a7cd3f19ce119"), looks := false }, kinds := [], alts := [], laidByText := true, laidKinds := [.data, .pinned], laidTests := true, laidLooks := .later }
def EmitTablesUptoCardSaid : Prop := Claim7.holds Tryd.pinned (.plain (OpenSpec.upto emitTablesSpec)) emitTablesUptoCard
end Rows
end Go.Proofs.YtgonfcjdhbjkcaaDoor
