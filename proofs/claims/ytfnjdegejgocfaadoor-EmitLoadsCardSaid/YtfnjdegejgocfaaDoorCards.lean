/-
  DERIVED. GIVEN WITH THE SEED: THE CARDS: each row of YtfnjdegejgocfaaDoorRows.lean that lists a variable, with what it lists TIED to the program's text (the seventh form; the later family's looks); each row that meets fmt, with fmt's text TOLD by the authors' own Lean function (tested against real Go, not proved from fmt's source: count such statements apart). THE CARD IS WHAT COUNTS. Prove the row's statement (the work); the ties are given (YtfnjdegejgocfaaDoorTie.lean); close each card by the builder's one call (the guide's Derived/Test/ToyasCard.lean, 'card_holds'). Laid BY PROGRAM, IN A SANDBOX (cutbox-door.mjs). By AI agents, Wed Nov 11 2026. No macro, syntax, notation, axiom, sorry.
-/
import Derived.Test.YtfnjdegejgocfaaDoorRows
import GoSem.ClaimSeven
namespace Go.Proofs.YtfnjdegejgocfaaDoor
namespace Rows

/-- THE TIED CARD OF 'bosketlaw45.EmitRows'. -/
def emitRowsCard : Claim7 := { stood := { row := emitRowsRow, standIns := [], harness := (true, "6ff728b7eebba5e1f8fba5b04b752926c2b5cb872807b7e0c8a19dee0ed8f87b"), looks := false }, kinds := [], alts := [], laidByText := true, laidKinds := [.data, .pinned], laidTests := true, laidLooks := .later }
def EmitRowsCardSaid : Prop := Claim7.holds Tryd.pinned (.plain (OpenSpec.ofChange emitRowsSpec)) emitRowsCard

/-- THE TIED CARD OF 'bosketlaw45.EmitReads'. -/
def emitReadsCard : Claim7 := { stood := { row := emitReadsRow, standIns := [], harness := (true, "6ff728b7eebba5e1f8fba5b04b752926c2b5cb872807b7e0c8a19dee0ed8f87b"), looks := false }, kinds := [], alts := [], laidByText := true, laidKinds := [.data, .pinned], laidTests := true, laidLooks := .later }
def EmitReadsCardSaid : Prop := Claim7.holds Tryd.pinned (.plain (OpenSpec.ofChange emitReadsSpec)) emitReadsCard

/-- THE TIED CARD OF 'bosketlaw45.EmitLoads'. -/
def emitLoadsCard : Claim7 := { stood := { row := emitLoadsRow, standIns := [], harness := (true, "6ff728b7eebba5e1f8fba5b04b752926c2b5cb872807b7e0c8a19dee0ed8f87b"), looks := false }, kinds := [], alts := [], laidByText := true, laidKinds := [.data, .pinned], laidTests := true, laidLooks := .later }
def EmitLoadsCardSaid : Prop := Claim7.holds Tryd.pinned (.plain (OpenSpec.ofChange emitLoadsSpec)) emitLoadsCard

/-- THE SECOND FORM's CARD OF 'bosketlaw45.EmitRows'. -/
def emitRowsUptoCard : Claim7 := { stood := { row := emitRowsUptoRow, standIns := [], harness := (true, "6ff728b7eebba5e1f8fba5b04b752926c2b5cb872807b7e0c8a19dee0ed8f87b"), looks := false }, kinds := [], alts := [], laidByText := true, laidKinds := [.data, .pinned], laidTests := true, laidLooks := .later }
def EmitRowsUptoCardSaid : Prop := Claim7.holds Tryd.pinned (.plain (OpenSpec.upto emitRowsSpec)) emitRowsUptoCard

/-- THE SECOND FORM's CARD OF 'bosketlaw45.EmitReads'. -/
def emitReadsUptoCard : Claim7 := { stood := { row := emitReadsUptoRow, standIns := [], harness := (true, "6ff728b7eebba5e1f8fba5b04b752926c2b5cb872807b7e0c8a19dee0ed8f87b"), looks := false }, kinds := [], alts := [], laidByText := true, laidKinds := [.data, .pinned], laidTests := true, laidLooks := .later }
def EmitReadsUptoCardSaid : Prop := Claim7.holds Tryd.pinned (.plain (OpenSpec.upto emitReadsSpec)) emitReadsUptoCard

/-- THE SECOND FORM's CARD OF 'bosketlaw45.EmitLoads'. -/
def emitLoadsUptoCard : Claim7 := { stood := { row := emitLoadsUptoRow, standIns := [], harness := (true, "6ff728b7eebba5e1f8fba5b04b752926c2b5cb872807b7e0c8a19dee0ed8f87b"), looks := false }, kinds := [], alts := [], laidByText := true, laidKinds := [.data, .pinned], laidTests := true, laidLooks := .later }
def EmitLoadsUptoCardSaid : Prop := Claim7.holds Tryd.pinned (.plain (OpenSpec.upto emitLoadsSpec)) emitLoadsUptoCard
end Rows
end Go.Proofs.YtfnjdegejgocfaaDoor
