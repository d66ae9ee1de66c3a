/-
  No cell of these rows narrows 'for every input' (looked for: loops, veiled, ifaces, maps, wideKeys, modest, calm, conditions, laid).
  DERIVED. THE GIVEN ROWS OF THIS SEAT. 9 by the template 'for every input the law returns true; each argument reads behind the call as it read before'; 0 by the template 'total and deterministic' (their statements: YtfnjdegejgocfaaTotals.lean).
  GIVEN WITH THE SEED: the statements are not yours to turn. If you find one false, say at which input.
  Laid BY PROGRAM, IN A SANDBOX (cutbox-rows.mjs): the forced cells as the released guide's own fill.sh prints them over the translation a2abbd766e2c4763… (all of the seat's roots in one cut). By AI agents, Wed Nov 11 2026. No macro, syntax, notation, axiom, sorry.
-/
import Derived.Test.YtfnjdegejgocfaaChecked
import GoSem.Claim
import GoSem.ClaimJoined
import GoSem.ClaimMapViews
import Derived.JoinedTies
import Derived.KernelRfl
namespace Go.Proofs.Ytfnjdegejgocfaa
/- THE CELL 'sum', in the pinned program and in every row, IS THE sha256 OF THE DUMP (.gsa) THAT YtfnjdegejgocfaaProg.lean LOADS. Nothing in Lean hashes anything: it is a label: what it is worth is what the hold of that sum in a sandbox is worth. -/
noncomputable def Try.pinned : Pinned := { name := "ytfnjdegejgocfaa", sum := "a2abbd766e2c47630e4574abfc70d1ccfaba45fd609a181b79a6f6b9c0dbd21c", checked := Try.checked }
namespace Rows
def none {H : Type} : Left H := { results := [], args := [] }

/-- 'bosketlaw23.PrecOpen': WHATEVER THE INPUT: true; the input reads as it did. -/
def precOpenSpec : ChangeSpec := { name := "precOpen", fn := fun _ => fun
  | [d1, d2, d3] => { results := [.lit (.bool true)], args := [d1, d2, d3] }
  | _ => none }
def precOpenRow : OpenClaim := { program := "ytfnjdegejgocfaa", sum := "a2abbd766e2c47630e4574abfc70d1ccfaba45fd609a181b79a6f6b9c0dbd21c", func := "bosket/bosketlaw23.PrecOpen", spec := "precOpen", apart := false }
def PrecOpenSaid : Prop := precOpenRow.holds Try.pinned (OpenSpec.ofChange precOpenSpec)

/-- ITS FALSE NEIGHBOUR: 'it returns false'. Refute it at one input. -/
def precOpenWrong : ChangeSpec := { name := "precOpen", fn := fun _ => fun
  | [d1, d2, d3] => { results := [.lit (.bool false)], args := [d1, d2, d3] }
  | _ => none }
def PrecOpenWrongFalsely : Prop := precOpenRow.holds Try.pinned (OpenSpec.ofChange precOpenWrong)

/-- 'bosketlaw01.FeedOrder': WHATEVER THE INPUT: true; the input reads as it did. -/
def feedOrderSpec : ChangeSpec := { name := "feedOrder", fn := fun _ => fun
  | [d1, d2] => { results := [.lit (.bool true)], args := [d1, d2] }
  | _ => none }
def feedOrderRow : OpenClaim := { program := "ytfnjdegejgocfaa", sum := "a2abbd766e2c47630e4574abfc70d1ccfaba45fd609a181b79a6f6b9c0dbd21c", func := "bosket/bosketlaw01.FeedOrder", spec := "feedOrder", apart := false }
def FeedOrderSaid : Prop := feedOrderRow.holds Try.pinned (OpenSpec.ofChange feedOrderSpec)

/-- ITS FALSE NEIGHBOUR: 'it returns false'. Refute it at one input. -/
def feedOrderWrong : ChangeSpec := { name := "feedOrder", fn := fun _ => fun
  | [d1, d2] => { results := [.lit (.bool false)], args := [d1, d2] }
  | _ => none }
def FeedOrderWrongFalsely : Prop := feedOrderRow.holds Try.pinned (OpenSpec.ofChange feedOrderWrong)

/-- 'bosketlaw45.EmitActions': WHATEVER THE INPUT: true; the input reads as it did. -/
def emitActionsSpec : ChangeSpec := { name := "emitActions", fn := fun _ => fun
  | [d1, d2, d3] => { results := [.lit (.bool true)], args := [d1, d2, d3] }
  | _ => none }
def emitActionsRow : OpenClaim := { program := "ytfnjdegejgocfaa", sum := "a2abbd766e2c47630e4574abfc70d1ccfaba45fd609a181b79a6f6b9c0dbd21c", func := "bosket/bosketlaw45.EmitActions", spec := "emitActions", recurses := true, apart := false }
def EmitActionsSaid : Prop := emitActionsRow.holds Try.pinned (OpenSpec.ofChange emitActionsSpec)

/-- ITS FALSE NEIGHBOUR: 'it returns false'. Refute it at one input. -/
def emitActionsWrong : ChangeSpec := { name := "emitActions", fn := fun _ => fun
  | [d1, d2, d3] => { results := [.lit (.bool false)], args := [d1, d2, d3] }
  | _ => none }
def EmitActionsWrongFalsely : Prop := emitActionsRow.holds Try.pinned (OpenSpec.ofChange emitActionsWrong)

/-- 'bosketlaw23.PrecDecides': WHATEVER THE INPUT: true; the input reads as it did. -/
def precDecidesSpec : ChangeSpec := { name := "precDecides", fn := fun _ => fun
  | [d1, d2, d3] => { results := [.lit (.bool true)], args := [d1, d2, d3] }
  | _ => none }
def precDecidesRow : OpenClaim := { program := "ytfnjdegejgocfaa", sum := "a2abbd766e2c47630e4574abfc70d1ccfaba45fd609a181b79a6f6b9c0dbd21c", func := "bosket/bosketlaw23.PrecDecides", spec := "precDecides", apart := false }
def PrecDecidesSaid : Prop := precDecidesRow.holds Try.pinned (OpenSpec.ofChange precDecidesSpec)

/-- ITS FALSE NEIGHBOUR: 'it returns false'. Refute it at one input. -/
def precDecidesWrong : ChangeSpec := { name := "precDecides", fn := fun _ => fun
  | [d1, d2, d3] => { results := [.lit (.bool false)], args := [d1, d2, d3] }
  | _ => none }
def PrecDecidesWrongFalsely : Prop := precDecidesRow.holds Try.pinned (OpenSpec.ofChange precDecidesWrong)

/-- 'bosketlaw01.FeedPlays': WHATEVER THE INPUT: true; the input reads as it did. -/
def feedPlaysSpec : ChangeSpec := { name := "feedPlays", fn := fun _ => fun
  | [d1, d2] => { results := [.lit (.bool true)], args := [d1, d2] }
  | _ => none }
def feedPlaysRow : OpenClaim := { program := "ytfnjdegejgocfaa", sum := "a2abbd766e2c47630e4574abfc70d1ccfaba45fd609a181b79a6f6b9c0dbd21c", func := "bosket/bosketlaw01.FeedPlays", spec := "feedPlays", apart := false }
def FeedPlaysSaid : Prop := feedPlaysRow.holds Try.pinned (OpenSpec.ofChange feedPlaysSpec)

/-- ITS FALSE NEIGHBOUR: 'it returns false'. Refute it at one input. -/
def feedPlaysWrong : ChangeSpec := { name := "feedPlays", fn := fun _ => fun
  | [d1, d2] => { results := [.lit (.bool false)], args := [d1, d2] }
  | _ => none }
def FeedPlaysWrongFalsely : Prop := feedPlaysRow.holds Try.pinned (OpenSpec.ofChange feedPlaysWrong)

/-- 'bosketlaw20.ReachMore': WHATEVER THE INPUT: true; the input reads as it did. -/
def reachMoreSpec : ChangeSpec := { name := "reachMore", fn := fun _ => fun
  | [d1, d2] => { results := [.lit (.bool true)], args := [d1, d2] }
  | _ => none }
def reachMoreRow : OpenClaim := { program := "ytfnjdegejgocfaa", sum := "a2abbd766e2c47630e4574abfc70d1ccfaba45fd609a181b79a6f6b9c0dbd21c", func := "bosket/bosketlaw20.ReachMore", spec := "reachMore", apart := false }
def ReachMoreSaid : Prop := reachMoreRow.holds Try.pinned (OpenSpec.ofChange reachMoreSpec)

/-- ITS FALSE NEIGHBOUR: 'it returns false'. Refute it at one input. -/
def reachMoreWrong : ChangeSpec := { name := "reachMore", fn := fun _ => fun
  | [d1, d2] => { results := [.lit (.bool false)], args := [d1, d2] }
  | _ => none }
def ReachMoreWrongFalsely : Prop := reachMoreRow.holds Try.pinned (OpenSpec.ofChange reachMoreWrong)

/-- 'bosketlaw33.DriveRows': WHATEVER THE INPUT: true; the input reads as it did. -/
def driveRowsSpec : ChangeSpec := { name := "driveRows", fn := fun _ => fun
  | [d1, d2, d3] => { results := [.lit (.bool true)], args := [d1, d2, d3] }
  | _ => none }
def driveRowsRow : OpenClaim := { program := "ytfnjdegejgocfaa", sum := "a2abbd766e2c47630e4574abfc70d1ccfaba45fd609a181b79a6f6b9c0dbd21c", func := "bosket/bosketlaw33.DriveRows", spec := "driveRows", apart := false }
def DriveRowsSaid : Prop := driveRowsRow.holds Try.pinned (OpenSpec.ofChange driveRowsSpec)

/-- ITS FALSE NEIGHBOUR: 'it returns false'. Refute it at one input. -/
def driveRowsWrong : ChangeSpec := { name := "driveRows", fn := fun _ => fun
  | [d1, d2, d3] => { results := [.lit (.bool false)], args := [d1, d2, d3] }
  | _ => none }
def DriveRowsWrongFalsely : Prop := driveRowsRow.holds Try.pinned (OpenSpec.ofChange driveRowsWrong)

/-- 'bosketlaw33.DriveSteps': WHATEVER THE INPUT: true; the input reads as it did. -/
def driveStepsSpec : ChangeSpec := { name := "driveSteps", fn := fun _ => fun
  | [d1, d2, d3] => { results := [.lit (.bool true)], args := [d1, d2, d3] }
  | _ => none }
def driveStepsRow : OpenClaim := { program := "ytfnjdegejgocfaa", sum := "a2abbd766e2c47630e4574abfc70d1ccfaba45fd609a181b79a6f6b9c0dbd21c", func := "bosket/bosketlaw33.DriveSteps", spec := "driveSteps", apart := false }
def DriveStepsSaid : Prop := driveStepsRow.holds Try.pinned (OpenSpec.ofChange driveStepsSpec)

/-- ITS FALSE NEIGHBOUR: 'it returns false'. Refute it at one input. -/
def driveStepsWrong : ChangeSpec := { name := "driveSteps", fn := fun _ => fun
  | [d1, d2, d3] => { results := [.lit (.bool false)], args := [d1, d2, d3] }
  | _ => none }
def DriveStepsWrongFalsely : Prop := driveStepsRow.holds Try.pinned (OpenSpec.ofChange driveStepsWrong)

/-- 'bosketlaw20.ReachTells': WHATEVER THE INPUT: true; the input reads as it did. -/
def reachTellsSpec : ChangeSpec := { name := "reachTells", fn := fun _ => fun
  | [d] => { results := [.lit (.bool true)], args := [d] }
  | _ => none }
def reachTellsRow : OpenClaim := { program := "ytfnjdegejgocfaa", sum := "a2abbd766e2c47630e4574abfc70d1ccfaba45fd609a181b79a6f6b9c0dbd21c", func := "bosket/bosketlaw20.ReachTells", spec := "reachTells", apart := false }
def ReachTellsSaid : Prop := reachTellsRow.holds Try.pinned (OpenSpec.ofChange reachTellsSpec)

/-- ITS FALSE NEIGHBOUR: 'it returns false'. Refute it at one input. -/
def reachTellsWrong : ChangeSpec := { name := "reachTells", fn := fun _ => fun
  | [d] => { results := [.lit (.bool false)], args := [d] }
  | _ => none }
def ReachTellsWrongFalsely : Prop := reachTellsRow.holds Try.pinned (OpenSpec.ofChange reachTellsWrong)

/- THE SECOND FORM. 'bulk': how many values and letters a reading holds, each counted each time it is reached (what is shared counts as often as it is met; a slice's spare places count too). A statement '..UptoSaid' is the law's where the arguments, and the package variables that the reading takes, are together of bulk at most 1048576: NARROWER than '..Said'. Prove '..Said' where nothing that the law and all that it calls make is longer than what came in: it says more and counts as full. Else prove '..UptoSaid'. A law counts once. -/
mutual
def uptoBulk {H : Type} : DataW H → Nat
  | .lit (.string bytes) => bytes.length + 1
  | .lit _ => 1
  | .nil => 1
  | .ptr d => uptoBulk d + 1
  | .slice elems spare => uptoBulkAll elems + uptoBulkAll spare + 1
  | .agg parts => uptoBulkAll parts + 1
  | .iface _ d => uptoBulk d + 1
  | .map entries => uptoBulkEntries entries + 1
  | .held _ => 1
def uptoBulkAll {H : Type} : List (DataW H) → Nat
  | [] => 0
  | d :: r => uptoBulk d + uptoBulkAll r
def uptoBulkEntries {H : Type} : List (Lit × DataW H) → Nat
  | [] => 0
  | x :: r => uptoBulkEntry x + uptoBulkEntries r
def uptoBulkEntry {H : Type} : Lit × DataW H → Nat
  | (.string bytes, d) => bytes.length + uptoBulk d + 1
  | (_, d) => uptoBulk d + 1
 end
def uptoSmall : (H : Type) → List (DataW H) → Bool := fun _ ds => decide (uptoBulkAll ds ≤ 1048576)
def OpenSpec.upto (s : _root_.Go.ChangeSpec) : _root_.Go.OpenSpec := { _root_.Go.OpenSpec.ofChange s with cond := some uptoSmall }

/-- 'bosketlaw23.PrecOpen', WHERE WHAT IT READS IS OF BULK AT MOST 1048576: true; the input reads as it did. -/
def precOpenUptoRow : OpenClaim := { program := "ytfnjdegejgocfaa", sum := "a2abbd766e2c47630e4574abfc70d1ccfaba45fd609a181b79a6f6b9c0dbd21c", func := "bosket/bosketlaw23.PrecOpen", spec := "precOpen", apart := false, narrowed := true }
def PrecOpenUptoSaid : Prop := precOpenUptoRow.holds Try.pinned (OpenSpec.upto precOpenSpec)

/-- 'bosketlaw01.FeedOrder', WHERE WHAT IT READS IS OF BULK AT MOST 1048576: true; the input reads as it did. -/
def feedOrderUptoRow : OpenClaim := { program := "ytfnjdegejgocfaa", sum := "a2abbd766e2c47630e4574abfc70d1ccfaba45fd609a181b79a6f6b9c0dbd21c", func := "bosket/bosketlaw01.FeedOrder", spec := "feedOrder", apart := false, narrowed := true }
def FeedOrderUptoSaid : Prop := feedOrderUptoRow.holds Try.pinned (OpenSpec.upto feedOrderSpec)

/-- 'bosketlaw45.EmitActions', WHERE WHAT IT READS IS OF BULK AT MOST 1048576: true; the input reads as it did. -/
def emitActionsUptoRow : OpenClaim := { program := "ytfnjdegejgocfaa", sum := "a2abbd766e2c47630e4574abfc70d1ccfaba45fd609a181b79a6f6b9c0dbd21c", func := "bosket/bosketlaw45.EmitActions", spec := "emitActions", recurses := true, apart := false, narrowed := true }
def EmitActionsUptoSaid : Prop := emitActionsUptoRow.holds Try.pinned (OpenSpec.upto emitActionsSpec)

/-- 'bosketlaw23.PrecDecides', WHERE WHAT IT READS IS OF BULK AT MOST 1048576: true; the input reads as it did. -/
def precDecidesUptoRow : OpenClaim := { program := "ytfnjdegejgocfaa", sum := "a2abbd766e2c47630e4574abfc70d1ccfaba45fd609a181b79a6f6b9c0dbd21c", func := "bosket/bosketlaw23.PrecDecides", spec := "precDecides", apart := false, narrowed := true }
def PrecDecidesUptoSaid : Prop := precDecidesUptoRow.holds Try.pinned (OpenSpec.upto precDecidesSpec)

/-- 'bosketlaw01.FeedPlays', WHERE WHAT IT READS IS OF BULK AT MOST 1048576: true; the input reads as it did. -/
def feedPlaysUptoRow : OpenClaim := { program := "ytfnjdegejgocfaa", sum := "a2abbd766e2c47630e4574abfc70d1ccfaba45fd609a181b79a6f6b9c0dbd21c", func := "bosket/bosketlaw01.FeedPlays", spec := "feedPlays", apart := false, narrowed := true }
def FeedPlaysUptoSaid : Prop := feedPlaysUptoRow.holds Try.pinned (OpenSpec.upto feedPlaysSpec)

/-- 'bosketlaw20.ReachMore', WHERE WHAT IT READS IS OF BULK AT MOST 1048576: true; the input reads as it did. -/
def reachMoreUptoRow : OpenClaim := { program := "ytfnjdegejgocfaa", sum := "a2abbd766e2c47630e4574abfc70d1ccfaba45fd609a181b79a6f6b9c0dbd21c", func := "bosket/bosketlaw20.ReachMore", spec := "reachMore", apart := false, narrowed := true }
def ReachMoreUptoSaid : Prop := reachMoreUptoRow.holds Try.pinned (OpenSpec.upto reachMoreSpec)

/-- 'bosketlaw33.DriveRows', WHERE WHAT IT READS IS OF BULK AT MOST 1048576: true; the input reads as it did. -/
def driveRowsUptoRow : OpenClaim := { program := "ytfnjdegejgocfaa", sum := "a2abbd766e2c47630e4574abfc70d1ccfaba45fd609a181b79a6f6b9c0dbd21c", func := "bosket/bosketlaw33.DriveRows", spec := "driveRows", apart := false, narrowed := true }
def DriveRowsUptoSaid : Prop := driveRowsUptoRow.holds Try.pinned (OpenSpec.upto driveRowsSpec)

/-- 'bosketlaw33.DriveSteps', WHERE WHAT IT READS IS OF BULK AT MOST 1048576: true; the input reads as it did. -/
def driveStepsUptoRow : OpenClaim := { program := "ytfnjdegejgocfaa", sum := "a2abbd766e2c47630e4574abfc70d1ccfaba45fd609a181b79a6f6b9c0dbd21c", func := "bosket/bosketlaw33.DriveSteps", spec := "driveSteps", apart := false, narrowed := true }
def DriveStepsUptoSaid : Prop := driveStepsUptoRow.holds Try.pinned (OpenSpec.upto driveStepsSpec)

/-- 'bosketlaw20.ReachTells', WHERE WHAT IT READS IS OF BULK AT MOST 1048576: true; the input reads as it did. -/
def reachTellsUptoRow : OpenClaim := { program := "ytfnjdegejgocfaa", sum := "a2abbd766e2c47630e4574abfc70d1ccfaba45fd609a181b79a6f6b9c0dbd21c", func := "bosket/bosketlaw20.ReachTells", spec := "reachTells", apart := false, narrowed := true }
def ReachTellsUptoSaid : Prop := reachTellsUptoRow.holds Try.pinned (OpenSpec.upto reachTellsSpec)

end Rows
end Go.Proofs.Ytfnjdegejgocfaa
