/-
  No cell of these rows narrows 'for every input' (looked for: loops, veiled, ifaces, maps, wideKeys, modest, calm, conditions, laid).
  DERIVED. THE GIVEN ROWS OF THIS SEAT. 4 by the template 'for every input the law returns true; each argument reads behind the call as it read before'; 0 by the template 'total and deterministic' (their statements: YthalkfdkbalpmaaGreatTotals.lean).
  GIVEN WITH THE SEED: the statements are not yours to turn. If you find one false, say at which input.
  Laid BY PROGRAM, IN A SANDBOX (cutbox-rows.mjs): the forced cells as the released guide's own fill.sh prints them over the translation 99fbeae3e5c6a3c5… (all of the seat's roots in one cut). By AI agents, Wed Nov 11 2026. No macro, syntax, notation, axiom, sorry.
-/
import Derived.Test.YthalkfdkbalpmaaGreatChecked
import GoSem.Claim
import GoSem.ClaimJoined
import GoSem.ClaimMapViews
import Derived.JoinedTies
import Derived.KernelRfl
namespace Go.Proofs.YthalkfdkbalpmaaGreat
/- THE CELL 'sum', in the pinned program and in every row, IS THE sha256 OF THE DUMP (.gsa) THAT YthalkfdkbalpmaaGreatProg.lean LOADS. Nothing in Lean hashes anything: it is a label: what it is worth is what the hold of that sum in a sandbox is worth. -/
noncomputable def Tryz.pinned : Pinned := { name := "ythalkfdkbalpmaagreat", sum := "99fbeae3e5c6a3c5f9c63cf32047e29b3b22fe39607d06a9663856f7302a4ce9", checked := Tryz.checked }
namespace Rows
def none {H : Type} : Left H := { results := [], args := [] }

/-- 'bosketlaw36.DeriveTrees': WHATEVER THE INPUT: true; the input reads as it did. -/
def deriveTreesSpec : ChangeSpec := { name := "deriveTrees", fn := fun _ => fun
  | [d1, d2, d3] => { results := [.lit (.bool true)], args := [d1, d2, d3] }
  | _ => none }
def deriveTreesRow : OpenClaim := { program := "ythalkfdkbalpmaagreat", sum := "99fbeae3e5c6a3c5f9c63cf32047e29b3b22fe39607d06a9663856f7302a4ce9", func := "bosket/bosketlaw36.DeriveTrees", spec := "deriveTrees", recurses := true, plainKeys := false, apart := false }
def DeriveTreesSaid : Prop := deriveTreesRow.holds Tryz.pinned (OpenSpec.ofChange deriveTreesSpec)

/-- ITS FALSE NEIGHBOUR: 'it returns false'. Refute it at one input. -/
def deriveTreesWrong : ChangeSpec := { name := "deriveTrees", fn := fun _ => fun
  | [d1, d2, d3] => { results := [.lit (.bool false)], args := [d1, d2, d3] }
  | _ => none }
def DeriveTreesWrongFalsely : Prop := deriveTreesRow.holds Tryz.pinned (OpenSpec.ofChange deriveTreesWrong)

/-- 'bosketlaw26.StatesOf': WHATEVER THE INPUT: true; the input reads as it did. -/
def statesOfSpec : ChangeSpec := { name := "statesOf", fn := fun _ => fun
  | [d] => { results := [.lit (.bool true)], args := [d] }
  | _ => none }
def statesOfRow : OpenClaim := { program := "ythalkfdkbalpmaagreat", sum := "99fbeae3e5c6a3c5f9c63cf32047e29b3b22fe39607d06a9663856f7302a4ce9", func := "bosket/bosketlaw26.StatesOf", spec := "statesOf", inPlace := ["slices.overlaps[bosket/item.Item]"], unfollowed := true, recurses := true, plainKeys := false, apart := false }
def StatesOfSaid : Prop := statesOfRow.holds Tryz.pinned (OpenSpec.ofChange statesOfSpec)

/-- ITS FALSE NEIGHBOUR: 'it returns false'. Refute it at one input. -/
def statesOfWrong : ChangeSpec := { name := "statesOf", fn := fun _ => fun
  | [d] => { results := [.lit (.bool false)], args := [d] }
  | _ => none }
def StatesOfWrongFalsely : Prop := statesOfRow.holds Tryz.pinned (OpenSpec.ofChange statesOfWrong)

/-- 'bosketlaw26.StatesRefuse': WHATEVER THE INPUT: true; the input reads as it did. -/
def statesRefuseSpec : ChangeSpec := { name := "statesRefuse", fn := fun _ => fun
  | [d] => { results := [.lit (.bool true)], args := [d] }
  | _ => none }
def statesRefuseRow : OpenClaim := { program := "ythalkfdkbalpmaagreat", sum := "99fbeae3e5c6a3c5f9c63cf32047e29b3b22fe39607d06a9663856f7302a4ce9", func := "bosket/bosketlaw26.StatesRefuse", spec := "statesRefuse", inPlace := ["slices.overlaps[bosket/item.Item]"], unfollowed := true, recurses := true, plainKeys := false, apart := false }
def StatesRefuseSaid : Prop := statesRefuseRow.holds Tryz.pinned (OpenSpec.ofChange statesRefuseSpec)

/-- ITS FALSE NEIGHBOUR: 'it returns false'. Refute it at one input. -/
def statesRefuseWrong : ChangeSpec := { name := "statesRefuse", fn := fun _ => fun
  | [d] => { results := [.lit (.bool false)], args := [d] }
  | _ => none }
def StatesRefuseWrongFalsely : Prop := statesRefuseRow.holds Tryz.pinned (OpenSpec.ofChange statesRefuseWrong)

/-- 'bosketlaw26.StatesRun': WHATEVER THE INPUT: true; the input reads as it did. -/
def statesRunSpec : ChangeSpec := { name := "statesRun", fn := fun _ => fun
  | [d1, d2, d3] => { results := [.lit (.bool true)], args := [d1, d2, d3] }
  | _ => none }
def statesRunRow : OpenClaim := { program := "ythalkfdkbalpmaagreat", sum := "99fbeae3e5c6a3c5f9c63cf32047e29b3b22fe39607d06a9663856f7302a4ce9", func := "bosket/bosketlaw26.StatesRun", spec := "statesRun", inPlace := ["slices.overlaps[bosket/item.Item]"], unfollowed := true, recurses := true, plainKeys := false, apart := false }
def StatesRunSaid : Prop := statesRunRow.holds Tryz.pinned (OpenSpec.ofChange statesRunSpec)

/-- ITS FALSE NEIGHBOUR: 'it returns false'. Refute it at one input. -/
def statesRunWrong : ChangeSpec := { name := "statesRun", fn := fun _ => fun
  | [d1, d2, d3] => { results := [.lit (.bool false)], args := [d1, d2, d3] }
  | _ => none }
def StatesRunWrongFalsely : Prop := statesRunRow.holds Tryz.pinned (OpenSpec.ofChange statesRunWrong)

/- THE SECOND FORM. 'bulk': how many values and letters a reading holds, each counted each time it is reached (what is shared counts as often as it is met; a slice's spare places count too). A statement '..UptoSaid' is the law's where the arguments, and the package variables that the reading takes, are together of bulk at most 1048576: NARROWER than '..Said'. Prove '..Said' where nothing that the law and all that it calls make is longer than what came in: it says more and counts as full. Else prove '..UptoSaid'. A law counts once. -/
mutual
def uptoBulk {H : Type} : DataW H → Nat
  | .lit (.string bytes) => bytes.length + 1
  | .lit _ => 1
  | .nil => 1
  | .ptr d => uptoBulk d + 1
  | .slice elems spare => uptoBulkAll elems + uptoBulkAll spare + 1
  | .agg parts => uptoBulkAll parts + 1
  | .iface _ d => uptoBulk d + 1
  | .map entries => uptoBulkEntries entries + 1
  | .held _ => 1
def uptoBulkAll {H : Type} : List (DataW H) → Nat
  | [] => 0
  | d :: r => uptoBulk d + uptoBulkAll r
def uptoBulkEntries {H : Type} : List (Lit × DataW H) → Nat
  | [] => 0
  | x :: r => uptoBulkEntry x + uptoBulkEntries r
def uptoBulkEntry {H : Type} : Lit × DataW H → Nat
  | (.string bytes, d) => bytes.length + uptoBulk d + 1
  | (_, d) => uptoBulk d + 1
 end
def uptoSmall : (H : Type) → List (DataW H) → Bool := fun _ ds => decide (uptoBulkAll ds ≤ 1048576)
def OpenSpec.upto (s : _root_.Go.ChangeSpec) : _root_.Go.OpenSpec := { _root_.Go.OpenSpec.ofChange s with cond := some uptoSmall }

/-- 'bosketlaw36.DeriveTrees', WHERE WHAT IT READS IS OF BULK AT MOST 1048576: true; the input reads as it did. -/
def deriveTreesUptoRow : OpenClaim := { program := "ythalkfdkbalpmaagreat", sum := "99fbeae3e5c6a3c5f9c63cf32047e29b3b22fe39607d06a9663856f7302a4ce9", func := "bosket/bosketlaw36.DeriveTrees", spec := "deriveTrees", recurses := true, plainKeys := false, apart := false, narrowed := true }
def DeriveTreesUptoSaid : Prop := deriveTreesUptoRow.holds Tryz.pinned (OpenSpec.upto deriveTreesSpec)

/-- 'bosketlaw26.StatesOf', WHERE WHAT IT READS IS OF BULK AT MOST 1048576: true; the input reads as it did. -/
def statesOfUptoRow : OpenClaim := { program := "ythalkfdkbalpmaagreat", sum := "99fbeae3e5c6a3c5f9c63cf32047e29b3b22fe39607d06a9663856f7302a4ce9", func := "bosket/bosketlaw26.StatesOf", spec := "statesOf", inPlace := ["slices.overlaps[bosket/item.Item]"], unfollowed := true, recurses := true, plainKeys := false, apart := false, narrowed := true }
def StatesOfUptoSaid : Prop := statesOfUptoRow.holds Tryz.pinned (OpenSpec.upto statesOfSpec)

/-- 'bosketlaw26.StatesRefuse', WHERE WHAT IT READS IS OF BULK AT MOST 1048576: true; the input reads as it did. -/
def statesRefuseUptoRow : OpenClaim := { program := "ythalkfdkbalpmaagreat", sum := "99fbeae3e5c6a3c5f9c63cf32047e29b3b22fe39607d06a9663856f7302a4ce9", func := "bosket/bosketlaw26.StatesRefuse", spec := "statesRefuse", inPlace := ["slices.overlaps[bosket/item.Item]"], unfollowed := true, recurses := true, plainKeys := false, apart := false, narrowed := true }
def StatesRefuseUptoSaid : Prop := statesRefuseUptoRow.holds Tryz.pinned (OpenSpec.upto statesRefuseSpec)

/-- 'bosketlaw26.StatesRun', WHERE WHAT IT READS IS OF BULK AT MOST 1048576: true; the input reads as it did. -/
def statesRunUptoRow : OpenClaim := { program := "ythalkfdkbalpmaagreat", sum := "99fbeae3e5c6a3c5f9c63cf32047e29b3b22fe39607d06a9663856f7302a4ce9", func := "bosket/bosketlaw26.StatesRun", spec := "statesRun", inPlace := ["slices.overlaps[bosket/item.Item]"], unfollowed := true, recurses := true, plainKeys := false, apart := false, narrowed := true }
def StatesRunUptoSaid : Prop := statesRunUptoRow.holds Tryz.pinned (OpenSpec.upto statesRunSpec)

end Rows
end Go.Proofs.YthalkfdkbalpmaaGreat
