/-
  No cell of these rows narrows 'for every input' (looked for: loops, veiled, ifaces, maps, wideKeys, modest, calm, conditions, laid).
  DERIVED. THE GIVEN ROWS OF THIS SEAT. 6 by the template 'for every input the law returns true; each argument reads behind the call as it read before'; 0 by the template 'total and deterministic' (their statements: YtphipehmbefejaaGreatTotals.lean).
  GIVEN WITH THE SEED: the statements are not yours to turn. If you find one false, say at which input.
  Laid BY PROGRAM, IN A SANDBOX (cutbox-rows.mjs): the forced cells as the released guide's own fill.sh prints them over the translation 35c9e398c29cd237… (all of the seat's roots in one cut). By AI agents, Wed Nov 11 2026. No macro, syntax, notation, axiom, sorry.
-/
import Derived.Test.YtphipehmbefejaaGreatChecked
import GoSem.Claim
import GoSem.ClaimJoined
import GoSem.ClaimMapViews
import Derived.JoinedTies
import Derived.KernelRfl
namespace Go.Proofs.YtphipehmbefejaaGreat
/- THE CELL 'sum', in the pinned program and in every row, IS THE sha256 OF THE DUMP (.gsa) THAT YtphipehmbefejaaGreatProg.lean LOADS. Nothing in Lean hashes anything: it is a label: what it is worth is what the hold of that sum in a sandbox is worth. -/
noncomputable def Tryz.pinned : Pinned := { name := "ytphipehmbefejaagreat", sum := "35c9e398c29cd23741970ea30929a618d7cf14089f1e04962f81be2c59650642", checked := Tryz.checked }
namespace Rows
def none {H : Type} : Left H := { results := [], args := [] }

/-- 'bosketlaw27.ResolveOpen': WHATEVER THE INPUT: true; the input reads as it did. -/
def resolveOpenSpec : ChangeSpec := { name := "resolveOpen", fn := fun _ => fun
  | [d] => { results := [.lit (.bool true)], args := [d] }
  | _ => none }
def resolveOpenRow : OpenClaim := { program := "ytphipehmbefejaagreat", sum := "35c9e398c29cd23741970ea30929a618d7cf14089f1e04962f81be2c59650642", func := "bosket/bosketlaw27.ResolveOpen", spec := "resolveOpen", inPlace := ["slices.overlaps[bosket/item.Item]"], unfollowed := true, recurses := true, apart := false }
def ResolveOpenSaid : Prop := resolveOpenRow.holds Tryz.pinned (OpenSpec.ofChange resolveOpenSpec)

/-- ITS FALSE NEIGHBOUR: 'it returns false'. Refute it at one input. -/
def resolveOpenWrong : ChangeSpec := { name := "resolveOpen", fn := fun _ => fun
  | [d] => { results := [.lit (.bool false)], args := [d] }
  | _ => none }
def ResolveOpenWrongFalsely : Prop := resolveOpenRow.holds Tryz.pinned (OpenSpec.ofChange resolveOpenWrong)

/-- 'bosketlaw27.ResolveOne': WHATEVER THE INPUT: true; the input reads as it did. -/
def resolveOneSpec : ChangeSpec := { name := "resolveOne", fn := fun _ => fun
  | [d] => { results := [.lit (.bool true)], args := [d] }
  | _ => none }
def resolveOneRow : OpenClaim := { program := "ytphipehmbefejaagreat", sum := "35c9e398c29cd23741970ea30929a618d7cf14089f1e04962f81be2c59650642", func := "bosket/bosketlaw27.ResolveOne", spec := "resolveOne", inPlace := ["slices.overlaps[bosket/item.Item]"], unfollowed := true, recurses := true, apart := false }
def ResolveOneSaid : Prop := resolveOneRow.holds Tryz.pinned (OpenSpec.ofChange resolveOneSpec)

/-- ITS FALSE NEIGHBOUR: 'it returns false'. Refute it at one input. -/
def resolveOneWrong : ChangeSpec := { name := "resolveOne", fn := fun _ => fun
  | [d] => { results := [.lit (.bool false)], args := [d] }
  | _ => none }
def ResolveOneWrongFalsely : Prop := resolveOneRow.holds Tryz.pinned (OpenSpec.ofChange resolveOneWrong)

/-- 'bosketlaw28.TableOf': WHATEVER THE INPUT: true; the input reads as it did. -/
def tableOfSpec : ChangeSpec := { name := "tableOf", fn := fun _ => fun
  | [d] => { results := [.lit (.bool true)], args := [d] }
  | _ => none }
def tableOfRow : OpenClaim := { program := "ytphipehmbefejaagreat", sum := "35c9e398c29cd23741970ea30929a618d7cf14089f1e04962f81be2c59650642", func := "bosket/bosketlaw28.TableOf", spec := "tableOf", inPlace := ["slices.overlaps[bosket/item.Item]"], unfollowed := true, recurses := true, apart := false }
def TableOfSaid : Prop := tableOfRow.holds Tryz.pinned (OpenSpec.ofChange tableOfSpec)

/-- ITS FALSE NEIGHBOUR: 'it returns false'. Refute it at one input. -/
def tableOfWrong : ChangeSpec := { name := "tableOf", fn := fun _ => fun
  | [d] => { results := [.lit (.bool false)], args := [d] }
  | _ => none }
def TableOfWrongFalsely : Prop := tableOfRow.holds Tryz.pinned (OpenSpec.ofChange tableOfWrong)

/-- 'bosketlaw28.TableChecks': WHATEVER THE INPUT: true; the input reads as it did. -/
def tableChecksSpec : ChangeSpec := { name := "tableChecks", fn := fun _ => fun
  | [d1, d2, d3] => { results := [.lit (.bool true)], args := [d1, d2, d3] }
  | _ => none }
def tableChecksRow : OpenClaim := { program := "ytphipehmbefejaagreat", sum := "35c9e398c29cd23741970ea30929a618d7cf14089f1e04962f81be2c59650642", func := "bosket/bosketlaw28.TableChecks", spec := "tableChecks", inPlace := ["slices.overlaps[bosket/item.Item]"], unfollowed := true, recurses := true, apart := false }
def TableChecksSaid : Prop := tableChecksRow.holds Tryz.pinned (OpenSpec.ofChange tableChecksSpec)

/-- ITS FALSE NEIGHBOUR: 'it returns false'. Refute it at one input. -/
def tableChecksWrong : ChangeSpec := { name := "tableChecks", fn := fun _ => fun
  | [d1, d2, d3] => { results := [.lit (.bool false)], args := [d1, d2, d3] }
  | _ => none }
def TableChecksWrongFalsely : Prop := tableChecksRow.holds Tryz.pinned (OpenSpec.ofChange tableChecksWrong)

/-- 'bosketlaw29.AcceptRules': WHATEVER THE INPUT: true; the input reads as it did. -/
def acceptRulesSpec : ChangeSpec := { name := "acceptRules", fn := fun _ => fun
  | [d] => { results := [.lit (.bool true)], args := [d] }
  | _ => none }
def acceptRulesRow : OpenClaim := { program := "ytphipehmbefejaagreat", sum := "35c9e398c29cd23741970ea30929a618d7cf14089f1e04962f81be2c59650642", func := "bosket/bosketlaw29.AcceptRules", spec := "acceptRules", inPlace := ["slices.overlaps[bosket/item.Item]"], unfollowed := true, recurses := true, apart := false }
def AcceptRulesSaid : Prop := acceptRulesRow.holds Tryz.pinned (OpenSpec.ofChange acceptRulesSpec)

/-- ITS FALSE NEIGHBOUR: 'it returns false'. Refute it at one input. -/
def acceptRulesWrong : ChangeSpec := { name := "acceptRules", fn := fun _ => fun
  | [d] => { results := [.lit (.bool false)], args := [d] }
  | _ => none }
def AcceptRulesWrongFalsely : Prop := acceptRulesRow.holds Tryz.pinned (OpenSpec.ofChange acceptRulesWrong)

/-- 'bosketlaw29.AcceptChecks': WHATEVER THE INPUT: true; the input reads as it did. -/
def acceptChecksSpec : ChangeSpec := { name := "acceptChecks", fn := fun _ => fun
  | [d] => { results := [.lit (.bool true)], args := [d] }
  | _ => none }
def acceptChecksRow : OpenClaim := { program := "ytphipehmbefejaagreat", sum := "35c9e398c29cd23741970ea30929a618d7cf14089f1e04962f81be2c59650642", func := "bosket/bosketlaw29.AcceptChecks", spec := "acceptChecks", inPlace := ["slices.overlaps[bosket/item.Item]"], unfollowed := true, recurses := true, apart := false }
def AcceptChecksSaid : Prop := acceptChecksRow.holds Tryz.pinned (OpenSpec.ofChange acceptChecksSpec)

/-- ITS FALSE NEIGHBOUR: 'it returns false'. Refute it at one input. -/
def acceptChecksWrong : ChangeSpec := { name := "acceptChecks", fn := fun _ => fun
  | [d] => { results := [.lit (.bool false)], args := [d] }
  | _ => none }
def AcceptChecksWrongFalsely : Prop := acceptChecksRow.holds Tryz.pinned (OpenSpec.ofChange acceptChecksWrong)

/- THE SECOND FORM. 'bulk': how many values and letters a reading holds, each counted each time it is reached (what is shared counts as often as it is met; a slice's spare places count too). A statement '..UptoSaid' is the law's where the arguments, and the package variables that the reading takes, are together of bulk at most 1048576: NARROWER than '..Said'. Prove '..Said' where nothing that the law and all that it calls make is longer than what came in: it says more and counts as full. Else prove '..UptoSaid'. A law counts once. -/
mutual
def uptoBulk {H : Type} : DataW H → Nat
  | .lit (.string bytes) => bytes.length + 1
  | .lit _ => 1
  | .nil => 1
  | .ptr d => uptoBulk d + 1
  | .slice elems spare => uptoBulkAll elems + uptoBulkAll spare + 1
  | .agg parts => uptoBulkAll parts + 1
  | .iface _ d => uptoBulk d + 1
  | .map entries => uptoBulkEntries entries + 1
  | .held _ => 1
def uptoBulkAll {H : Type} : List (DataW H) → Nat
  | [] => 0
  | d :: r => uptoBulk d + uptoBulkAll r
def uptoBulkEntries {H : Type} : List (Lit × DataW H) → Nat
  | [] => 0
  | x :: r => uptoBulkEntry x + uptoBulkEntries r
def uptoBulkEntry {H : Type} : Lit × DataW H → Nat
  | (.string bytes, d) => bytes.length + uptoBulk d + 1
  | (_, d) => uptoBulk d + 1
 end
def uptoSmall : (H : Type) → List (DataW H) → Bool := fun _ ds => decide (uptoBulkAll ds ≤ 1048576)
def OpenSpec.upto (s : _root_.Go.ChangeSpec) : _root_.Go.OpenSpec := { _root_.Go.OpenSpec.ofChange s with cond := some uptoSmall }

/-- 'bosketlaw27.ResolveOpen', WHERE WHAT IT READS IS OF BULK AT MOST 1048576: true; the input reads as it did. -/
def resolveOpenUptoRow : OpenClaim := { program := "ytphipehmbefejaagreat", sum := "35c9e398c29cd23741970ea30929a618d7cf14089f1e04962f81be2c59650642", func := "bosket/bosketlaw27.ResolveOpen", spec := "resolveOpen", inPlace := ["slices.overlaps[bosket/item.Item]"], unfollowed := true, recurses := true, apart := false, narrowed := true }
def ResolveOpenUptoSaid : Prop := resolveOpenUptoRow.holds Tryz.pinned (OpenSpec.upto resolveOpenSpec)

/-- 'bosketlaw27.ResolveOne', WHERE WHAT IT READS IS OF BULK AT MOST 1048576: true; the input reads as it did. -/
def resolveOneUptoRow : OpenClaim := { program := "ytphipehmbefejaagreat", sum := "35c9e398c29cd23741970ea30929a618d7cf14089f1e04962f81be2c59650642", func := "bosket/bosketlaw27.ResolveOne", spec := "resolveOne", inPlace := ["slices.overlaps[bosket/item.Item]"], unfollowed := true, recurses := true, apart := false, narrowed := true }
def ResolveOneUptoSaid : Prop := resolveOneUptoRow.holds Tryz.pinned (OpenSpec.upto resolveOneSpec)

/-- 'bosketlaw28.TableOf', WHERE WHAT IT READS IS OF BULK AT MOST 1048576: true; the input reads as it did. -/
def tableOfUptoRow : OpenClaim := { program := "ytphipehmbefejaagreat", sum := "35c9e398c29cd23741970ea30929a618d7cf14089f1e04962f81be2c59650642", func := "bosket/bosketlaw28.TableOf", spec := "tableOf", inPlace := ["slices.overlaps[bosket/item.Item]"], unfollowed := true, recurses := true, apart := false, narrowed := true }
def TableOfUptoSaid : Prop := tableOfUptoRow.holds Tryz.pinned (OpenSpec.upto tableOfSpec)

/-- 'bosketlaw28.TableChecks', WHERE WHAT IT READS IS OF BULK AT MOST 1048576: true; the input reads as it did. -/
def tableChecksUptoRow : OpenClaim := { program := "ytphipehmbefejaagreat", sum := "35c9e398c29cd23741970ea30929a618d7cf14089f1e04962f81be2c59650642", func := "bosket/bosketlaw28.TableChecks", spec := "tableChecks", inPlace := ["slices.overlaps[bosket/item.Item]"], unfollowed := true, recurses := true, apart := false, narrowed := true }
def TableChecksUptoSaid : Prop := tableChecksUptoRow.holds Tryz.pinned (OpenSpec.upto tableChecksSpec)

/-- 'bosketlaw29.AcceptRules', WHERE WHAT IT READS IS OF BULK AT MOST 1048576: true; the input reads as it did. -/
def acceptRulesUptoRow : OpenClaim := { program := "ytphipehmbefejaagreat", sum := "35c9e398c29cd23741970ea30929a618d7cf14089f1e04962f81be2c59650642", func := "bosket/bosketlaw29.AcceptRules", spec := "acceptRules", inPlace := ["slices.overlaps[bosket/item.Item]"], unfollowed := true, recurses := true, apart := false, narrowed := true }
def AcceptRulesUptoSaid : Prop := acceptRulesUptoRow.holds Tryz.pinned (OpenSpec.upto acceptRulesSpec)

/-- 'bosketlaw29.AcceptChecks', WHERE WHAT IT READS IS OF BULK AT MOST 1048576: true; the input reads as it did. -/
def acceptChecksUptoRow : OpenClaim := { program := "ytphipehmbefejaagreat", sum := "35c9e398c29cd23741970ea30929a618d7cf14089f1e04962f81be2c59650642", func := "bosket/bosketlaw29.AcceptChecks", spec := "acceptChecks", inPlace := ["slices.overlaps[bosket/item.Item]"], unfollowed := true, recurses := true, apart := false, narrowed := true }
def AcceptChecksUptoSaid : Prop := acceptChecksUptoRow.holds Tryz.pinned (OpenSpec.upto acceptChecksSpec)

end Rows
end Go.Proofs.YtphipehmbefejaaGreat
