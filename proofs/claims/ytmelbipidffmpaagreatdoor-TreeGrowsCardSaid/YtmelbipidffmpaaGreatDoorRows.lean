/-
  NARROWER THAN 'FOR EVERY INPUT', by the rows' own cells (each row's printed sentence says how): TreeTells: laid · TreeFinds: laid · TreeChanges: laid · TreeMakes: laid · TreeGrows: laid · TreeWays: laid.
  DERIVED. THE GIVEN ROWS OF THIS SEAT. 6 by the template 'for every input the law returns true; each argument reads behind the call as it read before'; 0 by the template 'total and deterministic' (their statements: YtmelbipidffmpaaGreatDoorTotals.lean).
  GIVEN WITH THE SEED: the statements are not yours to turn. If you find one false, say at which input.
  Laid BY PROGRAM, IN A SANDBOX (cutbox-rows.mjs): the forced cells as the released guide's own fill.sh prints them over the translation 6947b5ec6dcc4f3a… (all of the seat's roots in one cut). By AI agents, Wed Nov 11 2026. No macro, syntax, notation, axiom, sorry.
-/
import Derived.Test.YtmelbipidffmpaaGreatDoorChecked
import GoSem.Claim
import GoSem.ClaimJoined
import GoSem.ClaimMapViews
import Derived.JoinedTies
import Derived.KernelRfl
namespace Go.Proofs.YtmelbipidffmpaaGreatDoor
/- THE CELL 'sum', in the pinned program and in every row, IS THE sha256 OF THE DUMP (.gsa) THAT YtmelbipidffmpaaGreatDoorProg.lean LOADS. Nothing in Lean hashes anything: it is a label: what it is worth is what the hold of that sum in a sandbox is worth. -/
noncomputable def Tryz.pinned : Pinned := { name := "ytmelbipidffmpaagreatdoor", sum := "6947b5ec6dcc4f3a8d10872ca787ab0156966baa4a3a955d1bbd3f26e60681d1", checked := Tryz.checked }
namespace Rows
def none {H : Type} : Left H := { results := [], args := [] }

/- WHAT THE LISTED PACKAGE-LEVEL VARIABLES READ AS WHEN THE CALL BEGINS. Each datum BY PROGRAM (the guide's laid-datum.mjs) off the statement by which the dump's own 'gosem.cut.vars' lays the variable. In a bare row this is a premise. The card (YtmelbipidffmpaaGreatDoorCards.lean) ties it to the program's text. -/
def laid_justiciar_value_Null {H : Type} : DataW H := .agg [.lit (.int .i64 0), .lit (.int .i64 0), .lit (.string [])]

/-- 'justiciarlaw17.TreeTells': WHATEVER THE INPUT: true; the input reads as it did. -/
def treeTellsSpec : ChangeSpec := { name := "treeTells", fn := fun _ => fun
  | [d1, d2] => { results := [.lit (.bool true)], args := [d1, d2] }
  | _ => none }
def treeTellsRow : OpenClaim := { program := "ytmelbipidffmpaagreatdoor", sum := "6947b5ec6dcc4f3a8d10872ca787ab0156966baa4a3a955d1bbd3f26e60681d1", func := "justiciar/justiciarlaw17.TreeTells", spec := "treeTells", inPlace := ["slices.overlaps[justiciar/api.Entry]", "slices.overlaps[*justiciar/tree.node]"], unfollowed := true, recurses := true, named := ["justiciar/value.Null"], apart := false, laid := [("justiciar/value.Null", laid_justiciar_value_Null)] }
def TreeTellsSaid : Prop := treeTellsRow.holds Tryz.pinned (OpenSpec.ofChange treeTellsSpec)

/-- ITS FALSE NEIGHBOUR: 'it returns false'. Refute it at one input. -/
def treeTellsWrong : ChangeSpec := { name := "treeTells", fn := fun _ => fun
  | [d1, d2] => { results := [.lit (.bool false)], args := [d1, d2] }
  | _ => none }
def TreeTellsWrongFalsely : Prop := treeTellsRow.holds Tryz.pinned (OpenSpec.ofChange treeTellsWrong)

/-- 'justiciarlaw17.TreeFinds': WHATEVER THE INPUT: true; the input reads as it did. -/
def treeFindsSpec : ChangeSpec := { name := "treeFinds", fn := fun _ => fun
  | [d1, d2, d3] => { results := [.lit (.bool true)], args := [d1, d2, d3] }
  | _ => none }
def treeFindsRow : OpenClaim := { program := "ytmelbipidffmpaagreatdoor", sum := "6947b5ec6dcc4f3a8d10872ca787ab0156966baa4a3a955d1bbd3f26e60681d1", func := "justiciar/justiciarlaw17.TreeFinds", spec := "treeFinds", inPlace := ["slices.overlaps[justiciar/api.Entry]", "slices.overlaps[*justiciar/tree.node]"], unfollowed := true, recurses := true, named := ["justiciar/value.Null"], apart := false, laid := [("justiciar/value.Null", laid_justiciar_value_Null)] }
def TreeFindsSaid : Prop := treeFindsRow.holds Tryz.pinned (OpenSpec.ofChange treeFindsSpec)

/-- ITS FALSE NEIGHBOUR: 'it returns false'. Refute it at one input. -/
def treeFindsWrong : ChangeSpec := { name := "treeFinds", fn := fun _ => fun
  | [d1, d2, d3] => { results := [.lit (.bool false)], args := [d1, d2, d3] }
  | _ => none }
def TreeFindsWrongFalsely : Prop := treeFindsRow.holds Tryz.pinned (OpenSpec.ofChange treeFindsWrong)

/-- 'justiciarlaw17.TreeChanges': WHATEVER THE INPUT: true; the input reads as it did. -/
def treeChangesSpec : ChangeSpec := { name := "treeChanges", fn := fun _ => fun
  | [d1, d2] => { results := [.lit (.bool true)], args := [d1, d2] }
  | _ => none }
def treeChangesRow : OpenClaim := { program := "ytmelbipidffmpaagreatdoor", sum := "6947b5ec6dcc4f3a8d10872ca787ab0156966baa4a3a955d1bbd3f26e60681d1", func := "justiciar/justiciarlaw17.TreeChanges", spec := "treeChanges", inPlace := ["slices.overlaps[justiciar/api.Entry]", "slices.overlaps[*justiciar/tree.node]"], unfollowed := true, recurses := true, named := ["justiciar/value.Null"], apart := false, laid := [("justiciar/value.Null", laid_justiciar_value_Null)] }
def TreeChangesSaid : Prop := treeChangesRow.holds Tryz.pinned (OpenSpec.ofChange treeChangesSpec)

/-- ITS FALSE NEIGHBOUR: 'it returns false'. Refute it at one input. -/
def treeChangesWrong : ChangeSpec := { name := "treeChanges", fn := fun _ => fun
  | [d1, d2] => { results := [.lit (.bool false)], args := [d1, d2] }
  | _ => none }
def TreeChangesWrongFalsely : Prop := treeChangesRow.holds Tryz.pinned (OpenSpec.ofChange treeChangesWrong)

/-- 'justiciarlaw17.TreeMakes': WHATEVER THE INPUT: true; the input reads as it did. -/
def treeMakesSpec : ChangeSpec := { name := "treeMakes", fn := fun _ => fun
  | [d1, d2] => { results := [.lit (.bool true)], args := [d1, d2] }
  | _ => none }
def treeMakesRow : OpenClaim := { program := "ytmelbipidffmpaagreatdoor", sum := "6947b5ec6dcc4f3a8d10872ca787ab0156966baa4a3a955d1bbd3f26e60681d1", func := "justiciar/justiciarlaw17.TreeMakes", spec := "treeMakes", inPlace := ["slices.overlaps[justiciar/api.Entry]", "slices.overlaps[*justiciar/tree.node]"], unfollowed := true, recurses := true, named := ["justiciar/value.Null"], apart := false, laid := [("justiciar/value.Null", laid_justiciar_value_Null)] }
def TreeMakesSaid : Prop := treeMakesRow.holds Tryz.pinned (OpenSpec.ofChange treeMakesSpec)

/-- ITS FALSE NEIGHBOUR: 'it returns false'. Refute it at one input. -/
def treeMakesWrong : ChangeSpec := { name := "treeMakes", fn := fun _ => fun
  | [d1, d2] => { results := [.lit (.bool false)], args := [d1, d2] }
  | _ => none }
def TreeMakesWrongFalsely : Prop := treeMakesRow.holds Tryz.pinned (OpenSpec.ofChange treeMakesWrong)

/-- 'justiciarlaw17.TreeGrows': WHATEVER THE INPUT: true; the input reads as it did. -/
def treeGrowsSpec : ChangeSpec := { name := "treeGrows", fn := fun _ => fun
  | [d1, d2] => { results := [.lit (.bool true)], args := [d1, d2] }
  | _ => none }
def treeGrowsRow : OpenClaim := { program := "ytmelbipidffmpaagreatdoor", sum := "6947b5ec6dcc4f3a8d10872ca787ab0156966baa4a3a955d1bbd3f26e60681d1", func := "justiciar/justiciarlaw17.TreeGrows", spec := "treeGrows", inPlace := ["slices.overlaps[justiciar/api.Entry]", "slices.overlaps[*justiciar/tree.node]"], unfollowed := true, recurses := true, named := ["justiciar/value.Null"], apart := false, laid := [("justiciar/value.Null", laid_justiciar_value_Null)] }
def TreeGrowsSaid : Prop := treeGrowsRow.holds Tryz.pinned (OpenSpec.ofChange treeGrowsSpec)

/-- ITS FALSE NEIGHBOUR: 'it returns false'. Refute it at one input. -/
def treeGrowsWrong : ChangeSpec := { name := "treeGrows", fn := fun _ => fun
  | [d1, d2] => { results := [.lit (.bool false)], args := [d1, d2] }
  | _ => none }
def TreeGrowsWrongFalsely : Prop := treeGrowsRow.holds Tryz.pinned (OpenSpec.ofChange treeGrowsWrong)

/-- 'justiciarlaw17.TreeWays': WHATEVER THE INPUT: true; the input reads as it did. -/
def treeWaysSpec : ChangeSpec := { name := "treeWays", fn := fun _ => fun
  | [d1, d2] => { results := [.lit (.bool true)], args := [d1, d2] }
  | _ => none }
def treeWaysRow : OpenClaim := { program := "ytmelbipidffmpaagreatdoor", sum := "6947b5ec6dcc4f3a8d10872ca787ab0156966baa4a3a955d1bbd3f26e60681d1", func := "justiciar/justiciarlaw17.TreeWays", spec := "treeWays", inPlace := ["slices.overlaps[justiciar/api.Entry]", "slices.overlaps[*justiciar/tree.node]"], unfollowed := true, recurses := true, named := ["justiciar/value.Null"], apart := false, laid := [("justiciar/value.Null", laid_justiciar_value_Null)] }
def TreeWaysSaid : Prop := treeWaysRow.holds Tryz.pinned (OpenSpec.ofChange treeWaysSpec)

/-- ITS FALSE NEIGHBOUR: 'it returns false'. Refute it at one input. -/
def treeWaysWrong : ChangeSpec := { name := "treeWays", fn := fun _ => fun
  | [d1, d2] => { results := [.lit (.bool false)], args := [d1, d2] }
  | _ => none }
def TreeWaysWrongFalsely : Prop := treeWaysRow.holds Tryz.pinned (OpenSpec.ofChange treeWaysWrong)

/- THE SECOND FORM. 'bulk': how many values and letters a reading holds, each counted each time it is reached (what is shared counts as often as it is met; a slice's spare places count too). A statement '..UptoSaid' is the law's where the arguments, and the package variables that the reading takes, are together of bulk at most 1048576: NARROWER than '..Said'. Prove '..Said' where nothing that the law and all that it calls make is longer than what came in: it says more and counts as full. Else prove '..UptoSaid'. A law counts once. -/
mutual
def uptoBulk {H : Type} : DataW H → Nat
  | .lit (.string bytes) => bytes.length + 1
  | .lit _ => 1
  | .nil => 1
  | .ptr d => uptoBulk d + 1
  | .slice elems spare => uptoBulkAll elems + uptoBulkAll spare + 1
  | .agg parts => uptoBulkAll parts + 1
  | .iface _ d => uptoBulk d + 1
  | .map entries => uptoBulkEntries entries + 1
  | .held _ => 1
def uptoBulkAll {H : Type} : List (DataW H) → Nat
  | [] => 0
  | d :: r => uptoBulk d + uptoBulkAll r
def uptoBulkEntries {H : Type} : List (Lit × DataW H) → Nat
  | [] => 0
  | x :: r => uptoBulkEntry x + uptoBulkEntries r
def uptoBulkEntry {H : Type} : Lit × DataW H → Nat
  | (.string bytes, d) => bytes.length + uptoBulk d + 1
  | (_, d) => uptoBulk d + 1
 end
def uptoSmall : (H : Type) → List (DataW H) → Bool := fun _ ds => decide (uptoBulkAll ds ≤ 1048576)
def OpenSpec.upto (s : _root_.Go.ChangeSpec) : _root_.Go.OpenSpec := { _root_.Go.OpenSpec.ofChange s with cond := some uptoSmall }

/-- 'justiciarlaw17.TreeTells', WHERE WHAT IT READS IS OF BULK AT MOST 1048576: true; the input reads as it did. -/
def treeTellsUptoRow : OpenClaim := { program := "ytmelbipidffmpaagreatdoor", sum := "6947b5ec6dcc4f3a8d10872ca787ab0156966baa4a3a955d1bbd3f26e60681d1", func := "justiciar/justiciarlaw17.TreeTells", spec := "treeTells", inPlace := ["slices.overlaps[justiciar/api.Entry]", "slices.overlaps[*justiciar/tree.node]"], unfollowed := true, recurses := true, named := ["justiciar/value.Null"], apart := false, laid := [("justiciar/value.Null", laid_justiciar_value_Null)], narrowed := true }
def TreeTellsUptoSaid : Prop := treeTellsUptoRow.holds Tryz.pinned (OpenSpec.upto treeTellsSpec)

/-- 'justiciarlaw17.TreeFinds', WHERE WHAT IT READS IS OF BULK AT MOST 1048576: true; the input reads as it did. -/
def treeFindsUptoRow : OpenClaim := { program := "ytmelbipidffmpaagreatdoor", sum := "6947b5ec6dcc4f3a8d10872ca787ab0156966baa4a3a955d1bbd3f26e60681d1", func := "justiciar/justiciarlaw17.TreeFinds", spec := "treeFinds", inPlace := ["slices.overlaps[justiciar/api.Entry]", "slices.overlaps[*justiciar/tree.node]"], unfollowed := true, recurses := true, named := ["justiciar/value.Null"], apart := false, laid := [("justiciar/value.Null", laid_justiciar_value_Null)], narrowed := true }
def TreeFindsUptoSaid : Prop := treeFindsUptoRow.holds Tryz.pinned (OpenSpec.upto treeFindsSpec)

/-- 'justiciarlaw17.TreeChanges', WHERE WHAT IT READS IS OF BULK AT MOST 1048576: true; the input reads as it did. -/
def treeChangesUptoRow : OpenClaim := { program := "ytmelbipidffmpaagreatdoor", sum := "6947b5ec6dcc4f3a8d10872ca787ab0156966baa4a3a955d1bbd3f26e60681d1", func := "justiciar/justiciarlaw17.TreeChanges", spec := "treeChanges", inPlace := ["slices.overlaps[justiciar/api.Entry]", "slices.overlaps[*justiciar/tree.node]"], unfollowed := true, recurses := true, named := ["justiciar/value.Null"], apart := false, laid := [("justiciar/value.Null", laid_justiciar_value_Null)], narrowed := true }
def TreeChangesUptoSaid : Prop := treeChangesUptoRow.holds Tryz.pinned (OpenSpec.upto treeChangesSpec)

/-- 'justiciarlaw17.TreeMakes', WHERE WHAT IT READS IS OF BULK AT MOST 1048576: true; the input reads as it did. -/
def treeMakesUptoRow : OpenClaim := { program := "ytmelbipidffmpaagreatdoor", sum := "6947b5ec6dcc4f3a8d10872ca787ab0156966baa4a3a955d1bbd3f26e60681d1", func := "justiciar/justiciarlaw17.TreeMakes", spec := "treeMakes", inPlace := ["slices.overlaps[justiciar/api.Entry]", "slices.overlaps[*justiciar/tree.node]"], unfollowed := true, recurses := true, named := ["justiciar/value.Null"], apart := false, laid := [("justiciar/value.Null", laid_justiciar_value_Null)], narrowed := true }
def TreeMakesUptoSaid : Prop := treeMakesUptoRow.holds Tryz.pinned (OpenSpec.upto treeMakesSpec)

/-- 'justiciarlaw17.TreeGrows', WHERE WHAT IT READS IS OF BULK AT MOST 1048576: true; the input reads as it did. -/
def treeGrowsUptoRow : OpenClaim := { program := "ytmelbipidffmpaagreatdoor", sum := "6947b5ec6dcc4f3a8d10872ca787ab0156966baa4a3a955d1bbd3f26e60681d1", func := "justiciar/justiciarlaw17.TreeGrows", spec := "treeGrows", inPlace := ["slices.overlaps[justiciar/api.Entry]", "slices.overlaps[*justiciar/tree.node]"], unfollowed := true, recurses := true, named := ["justiciar/value.Null"], apart := false, laid := [("justiciar/value.Null", laid_justiciar_value_Null)], narrowed := true }
def TreeGrowsUptoSaid : Prop := treeGrowsUptoRow.holds Tryz.pinned (OpenSpec.upto treeGrowsSpec)

/-- 'justiciarlaw17.TreeWays', WHERE WHAT IT READS IS OF BULK AT MOST 1048576: true; the input reads as it did. -/
def treeWaysUptoRow : OpenClaim := { program := "ytmelbipidffmpaagreatdoor", sum := "6947b5ec6dcc4f3a8d10872ca787ab0156966baa4a3a955d1bbd3f26e60681d1", func := "justiciar/justiciarlaw17.TreeWays", spec := "treeWays", inPlace := ["slices.overlaps[justiciar/api.Entry]", "slices.overlaps[*justiciar/tree.node]"], unfollowed := true, recurses := true, named := ["justiciar/value.Null"], apart := false, laid := [("justiciar/value.Null", laid_justiciar_value_Null)], narrowed := true }
def TreeWaysUptoSaid : Prop := treeWaysUptoRow.holds Tryz.pinned (OpenSpec.upto treeWaysSpec)

end Rows
end Go.Proofs.YtmelbipidffmpaaGreatDoor
