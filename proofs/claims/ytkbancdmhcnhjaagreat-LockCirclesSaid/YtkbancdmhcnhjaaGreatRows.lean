/-
  No cell of these rows narrows 'for every input' (looked for: loops, veiled, ifaces, maps, wideKeys, modest, calm, conditions, laid).
  DERIVED. THE GIVEN ROWS OF THIS SEAT. 3 by the template 'for every input the law returns true; each argument reads behind the call as it read before'; 0 by the template 'total and deterministic' (their statements: YtkbancdmhcnhjaaGreatTotals.lean).
  GIVEN WITH THE SEED: the statements are not yours to turn. If you find one false, say at which input.
  Laid BY PROGRAM, IN A SANDBOX (cutbox-rows.mjs): the forced cells as the released guide's own fill.sh prints them over the translation 9a2ed856c1ef2d15… (all of the seat's roots in one cut). By AI agents, Wed Nov 11 2026. No macro, syntax, notation, axiom, sorry.
-/
import Derived.Test.YtkbancdmhcnhjaaGreatChecked
import GoSem.Claim
import GoSem.ClaimJoined
import GoSem.ClaimMapViews
import Derived.JoinedTies
import Derived.KernelRfl
namespace Go.Proofs.YtkbancdmhcnhjaaGreat
/- THE CELL 'sum', in the pinned program and in every row, IS THE sha256 OF THE DUMP (.gsa) THAT YtkbancdmhcnhjaaGreatProg.lean LOADS. Nothing in Lean hashes anything: it is a label: what it is worth is what the hold of that sum in a sandbox is worth. -/
noncomputable def Tryz.pinned : Pinned := { name := "ytkbancdmhcnhjaagreat", sum := "9a2ed856c1ef2d15341e957952e704429468415b3f8fea87133c006ebfe8fd78", checked := Tryz.checked }
namespace Rows
def none {H : Type} : Left H := { results := [], args := [] }

/-- 'justiciarlaw18.LockAsks': WHATEVER THE INPUT: true; the input reads as it did. -/
def lockAsksSpec : ChangeSpec := { name := "lockAsks", fn := fun _ => fun
  | [d1, d2, d3] => { results := [.lit (.bool true)], args := [d1, d2, d3] }
  | _ => none }
def lockAsksRow : OpenClaim := { program := "ytkbancdmhcnhjaagreat", sum := "9a2ed856c1ef2d15341e957952e704429468415b3f8fea87133c006ebfe8fd78", func := "justiciar/justiciarlaw18.LockAsks", spec := "lockAsks", inPlace := ["slices.overlaps[justiciar/api.Lock]"], unfollowed := true, recurses := true, apart := false }
def LockAsksSaid : Prop := lockAsksRow.holds Tryz.pinned (OpenSpec.ofChange lockAsksSpec)

/-- ITS FALSE NEIGHBOUR: 'it returns false'. Refute it at one input. -/
def lockAsksWrong : ChangeSpec := { name := "lockAsks", fn := fun _ => fun
  | [d1, d2, d3] => { results := [.lit (.bool false)], args := [d1, d2, d3] }
  | _ => none }
def LockAsksWrongFalsely : Prop := lockAsksRow.holds Tryz.pinned (OpenSpec.ofChange lockAsksWrong)

/-- 'justiciarlaw18.LockFrees': WHATEVER THE INPUT: true; the input reads as it did. -/
def lockFreesSpec : ChangeSpec := { name := "lockFrees", fn := fun _ => fun
  | [d1, d2] => { results := [.lit (.bool true)], args := [d1, d2] }
  | _ => none }
def lockFreesRow : OpenClaim := { program := "ytkbancdmhcnhjaagreat", sum := "9a2ed856c1ef2d15341e957952e704429468415b3f8fea87133c006ebfe8fd78", func := "justiciar/justiciarlaw18.LockFrees", spec := "lockFrees", inPlace := ["slices.overlaps[justiciar/api.Lock]"], unfollowed := true, recurses := true, apart := false }
def LockFreesSaid : Prop := lockFreesRow.holds Tryz.pinned (OpenSpec.ofChange lockFreesSpec)

/-- ITS FALSE NEIGHBOUR: 'it returns false'. Refute it at one input. -/
def lockFreesWrong : ChangeSpec := { name := "lockFrees", fn := fun _ => fun
  | [d1, d2] => { results := [.lit (.bool false)], args := [d1, d2] }
  | _ => none }
def LockFreesWrongFalsely : Prop := lockFreesRow.holds Tryz.pinned (OpenSpec.ofChange lockFreesWrong)

/-- 'justiciarlaw18.LockCircles': WHATEVER THE INPUT: true; the input reads as it did. -/
def lockCirclesSpec : ChangeSpec := { name := "lockCircles", fn := fun _ => fun
  | [d1, d2] => { results := [.lit (.bool true)], args := [d1, d2] }
  | _ => none }
def lockCirclesRow : OpenClaim := { program := "ytkbancdmhcnhjaagreat", sum := "9a2ed856c1ef2d15341e957952e704429468415b3f8fea87133c006ebfe8fd78", func := "justiciar/justiciarlaw18.LockCircles", spec := "lockCircles", inPlace := ["slices.overlaps[justiciar/api.Lock]"], unfollowed := true, recurses := true, apart := false }
def LockCirclesSaid : Prop := lockCirclesRow.holds Tryz.pinned (OpenSpec.ofChange lockCirclesSpec)

/-- ITS FALSE NEIGHBOUR: 'it returns false'. Refute it at one input. -/
def lockCirclesWrong : ChangeSpec := { name := "lockCircles", fn := fun _ => fun
  | [d1, d2] => { results := [.lit (.bool false)], args := [d1, d2] }
  | _ => none }
def LockCirclesWrongFalsely : Prop := lockCirclesRow.holds Tryz.pinned (OpenSpec.ofChange lockCirclesWrong)

/- THE SECOND FORM. 'bulk': how many values and letters a reading holds, each counted each time it is reached (what is shared counts as often as it is met; a slice's spare places count too). A statement '..UptoSaid' is the law's where the arguments, and the package variables that the reading takes, are together of bulk at most 1048576: NARROWER than '..Said'. Prove '..Said' where nothing that the law and all that it calls make is longer than what came in: it says more and counts as full. Else prove '..UptoSaid'. A law counts once. -/
mutual
def uptoBulk {H : Type} : DataW H → Nat
  | .lit (.string bytes) => bytes.length + 1
  | .lit _ => 1
  | .nil => 1
  | .ptr d => uptoBulk d + 1
  | .slice elems spare => uptoBulkAll elems + uptoBulkAll spare + 1
  | .agg parts => uptoBulkAll parts + 1
  | .iface _ d => uptoBulk d + 1
  | .map entries => uptoBulkEntries entries + 1
  | .held _ => 1
def uptoBulkAll {H : Type} : List (DataW H) → Nat
  | [] => 0
  | d :: r => uptoBulk d + uptoBulkAll r
def uptoBulkEntries {H : Type} : List (Lit × DataW H) → Nat
  | [] => 0
  | x :: r => uptoBulkEntry x + uptoBulkEntries r
def uptoBulkEntry {H : Type} : Lit × DataW H → Nat
  | (.string bytes, d) => bytes.length + uptoBulk d + 1
  | (_, d) => uptoBulk d + 1
 end
def uptoSmall : (H : Type) → List (DataW H) → Bool := fun _ ds => decide (uptoBulkAll ds ≤ 1048576)
def OpenSpec.upto (s : _root_.Go.ChangeSpec) : _root_.Go.OpenSpec := { _root_.Go.OpenSpec.ofChange s with cond := some uptoSmall }

/-- 'justiciarlaw18.LockAsks', WHERE WHAT IT READS IS OF BULK AT MOST 1048576: true; the input reads as it did. -/
def lockAsksUptoRow : OpenClaim := { program := "ytkbancdmhcnhjaagreat", sum := "9a2ed856c1ef2d15341e957952e704429468415b3f8fea87133c006ebfe8fd78", func := "justiciar/justiciarlaw18.LockAsks", spec := "lockAsks", inPlace := ["slices.overlaps[justiciar/api.Lock]"], unfollowed := true, recurses := true, apart := false, narrowed := true }
def LockAsksUptoSaid : Prop := lockAsksUptoRow.holds Tryz.pinned (OpenSpec.upto lockAsksSpec)

/-- 'justiciarlaw18.LockFrees', WHERE WHAT IT READS IS OF BULK AT MOST 1048576: true; the input reads as it did. -/
def lockFreesUptoRow : OpenClaim := { program := "ytkbancdmhcnhjaagreat", sum := "9a2ed856c1ef2d15341e957952e704429468415b3f8fea87133c006ebfe8fd78", func := "justiciar/justiciarlaw18.LockFrees", spec := "lockFrees", inPlace := ["slices.overlaps[justiciar/api.Lock]"], unfollowed := true, recurses := true, apart := false, narrowed := true }
def LockFreesUptoSaid : Prop := lockFreesUptoRow.holds Tryz.pinned (OpenSpec.upto lockFreesSpec)

/-- 'justiciarlaw18.LockCircles', WHERE WHAT IT READS IS OF BULK AT MOST 1048576: true; the input reads as it did. -/
def lockCirclesUptoRow : OpenClaim := { program := "ytkbancdmhcnhjaagreat", sum := "9a2ed856c1ef2d15341e957952e704429468415b3f8fea87133c006ebfe8fd78", func := "justiciar/justiciarlaw18.LockCircles", spec := "lockCircles", inPlace := ["slices.overlaps[justiciar/api.Lock]"], unfollowed := true, recurses := true, apart := false, narrowed := true }
def LockCirclesUptoSaid : Prop := lockCirclesUptoRow.holds Tryz.pinned (OpenSpec.upto lockCirclesSpec)

end Rows
end Go.Proofs.YtkbancdmhcnhjaaGreat
