/-
  No cell of these rows narrows 'for every input' (looked for: loops, veiled, ifaces, maps, wideKeys, modest, calm, conditions, laid).
  DERIVED. THE GIVEN ROWS OF THIS SEAT. 4 by the template 'for every input the law returns true; each argument reads behind the call as it read before'; 0 by the template 'total and deterministic' (their statements: YtkbancdmhcnhjaaTotals.lean).
  GIVEN WITH THE SEED: the statements are not yours to turn. If you find one false, say at which input.
  Laid BY PROGRAM, IN A SANDBOX (cutbox-rows.mjs): the forced cells as the released guide's own fill.sh prints them over the translation d9024d1f1b3b60d9… (all of the seat's roots in one cut). By AI agents, Wed Nov 11 2026. No macro, syntax, notation, axiom, sorry.
-/
import Derived.Test.YtkbancdmhcnhjaaChecked
import GoSem.Claim
import GoSem.ClaimJoined
import GoSem.ClaimMapViews
import Derived.JoinedTies
import Derived.KernelRfl
namespace Go.Proofs.Ytkbancdmhcnhjaa
/- THE CELL 'sum', in the pinned program and in every row, IS THE sha256 OF THE DUMP (.gsa) THAT YtkbancdmhcnhjaaProg.lean LOADS. Nothing in Lean hashes anything: it is a label: what it is worth is what the hold of that sum in a sandbox is worth. -/
noncomputable def Try.pinned : Pinned := { name := "ytkbancdmhcnhjaa", sum := "d9024d1f1b3b60d92cb7e9d4d82c642e85d3f5460f33bb73b290feda153425ed", checked := Try.checked }
namespace Rows
def none {H : Type} : Left H := { results := [], args := [] }

/-- 'justiciarlaw18.LockSafe': WHATEVER THE INPUT: true; the input reads as it did. -/
def lockSafeSpec : ChangeSpec := { name := "lockSafe", fn := fun _ => fun
  | [d] => { results := [.lit (.bool true)], args := [d] }
  | _ => none }
def lockSafeRow : OpenClaim := { program := "ytkbancdmhcnhjaa", sum := "d9024d1f1b3b60d92cb7e9d4d82c642e85d3f5460f33bb73b290feda153425ed", func := "justiciar/justiciarlaw18.LockSafe", spec := "lockSafe", inPlace := ["slices.overlaps[justiciar/api.Lock]"], unfollowed := true, recurses := true, apart := false }
def LockSafeSaid : Prop := lockSafeRow.holds Try.pinned (OpenSpec.ofChange lockSafeSpec)

/-- ITS FALSE NEIGHBOUR: 'it returns false'. Refute it at one input. -/
def lockSafeWrong : ChangeSpec := { name := "lockSafe", fn := fun _ => fun
  | [d] => { results := [.lit (.bool false)], args := [d] }
  | _ => none }
def LockSafeWrongFalsely : Prop := lockSafeRow.holds Try.pinned (OpenSpec.ofChange lockSafeWrong)

/-- 'justiciarlaw18.LockFair': WHATEVER THE INPUT: true; the input reads as it did. -/
def lockFairSpec : ChangeSpec := { name := "lockFair", fn := fun _ => fun
  | [d] => { results := [.lit (.bool true)], args := [d] }
  | _ => none }
def lockFairRow : OpenClaim := { program := "ytkbancdmhcnhjaa", sum := "d9024d1f1b3b60d92cb7e9d4d82c642e85d3f5460f33bb73b290feda153425ed", func := "justiciar/justiciarlaw18.LockFair", spec := "lockFair", inPlace := ["slices.overlaps[justiciar/api.Lock]"], unfollowed := true, recurses := true, apart := false }
def LockFairSaid : Prop := lockFairRow.holds Try.pinned (OpenSpec.ofChange lockFairSpec)

/-- ITS FALSE NEIGHBOUR: 'it returns false'. Refute it at one input. -/
def lockFairWrong : ChangeSpec := { name := "lockFair", fn := fun _ => fun
  | [d] => { results := [.lit (.bool false)], args := [d] }
  | _ => none }
def LockFairWrongFalsely : Prop := lockFairRow.holds Try.pinned (OpenSpec.ofChange lockFairWrong)

/-- 'justiciarlaw18.LockEnds': WHATEVER THE INPUT: true; the input reads as it did. -/
def lockEndsSpec : ChangeSpec := { name := "lockEnds", fn := fun _ => fun
  | [d] => { results := [.lit (.bool true)], args := [d] }
  | _ => none }
def lockEndsRow : OpenClaim := { program := "ytkbancdmhcnhjaa", sum := "d9024d1f1b3b60d92cb7e9d4d82c642e85d3f5460f33bb73b290feda153425ed", func := "justiciar/justiciarlaw18.LockEnds", spec := "lockEnds", inPlace := ["slices.overlaps[justiciar/api.Lock]"], unfollowed := true, recurses := true, apart := false }
def LockEndsSaid : Prop := lockEndsRow.holds Try.pinned (OpenSpec.ofChange lockEndsSpec)

/-- ITS FALSE NEIGHBOUR: 'it returns false'. Refute it at one input. -/
def lockEndsWrong : ChangeSpec := { name := "lockEnds", fn := fun _ => fun
  | [d] => { results := [.lit (.bool false)], args := [d] }
  | _ => none }
def LockEndsWrongFalsely : Prop := lockEndsRow.holds Try.pinned (OpenSpec.ofChange lockEndsWrong)

/-- 'justiciarlaw18.LockShared': WHATEVER THE INPUT: true; the input reads as it did. -/
def lockSharedSpec : ChangeSpec := { name := "lockShared", fn := fun _ => fun
  | [d1, d2] => { results := [.lit (.bool true)], args := [d1, d2] }
  | _ => none }
def lockSharedRow : OpenClaim := { program := "ytkbancdmhcnhjaa", sum := "d9024d1f1b3b60d92cb7e9d4d82c642e85d3f5460f33bb73b290feda153425ed", func := "justiciar/justiciarlaw18.LockShared", spec := "lockShared", inPlace := ["slices.overlaps[justiciar/api.Lock]"], unfollowed := true, recurses := true, apart := false }
def LockSharedSaid : Prop := lockSharedRow.holds Try.pinned (OpenSpec.ofChange lockSharedSpec)

/-- ITS FALSE NEIGHBOUR: 'it returns false'. Refute it at one input. -/
def lockSharedWrong : ChangeSpec := { name := "lockShared", fn := fun _ => fun
  | [d1, d2] => { results := [.lit (.bool false)], args := [d1, d2] }
  | _ => none }
def LockSharedWrongFalsely : Prop := lockSharedRow.holds Try.pinned (OpenSpec.ofChange lockSharedWrong)

/- THE SECOND FORM. 'bulk': how many values and letters a reading holds, each counted each time it is reached (what is shared counts as often as it is met; a slice's spare places count too). A statement '..UptoSaid' is the law's where the arguments, and the package variables that the reading takes, are together of bulk at most 1048576: NARROWER than '..Said'. Prove '..Said' where nothing that the law and all that it calls make is longer than what came in: it says more and counts as full. Else prove '..UptoSaid'. A law counts once. -/
mutual
def uptoBulk {H : Type} : DataW H → Nat
  | .lit (.string bytes) => bytes.length + 1
  | .lit _ => 1
  | .nil => 1
  | .ptr d => uptoBulk d + 1
  | .slice elems spare => uptoBulkAll elems + uptoBulkAll spare + 1
  | .agg parts => uptoBulkAll parts + 1
  | .iface _ d => uptoBulk d + 1
  | .map entries => uptoBulkEntries entries + 1
  | .held _ => 1
def uptoBulkAll {H : Type} : List (DataW H) → Nat
  | [] => 0
  | d :: r => uptoBulk d + uptoBulkAll r
def uptoBulkEntries {H : Type} : List (Lit × DataW H) → Nat
  | [] => 0
  | x :: r => uptoBulkEntry x + uptoBulkEntries r
def uptoBulkEntry {H : Type} : Lit × DataW H → Nat
  | (.string bytes, d) => bytes.length + uptoBulk d + 1
  | (_, d) => uptoBulk d + 1
 end
def uptoSmall : (H : Type) → List (DataW H) → Bool := fun _ ds => decide (uptoBulkAll ds ≤ 1048576)
def OpenSpec.upto (s : _root_.Go.ChangeSpec) : _root_.Go.OpenSpec := { _root_.Go.OpenSpec.ofChange s with cond := some uptoSmall }

/-- 'justiciarlaw18.LockSafe', WHERE WHAT IT READS IS OF BULK AT MOST 1048576: true; the input reads as it did. -/
def lockSafeUptoRow : OpenClaim := { program := "ytkbancdmhcnhjaa", sum := "d9024d1f1b3b60d92cb7e9d4d82c642e85d3f5460f33bb73b290feda153425ed", func := "justiciar/justiciarlaw18.LockSafe", spec := "lockSafe", inPlace := ["slices.overlaps[justiciar/api.Lock]"], unfollowed := true, recurses := true, apart := false, narrowed := true }
def LockSafeUptoSaid : Prop := lockSafeUptoRow.holds Try.pinned (OpenSpec.upto lockSafeSpec)

/-- 'justiciarlaw18.LockFair', WHERE WHAT IT READS IS OF BULK AT MOST 1048576: true; the input reads as it did. -/
def lockFairUptoRow : OpenClaim := { program := "ytkbancdmhcnhjaa", sum := "d9024d1f1b3b60d92cb7e9d4d82c642e85d3f5460f33bb73b290feda153425ed", func := "justiciar/justiciarlaw18.LockFair", spec := "lockFair", inPlace := ["slices.overlaps[justiciar/api.Lock]"], unfollowed := true, recurses := true, apart := false, narrowed := true }
def LockFairUptoSaid : Prop := lockFairUptoRow.holds Try.pinned (OpenSpec.upto lockFairSpec)

/-- 'justiciarlaw18.LockEnds', WHERE WHAT IT READS IS OF BULK AT MOST 1048576: true; the input reads as it did. -/
def lockEndsUptoRow : OpenClaim := { program := "ytkbancdmhcnhjaa", sum := "d9024d1f1b3b60d92cb7e9d4d82c642e85d3f5460f33bb73b290feda153425ed", func := "justiciar/justiciarlaw18.LockEnds", spec := "lockEnds", inPlace := ["slices.overlaps[justiciar/api.Lock]"], unfollowed := true, recurses := true, apart := false, narrowed := true }
def LockEndsUptoSaid : Prop := lockEndsUptoRow.holds Try.pinned (OpenSpec.upto lockEndsSpec)

/-- 'justiciarlaw18.LockShared', WHERE WHAT IT READS IS OF BULK AT MOST 1048576: true; the input reads as it did. -/
def lockSharedUptoRow : OpenClaim := { program := "ytkbancdmhcnhjaa", sum := "d9024d1f1b3b60d92cb7e9d4d82c642e85d3f5460f33bb73b290feda153425ed", func := "justiciar/justiciarlaw18.LockShared", spec := "lockShared", inPlace := ["slices.overlaps[justiciar/api.Lock]"], unfollowed := true, recurses := true, apart := false, narrowed := true }
def LockSharedUptoSaid : Prop := lockSharedUptoRow.holds Try.pinned (OpenSpec.upto lockSharedSpec)

end Rows
end Go.Proofs.Ytkbancdmhcnhjaa
