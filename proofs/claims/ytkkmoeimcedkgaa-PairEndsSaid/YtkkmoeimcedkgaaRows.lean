/-
  No cell of these rows narrows 'for every input' (looked for: loops, veiled, ifaces, maps, wideKeys, modest, calm, conditions, laid).
  DERIVED. THE GIVEN ROWS OF THIS SEAT. 5 by the template 'for every input the law returns true; each argument reads behind the call as it read before'; 0 by the template 'total and deterministic' (their statements: YtkkmoeimcedkgaaTotals.lean).
  GIVEN WITH THE SEED: the statements are not yours to turn. If you find one false, say at which input.
  Laid BY PROGRAM, IN A SANDBOX (cutbox-rows.mjs): the forced cells as the released guide's own fill.sh prints them over the translation 5fb9bb63b1d9f92f… (all of the seat's roots in one cut). By AI agents, Wed Nov 11 2026. No macro, syntax, notation, axiom, sorry.
-/
import Derived.Test.YtkkmoeimcedkgaaChecked
import GoSem.Claim
import GoSem.ClaimJoined
import GoSem.ClaimMapViews
import Derived.JoinedTies
import Derived.KernelRfl
namespace Go.Proofs.Ytkkmoeimcedkgaa
/- THE CELL 'sum', in the pinned program and in every row, IS THE sha256 OF THE DUMP (.gsa) THAT YtkkmoeimcedkgaaProg.lean LOADS. Nothing in Lean hashes anything: it is a label: what it is worth is what the hold of that sum in a sandbox is worth. -/
noncomputable def Try.pinned : Pinned := { name := "ytkkmoeimcedkgaa", sum := "5fb9bb63b1d9f92fbba99795ab7058c5b461a25da62ac6083d250f8143cd99b3", checked := Try.checked }
namespace Rows
def none {H : Type} : Left H := { results := [], args := [] }

/-- 'justiciarlaw23.PairDoes': WHATEVER THE INPUT: true; the input reads as it did. -/
def pairDoesSpec : ChangeSpec := { name := "pairDoes", fn := fun _ => fun
  | [d1, d2] => { results := [.lit (.bool true)], args := [d1, d2] }
  | _ => none }
def pairDoesRow : OpenClaim := { program := "ytkkmoeimcedkgaa", sum := "5fb9bb63b1d9f92fbba99795ab7058c5b461a25da62ac6083d250f8143cd99b3", func := "justiciar/justiciarlaw23.PairDoes", spec := "pairDoes", unfollowed := true, recurses := true, apart := false }
def PairDoesSaid : Prop := pairDoesRow.holds Try.pinned (OpenSpec.ofChange pairDoesSpec)

/-- ITS FALSE NEIGHBOUR: 'it returns false'. Refute it at one input. -/
def pairDoesWrong : ChangeSpec := { name := "pairDoes", fn := fun _ => fun
  | [d1, d2] => { results := [.lit (.bool false)], args := [d1, d2] }
  | _ => none }
def PairDoesWrongFalsely : Prop := pairDoesRow.holds Try.pinned (OpenSpec.ofChange pairDoesWrong)

/-- 'justiciarlaw23.PairRuns': WHATEVER THE INPUT: true; the input reads as it did. -/
def pairRunsSpec : ChangeSpec := { name := "pairRuns", fn := fun _ => fun
  | [d] => { results := [.lit (.bool true)], args := [d] }
  | _ => none }
def pairRunsRow : OpenClaim := { program := "ytkkmoeimcedkgaa", sum := "5fb9bb63b1d9f92fbba99795ab7058c5b461a25da62ac6083d250f8143cd99b3", func := "justiciar/justiciarlaw23.PairRuns", spec := "pairRuns", unfollowed := true, recurses := true, apart := false }
def PairRunsSaid : Prop := pairRunsRow.holds Try.pinned (OpenSpec.ofChange pairRunsSpec)

/-- ITS FALSE NEIGHBOUR: 'it returns false'. Refute it at one input. -/
def pairRunsWrong : ChangeSpec := { name := "pairRuns", fn := fun _ => fun
  | [d] => { results := [.lit (.bool false)], args := [d] }
  | _ => none }
def PairRunsWrongFalsely : Prop := pairRunsRow.holds Try.pinned (OpenSpec.ofChange pairRunsWrong)

/-- 'justiciarlaw23.PairWhole': WHATEVER THE INPUT: true; the input reads as it did. -/
def pairWholeSpec : ChangeSpec := { name := "pairWhole", fn := fun _ => fun
  | [d] => { results := [.lit (.bool true)], args := [d] }
  | _ => none }
def pairWholeRow : OpenClaim := { program := "ytkkmoeimcedkgaa", sum := "5fb9bb63b1d9f92fbba99795ab7058c5b461a25da62ac6083d250f8143cd99b3", func := "justiciar/justiciarlaw23.PairWhole", spec := "pairWhole", unfollowed := true, recurses := true, apart := false }
def PairWholeSaid : Prop := pairWholeRow.holds Try.pinned (OpenSpec.ofChange pairWholeSpec)

/-- ITS FALSE NEIGHBOUR: 'it returns false'. Refute it at one input. -/
def pairWholeWrong : ChangeSpec := { name := "pairWhole", fn := fun _ => fun
  | [d] => { results := [.lit (.bool false)], args := [d] }
  | _ => none }
def PairWholeWrongFalsely : Prop := pairWholeRow.holds Try.pinned (OpenSpec.ofChange pairWholeWrong)

/-- 'justiciarlaw23.PairEnds': WHATEVER THE INPUT: true; the input reads as it did. -/
def pairEndsSpec : ChangeSpec := { name := "pairEnds", fn := fun _ => fun
  | [d] => { results := [.lit (.bool true)], args := [d] }
  | _ => none }
def pairEndsRow : OpenClaim := { program := "ytkkmoeimcedkgaa", sum := "5fb9bb63b1d9f92fbba99795ab7058c5b461a25da62ac6083d250f8143cd99b3", func := "justiciar/justiciarlaw23.PairEnds", spec := "pairEnds", unfollowed := true, recurses := true, apart := false }
def PairEndsSaid : Prop := pairEndsRow.holds Try.pinned (OpenSpec.ofChange pairEndsSpec)

/-- ITS FALSE NEIGHBOUR: 'it returns false'. Refute it at one input. -/
def pairEndsWrong : ChangeSpec := { name := "pairEnds", fn := fun _ => fun
  | [d] => { results := [.lit (.bool false)], args := [d] }
  | _ => none }
def PairEndsWrongFalsely : Prop := pairEndsRow.holds Try.pinned (OpenSpec.ofChange pairEndsWrong)

/-- 'justiciarlaw23.PairAlone': WHATEVER THE INPUT: true; the input reads as it did. -/
def pairAloneSpec : ChangeSpec := { name := "pairAlone", fn := fun _ => fun
  | [d1, d2] => { results := [.lit (.bool true)], args := [d1, d2] }
  | _ => none }
def pairAloneRow : OpenClaim := { program := "ytkkmoeimcedkgaa", sum := "5fb9bb63b1d9f92fbba99795ab7058c5b461a25da62ac6083d250f8143cd99b3", func := "justiciar/justiciarlaw23.PairAlone", spec := "pairAlone", unfollowed := true, recurses := true, apart := false }
def PairAloneSaid : Prop := pairAloneRow.holds Try.pinned (OpenSpec.ofChange pairAloneSpec)

/-- ITS FALSE NEIGHBOUR: 'it returns false'. Refute it at one input. -/
def pairAloneWrong : ChangeSpec := { name := "pairAlone", fn := fun _ => fun
  | [d1, d2] => { results := [.lit (.bool false)], args := [d1, d2] }
  | _ => none }
def PairAloneWrongFalsely : Prop := pairAloneRow.holds Try.pinned (OpenSpec.ofChange pairAloneWrong)

/- THE SECOND FORM. 'bulk': how many values and letters a reading holds, each counted each time it is reached (what is shared counts as often as it is met; a slice's spare places count too). A statement '..UptoSaid' is the law's where the arguments, and the package variables that the reading takes, are together of bulk at most 1048576: NARROWER than '..Said'. Prove '..Said' where nothing that the law and all that it calls make is longer than what came in: it says more and counts as full. Else prove '..UptoSaid'. A law counts once. -/
mutual
def uptoBulk {H : Type} : DataW H → Nat
  | .lit (.string bytes) => bytes.length + 1
  | .lit _ => 1
  | .nil => 1
  | .ptr d => uptoBulk d + 1
  | .slice elems spare => uptoBulkAll elems + uptoBulkAll spare + 1
  | .agg parts => uptoBulkAll parts + 1
  | .iface _ d => uptoBulk d + 1
  | .map entries => uptoBulkEntries entries + 1
  | .held _ => 1
def uptoBulkAll {H : Type} : List (DataW H) → Nat
  | [] => 0
  | d :: r => uptoBulk d + uptoBulkAll r
def uptoBulkEntries {H : Type} : List (Lit × DataW H) → Nat
  | [] => 0
  | x :: r => uptoBulkEntry x + uptoBulkEntries r
def uptoBulkEntry {H : Type} : Lit × DataW H → Nat
  | (.string bytes, d) => bytes.length + uptoBulk d + 1
  | (_, d) => uptoBulk d + 1
 end
def uptoSmall : (H : Type) → List (DataW H) → Bool := fun _ ds => decide (uptoBulkAll ds ≤ 1048576)
def OpenSpec.upto (s : _root_.Go.ChangeSpec) : _root_.Go.OpenSpec := { _root_.Go.OpenSpec.ofChange s with cond := some uptoSmall }

/-- 'justiciarlaw23.PairDoes', WHERE WHAT IT READS IS OF BULK AT MOST 1048576: true; the input reads as it did. -/
def pairDoesUptoRow : OpenClaim := { program := "ytkkmoeimcedkgaa", sum := "5fb9bb63b1d9f92fbba99795ab7058c5b461a25da62ac6083d250f8143cd99b3", func := "justiciar/justiciarlaw23.PairDoes", spec := "pairDoes", unfollowed := true, recurses := true, apart := false, narrowed := true }
def PairDoesUptoSaid : Prop := pairDoesUptoRow.holds Try.pinned (OpenSpec.upto pairDoesSpec)

/-- 'justiciarlaw23.PairRuns', WHERE WHAT IT READS IS OF BULK AT MOST 1048576: true; the input reads as it did. -/
def pairRunsUptoRow : OpenClaim := { program := "ytkkmoeimcedkgaa", sum := "5fb9bb63b1d9f92fbba99795ab7058c5b461a25da62ac6083d250f8143cd99b3", func := "justiciar/justiciarlaw23.PairRuns", spec := "pairRuns", unfollowed := true, recurses := true, apart := false, narrowed := true }
def PairRunsUptoSaid : Prop := pairRunsUptoRow.holds Try.pinned (OpenSpec.upto pairRunsSpec)

/-- 'justiciarlaw23.PairWhole', WHERE WHAT IT READS IS OF BULK AT MOST 1048576: true; the input reads as it did. -/
def pairWholeUptoRow : OpenClaim := { program := "ytkkmoeimcedkgaa", sum := "5fb9bb63b1d9f92fbba99795ab7058c5b461a25da62ac6083d250f8143cd99b3", func := "justiciar/justiciarlaw23.PairWhole", spec := "pairWhole", unfollowed := true, recurses := true, apart := false, narrowed := true }
def PairWholeUptoSaid : Prop := pairWholeUptoRow.holds Try.pinned (OpenSpec.upto pairWholeSpec)

/-- 'justiciarlaw23.PairEnds', WHERE WHAT IT READS IS OF BULK AT MOST 1048576: true; the input reads as it did. -/
def pairEndsUptoRow : OpenClaim := { program := "ytkkmoeimcedkgaa", sum := "5fb9bb63b1d9f92fbba99795ab7058c5b461a25da62ac6083d250f8143cd99b3", func := "justiciar/justiciarlaw23.PairEnds", spec := "pairEnds", unfollowed := true, recurses := true, apart := false, narrowed := true }
def PairEndsUptoSaid : Prop := pairEndsUptoRow.holds Try.pinned (OpenSpec.upto pairEndsSpec)

/-- 'justiciarlaw23.PairAlone', WHERE WHAT IT READS IS OF BULK AT MOST 1048576: true; the input reads as it did. -/
def pairAloneUptoRow : OpenClaim := { program := "ytkkmoeimcedkgaa", sum := "5fb9bb63b1d9f92fbba99795ab7058c5b461a25da62ac6083d250f8143cd99b3", func := "justiciar/justiciarlaw23.PairAlone", spec := "pairAlone", unfollowed := true, recurses := true, apart := false, narrowed := true }
def PairAloneUptoSaid : Prop := pairAloneUptoRow.holds Try.pinned (OpenSpec.upto pairAloneSpec)

end Rows
end Go.Proofs.Ytkkmoeimcedkgaa
