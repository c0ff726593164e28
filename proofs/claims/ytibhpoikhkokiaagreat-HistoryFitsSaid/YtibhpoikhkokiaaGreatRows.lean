/-
  No cell of these rows narrows 'for every input' (looked for: loops, veiled, ifaces, maps, wideKeys, modest, calm, conditions, laid).
  DERIVED. THE GIVEN ROWS OF THIS SEAT. 7 by the template 'for every input the law returns true; each argument reads behind the call as it read before'; 0 by the template 'total and deterministic' (their statements: YtibhpoikhkokiaaGreatTotals.lean).
  GIVEN WITH THE SEED: the statements are not yours to turn. If you find one false, say at which input.
  Laid BY PROGRAM, IN A SANDBOX (cutbox-rows.mjs): the forced cells as the released guide's own fill.sh prints them over the translation 34520c8519fbe8b8… (all of the seat's roots in one cut). By AI agents, Wed Nov 11 2026. No macro, syntax, notation, axiom, sorry.
-/
import Derived.Test.YtibhpoikhkokiaaGreatChecked
import GoSem.Claim
import GoSem.ClaimJoined
import GoSem.ClaimMapViews
import Derived.JoinedTies
import Derived.KernelRfl
namespace Go.Proofs.YtibhpoikhkokiaaGreat
/- THE CELL 'sum', in the pinned program and in every row, IS THE sha256 OF THE DUMP (.gsa) THAT YtibhpoikhkokiaaGreatProg.lean LOADS. Nothing in Lean hashes anything: it is a label: what it is worth is what the hold of that sum in a sandbox is worth. -/
noncomputable def Tryz.pinned : Pinned := { name := "ytibhpoikhkokiaagreat", sum := "34520c8519fbe8b88848e9a3286b3dfc272d71e4f4fec6b40fd10ae08cee063d", checked := Tryz.checked }
namespace Rows
def none {H : Type} : Left H := { results := [], args := [] }

/-- 'justiciarlaw29.HistoryFitting': WHATEVER THE INPUT: true; the input reads as it did. -/
def historyFittingSpec : ChangeSpec := { name := "historyFitting", fn := fun _ => fun
  | [d1, d2] => { results := [.lit (.bool true)], args := [d1, d2] }
  | _ => none }
def historyFittingRow : OpenClaim := { program := "ytibhpoikhkokiaagreat", sum := "34520c8519fbe8b88848e9a3286b3dfc272d71e4f4fec6b40fd10ae08cee063d", func := "justiciar/justiciarlaw29.HistoryFitting", spec := "historyFitting", unfollowed := true, recurses := true, plainKeys := false, apart := false }
def HistoryFittingSaid : Prop := historyFittingRow.holds Tryz.pinned (OpenSpec.ofChange historyFittingSpec)

/-- ITS FALSE NEIGHBOUR: 'it returns false'. Refute it at one input. -/
def historyFittingWrong : ChangeSpec := { name := "historyFitting", fn := fun _ => fun
  | [d1, d2] => { results := [.lit (.bool false)], args := [d1, d2] }
  | _ => none }
def HistoryFittingWrongFalsely : Prop := historyFittingRow.holds Tryz.pinned (OpenSpec.ofChange historyFittingWrong)

/-- 'justiciarlaw29.HistoryNames': WHATEVER THE INPUT: true; the input reads as it did. -/
def historyNamesSpec : ChangeSpec := { name := "historyNames", fn := fun _ => fun
  | [d1, d2] => { results := [.lit (.bool true)], args := [d1, d2] }
  | _ => none }
def historyNamesRow : OpenClaim := { program := "ytibhpoikhkokiaagreat", sum := "34520c8519fbe8b88848e9a3286b3dfc272d71e4f4fec6b40fd10ae08cee063d", func := "justiciar/justiciarlaw29.HistoryNames", spec := "historyNames", unfollowed := true, recurses := true, plainKeys := false, apart := false }
def HistoryNamesSaid : Prop := historyNamesRow.holds Tryz.pinned (OpenSpec.ofChange historyNamesSpec)

/-- ITS FALSE NEIGHBOUR: 'it returns false'. Refute it at one input. -/
def historyNamesWrong : ChangeSpec := { name := "historyNames", fn := fun _ => fun
  | [d1, d2] => { results := [.lit (.bool false)], args := [d1, d2] }
  | _ => none }
def HistoryNamesWrongFalsely : Prop := historyNamesRow.holds Tryz.pinned (OpenSpec.ofChange historyNamesWrong)

/-- 'justiciarlaw29.HistoryTells': WHATEVER THE INPUT: true; the input reads as it did. -/
def historyTellsSpec : ChangeSpec := { name := "historyTells", fn := fun _ => fun
  | [d] => { results := [.lit (.bool true)], args := [d] }
  | _ => none }
def historyTellsRow : OpenClaim := { program := "ytibhpoikhkokiaagreat", sum := "34520c8519fbe8b88848e9a3286b3dfc272d71e4f4fec6b40fd10ae08cee063d", func := "justiciar/justiciarlaw29.HistoryTells", spec := "historyTells", unfollowed := true, recurses := true, plainKeys := false, apart := false }
def HistoryTellsSaid : Prop := historyTellsRow.holds Tryz.pinned (OpenSpec.ofChange historyTellsSpec)

/-- ITS FALSE NEIGHBOUR: 'it returns false'. Refute it at one input. -/
def historyTellsWrong : ChangeSpec := { name := "historyTells", fn := fun _ => fun
  | [d] => { results := [.lit (.bool false)], args := [d] }
  | _ => none }
def HistoryTellsWrongFalsely : Prop := historyTellsRow.holds Tryz.pinned (OpenSpec.ofChange historyTellsWrong)

/-- 'justiciarlaw29.HistoryFits': WHATEVER THE INPUT: true; the input reads as it did. -/
def historyFitsSpec : ChangeSpec := { name := "historyFits", fn := fun _ => fun
  | [d1, d2] => { results := [.lit (.bool true)], args := [d1, d2] }
  | _ => none }
def historyFitsRow : OpenClaim := { program := "ytibhpoikhkokiaagreat", sum := "34520c8519fbe8b88848e9a3286b3dfc272d71e4f4fec6b40fd10ae08cee063d", func := "justiciar/justiciarlaw29.HistoryFits", spec := "historyFits", unfollowed := true, recurses := true, plainKeys := false, apart := false }
def HistoryFitsSaid : Prop := historyFitsRow.holds Tryz.pinned (OpenSpec.ofChange historyFitsSpec)

/-- ITS FALSE NEIGHBOUR: 'it returns false'. Refute it at one input. -/
def historyFitsWrong : ChangeSpec := { name := "historyFits", fn := fun _ => fun
  | [d1, d2] => { results := [.lit (.bool false)], args := [d1, d2] }
  | _ => none }
def HistoryFitsWrongFalsely : Prop := historyFitsRow.holds Tryz.pinned (OpenSpec.ofChange historyFitsWrong)

/-- 'justiciarlaw29.HistoryOnly': WHATEVER THE INPUT: true; the input reads as it did. -/
def historyOnlySpec : ChangeSpec := { name := "historyOnly", fn := fun _ => fun
  | [d1, d2] => { results := [.lit (.bool true)], args := [d1, d2] }
  | _ => none }
def historyOnlyRow : OpenClaim := { program := "ytibhpoikhkokiaagreat", sum := "34520c8519fbe8b88848e9a3286b3dfc272d71e4f4fec6b40fd10ae08cee063d", func := "justiciar/justiciarlaw29.HistoryOnly", spec := "historyOnly", unfollowed := true, recurses := true, plainKeys := false, apart := false }
def HistoryOnlySaid : Prop := historyOnlyRow.holds Tryz.pinned (OpenSpec.ofChange historyOnlySpec)

/-- ITS FALSE NEIGHBOUR: 'it returns false'. Refute it at one input. -/
def historyOnlyWrong : ChangeSpec := { name := "historyOnly", fn := fun _ => fun
  | [d1, d2] => { results := [.lit (.bool false)], args := [d1, d2] }
  | _ => none }
def HistoryOnlyWrongFalsely : Prop := historyOnlyRow.holds Tryz.pinned (OpenSpec.ofChange historyOnlyWrong)

/-- 'justiciarlaw29.HistorySerial': WHATEVER THE INPUT: true; the input reads as it did. -/
def historySerialSpec : ChangeSpec := { name := "historySerial", fn := fun _ => fun
  | [d] => { results := [.lit (.bool true)], args := [d] }
  | _ => none }
def historySerialRow : OpenClaim := { program := "ytibhpoikhkokiaagreat", sum := "34520c8519fbe8b88848e9a3286b3dfc272d71e4f4fec6b40fd10ae08cee063d", func := "justiciar/justiciarlaw29.HistorySerial", spec := "historySerial", unfollowed := true, recurses := true, plainKeys := false, apart := false }
def HistorySerialSaid : Prop := historySerialRow.holds Tryz.pinned (OpenSpec.ofChange historySerialSpec)

/-- ITS FALSE NEIGHBOUR: 'it returns false'. Refute it at one input. -/
def historySerialWrong : ChangeSpec := { name := "historySerial", fn := fun _ => fun
  | [d] => { results := [.lit (.bool false)], args := [d] }
  | _ => none }
def HistorySerialWrongFalsely : Prop := historySerialRow.holds Tryz.pinned (OpenSpec.ofChange historySerialWrong)

/-- 'justiciarlaw29.HistoryOrder': WHATEVER THE INPUT: true; the input reads as it did. -/
def historyOrderSpec : ChangeSpec := { name := "historyOrder", fn := fun _ => fun
  | [d] => { results := [.lit (.bool true)], args := [d] }
  | _ => none }
def historyOrderRow : OpenClaim := { program := "ytibhpoikhkokiaagreat", sum := "34520c8519fbe8b88848e9a3286b3dfc272d71e4f4fec6b40fd10ae08cee063d", func := "justiciar/justiciarlaw29.HistoryOrder", spec := "historyOrder", unfollowed := true, recurses := true, plainKeys := false, apart := false }
def HistoryOrderSaid : Prop := historyOrderRow.holds Tryz.pinned (OpenSpec.ofChange historyOrderSpec)

/-- ITS FALSE NEIGHBOUR: 'it returns false'. Refute it at one input. -/
def historyOrderWrong : ChangeSpec := { name := "historyOrder", fn := fun _ => fun
  | [d] => { results := [.lit (.bool false)], args := [d] }
  | _ => none }
def HistoryOrderWrongFalsely : Prop := historyOrderRow.holds Tryz.pinned (OpenSpec.ofChange historyOrderWrong)

/- THE SECOND FORM. 'bulk': how many values and letters a reading holds, each counted each time it is reached (what is shared counts as often as it is met; a slice's spare places count too). A statement '..UptoSaid' is the law's where the arguments, and the package variables that the reading takes, are together of bulk at most 1048576: NARROWER than '..Said'. Prove '..Said' where nothing that the law and all that it calls make is longer than what came in: it says more and counts as full. Else prove '..UptoSaid'. A law counts once. -/
mutual
def uptoBulk {H : Type} : DataW H → Nat
  | .lit (.string bytes) => bytes.length + 1
  | .lit _ => 1
  | .nil => 1
  | .ptr d => uptoBulk d + 1
  | .slice elems spare => uptoBulkAll elems + uptoBulkAll spare + 1
  | .agg parts => uptoBulkAll parts + 1
  | .iface _ d => uptoBulk d + 1
  | .map entries => uptoBulkEntries entries + 1
  | .held _ => 1
def uptoBulkAll {H : Type} : List (DataW H) → Nat
  | [] => 0
  | d :: r => uptoBulk d + uptoBulkAll r
def uptoBulkEntries {H : Type} : List (Lit × DataW H) → Nat
  | [] => 0
  | x :: r => uptoBulkEntry x + uptoBulkEntries r
def uptoBulkEntry {H : Type} : Lit × DataW H → Nat
  | (.string bytes, d) => bytes.length + uptoBulk d + 1
  | (_, d) => uptoBulk d + 1
 end
def uptoSmall : (H : Type) → List (DataW H) → Bool := fun _ ds => decide (uptoBulkAll ds ≤ 1048576)
def OpenSpec.upto (s : _root_.Go.ChangeSpec) : _root_.Go.OpenSpec := { _root_.Go.OpenSpec.ofChange s with cond := some uptoSmall }

/-- 'justiciarlaw29.HistoryFitting', WHERE WHAT IT READS IS OF BULK AT MOST 1048576: true; the input reads as it did. -/
def historyFittingUptoRow : OpenClaim := { program := "ytibhpoikhkokiaagreat", sum := "34520c8519fbe8b88848e9a3286b3dfc272d71e4f4fec6b40fd10ae08cee063d", func := "justiciar/justiciarlaw29.HistoryFitting", spec := "historyFitting", unfollowed := true, recurses := true, plainKeys := false, apart := false, narrowed := true }
def HistoryFittingUptoSaid : Prop := historyFittingUptoRow.holds Tryz.pinned (OpenSpec.upto historyFittingSpec)

/-- 'justiciarlaw29.HistoryNames', WHERE WHAT IT READS IS OF BULK AT MOST 1048576: true; the input reads as it did. -/
def historyNamesUptoRow : OpenClaim := { program := "ytibhpoikhkokiaagreat", sum := "34520c8519fbe8b88848e9a3286b3dfc272d71e4f4fec6b40fd10ae08cee063d", func := "justiciar/justiciarlaw29.HistoryNames", spec := "historyNames", unfollowed := true, recurses := true, plainKeys := false, apart := false, narrowed := true }
def HistoryNamesUptoSaid : Prop := historyNamesUptoRow.holds Tryz.pinned (OpenSpec.upto historyNamesSpec)

/-- 'justiciarlaw29.HistoryTells', WHERE WHAT IT READS IS OF BULK AT MOST 1048576: true; the input reads as it did. -/
def historyTellsUptoRow : OpenClaim := { program := "ytibhpoikhkokiaagreat", sum := "34520c8519fbe8b88848e9a3286b3dfc272d71e4f4fec6b40fd10ae08cee063d", func := "justiciar/justiciarlaw29.HistoryTells", spec := "historyTells", unfollowed := true, recurses := true, plainKeys := false, apart := false, narrowed := true }
def HistoryTellsUptoSaid : Prop := historyTellsUptoRow.holds Tryz.pinned (OpenSpec.upto historyTellsSpec)

/-- 'justiciarlaw29.HistoryFits', WHERE WHAT IT READS IS OF BULK AT MOST 1048576: true; the input reads as it did. -/
def historyFitsUptoRow : OpenClaim := { program := "ytibhpoikhkokiaagreat", sum := "34520c8519fbe8b88848e9a3286b3dfc272d71e4f4fec6b40fd10ae08cee063d", func := "justiciar/justiciarlaw29.HistoryFits", spec := "historyFits", unfollowed := true, recurses := true, plainKeys := false, apart := false, narrowed := true }
def HistoryFitsUptoSaid : Prop := historyFitsUptoRow.holds Tryz.pinned (OpenSpec.upto historyFitsSpec)

/-- 'justiciarlaw29.HistoryOnly', WHERE WHAT IT READS IS OF BULK AT MOST 1048576: true; the input reads as it did. -/
def historyOnlyUptoRow : OpenClaim := { program := "ytibhpoikhkokiaagreat", sum := "34520c8519fbe8b88848e9a3286b3dfc272d71e4f4fec6b40fd10ae08cee063d", func := "justiciar/justiciarlaw29.HistoryOnly", spec := "historyOnly", unfollowed := true, recurses := true, plainKeys := false, apart := false, narrowed := true }
def HistoryOnlyUptoSaid : Prop := historyOnlyUptoRow.holds Tryz.pinned (OpenSpec.upto historyOnlySpec)

/-- 'justiciarlaw29.HistorySerial', WHERE WHAT IT READS IS OF BULK AT MOST 1048576: true; the input reads as it did. -/
def historySerialUptoRow : OpenClaim := { program := "ytibhpoikhkokiaagreat", sum := "34520c8519fbe8b88848e9a3286b3dfc272d71e4f4fec6b40fd10ae08cee063d", func := "justiciar/justiciarlaw29.HistorySerial", spec := "historySerial", unfollowed := true, recurses := true, plainKeys := false, apart := false, narrowed := true }
def HistorySerialUptoSaid : Prop := historySerialUptoRow.holds Tryz.pinned (OpenSpec.upto historySerialSpec)

/-- 'justiciarlaw29.HistoryOrder', WHERE WHAT IT READS IS OF BULK AT MOST 1048576: true; the input reads as it did. -/
def historyOrderUptoRow : OpenClaim := { program := "ytibhpoikhkokiaagreat", sum := "34520c8519fbe8b88848e9a3286b3dfc272d71e4f4fec6b40fd10ae08cee063d", func := "justiciar/justiciarlaw29.HistoryOrder", spec := "historyOrder", unfollowed := true, recurses := true, plainKeys := false, apart := false, narrowed := true }
def HistoryOrderUptoSaid : Prop := historyOrderUptoRow.holds Tryz.pinned (OpenSpec.upto historyOrderSpec)

end Rows
end Go.Proofs.YtibhpoikhkokiaaGreat
