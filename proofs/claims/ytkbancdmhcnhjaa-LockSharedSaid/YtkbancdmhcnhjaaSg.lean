/- Locks, the other half: LockShared, walked. -/
import Derived.Test.YtkbancdmhcnhjaaSf
import Derived.Test.YtkbancdmhcnhjaaSo
set_option linter.unusedVariables false
set_option linter.unusedSimpArgs false
set_option maxRecDepth 20000
namespace Go.Proofs.Ytkbancdmhcnhjaa.Hw
open Go Go.Proofs
/-- The shared locks of one thing, of some transactions. -/
def shK (thing : ByteArray) (P : List Int) : LK := ⟨(rise P).map (mkS thing), [], []⟩
def goodP (thing : ByteArray) (l : List Int) : List Int := l.filter fun t => numB t && thingB thing
theorem ask_shK {thing : ByteArray} {l : List Int} {t : Int} (h : l.length < 5000) : askM (shK thing (goodP thing l)) t thing true = if numB t && thingB thing then (shK thing (goodP thing (l ++ [t])), true, 0) else (nilK, false, 2) := by
  have hl : (rise (goodP thing l)).length < 5000 := Nat.lt_of_le_of_lt (Nat.le_trans rise_len (List.length_filter_le _ _)) h
  have hok : ∀ x ∈ rise (goodP thing l), numB x = true ∧ thingB thing = true := fun x hx => by
    have := (List.mem_filter.1 (mem_rise.1 hx)).2
    simpa using this
  unfold shK
  rw [ask_shared strict_rise hok hl]
  split
  · rename_i hg
    have : goodP thing (l ++ [t]) = goodP thing l ++ [t] := by unfold goodP; rw [List.filter_append]; simp [hg]
    rw [this, rise_snoc]
  · rfl
theorem good_bad {thing : ByteArray} {l : List Int} {t : Int} (h : (numB t && thingB thing) = false) : goodP thing (l ++ [t]) = goodP thing l := by
  unfold goodP; rw [List.filter_append]; simp [h]
theorem shK_rev {thing : ByteArray} {l : List Int} : shK thing (goodP thing l.reverse) = shK thing (goodP thing l) := by
  unfold shK
  have : rise (goodP thing l.reverse) = rise (goodP thing l) := strict_ext strict_rise strict_rise fun x => by
    rw [mem_rise, mem_rise]
    unfold goodP
    rw [List.mem_filter, List.mem_filter, List.mem_reverse]
  rw [this]
end Go.Proofs.Ytkbancdmhcnhjaa.Hw
