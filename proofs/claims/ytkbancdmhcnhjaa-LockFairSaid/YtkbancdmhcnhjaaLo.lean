/- Locks: whom one waits for, also through others; the reference's Dead. -/
import Derived.Test.YtkbancdmhcnhjaaLn
set_option linter.unusedVariables false
set_option linter.unusedSimpArgs false
namespace Go.Proofs.Ytkbancdmhcnhjaa.Hw
open Go Go.Proofs
/-- One waits for another, also through others. -/
inductive Reach (l : LK) (x : Int) : Int → Prop
  | one {y : Int} (h : y ∈ waitedL l x) : Reach l x y
  | more {y z : Int} (h : Reach l x y) (h' : z ∈ waitedL l y) : Reach l x z
def Cyc (l : LK) : Prop := ∃ n, Reach l n n
def nodesL (l : LK) : List Int := l.held.map (·.txn) ++ (l.waits.map (·.txn) ++ l.inner.map (·.2))
theorem waited_nodes {l : LK} {x y : Int} (h : y ∈ waitedL l x) : y ∈ nodesL l := by
  unfold waitedL at h
  unfold nodesL
  rw [List.mem_append, List.mem_append]
  rcases List.mem_append.1 h with h | h
  · unfold rowsL at h
    obtain ⟨i, hi, h⟩ := List.mem_flatMap.1 h
    unfold waitRow at h
    split at h
    · cases h
    · split at h
      · rcases List.mem_append.1 h with h | h
        · obtain ⟨z, hz, rfl⟩ := List.mem_map.1 h
          exact .inl (List.mem_map.2 ⟨z, (List.mem_filter.1 hz).1, rfl⟩)
        · split at h
          · cases h
          · obtain ⟨z, hz, rfl⟩ := List.mem_map.1 h
            exact .inr (.inl (List.mem_map.2 ⟨z, List.mem_of_mem_take (List.mem_filter.1 hz).1, rfl⟩))
      · cases h
  · unfold innL at h
    obtain ⟨z, hz, rfl⟩ := List.mem_map.1 h
    exact .inr (.inr (List.mem_map.2 ⟨z, List.mem_of_mem_take (List.mem_filter.1 hz).1, rfl⟩))
theorem waited_all {l : LK} {x y : Int} (h : y ∈ waitedL l x) : x ∈ allL l := by
  unfold waitedL at h
  unfold allL
  rw [List.mem_append]
  rcases List.mem_append.1 h with h | h
  · unfold rowsL at h
    obtain ⟨i, hi, h⟩ := List.mem_flatMap.1 h
    unfold waitRow at h
    split at h
    · cases h
    · rename_i w hw
      split at h
      · rename_i e
        exact .inl (List.mem_map.2 ⟨w, List.mem_of_getElem? hw, e⟩)
      · cases h
  · unfold innL at h
    obtain ⟨z, hz, rfl⟩ := List.mem_map.1 h
    have := List.mem_filter.1 hz
    exact .inr (List.mem_map.2 ⟨z, List.mem_of_mem_take this.1, of_decide_eq_true this.2⟩)
theorem reach_all {l : LK} {x y : Int} (h : Reach l x y) : x ∈ allL l := by
  induction h with
  | one h => exact waited_all h
  | more _ _ ih => exact ih
theorem reach_in {l : LK} {x : Int} {R : List Int} (h0 : ∀ y ∈ waitedL l x, y ∈ R) (h1 : ∀ y ∈ R, ∀ z ∈ waitedL l y, z ∈ R) {y : Int} (h : Reach l x y) : y ∈ R := by
  induction h with
  | one h => exact h0 _ h
  | more _ h' ih => exact h1 _ ih _ h'
theorem nodes_len {l : LK} (ht : Tame l) : (nodesL l).length ≤ 30000 := by
  have t0 := ht.1
  have t1 := ht.2.1
  have t2 := ht.2.2.1
  unfold nodesL
  rw [List.length_append, List.length_append, List.length_map, List.length_map, List.length_map]; omega
section
variable {H0 H : Hp} {Q : Value → Hp → Prop}
theorem waited_len {l : LK} {t : Int} (ht : Tame l) : (waitedL l t).length < big := by
  unfold waitedL
  have h1 := rows_len (t := t) ht (n := l.waits.length)
  have h2 := inn_len (t := t) ht (n := l.inner.length)
  have t1 := ht.2.1
  rw [List.length_append]; unfold big; omega
theorem rise_big {l : List Int} (h : l.length < big) : (rise l).length < big := Nat.lt_of_le_of_lt rise_len h
end
end Go.Proofs.Ytkbancdmhcnhjaa.Hw
