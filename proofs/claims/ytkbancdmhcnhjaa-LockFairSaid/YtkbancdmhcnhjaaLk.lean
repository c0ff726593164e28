/- Locks: Sort and Compact of whole numbers, by the kit's contracts; rows of numbers. -/
import Derived.Test.YtkbancdmhcnhjaaLj
import Derived.Test.YtkbancdmhcnhjaaSh
set_option linter.unusedVariables false
set_option linter.unusedSimpArgs false
namespace Go.Proofs.Ytkbancdmhcnhjaa.Hw
open Go Go.Proofs Go.Sort
/-- Numbers on a block of their own. -/
def RowI (H0 H : Hp) (A : Option Addr) (c : Nat) (l : List Int) : Prop := Row H0 H A l.length c 1 (l.flatMap inC)
theorem inC_get {l : List Int} {j : Nat} : (l.flatMap inC)[j]? = (l[j]?).map (fun x => Value.int .i64 x) := by
  induction l generalizing j with
  | nil => simp
  | cons a r ih =>
    rw [List.flatMap_cons]
    cases j with
    | zero => rfl
    | succ j => exact ih
theorem inC_map {l : List Int} : l.flatMap inC = l.map (fun x => Value.int .i64 x) := by
  apply List.ext_getElem?; intro j; rw [inC_get, List.getElem?_map]
section
variable {H0 H : Hp} {Q : Value → Hp → Prop} {w : World}
theorem put_cells {d : List Int} {cs : List Value} (h : d.length ≤ cs.length) : putCells (Value.int .i64) 0 d.toArray cs.toArray = (d.flatMap inC ++ cs.drop d.length).toArray := by
  apply Array.ext'
  unfold putCells
  rw [Array.toList_mapIdx]
  apply List.ext_getElem?
  intro j
  simp only [List.getElem?_mapIdx, Nat.zero_le, true_and, Nat.zero_add, List.size_toArray, Nat.sub_zero]
  by_cases hj : j < d.length
  · rw [List.getElem?_append_left (by rw [inC_len]; omega), inC_get, List.getElem?_eq_getElem (by omega : j < cs.length), List.getElem?_eq_getElem hj]
    simp [hj]
  · rw [List.getElem?_append_right (by rw [inC_len]; omega), inC_len, List.getElem?_drop, show d.length + (j - d.length * 1) = j by omega]
    cases hc : cs[j]? with
    | none => simp [hc]
    | some v => simp [hc, hj]
/-- What a call of the kit's contract does to a row. -/
theorem row_put {A : Option Addr} {b n c m : Nat} {cs : List Value} {ty : Nat} {d : List Int} {os : Array Obj} (hw : Has w H) (hb : H b = some (.cells cs.toArray ty (0, 0))) (h : d.length ≤ cs.length) :
    Has (grow (putRow (Value.int .i64) (Sort.ahead w m) b 0 d.toArray) os) (upd b (.cells (d.flatMap inC ++ cs.drop d.length).toArray ty (0, 0)) H) ∧ Fr H w (grow (putRow (Value.int .i64) (Sort.ahead w m) b 0 d.toArray) os) ∧ New H w (upd b (.cells (d.flatMap inC ++ cs.drop d.length).toArray ty (0, 0)) H) := by
  have hwb := hw b _ hb
  have hlt : b < w.heap.size := (Array.getElem?_eq_some_iff.1 hwb).1
  have hat : ∀ x, x < w.heap.size → (grow (putRow (Value.int .i64) (Sort.ahead w m) b 0 d.toArray) os).heap[x]? = if x = b then some (.cells (d.flatMap inC ++ cs.drop d.length).toArray ty (0, 0)) else w.heap[x]? := fun x hx => by
    unfold grow putRow mapBlock Sort.ahead
    simp only
    rw [Array.getElem?_append_left (by simpa using hx), Array.getElem?_modify]
    by_cases e : b = x
    · subst e
      rw [if_pos rfl, if_pos rfl, hwb]
      simp only [Option.map_eq_map, Option.map_some, onCells]
      rw [put_cells h]
    · rw [if_neg e, if_neg (fun e' => e e'.symm)]
  refine ⟨fun x o hx => ?_, ⟨rfl, rfl, rfl, ?_, fun x hx hn => ?_⟩, fun x hx => ?_⟩
  · rcases upd_some hx with ⟨rfl, rfl⟩ | ⟨hne, hx⟩
    · rw [hat x hlt, if_pos rfl]
    · rw [hat x (Array.getElem?_eq_some_iff.1 (hw x o hx)).1, if_neg hne]; exact hw x o hx
  · unfold grow putRow mapBlock Sort.ahead; simp
  · rw [hat x hx, if_neg (fun e => by subst e; rw [hb] at hn; cases hn)]
  · by_cases e : x = b
    · subst e; left; rw [hb]; simp
    · rw [upd_other e] at hx; exact .inl hx
theorem row_holds {b c : Nat} {cs : List Value} {ty : Nat} {l : List Int} (hw : Has w H) (hb : H b = some (.cells cs.toArray ty (0, 0))) (ht : cs.take (l.length * 1) = l.flatMap inC) : Holds (Value.int .i64) w b 0 l.toArray := fun j hj => by
  have hj' : j < l.length := by simpa using hj
  have hwb := hw b _ hb
  refine ⟨?_, frz_of w hwb⟩
  rw [cl_of w hwb, Nat.zero_add]
  have h1 : (cs.take (l.length * 1))[j]? = cs[j]? := by rw [List.getElem?_take_of_lt (by omega)]
  rw [← h1, ht, inC_get, List.getElem?_eq_getElem hj']
  simp [hj']
def sortM (l : List Int) : List Int := l.mergeSort fun x y => decide (x ≤ y)
theorem c44 {A : Option Addr} {c : Nat} {l : List Int} (R : RowI H0 H A c l) (hx : Ext H0 H) (hs : l.length < big) (hq : ∀ H', RowI H0 H' A c (sortM l) → (sortM l).length = l.length → Ext H0 H' → (∀ b, H' b ≠ H b → rowB A b) → Q (.tuple #[]) H') : HCalls Try.prog 44 [.slice A l.length c] H Q := by
  intro w hw
  have hlen : (sortM l).length = l.length := List.length_mergeSort _
  by_cases h0 : l = []
  · subst h0
    refine Calls.mono (Any.slices_Sort_int_none Try.lays189 A c w) ?_
    rintro e w' ⟨rfl, rfl⟩
    exact ⟨_, H, rfl, hq H (by simpa [sortM] using R) hlen hx (fun b hb => absurd rfl hb), hw, ⟨rfl, rfl, rfl, Nat.le_refl _, fun _ _ _ => rfl⟩, fun b hb => .inl hb⟩
  obtain ⟨h1, h2, h3 | ⟨b, cs, ty, rfl, hb, hcl, ht, hz⟩⟩ := R
  · have : 0 < l.length := List.length_pos_iff.2 h0
    omega
  unfold big at hs
  have hlt : b < w.heap.size := (Array.getElem?_eq_some_iff.1 (hw b _ hb)).1
  refine Calls.mono (Try.slices_Sort_int b 0 c l w (row_holds (c := c) hw hb ht) hlt (by omega)) ?_
  rintro e w' ⟨rfl, m, os, rfl⟩
  obtain ⟨g1, g2, g3⟩ := row_put (A := none) (n := 0) (c := 0) (m := m) (os := os) (d := sortM l) hw hb (by rw [hlen]; omega)
  refine ⟨_, _, rfl, hq _ ⟨by rw [inC_len], by rw [hlen]; exact h2, .inr ⟨b, _, ty, rfl, upd_at, ?_, ?_, hz⟩⟩ hlen (hx.upd hz) (fun q hq' => ?_), g1, g2, g3⟩
  · rw [List.length_append, inC_len, List.length_drop, hlen]; omega
  · rw [List.take_left' (by rw [inC_len])]
  · by_cases e : q = b
    · subst e; exact ⟨_, _, rfl⟩
    · exact absurd (upd_off e) hq'
theorem c45 {A : Option Addr} {c : Nat} {l : List Int} (R : RowI H0 H A c l) (hx : Ext H0 H) (hs : l.length < big) (hq : ∀ H', RowI H0 H' A c (Lib.compact l) → Ext H0 H' → (∀ b, H' b ≠ H b → rowB A b) → Q (.slice A (Lib.compact l).length c) H') : HCalls Try.prog 45 [.slice A l.length c] H Q := by
  intro w hw
  by_cases h0 : l = []
  · subst h0
    refine Calls.mono (Try.slices_Compact_int_empty A c w) ?_
    rintro e w' ⟨rfl, rfl⟩
    exact ⟨_, H, rfl, hq H R hx (fun b hb => absurd rfl hb), hw, ⟨rfl, rfl, rfl, Nat.le_refl _, fun _ _ _ => rfl⟩, fun b hb => .inl hb⟩
  obtain ⟨h1, h2, h3 | ⟨b, cs, ty, rfl, hb, hcl, ht, hz⟩⟩ := R
  · have : 0 < l.length := List.length_pos_iff.2 h0
    omega
  unfold big at hs
  have hle : (Lib.compact l).length ≤ l.length := by
    unfold Lib.compact Lib.compactUpTo
    rw [List.length_map]
    exact Nat.le_trans (List.length_filter_le _ _) (by simp)
  refine Calls.mono (Try.slices_Compact_int b 0 c l w (row_holds (c := c) hw hb ht) (by omega) h2) ?_
  rintro e w' ⟨rfl, m, rfl⟩
  have hdl : (Lib.compact l ++ List.replicate (l.length - (Lib.compact l).length) (0 : Int)).length = l.length := by rw [List.length_append, List.length_replicate]; omega
  obtain ⟨g1, g2, g3⟩ := row_put (A := none) (n := 0) (c := 0) (m := m) (os := #[]) (d := Lib.compact l ++ List.replicate (l.length - (Lib.compact l).length) 0) hw hb (by rw [hdl]; omega)
  rw [grow_empty] at g1 g2
  refine ⟨_, _, rfl, hq _ ⟨by rw [inC_len], by omega, .inr ⟨b, _, ty, rfl, upd_at, ?_, ?_, hz⟩⟩ (hx.upd hz) (fun q hq' => ?_), g1, g2, g3⟩
  · rw [List.length_append, inC_len, List.length_drop, hdl]; omega
  · rw [List.flatMap_append, List.append_assoc, List.take_left' (by rw [inC_len])]
  · by_cases e : q = b
    · subst e; exact ⟨_, _, rfl⟩
    · exact absurd (upd_off e) hq'
/-- A number appended to a row. -/
theorem RowI.push {A : Option Addr} {c g : Nat} {l : List Int} {x : Int} {K : Option Addr → Nat → Nat → Hp → Prop} (R : RowI H0 H A c l) (hx : Ext H0 H) (hs : l.length < big) (hg : H g = none)
    (hk : ∀ A' c' H', RowI H0 H' A' c' (l ++ [x]) → Ext H0 H' → (∀ b, H' b ≠ H b → rowB A b ∨ H b = none) → (∀ b, rowB A' b → rowB A b ∨ H b = none) → K A' (l.length + 1) c' H') : appendF (upd g (.cells [Value.int .i64 x].toArray 3 (0, 0)) H) 3 1 8 A l.length c (some ⟨g, 0, none⟩) 1 K := by
  unfold big at hs
  have hx1 : Ext H (upd g (.cells [Value.int .i64 x].toArray 3 (0, 0)) H) := Ext.new hg
  have R1 : Row H0 (upd g (.cells [Value.int .i64 x].toArray 3 (0, 0)) H) A l.length c 1 (l.flatMap inC) := Row.keep R (fun b hb => ext_at hx1 (R.lt hb).1)
  refine R1.append (hx.trans hx1) (new := inC x) (.inr ⟨g, 0, rfl, fun j v hj => by rw [cl_cells upd_at, Nat.zero_add]; exact hj⟩) rfl (fun v hv => by simp only [inC, List.mem_singleton] at hv; rw [hv]; rfl) (by omega) (by omega) fun A' c' H' R' hx' hch hnew _ => ?_
  have old : ∀ b, (upd g (.cells [Value.int .i64 x].toArray 3 (0, 0)) H) b = none → H b = none := fun b h => hx1.none h
  refine hk A' c' H' ?_ hx' (fun b hb => ?_) (fun b hb => (hnew b hb).imp id (old b))
  · unfold RowI
    rw [List.length_append, List.flatMap_append]
    simpa using R'
  · by_cases e : b = g
    · subst e; exact .inr hg
    · have : H' b ≠ (upd g (.cells [Value.int .i64 x].toArray 3 (0, 0)) H) b := by rw [upd_off e]; exact hb
      exact (hch b this).2.imp id (old b)
end
end Go.Proofs.Ytkbancdmhcnhjaa.Hw
