/- Locks: whom one waits for, also through others; the reference's Dead. -/
import Derived.Test.YtkbancdmhcnhjaaGreatLn
set_option linter.unusedVariables false
set_option linter.unusedSimpArgs false
namespace Go.Proofs.YtkbancdmhcnhjaaGreat.Hw
open Go Go.Proofs
/-- One waits for another, also through others. -/
inductive Reach (l : LK) (x : Int) : Int → Prop
  | one {y : Int} (h : y ∈ waitedL l x) : Reach l x y
  | more {y z : Int} (h : Reach l x y) (h' : z ∈ waitedL l y) : Reach l x z
def Cyc (l : LK) : Prop := ∃ n, Reach l n n
def nodesL (l : LK) : List Int := l.held.map (·.txn) ++ (l.waits.map (·.txn) ++ l.inner.map (·.2))
theorem waited_nodes {l : LK} {x y : Int} (h : y ∈ waitedL l x) : y ∈ nodesL l := by
  unfold waitedL at h
  unfold nodesL
  rw [List.mem_append, List.mem_append]
  rcases List.mem_append.1 h with h | h
  · unfold rowsL at h
    obtain ⟨i, hi, h⟩ := List.mem_flatMap.1 h
    unfold waitRow at h
    split at h
    · cases h
    · split at h
      · rcases List.mem_append.1 h with h | h
        · obtain ⟨z, hz, rfl⟩ := List.mem_map.1 h
          exact .inl (List.mem_map.2 ⟨z, (List.mem_filter.1 hz).1, rfl⟩)
        · split at h
          · cases h
          · obtain ⟨z, hz, rfl⟩ := List.mem_map.1 h
            exact .inr (.inl (List.mem_map.2 ⟨z, List.mem_of_mem_take (List.mem_filter.1 hz).1, rfl⟩))
      · cases h
  · unfold innL at h
    obtain ⟨z, hz, rfl⟩ := List.mem_map.1 h
    exact .inr (.inr (List.mem_map.2 ⟨z, List.mem_of_mem_take (List.mem_filter.1 hz).1, rfl⟩))
theorem waited_all {l : LK} {x y : Int} (h : y ∈ waitedL l x) : x ∈ allL l := by
  unfold waitedL at h
  unfold allL
  rw [List.mem_append]
  rcases List.mem_append.1 h with h | h
  · unfold rowsL at h
    obtain ⟨i, hi, h⟩ := List.mem_flatMap.1 h
    unfold waitRow at h
    split at h
    · cases h
    · rename_i w hw
      split at h
      · rename_i e
        exact .inl (List.mem_map.2 ⟨w, List.mem_of_getElem? hw, e⟩)
      · cases h
  · unfold innL at h
    obtain ⟨z, hz, rfl⟩ := List.mem_map.1 h
    have := List.mem_filter.1 hz
    exact .inr (List.mem_map.2 ⟨z, List.mem_of_mem_take this.1, of_decide_eq_true this.2⟩)
theorem reach_all {l : LK} {x y : Int} (h : Reach l x y) : x ∈ allL l := by
  induction h with
  | one h => exact waited_all h
  | more _ _ ih => exact ih
theorem reach_in {l : LK} {x : Int} {R : List Int} (h0 : ∀ y ∈ waitedL l x, y ∈ R) (h1 : ∀ y ∈ R, ∀ z ∈ waitedL l y, z ∈ R) {y : Int} (h : Reach l x y) : y ∈ R := by
  induction h with
  | one h => exact h0 _ h
  | more _ h' ih => exact h1 _ ih _ h'
theorem nodes_len {l : LK} (ht : Tame l) : (nodesL l).length ≤ 30000 := by
  have t0 := ht.1
  have t1 := ht.2.1
  have t2 := ht.2.2.1
  unfold nodesL
  rw [List.length_append, List.length_append, List.length_map, List.length_map, List.length_map]; omega
section
variable {H0 H : Hp} {Q : Value → Hp → Prop}
theorem waited_len {l : LK} {t : Int} (ht : Tame l) : (waitedL l t).length < big := by
  unfold waitedL
  have h1 := rows_len (t := t) ht (n := l.waits.length)
  have h2 := inn_len (t := t) ht (n := l.inner.length)
  have t1 := ht.2.1
  rw [List.length_append]; unfold big; omega
theorem rise_big {l : List Int} (h : l.length < big) : (rise l).length < big := Nat.lt_of_le_of_lt rise_len h
theorem c81 {A0 A1 A2 : Option Addr} {n0 c0 n1 c1 n2 c2 : Nat} {l : LK} {t : Int} (hl : LocksAt H A0 n0 c0 A1 n1 c1 A2 n2 c2 l) (ht : Tame l) (ho : Once l.waits)
    (hq : ∀ A c H' R, RowI H H' A c R → Ext H H' → R.length < big → (∀ x, x ∈ R ↔ Reach l t x) → Q (.slice A R.length c) H') : HCalls Tryz.prog 81 [.agg #[.slice A0 n0 c0, .slice A1 n1 c1, .slice A2 n2 c2], .int .i64 t] H Q := by
  refine f81.ok _ _ _ _ _ _ _ _ _ _ ?_
  unfold f81
  refine c55 hl ht ho fun A3 c3 H2 R0 hx0 => ⟨_, _, _, rfl, ?_⟩
  have hnod := nodes_len ht
  refine ⟨fun m s H' => ∃ (i : Nat) (A : Option Addr) (c : Nat) (R : List Int), s = (((A, R.length, c), ((i : Int), ())), ()) ∧ m = (nodesL l).length - i ∧ i ≤ R.length ∧ RowI H H' A c R ∧ Ext H H' ∧ R.Nodup ∧ (∀ x ∈ R, Reach l t x) ∧ (∀ y ∈ waitedL l t, y ∈ R) ∧ (∀ k x, k < i → R[k]? = some x → ∀ y ∈ waitedL l x, y ∈ R),
    ⟨_, 0, A3, c3, _, rfl, rfl, by omega, R0, hx0, strict_nodup strict_rise, fun x hx => .one (mem_rise.1 hx), fun y hy => mem_rise.2 hy, fun k x hk => by omega⟩, ?_⟩
  rintro m s H5 ⟨i, A, c, R, rfl, rfl, hi, hR, hx5, hnd, hre, hfst, hcl⟩
  dsimp only
  have hsub : R ⊆ nodesL l := fun x hx => by
    cases hre x hx with
    | one h => exact waited_nodes h
    | more _ h => exact waited_nodes h
  have hlen := hnd.length_le_of_subset hsub
  have hRb : R.length < big := by unfold big; omega
  by_cases hlt : i < R.length
  · obtain ⟨x, hxi⟩ := get_of hlt
    refine cndT (decide_eq_true (by omega)) ⟨by omega, by omega, rd_in (hR.at hRb) hxi fun p o _ k1 => ⟨x, by simpa using k1, c55 (hl.ext hx5) ht ho fun A11 c11 H10 W hx10 => ⟨_, _, _, rfl, ?_⟩⟩⟩
    have hWb : (rise (waitedL l x)).length < big := rise_big (waited_len ht)
    have hWb' := hWb
    unfold big at hWb'
    have hdis : ∀ b, rowB A b → ¬ rowB A11 b := fun b hb hb' => (hR.lt hb).1 (W.lt hb').2
    refine loop_to (rise (waitedL l x)).length (fun j s H' => ∃ (A' : Option Addr) (c' : Nat) (S : List Int), s = (((A', (R ++ S).length, c'), ((j : Int), ())), ()) ∧ RowI H H' A' c' (R ++ S) ∧ Ext H H' ∧ RowI H5 H' A11 c11 (rise (waitedL l x)) ∧ (∀ b, rowB A' b → ¬ rowB A11 b) ∧ (R ++ S).Nodup ∧ (∀ x ∈ R ++ S, Reach l t x) ∧ (∀ k y, k < j → (rise (waitedL l x))[k]? = some y → y ∈ R ++ S))
      ⟨A, c, [], by rw [List.append_nil]; rfl, by rw [List.append_nil]; exact hR.more hx10, hx5.trans hx10, W, hdis, by rw [List.append_nil]; exact hnd, by rw [List.append_nil]; exact hre, fun k y hk => by omega⟩ ?_
    rintro j s H13 next hj ⟨A', c', S, rfl, hR', hx13, W', hdis', hnd', hre', hdn⟩ hnext
    dsimp only
    have hsub' : R ++ S ⊆ nodesL l := fun x hx => by
      cases hre' x hx with
      | one h => exact waited_nodes h
      | more _ h => exact waited_nodes h
    have hlen' := hnd'.length_le_of_subset hsub'
    have hRb' : (R ++ S).length < big := by unfold big; omega
    by_cases hjl : j < (rise (waitedL l x)).length
    · obtain ⟨y, hy⟩ := get_of hjl
      have hyw : y ∈ waitedL l x := mem_rise.1 (List.mem_of_getElem? hy)
      have ew : IntKind.i64.wrap ((j : Int) + 1) = ((j + 1 : Nat) : Int) := by rw [wrap_id (by omega) (by omega)]; rfl
      refine cndT (decide_eq_true (by omega)) (jn_intro (fun J => ∀ (A2 : Option Addr) (c2 : Nat) (S2 : List Int) H2, RowI H H2 A2 c2 (R ++ S2) → Ext H H2 → RowI H5 H2 A11 c11 (rise (waitedL l x)) → (∀ b, rowB A2 b → ¬ rowB A11 b) → (R ++ S2).Nodup → (∀ x ∈ R ++ S2, Reach l t x) → (∀ k y, k < j + 1 → (rise (waitedL l x))[k]? = some y → y ∈ R ++ S2) → J A2 (R ++ S2).length c2 H2) (fun A2 c2 S2 H2 g1 g2 g3 g4 g5 g6 g7 => ⟨rfl, hnext _ _ hjl ⟨A2, c2, S2, by rw [ew], g1, g2, g3, g4, g5, g6, g7⟩⟩) fun J hJ => ?_)
      refine ⟨by omega, by omega, rd_in (W'.at hWb) hy fun p o _ k1 => ⟨y, by simpa using k1, c80 (hR'.at hRb') ⟨_, rfl, cndI (fun hno => ?_) (fun hyes => ?_)⟩⟩⟩
      · have hny : y ∉ R ++ S := fun hm => by
          have h1 : (R ++ S).any (· == y) = true := List.any_eq_true.2 ⟨y, hm, by simp⟩
          rw [h1] at hno; cases hno
        intro g hg
        refine hR'.push hx13 hRb' hg fun A2 c2 H2 R2 x2 ch nw => ?_
        have := hJ A2 c2 (S ++ [y]) H2
        rw [← List.append_assoc, List.length_append] at this
        refine this R2 x2 (Row.keep W' fun b hb => ?_) (fun b hb hb' => ?_) ?_ ?_ ?_
        · refine Classical.byContradiction fun hne => ?_
          rcases ch b hne with h | h
          · exact hdis' b h hb
          · exact (W'.lt hb).1 h
        · rcases nw b hb with h | h
          · exact hdis' b h hb'
          · exact (W'.lt hb').1 h
        · rw [List.nodup_append]
          refine ⟨hnd', by simp, fun a ha b hb => ?_⟩
          obtain rfl := List.mem_singleton.1 hb
          exact fun e => hny (e ▸ ha)
        · intro z hz
          rcases List.mem_append.1 hz with hz | hz
          · exact hre' z hz
          · obtain rfl := List.mem_singleton.1 hz
            exact .more (hre x (List.mem_of_getElem? hxi)) hyw
        · intro k z hk hz
          by_cases e : k = j
          · subst e; rw [hy] at hz; cases hz; exact List.mem_append_right _ (by simp)
          · exact List.mem_append_left _ (hdn k z (by omega) hz)
      · have hm : y ∈ R ++ S := by
          have h1 : (R ++ S).any (· == y) = true := by
            cases hh : (R ++ S).any (· == y) with
            | true => rfl
            | false => rw [hh] at hyes; cases hyes
          obtain ⟨z, hz, e⟩ := List.any_eq_true.1 h1
          rw [← (by simpa using e : z = y)]; exact hz
        refine hJ A' c' S H13 hR' hx13 W' hdis' hnd' hre' fun k z hk hz => ?_
        by_cases e : k = j
        · subst e; rw [hy] at hz; cases hz; exact hm
        · exact hdn k z (by omega) hz
    · obtain rfl : j = (rise (waitedL l x)).length := by omega
      have ew : IntKind.i64.wrap ((i : Int) + 1) = ((i + 1 : Nat) : Int) := by rw [wrap_id (by omega) (by omega)]; rfl
      refine cndF (decide_eq_false (by omega)) ⟨rfl, (nodesL l).length - (i + 1), by omega, i + 1, A', c', R ++ S, by rw [ew], rfl, by rw [List.length_append]; omega, hR', hx13, hnd', hre', fun y hy => List.mem_append_left _ (hfst y hy), fun k z hk hz y hy => ?_⟩
      by_cases e : k = i
      · subst e
        rw [List.getElem?_append_left hlt, hxi] at hz
        cases hz
        obtain ⟨q, hq'⟩ := List.getElem?_of_mem (mem_rise.2 hy)
        exact hdn q y (List.getElem?_eq_some_iff.1 hq').1 hq'
      · rw [List.getElem?_append_left (by omega)] at hz
        exact List.mem_append_left _ (hcl k z (by omega) hz y hy)
  · refine cndF (decide_eq_false (by omega)) (hq A c H5 R hR hx5 hRb fun x => ⟨hre x, reach_in hfst fun y hy z hz => ?_⟩)
    obtain ⟨k, hk⟩ := List.getElem?_of_mem hy
    exact hcl k y (by have := (List.getElem?_eq_some_iff.1 hk).1; omega) hk z hz
theorem c43 {A0 A1 A2 : Option Addr} {n0 c0 n1 c1 n2 c2 : Nat} {l : LK} (hl : LocksAt H A0 n0 c0 A1 n1 c1 A2 n2 c2 l) (ht : Tame l) (ho : Once l.waits)
    (hq : ∀ (b : Bool) H', (b = true ↔ Cyc l) → Ext H H' → Q (.bool b) H') : HCalls Tryz.prog 43 [.agg #[.slice A0 n0 c0, .slice A1 n1 c1, .slice A2 n2 c2]] H Q := by
  refine f43.ok _ _ _ _ _ _ _ _ _ ?_
  unfold f43
  refine c60 hl ht fun A3 c3 H2 R0 hx0 => ⟨_, _, _, rfl, ?_⟩
  have hb : (rise (allL l)).length < big := by
    refine rise_big ?_
    have t1 := ht.2.1
    have t2 := ht.2.2.1
    unfold allL big
    rw [List.length_append, List.length_map, List.length_map]; omega
  have hb' := hb
  unfold big at hb'
  refine scan (n := (rise (allL l)).length) (by omega) (fun i H' => Ext H2 H' ∧ ∀ k n, k < i → (rise (allL l))[k]? = some n → ¬ Reach l n n) ⟨Ext.refl _, fun k n hk => by omega⟩ ?_ ?_
  · rintro i H5 next hi ⟨hx5, hI⟩ hnext
    obtain ⟨x, hx⟩ := get_of hi
    refine cndT (by simpa using hi) ⟨by simp, by simpa using hi, rd_in ((R0.more hx5).at hb) hx fun p o _ k1 => ⟨x, by simpa using k1, c81 (hl.ext (hx0.trans hx5)) ht ho fun A c H10 R hR hx10 hRb hre => ⟨_, _, _, rfl, c80 (hR.at hRb) ⟨_, rfl, cndI (fun h => ?_) (fun h => ⟨rfl, hnext _ ⟨hx5.trans hx10, fun k n hk hn => ?_⟩⟩)⟩⟩⟩⟩
    · refine hq true _ ⟨fun _ => ⟨x, (hre x).1 ?_⟩, fun _ => rfl⟩ ((hx0.trans hx5).trans hx10)
      obtain ⟨z, hz, e⟩ := List.any_eq_true.1 h
      rw [← (by simpa using e : z = x)]; exact hz
    · by_cases e : k = i
      · subst e
        rw [hx] at hn; cases hn
        intro hr
        have : R.any (· == x) = true := List.any_eq_true.2 ⟨x, (hre x).2 hr, by simp⟩
        rw [this] at h; cases h
      · exact hI k n (by omega) hn
  · rintro H5 next ⟨hx5, hI⟩
    refine cndF (by simp) (hq false _ ⟨fun h => (by cases h), fun ⟨n, hn⟩ => ?_⟩ (hx0.trans hx5))
    obtain ⟨k, hk⟩ := List.getElem?_of_mem (mem_rise.2 (reach_all hn))
    exact absurd hn (hI k n (List.getElem?_eq_some_iff.1 hk).1 hk)
end
end Go.Proofs.YtkbancdmhcnhjaaGreat.Hw
