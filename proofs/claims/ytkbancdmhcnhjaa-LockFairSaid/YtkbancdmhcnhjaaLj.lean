/- Locks: Valid of the program. -/
import Derived.Test.YtkbancdmhcnhjaaLi
import Derived.Test.YtkbancdmhcnhjaaHwMap
set_option linter.unusedVariables false
set_option linter.unusedSimpArgs false
namespace Go.Proofs.Ytkbancdmhcnhjaa.Hw
open Go Go.Proofs
theorem adj_eq {y x : Lk} : adjOk y x = (decide (ordL y x.thing x.txn < 0) && !clashM y x.txn x.thing x.share) := by
  unfold adjOk clashM
  cases h1 : strL y.thing x.thing with
  | true =>
    have hne : y.thing ≠ x.thing := fun e => by rw [e, strL_irrefl] at h1; cases h1
    rw [decide_eq_true (ordL_lt.2 (.inl h1)), decide_eq_false hne]; rfl
  | false =>
    by_cases he : y.thing = x.thing
    · rw [decide_eq_true he]
      by_cases ht : y.txn < x.txn
      · rw [decide_eq_true ht, decide_eq_true (ordL_lt.2 (.inr ⟨he, ht⟩)), show decide (y.txn ≠ x.txn) = true from decide_eq_true (by omega)]
        cases y.share <;> cases x.share <;> rfl
      · have hd : decide (ordL y x.thing x.txn < 0) = false := decide_eq_false (fun h => by
          rcases ordL_lt.1 h with h | h
          · rw [h1] at h; cases h
          · exact ht h.2)
        rw [decide_eq_false ht, hd]; rfl
    · have hd : decide (ordL y x.thing x.txn < 0) = false := decide_eq_false (fun h => by
        rcases ordL_lt.1 h with h | h
        · rw [h1] at h; cases h
        · exact he h.1)
      rw [decide_eq_false he, hd]; rfl
section
variable {H : Hp} {Q : Value → Hp → Prop}
theorem c24 {A : Option Addr} {n c : Nat} {l : List Lk} (hA : SlAt lkC H A n l) (hstr : ∀ x ∈ l, x.thing.size < huge) (hq : ∀ H', Ext H H' → Q (.bool (upTo l.length (heldT l))) H') : HCalls Try.prog 24 [.slice A n c] H Q := by
  refine f24.ok _ _ _ ?_
  unfold f24
  obtain rfl := hA.len
  have hb := hA.small
  unfold huge at hb
  have strH : ∀ x ∈ l, x.thing.size < 4611686018427387904 := fun x hx => by have := hstr x hx; unfold huge at this; omega
  refine scan hA.lt (fun i H' => Ext H H' ∧ upTo i (heldT l) = true) ⟨Ext.refl H, rfl⟩ ?_ ?_
  · rintro i H2 next hi ⟨hx2, hI⟩ hnext
    obtain ⟨x, hx⟩ := get_of hi
    dsimp only
    have bad : ∀ H', Ext H H' → heldT l i = false → Q (.bool false) H' := fun H' hx' hf => by have := hq H' hx'; rw [upTo_miss hi hf] at this; exact this
    have good : ∀ H', Ext H H' → heldT l i = true → Ext H H' ∧ upTo (i + 1) (heldT l) = true := fun H' hx' ht => ⟨hx', by rw [upTo_succ, hI, ht]; rfl⟩
    refine cndT (by simpa using hi) ⟨by omega, by omega, rd_lk (hA.ext hx2) hx fun p o _ k1 k2 k3 => ⟨x.thing, by simpa using k1, x.txn, by simpa using k2, x.share, by simpa using k3, ?_⟩⟩
    by_cases hi0 : i = 0
    · subst hi0
      have et : heldT l 0 = elOk x.thing x.txn := by unfold heldT; rw [hx]; simp
      refine jn_intro (fun J => (elOk x.thing x.txn = false → J true H2) ∧ (elOk x.thing x.txn = true → J false H2)) ⟨fun h => cndT rfl (bad H2 hx2 (et.trans h)), fun h => cndF rfl ?_⟩ fun J hJ => ?_
      · refine jn_intro (fun J => J false H2) (cndF rfl ⟨rfl, hnext _ (good H2 hx2 (et.trans h))⟩) fun J hJ => cndF (by simp) hJ
      · unfold elOk at hJ
        refine c25 (strH x (List.mem_of_getElem? hx)) ⟨_, rfl, cndI (fun h1 => hJ.1 ?_) (fun h1 => c26 ⟨_, rfl, cndI (fun h2 => hJ.1 ?_) (fun h2 => cndF (by simp) (hJ.2 ?_))⟩)⟩
        · rw [Bool.not_eq_true'] at h1; rw [h1, Bool.false_and]
        · rw [Bool.not_eq_true'] at h2; rw [h2, Bool.and_false]
        · rw [Bool.not_eq_false'] at h1 h2; rw [h1, h2]; rfl
    · obtain ⟨y, hy⟩ := get_of (l := l) (i := i - 1) (by omega)
      have et : heldT l i = (elOk x.thing x.txn && adjOk y x) := by
        unfold heldT; rw [hx]
        obtain ⟨j, rfl⟩ : ∃ j, i = j + 1 := ⟨i - 1, by omega⟩
        simp only [Nat.add_sub_cancel] at hy
        simp only [hy]
      have ei : IntKind.i64.wrap ((i : Int) - 1) = ((i - 1 : Nat) : Int) := by rw [wrap_id (by omega) (by omega)]; omega
      have hpos : decide ((i : Int) > 0) = true := decide_eq_true (by omega)
      rw [ei]
      refine jn_intro (fun J => ∀ H', Ext H H' → ((elOk x.thing x.txn && decide (ordL y x.thing x.txn < 0)) = false → J true H') ∧ ((elOk x.thing x.txn && decide (ordL y x.thing x.txn < 0)) = true → J false H')) (fun H' hx' => ⟨fun h => cndT rfl (bad H' hx' ?_), fun h => cndF rfl ?_⟩) fun J hJ => ?_
      · rw [et, adj_eq, ← Bool.and_assoc, h, Bool.false_and]
      · have et' : heldT l i = !clashM y x.txn x.thing x.share := by rw [et, adj_eq, ← Bool.and_assoc, h, Bool.true_and]
        refine jn_intro (fun J => J (clashM y x.txn x.thing x.share) H') (cndI (fun h2 => bad H' hx' (by rw [et', h2]; rfl)) (fun h2 => ⟨rfl, hnext _ (good H' hx' (by rw [et', h2]; rfl))⟩)) fun J hJ => ?_
        refine cndT hpos ⟨by omega, by omega, rd_lk (hA.ext hx') hy fun p o _ k1 k2 k3 => ⟨y.thing, by simpa using k1, y.txn, by simpa using k2, y.share, by simpa using k3, c47 (a := y) (b := x) ⟨_, rfl, hJ⟩⟩⟩
      · unfold elOk at hJ
        refine c25 (strH x (List.mem_of_getElem? hx)) ⟨_, rfl, cndI (fun h1 => (hJ H2 hx2).1 ?_) (fun h1 => c26 ⟨_, rfl, cndI (fun h2 => (hJ H2 hx2).1 ?_) (fun h2 => cndT hpos ⟨by omega, by omega, rd_lk (hA.ext hx2) hy fun p o _ k1 k2 k3 => ⟨y.thing, by simpa using k1, y.txn, by simpa using k2, y.share, by simpa using k3, c49 (b := x) fun H3 hx3 => ⟨_, rfl, ?_⟩⟩⟩)⟩)⟩
        · rw [Bool.not_eq_true'] at h1; rw [h1]; rfl
        · rw [Bool.not_eq_true'] at h2; rw [h2]; simp
        · rw [Bool.not_eq_false'] at h1 h2
          rw [h1, h2] at hJ
          simp only [Bool.true_and] at hJ
          cases e : decide (ordL y x.thing x.txn ≥ 0) with
          | true => exact (hJ H3 (hx2.trans hx3)).1 (decide_eq_false (by have := of_decide_eq_true e; omega))
          | false => exact (hJ H3 (hx2.trans hx3)).2 (decide_eq_true (by have := of_decide_eq_false e; omega))
  · rintro H2 next ⟨hx2, hI⟩
    have := hq H2 hx2
    rw [hI] at this
    exact cndF (by simp) this
theorem c10 {A0 A1 A2 : Option Addr} {n0 c0 n1 c1 n2 c2 : Nat} {l : LK} (hl : LocksAt H A0 n0 c0 A1 n1 c1 A2 n2 c2 l) (hq : ∀ H', Ext H H' → Q (.bool (validM l)) H') : HCalls Try.prog 10 [.agg #[.slice A0 n0 c0, .slice A1 n1 c1, .slice A2 n2 c2]] H Q := by
  refine f10.ok _ _ _ _ _ _ _ _ _ ?_
  unfold f10
  obtain rfl := hl.held.len
  obtain rfl := hl.waits.len
  obtain rfl := hl.inner.len
  have b0 := hl.held.small
  have b1 := hl.waits.small
  have b2 := hl.inner.small
  unfold huge at b0 b1 b2
  have strW : ∀ x ∈ l.waits, x.thing.size < 4611686018427387904 := fun x hx => by have := hl.str.2 x hx; unfold huge at this; omega
  refine jn_intro (fun J => ∀ H', Ext H H' → ((lensB l && upTo l.held.length (heldT l.held)) = false → J true H') ∧ ((lensB l && upTo l.held.length (heldT l.held)) = true → J false H')) (fun H5 x5 => ⟨fun h => ?_, fun h => ?_⟩) fun J hJ => ?_
  · have := hq H5 x5
    unfold validM at this
    rw [← Bool.and_assoc, h] at this
    exact cndT rfl this
  rotate_left
  · rw [show ((l.held.length : Nat) : Int) + ((l.waits.length : Nat) : Int) = ((l.held.length + l.waits.length : Nat) : Int) by omega, wrap_id (by omega) (by omega)]
    have bad : lensB l = false → J true H := fun h => (hJ H (Ext.refl H)).1 (by rw [h]; rfl)
    unfold lensB at bad
    refine cndI (fun h1 => bad ?_) (fun h1 => cndI (fun h2 => bad ?_) (fun h2 => cndI (fun h3 => bad ?_) (fun h3 => c24 hl.held hl.str.1 fun H2 hx2 => ⟨_, rfl, ?_⟩)))
    · have := of_decide_eq_true h1
      rw [show decide (l.held.length + l.waits.length ≤ 5000) = false from decide_eq_false (by omega)]; simp
    · have := of_decide_eq_true h2
      rw [show decide (l.waits.length ≤ 100) = false from decide_eq_false (by omega)]; simp
    · have := of_decide_eq_true h3
      rw [show decide (l.inner.length ≤ 100) = false from decide_eq_false (by omega)]; simp
    · have h1 := of_decide_eq_false h1
      have h2 := of_decide_eq_false h2
      have h3 := of_decide_eq_false h3
      have e : lensB l = true := by
        unfold lensB
        rw [decide_eq_true (by omega), decide_eq_true (by omega), decide_eq_true (by omega)]; rfl
      have := hJ H2 hx2
      rw [e, Bool.true_and] at this
      cases e2 : upTo l.held.length (heldT l.held) with
      | true => exact this.2 e2
      | false => exact this.1 e2
  refine cndF rfl ?_
  have hq' : ∀ H', Ext H H' → Q (.bool (upTo l.waits.length (waitT l.waits) && upTo l.inner.length (innerT l.inner))) H' := fun H' hx' => by
    have := hq H' hx'
    unfold validM at this
    rw [← Bool.and_assoc, h, Bool.true_and] at this
    exact this
  refine newMap_to (k := .i64) fun m7 H8 hm7 x8 M7 => newMap_to (k := .i64) fun m9 H10 hm9 x10 M9 => ?_
  have hne : m7 ≠ m9 := fun e => by
    obtain ⟨es, ck, hb, _⟩ := M7
    rw [e, hm9] at hb; cases hb
  have n7 : H5 m7 = none := hm7
  have n9 : H5 m9 = none := x8.none hm9
  have M7' : MapAt .i64 H10 m7 [] := by
    obtain ⟨es, ck, hb, he⟩ := M7
    exact ⟨es, ck, x10 _ _ hb, he⟩
  refine scan hl.waits.lt (fun i H' => Ext H5 H' ∧ (∃ kv, MapAt .i64 H' m7 kv ∧ ∀ y, kvGet kv y = if (l.waits.take i).any (fun v => v.txn == y) then some (.bool true) else none) ∧ MapAt .i64 H' m9 [] ∧ upTo i (waitT l.waits) = true)
    ⟨x8.trans x10, ⟨[], M7', fun y => by simp [kvGet]⟩, M9, rfl⟩ ?_ ?_
  · rintro i H2 next hi ⟨hx2, ⟨kv, hkv, hget⟩, hm, hI⟩ hnext
    obtain ⟨x, hx⟩ := get_of hi
    dsimp only
    have bad : waitT l.waits i = false → Q (.bool false) H2 := fun hf => by have := hq' H2 (x5.trans hx2); rw [upTo_miss hi hf, Bool.false_and] at this; exact this
    refine cndT (by simpa using hi) ⟨by omega, by omega, rd_wt ((hl.waits.ext x5).ext hx2) hx fun p o _ k1 k2 k3 => ⟨x.txn, by simpa using k1, x.thing, by simpa using k2, x.share, by simpa using k3, ?_⟩⟩
    have et : waitT l.waits i = (elOk x.thing x.txn && !((l.waits.take i).any fun v => v.txn == x.txn)) := by unfold waitT; rw [hx]
    refine jn_intro (fun J => (waitT l.waits i = false → J true H2) ∧ (waitT l.waits i = true → J false H2)) ⟨fun h => cndT rfl (bad h), fun h => cndF rfl ?_⟩ fun J hJ => ?_
    · refine put_to hkv fun H3 h3 hoff => ⟨rfl, hnext _ ⟨fun b o hb => ?_, ⟨_, h3, fun y => ?_⟩, ?_, ?_⟩⟩
      · rw [hoff b (fun e => by rw [e, n7] at hb; cases hb)]; exact hx2 b o hb
      · rw [kvGet_put, any_take_succ hx, hget]
        by_cases e : y = x.txn
        · subst e; simp
        · have e' : (x.txn == y) = false := by simpa using fun h : x.txn = y => e h.symm
          rw [if_neg e, e', Bool.or_false]
      · obtain ⟨es, ck, hb, he⟩ := hm
        exact ⟨es, ck, by rw [hoff m9 (Ne.symm hne)]; exact hb, he⟩
      · rw [upTo_succ, hI, h]; rfl
    · rw [et] at hJ
      unfold elOk at hJ
      refine c25 (strW x (List.mem_of_getElem? hx)) ⟨_, rfl, cndI (fun h1 => hJ.1 ?_) (fun h1 => c26 ⟨_, rfl, cndI (fun h2 => hJ.1 ?_) (fun h2 => look_to hkv ⟨(l.waits.take i).any fun v => v.txn == x.txn, ?_, ?_⟩)⟩)⟩
      · rw [Bool.not_eq_true'] at h1; rw [h1]; rfl
      · rw [Bool.not_eq_true'] at h2; rw [h2]; simp
      · rw [hget]; cases (l.waits.take i).any fun v => v.txn == x.txn <;> rfl
      · rw [Bool.not_eq_false'] at h1 h2
        rw [h1, h2] at hJ
        simp only [Bool.true_and] at hJ
        cases e : (l.waits.take i).any fun v => v.txn == x.txn with
        | true => exact hJ.1 (by rw [e]; rfl)
        | false => exact hJ.2 (by rw [e]; rfl)
  rintro H2 next ⟨hx2, _, hm, hI⟩
  have hq2 : ∀ H', Ext H H' → Q (.bool (upTo l.inner.length (innerT l.inner))) H' := fun H' hx' => by
    have := hq' H' hx'
    rw [hI, Bool.true_and] at this
    exact this
  refine cndF (by simp) ?_
  refine scan hl.inner.lt (fun i H' => Ext H5 H' ∧ (∃ kv, MapAt .i64 H' m9 kv ∧ ∀ y, kvGet kv y = if (l.inner.take i).any (fun q => y == q.1) then some (.bool true) else none) ∧ upTo i (innerT l.inner) = true)
    ⟨hx2, ⟨[], hm, fun y => by simp [kvGet]⟩, rfl⟩ ?_ ?_
  · rintro i H2 next hi ⟨hx2, ⟨kv, hkv, hget⟩, hI⟩ hnext
    obtain ⟨x, hx⟩ := get_of hi
    dsimp only
    have bad : innerT l.inner i = false → Q (.bool false) H2 := fun hf => by have := hq2 H2 (x5.trans hx2); rw [upTo_miss hi hf] at this; exact this
    refine cndT (by simpa using hi) ⟨by omega, by omega, rd_pr ((hl.inner.ext x5).ext hx2) hx fun p o _ k1 k2 => ⟨x.1, by simpa using k1, x.2, by simpa using k2, ?_⟩⟩
    have et : innerT l.inner i = (numB x.1 && (numB x.2 && (!(x.1 == x.2) && !((l.inner.take i).any fun q => x.1 == q.1)))) := by unfold innerT; rw [hx]
    refine jn_intro (fun J => (innerT l.inner i = false → J true H2) ∧ (innerT l.inner i = true → J false H2)) ⟨fun h => cndT rfl (bad h), fun h => cndF rfl ⟨by omega, by omega, ?_⟩⟩ fun J hJ => ?_
    · refine put_to hkv fun H3 h3 hoff => ⟨rfl, hnext _ ⟨fun b o hb => ?_, ⟨_, h3, fun y => ?_⟩, ?_⟩⟩
      · rw [hoff b (fun e => by rw [e, n9] at hb; cases hb)]; exact hx2 b o hb
      · rw [kvGet_put, any_take_succ hx, hget]
        by_cases e : y = x.1
        · subst e; simp
        · have e' : (y == x.1) = false := by simpa using e
          rw [if_neg e, e', Bool.or_false]
      · rw [upTo_succ, hI, h]; rfl
    · rw [et] at hJ
      refine ⟨by omega, by omega, c26 ⟨_, rfl, cndI (fun h1 => hJ.1 ?_) (fun h1 => ⟨by omega, by omega, c26 ⟨_, rfl, cndI (fun h2 => hJ.1 ?_) (fun h2 => ⟨by omega, by omega, by omega, by omega, cndI (fun h3 => hJ.1 ?_) (fun h3 => ⟨by omega, by omega, look_to hkv ⟨(l.inner.take i).any fun q => x.1 == q.1, ?_, ?_⟩⟩)⟩)⟩⟩)⟩⟩
      · rw [Bool.not_eq_true'] at h1; rw [h1]; rfl
      · rw [Bool.not_eq_true'] at h2; rw [h2]; simp
      · rw [h3]; simp
      · rw [hget]; cases (l.inner.take i).any fun q => x.1 == q.1 <;> rfl
      · rw [Bool.not_eq_false'] at h1 h2
        rw [h1, h2, h3] at hJ
        simp only [Bool.true_and, Bool.not_false] at hJ
        cases e : (l.inner.take i).any fun q => x.1 == q.1 with
        | true => exact hJ.1 (by rw [e]; rfl)
        | false => exact hJ.2 (by rw [e]; rfl)
  · rintro H2 next ⟨hx2, _, hI⟩
    have := hq2 H2 (x5.trans hx2)
    rw [hI] at this
    exact cndF (by simp) this
end
end Go.Proofs.Ytkbancdmhcnhjaa.Hw
