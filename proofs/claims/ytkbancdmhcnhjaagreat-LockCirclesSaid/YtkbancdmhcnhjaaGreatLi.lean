/- Locks: Valid of either program. -/
import Derived.Test.YtkbancdmhcnhjaaGreatLh
set_option linter.unusedVariables false
set_option linter.unusedSimpArgs false
namespace Go.Proofs.YtkbancdmhcnhjaaGreat.Hw
open Go Go.Proofs
def elOk (t : ByteArray) (n : Int) : Bool := thingB t && numB n
def adjOk (b h : Lk) : Bool := strL b.thing h.thing || (decide (b.thing = h.thing) && (decide (b.txn < h.txn) && (b.share && h.share)))
def heldT (l : List Lk) (k : Nat) : Bool := match l[k]? with
  | some x => elOk x.thing x.txn && (match k with
    | 0 => true
    | k' + 1 => (match l[k']? with | some y => adjOk y x | none => true))
  | none => true
def waitT (l : List Wt) (k : Nat) : Bool := match l[k]? with
  | some w => elOk w.thing w.txn && !((l.take k).any fun v => v.txn == w.txn)
  | none => true
def innerT (l : List (Int × Int)) (k : Nat) : Bool := match l[k]? with
  | some p => numB p.1 && (numB p.2 && (!(p.1 == p.2) && !((l.take k).any fun q => p.1 == q.1)))
  | none => true
def upTo (n : Nat) (t : Nat → Bool) : Bool := (List.range n).all t
theorem upTo_zero {t : Nat → Bool} : upTo 0 t = true := rfl
theorem upTo_succ {n : Nat} {t : Nat → Bool} : upTo (n + 1) t = (upTo n t && t n) := by
  unfold upTo; rw [List.range_succ, List.all_append]; simp
theorem upTo_miss {n k : Nat} {t : Nat → Bool} (hk : k < n) (h : t k = false) : upTo n t = false := by
  cases hu : upTo n t with
  | false => rfl
  | true => have := List.all_eq_true.1 hu k (List.mem_range.2 hk); rw [h] at this; cases this
theorem upTo_at {n k : Nat} {t : Nat → Bool} (h : upTo n t = true) (hk : k < n) : t k = true := List.all_eq_true.1 h k (List.mem_range.2 hk)
def lensB (l : LK) : Bool := decide (l.waits.length ≤ 100) && (decide (l.held.length + l.waits.length ≤ 5000) && decide (l.inner.length ≤ 100))
def validM (l : LK) : Bool := lensB l && (upTo l.held.length (heldT l.held) && (upTo l.waits.length (waitT l.waits) && upTo l.inner.length (innerT l.inner)))
theorem adj_lt {a b : Lk} (h : adjOk a b = true) : ltL a b := by
  unfold adjOk at h
  unfold ltL
  rw [ordL_lt]
  simp only [Bool.or_eq_true, Bool.and_eq_true, decide_eq_true_eq] at h
  rcases h with h | h
  · exact .inl h
  · exact .inr ⟨h.1, h.2.1⟩
theorem rising_of {l : List Lk} (h : upTo l.length (heldT l) = true) : Rising l := by
  have step : ∀ k x y, l[k]? = some x → l[k + 1]? = some y → ltL x y := fun k x y hx hy => by
    have hk := (List.getElem?_eq_some_iff.1 hy).1
    have := upTo_at h hk
    unfold heldT at this
    simp only [hy, hx, Bool.and_eq_true] at this
    exact adj_lt this.2
  intro i j
  induction j with
  | zero => intro x y h; omega
  | succ j ih =>
    intro x y hij hx hy
    by_cases e : i = j
    · subst e; exact step i x y hx hy
    · obtain ⟨z, hz⟩ := get_of (l := l) (i := j) (by have := (List.getElem?_eq_some_iff.1 hy).1; omega)
      exact ltL_trans (ih x z (by omega) hx hz) (step j z y hz hy)
section
variable {H : Hp} {Q : Value → Hp → Prop}
theorem c24 {A0 A1 A2 : Option Addr} {n0 c0 n1 c1 n2 c2 : Nat} {l : LK} (hl : LocksAt H A0 n0 c0 A1 n1 c1 A2 n2 c2 l) (hq : Q (.bool (validM l)) H) : HCalls Tryz.prog 24 [.agg #[.slice A0 n0 c0, .slice A1 n1 c1, .slice A2 n2 c2]] H Q := by
  refine f24.ok _ _ _ _ _ _ _ _ _ ?_
  unfold f24
  have hc1 := hl.cap1
  have hc2 := hl.cap2
  obtain rfl := hl.held.len
  obtain rfl := hl.waits.len
  obtain rfl := hl.inner.len
  have b0 := hl.held.small
  have b1 := hl.waits.small
  have b2 := hl.inner.small
  unfold huge at b0 b1 b2
  have strH : ∀ x ∈ l.held, x.thing.size < 4611686018427387904 := fun x hx => by have := hl.str.1 x hx; unfold huge at this; omega
  have strW : ∀ x ∈ l.waits, x.thing.size < 4611686018427387904 := fun x hx => by have := hl.str.2 x hx; unfold huge at this; omega
  refine jn_intro (fun J => (lensB l = false → J true) ∧ (lensB l = true → J false)) ⟨fun h => ?_, fun h => ?_⟩ fun J hJ => ?_
  · unfold validM at hq
    rw [h] at hq
    exact cndT rfl hq
  rotate_left
  · rw [show ((l.held.length : Nat) : Int) + ((l.waits.length : Nat) : Int) = ((l.held.length + l.waits.length : Nat) : Int) by omega, wrap_id (by omega) (by omega)]
    unfold lensB at hJ
    refine cndI (fun h1 => hJ.1 ?_) (fun h1 => cndI (fun h2 => hJ.1 ?_) (fun h2 => cndI (fun h3 => hJ.1 ?_) (fun h3 => ?_)))
    · have := of_decide_eq_true h1
      rw [show decide (l.held.length + l.waits.length ≤ 5000) = false from decide_eq_false (by omega)]; simp
    · have := of_decide_eq_true h2
      rw [show decide (l.waits.length ≤ 100) = false from decide_eq_false (by omega)]; simp
    · have := of_decide_eq_true h3
      rw [show decide (l.held.length + l.waits.length ≤ 5000) = false from decide_eq_false (by omega)]; simp
    · have h2 := of_decide_eq_false h2
      have h3 := of_decide_eq_false h3
      rw [show decide (l.waits.length ≤ 100) = true from decide_eq_true (by omega), show decide (l.held.length + l.waits.length ≤ 5000) = true from decide_eq_true (by omega), Bool.true_and, Bool.true_and] at hJ
      cases h4 : decide (((l.inner.length : Nat) : Int) > 100) with
      | true => exact hJ.1 (decide_eq_false (by have := of_decide_eq_true h4; omega))
      | false => exact hJ.2 (decide_eq_true (by have := of_decide_eq_false h4; omega))
  refine cndF rfl ?_
  unfold validM at hq
  rw [h, Bool.true_and] at hq
  refine scan hl.held.lt (fun i H' => H' = H ∧ upTo i (heldT l.held) = true) ⟨rfl, rfl⟩ ?_ ?_
  · rintro i H next hi ⟨rfl, hI⟩ hnext
    obtain ⟨x, hx⟩ := get_of hi
    dsimp only
    have bad : heldT l.held i = false → Q (.bool false) H := fun hf => by rw [upTo_miss hi hf, Bool.false_and] at hq; exact hq
    refine cndT (by simpa using hi) (jn_intro (fun J => heldT l.held i = true → J H) (fun ht => ⟨rfl, hnext _ ⟨rfl, by rw [upTo_succ, hI, ht]; rfl⟩⟩) fun J26 hJ26 => ?_)
    refine ⟨by omega, by omega, rd_lk hl.held hx fun p o _ k1 k2 k3 => ⟨x.thing, by simpa using k1, x.txn, by simpa using k2, x.share, by simpa using k3, ?_⟩⟩
    refine jn_intro (fun J => (elOk x.thing x.txn = false → J true H) ∧ (elOk x.thing x.txn = true → J false H)) ⟨fun he => cndT rfl (bad (by unfold heldT; rw [hx]; simp only [he, Bool.false_and])), fun he => cndF rfl ?_⟩ fun J18 hJ18 => ?_
    · match i, hi, hx, hI with
      | 0, hi, hx, hI => exact cndT rfl (hJ26 (by unfold heldT; rw [hx]; simp only [he, Bool.true_and]))
      | i + 1, hi, hx, hI =>
        refine cndF (by simp; omega) ?_
        obtain ⟨y, hy⟩ := get_of (l := l.held) (i := i) (by omega)
        have et : heldT l.held (i + 1) = adjOk y x := by unfold heldT; rw [hx]; simp only [hy, he, Bool.true_and]
        rw [show IntKind.i64.wrap (((i + 1 : Nat) : Int) - 1) = (i : Int) by rw [wrap_id (by omega) (by omega)]; omega]
        refine ⟨by omega, by omega, rd_lk hl.held hy fun p o _ k1 k2 k3 => ⟨y.thing, by simpa using k1, y.txn, by simpa using k2, y.share, by simpa using k3, ?_⟩⟩
        refine jn_intro (fun J => (adjOk y x = false → J true) ∧ (adjOk y x = true → J false)) ⟨fun ha => cndT rfl (bad (by rw [et, ha])), fun ha => cndF rfl (hJ26 (by rw [et, ha]))⟩ fun J24 hJ24 => ?_
        rw [str_eq]
        unfold adjOk strL at hJ24
        cases e1 : Op.bytesLess y.thing.toList x.thing.toList with
        | true =>
          rw [e1] at hJ24
          have hne : decide (y.thing = x.thing) = false := by
            refine decide_eq_false fun e => ?_
            rw [e] at e1
            have := strL_irrefl (a := x.thing)
            unfold strL at this
            rw [this] at e1; cases e1
          refine cndF (by simp) (cndF hne (hJ24.2 rfl))
        | false =>
          rw [e1, Bool.false_or] at hJ24
          cases e2 : decide (y.thing = x.thing) with
          | false =>
            rw [e2, Bool.false_and] at hJ24
            exact cndT rfl (hJ24.1 rfl)
          | true =>
            rw [e2, Bool.true_and] at hJ24
            refine cndF rfl (cndT rfl (cndI (fun h5 => hJ24.1 ?_) (fun h5 => ?_)))
            · rw [show decide (y.txn < x.txn) = false from decide_eq_false (by have := of_decide_eq_true h5; omega), Bool.false_and]
            · rw [show decide (y.txn < x.txn) = true from decide_eq_true (by have := of_decide_eq_false h5; omega), Bool.true_and] at hJ24
              cases e3 : y.share with
              | false => rw [e3] at hJ24; exact cndT rfl (hJ24.1 rfl)
              | true =>
                rw [e3, Bool.true_and] at hJ24
                refine cndF rfl ?_
                cases e4 : x.share with
                | false => exact hJ24.1 e4
                | true => exact hJ24.2 e4
    · unfold elOk at hJ18
      refine c38 (strH x (List.mem_of_getElem? hx)) ⟨_, rfl, cndI (fun h1 => hJ18.1 ?_) (fun h1 => c37 ⟨_, rfl, ?_⟩)⟩
      · rw [Bool.not_eq_true'] at h1; rw [h1, Bool.false_and]
      · rw [Bool.not_eq_false'] at h1
        rw [h1, Bool.true_and] at hJ18
        cases e : numB x.txn with
        | true => exact hJ18.2 e
        | false => exact hJ18.1 e
  rintro H next ⟨rfl, hI⟩
  rw [hI, Bool.true_and] at hq
  refine cndF (by simp) ?_
  refine scan hl.waits.lt (fun i H' => H' = H ∧ upTo i (waitT l.waits) = true) ⟨rfl, rfl⟩ ?_ ?_
  · rintro i H next hi ⟨rfl, hI⟩ hnext
    obtain ⟨x, hx⟩ := get_of hi
    dsimp only
    have bad : waitT l.waits i = false → Q (.bool false) H := fun hf => by rw [upTo_miss hi hf, Bool.false_and] at hq; exact hq
    refine cndT (by simpa using hi) ⟨by omega, by omega, rd_wt hl.waits hx fun p o _ k1 k2 k3 => ⟨x.txn, by simpa using k1, x.thing, by simpa using k2, x.share, by simpa using k3, ?_⟩⟩
    refine jn_intro (fun J => (elOk x.thing x.txn = false → J true H) ∧ (elOk x.thing x.txn = true → J false H)) ⟨fun he => cndT rfl (bad (by unfold waitT; rw [hx]; simp only [he, Bool.false_and])), fun he => cndF rfl ?_⟩ fun J18 hJ18 => ?_
    · simp only [Int.toNat_natCast, Nat.sub_zero, cut_zero]
      have et : waitT l.waits i = !((l.waits.take i).any fun v => v.txn == x.txn) := by unfold waitT; rw [hx]; simp only [he, Bool.true_and]
      refine ⟨by omega, by omega, scan (n := i) (by omega) (fun j H' => H' = H ∧ (l.waits.take j).any (fun v => v.txn == x.txn) = false) ⟨rfl, by simp⟩ ?_ ?_⟩
      · rintro j H next2 hj ⟨rfl, hJ⟩ hnext2
        obtain ⟨y, hy⟩ := get_of (l := l.waits) (i := j) (by omega)
        dsimp only
        refine cndT (by simpa using hj) ⟨by omega, by omega, rd_wt hl.waits hy fun p o _ k1 k2 k3 => ⟨y.txn, by simpa using k1, y.thing, by simpa using k2, y.share, by simpa using k3, cndI (fun h1 => bad ?_) (fun h1 => ⟨rfl, hnext2 _ ⟨rfl, ?_⟩⟩)⟩⟩
        · rw [et, any_hit (g := fun v : Wt => v.txn == x.txn) (i := j) (by rw [List.getElem?_take_of_lt hj]; exact hy) h1]; rfl
        · rw [any_take_succ hy, hJ, h1]; rfl
      · rintro H next2 ⟨rfl, hJ⟩
        exact cndF (by simp) ⟨rfl, hnext _ ⟨rfl, by rw [upTo_succ, hI, et, hJ]; rfl⟩⟩
    · unfold elOk at hJ18
      refine c38 (strW x (List.mem_of_getElem? hx)) ⟨_, rfl, cndI (fun h1 => hJ18.1 ?_) (fun h1 => c37 ⟨_, rfl, ?_⟩)⟩
      · rw [Bool.not_eq_true'] at h1; rw [h1, Bool.false_and]
      · rw [Bool.not_eq_false'] at h1
        rw [h1, Bool.true_and] at hJ18
        cases e : numB x.txn with
        | true => exact hJ18.2 e
        | false => exact hJ18.1 e
  rintro H next ⟨rfl, hI⟩
  rw [hI, Bool.true_and] at hq
  refine cndF (by simp) ?_
  refine scan hl.inner.lt (fun i H' => H' = H ∧ upTo i (innerT l.inner) = true) ⟨rfl, rfl⟩ ?_ ?_
  · rintro i H next hi ⟨rfl, hI⟩ hnext
    obtain ⟨x, hx⟩ := get_of hi
    dsimp only
    have bad : innerT l.inner i = false → Q (.bool false) H := fun hf => by rw [upTo_miss hi hf] at hq; exact hq
    refine cndT (by simpa using hi) ⟨by omega, by omega, rd_pr hl.inner hx fun p o _ k1 k2 => ⟨x.1, by simpa using k1, x.2, by simpa using k2, ?_⟩⟩
    refine jn_intro (fun J => ((numB x.1 && (numB x.2 && !(x.1 == x.2))) = false → J true H) ∧ ((numB x.1 && (numB x.2 && !(x.1 == x.2))) = true → J false H)) ⟨fun he => cndT rfl (bad ?_), fun he => cndF rfl ?_⟩ fun J18 hJ18 => ?_
    · unfold innerT; rw [hx]; simp only; rw [← Bool.and_assoc, ← Bool.and_assoc, Bool.and_assoc (numB x.1), he, Bool.false_and]
    · simp only [Int.toNat_natCast, Nat.sub_zero, cut_zero]
      have et : innerT l.inner i = !((l.inner.take i).any fun q => x.1 == q.1) := by unfold innerT; rw [hx]; simp only; rw [← Bool.and_assoc, ← Bool.and_assoc, Bool.and_assoc (numB x.1), he, Bool.true_and]
      refine ⟨by omega, by omega, scan (n := i) (by omega) (fun j H' => H' = H ∧ (l.inner.take j).any (fun q => x.1 == q.1) = false) ⟨rfl, by simp⟩ ?_ ?_⟩
      · rintro j H next2 hj ⟨rfl, hJ⟩ hnext2
        obtain ⟨y, hy⟩ := get_of (l := l.inner) (i := j) (by omega)
        dsimp only
        refine cndT (by simpa using hj) ⟨by omega, by omega, rd_pr hl.inner hy fun p o _ k1 k2 => ⟨y.1, by simpa using k1, y.2, by simpa using k2, by omega, by omega, by omega, by omega, cndI (fun h1 => bad ?_) (fun h1 => ⟨rfl, hnext2 _ ⟨rfl, ?_⟩⟩)⟩⟩
        · rw [et, any_hit (g := fun q : Int × Int => x.1 == q.1) (i := j) (by rw [List.getElem?_take_of_lt hj]; exact hy) h1]; rfl
        · rw [any_take_succ hy, hJ, h1]; rfl
      · rintro H next2 ⟨rfl, hJ⟩
        exact cndF (by simp) ⟨rfl, hnext _ ⟨rfl, by rw [upTo_succ, hI, et, hJ]; rfl⟩⟩
    · refine ⟨by omega, by omega, c37 ⟨_, rfl, cndI (fun h1 => hJ18.1 ?_) (fun h1 => ⟨by omega, by omega, c37 ⟨_, rfl, cndI (fun h2 => hJ18.1 ?_) (fun h2 => ⟨by omega, by omega, by omega, by omega, ?_⟩)⟩⟩)⟩⟩
      · rw [Bool.not_eq_true'] at h1; rw [h1, Bool.false_and]
      · rw [Bool.not_eq_true'] at h2; rw [h2, Bool.false_and, Bool.and_false]
      · rw [Bool.not_eq_false'] at h1 h2
        rw [h1, h2, Bool.true_and, Bool.true_and] at hJ18
        cases e : (x.1 == x.2) with
        | true => rw [e] at hJ18; exact hJ18.1 rfl
        | false => rw [e] at hJ18; exact hJ18.2 rfl
  rintro H next ⟨rfl, hI⟩
  rw [hI] at hq
  exact cndF (by simp) hq
end
end Go.Proofs.YtkbancdmhcnhjaaGreat.Hw
