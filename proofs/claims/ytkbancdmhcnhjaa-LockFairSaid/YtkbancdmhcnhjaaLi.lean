/- Locks: Valid of either program. -/
import Derived.Test.YtkbancdmhcnhjaaLh
set_option linter.unusedVariables false
set_option linter.unusedSimpArgs false
namespace Go.Proofs.Ytkbancdmhcnhjaa.Hw
open Go Go.Proofs
def elOk (t : ByteArray) (n : Int) : Bool := thingB t && numB n
def adjOk (b h : Lk) : Bool := strL b.thing h.thing || (decide (b.thing = h.thing) && (decide (b.txn < h.txn) && (b.share && h.share)))
def heldT (l : List Lk) (k : Nat) : Bool := match l[k]? with
  | some x => elOk x.thing x.txn && (match k with
    | 0 => true
    | k' + 1 => (match l[k']? with | some y => adjOk y x | none => true))
  | none => true
def waitT (l : List Wt) (k : Nat) : Bool := match l[k]? with
  | some w => elOk w.thing w.txn && !((l.take k).any fun v => v.txn == w.txn)
  | none => true
def innerT (l : List (Int × Int)) (k : Nat) : Bool := match l[k]? with
  | some p => numB p.1 && (numB p.2 && (!(p.1 == p.2) && !((l.take k).any fun q => p.1 == q.1)))
  | none => true
def upTo (n : Nat) (t : Nat → Bool) : Bool := (List.range n).all t
theorem upTo_zero {t : Nat → Bool} : upTo 0 t = true := rfl
theorem upTo_succ {n : Nat} {t : Nat → Bool} : upTo (n + 1) t = (upTo n t && t n) := by
  unfold upTo; rw [List.range_succ, List.all_append]; simp
theorem upTo_miss {n k : Nat} {t : Nat → Bool} (hk : k < n) (h : t k = false) : upTo n t = false := by
  cases hu : upTo n t with
  | false => rfl
  | true => have := List.all_eq_true.1 hu k (List.mem_range.2 hk); rw [h] at this; cases this
theorem upTo_at {n k : Nat} {t : Nat → Bool} (h : upTo n t = true) (hk : k < n) : t k = true := List.all_eq_true.1 h k (List.mem_range.2 hk)
def lensB (l : LK) : Bool := decide (l.waits.length ≤ 100) && (decide (l.held.length + l.waits.length ≤ 5000) && decide (l.inner.length ≤ 100))
def validM (l : LK) : Bool := lensB l && (upTo l.held.length (heldT l.held) && (upTo l.waits.length (waitT l.waits) && upTo l.inner.length (innerT l.inner)))
theorem adj_lt {a b : Lk} (h : adjOk a b = true) : ltL a b := by
  unfold adjOk at h
  unfold ltL
  rw [ordL_lt]
  simp only [Bool.or_eq_true, Bool.and_eq_true, decide_eq_true_eq] at h
  rcases h with h | h
  · exact .inl h
  · exact .inr ⟨h.1, h.2.1⟩
theorem rising_of {l : List Lk} (h : upTo l.length (heldT l) = true) : Rising l := by
  have step : ∀ k x y, l[k]? = some x → l[k + 1]? = some y → ltL x y := fun k x y hx hy => by
    have hk := (List.getElem?_eq_some_iff.1 hy).1
    have := upTo_at h hk
    unfold heldT at this
    simp only [hy, hx, Bool.and_eq_true] at this
    exact adj_lt this.2
  intro i j
  induction j with
  | zero => intro x y h; omega
  | succ j ih =>
    intro x y hij hx hy
    by_cases e : i = j
    · subst e; exact step i x y hx hy
    · obtain ⟨z, hz⟩ := get_of (l := l) (i := j) (by have := (List.getElem?_eq_some_iff.1 hy).1; omega)
      exact ltL_trans (ih x z (by omega) hx hz) (step j z y hz hy)
section
variable {H : Hp} {Q : Value → Hp → Prop}
end
end Go.Proofs.Ytkbancdmhcnhjaa.Hw
