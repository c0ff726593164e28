/- Locks: the reference's all, Waited. -/
import Derived.Test.YtkbancdmhcnhjaaLl
set_option linter.unusedVariables false
set_option linter.unusedSimpArgs false
namespace Go.Proofs.Ytkbancdmhcnhjaa.Hw
open Go Go.Proofs
theorem rise_len {l : List Int} : (rise l).length ≤ l.length := by
  have key : ∀ (l acc : List Int), Strict acc → (l.foldl addM acc).length ≤ acc.length + l.length := by
    intro l
    induction l with
    | nil => intro acc h; simp
    | cons a r ih =>
      intro acc h
      have h1 := ih (addM acc a) (strict_add h)
      have h2 := add_len (n := a) h
      rw [List.foldl_cons, List.length_cons]; omega
  have := key l [] List.Pairwise.nil
  unfold rise; simpa using this
theorem rise_nil : rise [] = [] := rfl
/-- Locks of no great size. -/
def Tame (l : LK) : Prop := l.held.length ≤ 10000 ∧ l.waits.length ≤ 10000 ∧ l.inner.length ≤ 10000 ∧ StrOk l
/-- No transaction has two Waits. -/
def Once (l : List Wt) : Prop := ∀ (i j : Nat) v w, i < j → l[i]? = some v → l[j]? = some w → v.txn ≠ w.txn
def allL (l : LK) : List Int := l.waits.map (·.txn) ++ l.inner.map (·.1)
def waitRow (l : LK) (t : Int) (i : Nat) : List Int := match l.waits[i]? with
  | none => []
  | some w => if w.txn = t then (l.held.filter fun h => clashM h w.txn w.thing w.share).map (·.txn) ++ (if (heldM l.held t w.thing).isSome then [] else ((l.waits.take i).filter fun v => clashM (lockOf v) w.txn w.thing w.share).map (·.txn)) else []
def rowsL (l : LK) (t : Int) (n : Nat) : List Int := (List.range n).flatMap (waitRow l t)
def innL (l : LK) (t : Int) (n : Nat) : List Int := ((l.inner.take n).filter fun p => decide (p.1 = t)).map (·.2)
def waitedL (l : LK) (t : Int) : List Int := rowsL l t l.waits.length ++ innL l t l.inner.length
theorem row_len {l : LK} {t : Int} {i : Nat} : (waitRow l t i).length ≤ l.held.length + l.waits.length := by
  unfold waitRow
  split
  · simp
  · rename_i w hw
    split
    · have h1 := List.length_filter_le (fun h => clashM h w.txn w.thing w.share) l.held
      have h2 := List.length_filter_le (fun v => clashM (lockOf v) w.txn w.thing w.share) (l.waits.take i)
      rw [List.length_take] at h2
      split
      · simp only [List.append_nil, List.length_map]; omega
      · simp only [List.length_append, List.length_map]; omega
    · simp
theorem rowsL_succ {l : LK} {t : Int} {n : Nat} : rowsL l t (n + 1) = rowsL l t n ++ waitRow l t n := by
  unfold rowsL; rw [List.range_succ, List.flatMap_append]; simp
theorem rows_len {l : LK} {t : Int} (hl : Tame l) : ∀ {n : Nat}, (rowsL l t n).length ≤ n * 20000
  | 0 => by simp [rowsL]
  | n + 1 => by
    rw [rowsL_succ, List.length_append]
    have := rows_len (t := t) hl (n := n)
    have := row_len (l := l) (t := t) (i := n)
    have h := hl.1
    have h' := hl.2.1
    omega
theorem inn_len {l : LK} {t : Int} (hl : Tame l) {n : Nat} : (innL l t n).length ≤ 10000 := by
  unfold innL
  rw [List.length_map]
  refine Nat.le_trans (List.length_filter_le _ _) ?_
  have := hl.2.2.1
  rw [List.length_take]; omega
theorem fm_succ {α β : Type} {p : α → Bool} {g : α → β} {l : List α} {j : Nat} {x : α} (h : l[j]? = some x) : ((l.take (j + 1)).filter p).map g = ((l.take j).filter p).map g ++ (if p x then [g x] else []) := by
  rw [List.take_add_one, h, List.filter_append, List.map_append]
  congr 1
  cases hp : p x <;> simp [hp]
section
variable {H0 H : Hp} {Q : Value → Hp → Prop}
theorem gather {N : Nat} {A : Option Addr} {n c : Nat} {body : (((Option Addr × Nat × Nat) × (Int × Unit)) × Unit) → Hp → ((((Option Addr × Nat × Nat) × (Int × Unit)) × Unit) → Hp → Prop) → Prop} (f : Nat → List Int)
    (hN : N < 4611686018427387904) (hn : n = (f 0).length) (R : RowI H0 H A c (f 0)) (hx : Ext H0 H)
    (hs : ∀ (i : Nat) A c H' next, i < N → RowI H0 H' A c (f i) → Ext H0 H' → (∀ A' c' H2, RowI H0 H2 A' c' (f (i + 1)) → Ext H0 H2 → next (((A', (f (i + 1)).length, c'), (IntKind.i64.wrap ((i : Int) + 1), ())), ()) H2) → body (((A, (f i).length, c), ((i : Int), ())), ()) H' next)
    (he : ∀ A c H' next, RowI H0 H' A c (f N) → Ext H0 H' → body (((A, (f N).length, c), ((N : Int), ())), ()) H' next) : LoopF (((A, n, c), ((0 : Int), ())), ()) H body := by
  refine loop_to N (fun i s H' => ∃ A c, s = (((A, (f i).length, c), ((i : Int), ())), ()) ∧ RowI H0 H' A c (f i) ∧ Ext H0 H') ⟨A, c, by rw [hn]; rfl, R, hx⟩ ?_
  rintro i s H' next hi ⟨A, c, rfl, R, hx⟩ hnext
  by_cases h : i < N
  · refine hs i A c H' next h R hx fun A' c' H2 R2 x2 => hnext _ _ h ⟨A', c', ?_, R2, x2⟩
    rw [wrap_id (by omega) (by omega)]; rfl
  · obtain rfl : i = N := by omega
    exact he A c H' next R hx
theorem RowI.nil {H0 H : Hp} : RowI H0 H none 0 [] := Row.nil
end
end Go.Proofs.Ytkbancdmhcnhjaa.Hw
