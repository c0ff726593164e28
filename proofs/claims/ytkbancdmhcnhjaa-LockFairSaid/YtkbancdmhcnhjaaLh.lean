/- Locks: the reference's take. -/
import Derived.Test.YtkbancdmhcnhjaaLg
set_option linter.unusedVariables false
set_option linter.unusedSimpArgs false
namespace Go.Proofs.Ytkbancdmhcnhjaa.Hw
open Go Go.Proofs
section
variable {H0 H : Hp} {Q : Value → Hp → Prop}
theorem Row.head {A : Option Addr} {c p : Nat} {l : List Lk} (R : Row H0 H A l.length c 3 (l.flatMap lkC)) (hp : p ≤ l.length) : Row H0 H A p p 3 ((l.take p).flatMap lkC) := by
  obtain ⟨h1, h2, h3⟩ := R
  refine ⟨by rw [lkC_len, List.length_take, Nat.min_eq_left hp], Nat.le_refl _, ?_⟩
  rcases h3 with ⟨rfl, hc⟩ | ⟨b, cs, ty, rfl, hb, hcl, ht, hz⟩
  · exact .inl ⟨rfl, by omega⟩
  · refine .inr ⟨b, cs, ty, rfl, hb, by have := Nat.mul_le_mul_right 3 (Nat.le_trans hp h2); omega, ?_, hz⟩
    have : l.flatMap lkC = (l.take p).flatMap lkC ++ (l.drop p).flatMap lkC := by rw [← List.flatMap_append, List.take_append_drop]
    rw [this] at ht
    have e : cs.take (p * 3) = (cs.take (l.length * 3)).take (p * 3) := by rw [List.take_take, Nat.min_eq_left (by omega)]
    rw [e, ht, List.take_left' (by rw [lkC_len, List.length_take, Nat.min_eq_left hp])]
theorem ordX_lt {x h : Lk} : ordX x h < 0 ↔ strL h.thing x.thing = true ∨ (h.thing = x.thing ∧ h.txn < x.txn) := ordL_lt
theorem take_pos {l : List Lk} {x : Lk} {i : Nat} (h1 : ∀ k y, k < i → l[k]? = some y → ordX x y < 0) (h2 : ∀ y, l[i]? = some y → ¬ ordX x y < 0) (hi : i ≤ l.length) : posL (ordX x) l = i := by
  unfold posL
  induction l generalizing i with
  | nil => simp at hi; subst hi; rfl
  | cons a r ih =>
    cases i with
    | zero =>
      have := h2 a rfl
      rw [List.takeWhile_cons, if_neg (by simpa using this)]; rfl
    | succ i =>
      have := h1 0 a (by omega) rfl
      rw [List.takeWhile_cons, if_pos (by simpa using this), List.length_cons]
      congr 1
      exact ih (fun k y hk hy => h1 (k + 1) y (by omega) (by simpa using hy)) (fun y hy => h2 y (by simpa using hy)) (by simpa using hi)
end
end Go.Proofs.Ytkbancdmhcnhjaa.Hw
