/- Locks: Compare, the order of locks, the binary searches. -/
import Derived.Test.YtkbancdmhcnhjaaLa
set_option linter.unusedVariables false
set_option linter.unusedSimpArgs false
namespace Go.Proofs.Ytkbancdmhcnhjaa.Hw
open Go Go.Proofs
section
variable {H : Hp} {Q : Value → Hp → Prop}
def cmpS (a b : ByteArray) : Int := if strL a b = true then -1 else if a = b then 0 else 1
def cmpI (a b : Int) : Int := if a < b then -1 else if a = b then 0 else 1
theorem c68 {a b : ByteArray} (hq : Q (.int .i64 (cmpS a b)) H) : HCalls Try.prog 68 [.string a, .string b] H Q := by
  refine f68.ok _ _ ?_
  unfold f68
  refine f86.ok _ ⟨_, rfl, f86.ok _ ⟨_, rfl, cndF (by simp) (cndF (by simp) ?_)⟩⟩
  unfold cmpS strL at hq
  rw [str_eq]
  refine cndI (fun h => ?_) (fun h => cndI (fun h2 => ?_) (fun h2 => ?_))
  · rw [if_pos h] at hq; exact hq
  · rw [h, Bool.false_or] at h2
    rw [if_neg (by rw [h]; decide), if_neg (by simpa using h2)] at hq; exact hq
  · rw [h, Bool.false_or] at h2
    rw [if_neg (by rw [h]; decide), if_pos (by simpa using h2)] at hq; exact hq
theorem c71 {a b : Int} (hq : Q (.int .i64 (cmpI a b)) H) : HCalls Try.prog 71 [.int .i64 a, .int .i64 b] H Q := by
  refine f71.ok _ _ ?_
  unfold f71
  refine f87.ok _ ⟨_, rfl, f87.ok _ ⟨_, rfl, cndF (by simp) (cndF (by simp) ?_)⟩⟩
  unfold cmpI at hq
  refine cndI (fun h => ?_) (fun h => cndI (fun h2 => ?_) (fun h2 => ?_))
  · rw [if_pos (of_decide_eq_true h)] at hq; exact hq
  · have h := of_decide_eq_false h
    have h2 := of_decide_eq_true h2
    rw [if_neg h, if_neg (by omega)] at hq; exact hq
  · have h := of_decide_eq_false h
    have h2 := of_decide_eq_false h2
    rw [if_neg h, if_pos (by omega)] at hq; exact hq
theorem c70 {A : Option Addr} {c : Nat} {a b : Int} (hA : SlAt inC H A 2 [a, b]) (hq : Q (.int .i64 (if a ≠ 0 then a else b)) H) : HCalls Try.prog 70 [.slice A 2 c] H Q := by
  refine f70.ok _ _ _ ?_
  unfold f70
  refine scan (n := 2) (by omega) (fun i H' => H' = H ∧ ∀ k x, k < i → [a, b][k]? = some x → x = 0) ⟨rfl, fun k x h => by omega⟩ ?_ ?_
  · rintro i H next hi ⟨rfl, hI⟩ hnext
    obtain ⟨y, hy⟩ := get_of (l := [a, b]) hi
    dsimp only
    refine cndT (decide_eq_true (by omega)) ⟨by omega, by omega, rd_in hA hy fun p o _ hc => ⟨y, by simpa using hc, cndI (fun h => ?_) (fun h => ⟨rfl, hnext _ ⟨rfl, fun k x hk hx => ?_⟩⟩)⟩⟩
    · have h : y ≠ 0 := by simpa using h
      have : i = 0 ∨ i = 1 := by omega
      rcases this with rfl | rfl
      · cases hy
        rw [if_pos h] at hq; exact hq
      · cases hy
        have ha := hI 0 a (by omega) rfl
        rw [if_neg (by simpa using ha)] at hq; exact hq
    · by_cases hki : k = i
      · subst hki; rw [hy] at hx; cases hx; simpa using h
      · exact hI k x (by omega) hx
  · rintro H next ⟨rfl, hI⟩
    have ha := hI 0 a (by omega) rfl
    have hb := hI 1 b (by omega) rfl
    rw [if_neg (by simpa using ha), hb] at hq
    exact cndF rfl hq
/-- The order of locks. -/
def ordL (a : Lk) (thing : ByteArray) (txn : Int) : Int := if cmpS a.thing thing ≠ 0 then cmpS a.thing thing else cmpI a.txn txn
theorem c49 {a b : Lk} (hq : ∀ H', Ext H H' → Q (.int .i64 (ordL a b.thing b.txn)) H') : HCalls Try.prog 49 [.agg #[.string a.thing, .int .i64 a.txn, .bool a.share], .agg #[.string b.thing, .int .i64 b.txn, .bool b.share]] H Q := by
  refine f49.ok _ _ _ _ _ _ ?_
  unfold f49
  refine c68 ⟨_, rfl, c71 ⟨_, rfl, fun g hg => ?_⟩⟩
  refine c70 (a := cmpS a.thing b.thing) (b := cmpI a.txn b.txn) ⟨rfl, .inr ⟨g, 0, rfl, fun j v hj => by rw [cl_cells upd_at, Nat.zero_add]; exact hj⟩, by unfold huge; simp⟩ ⟨_, rfl, ?_⟩
  exact hq _ (Ext.new hg)
theorem c67 {a : Lk} {s : ByteArray} (hq : Q (.int .i64 (cmpS a.thing s)) H) : HCalls Try.prog 67 [.agg #[.string a.thing, .int .i64 a.txn, .bool a.share], .string s] H Q := by
  refine f67.ok _ _ _ _ ?_
  unfold f67
  exact c68 ⟨_, rfl, hq⟩
theorem mid_eq {i j : Nat} (h : i + j < 4611686018427387904) : IntKind.i64.wrap (Int.fdiv (IntKind.u64.wrap (IntKind.i64.wrap ((i : Int) + (j : Int)))) (2 ^ (min (1 : Int).toNat (IntKind.u64.bits)))) = (((i + j) / 2 : Nat) : Int) := by
  have h0 : IntKind.i64.wrap ((i : Int) + (j : Int)) = (i : Int) + (j : Int) := wrap_id (by omega) (by omega)
  have h1 : IntKind.u64.wrap ((i : Int) + (j : Int)) = (i : Int) + (j : Int) := by
    unfold IntKind.wrap
    simp [IntKind.bits, IntKind.signed]
    omega
  have h2 : (min (1 : Int).toNat (IntKind.u64.bits)) = 1 := by decide
  rw [h0, h1, h2]
  have h3 : Int.fdiv ((i : Int) + (j : Int)) (2 ^ 1) = (((i + j) / 2 : Nat) : Int) := by
    rw [Int.fdiv_eq_ediv_of_nonneg _ (by decide)]
    omega
  rw [h3, wrap_id (by omega) (by omega)]
/-- How many elements at the beginning are before what is looked for. -/
def posL {α : Type} (cmp : α → Int) (l : List α) : Nat := (l.takeWhile (fun x => decide (cmp x < 0))).length
theorem posL_eq {α : Type} {cmp : α → Int} : ∀ {l : List α} {i : Nat}, i ≤ l.length → (∀ k x, k < i → l[k]? = some x → cmp x < 0) → (∀ k x, i ≤ k → l[k]? = some x → 0 ≤ cmp x) → posL cmp l = i
  | [], i, h, _, _ => by simp at h; subst h; rfl
  | a :: r, 0, _, _, h2 => by
    have := h2 0 a (by omega) rfl
    unfold posL
    rw [List.takeWhile_cons, if_neg (by simpa using by omega)]; rfl
  | a :: r, i + 1, h, h1, h2 => by
    have := h1 0 a (by omega) rfl
    unfold posL
    rw [List.takeWhile_cons, if_pos (by simpa using this), List.length_cons]
    congr 1
    exact posL_eq (by simpa using h) (fun k x hk hx => h1 (k + 1) x (by omega) (by simpa using hx)) (fun k x hk hx => h2 (k + 1) x (by omega) (by simpa using hx))
/-- What is before stands before what is not. -/
def Mono {α : Type} (cmp : α → Int) (l : List α) : Prop := ∀ (i j : Nat) x y, i ≤ j → l[i]? = some x → l[j]? = some y → cmp y < 0 → cmp x < 0
def atZ {α : Type} (cmp : α → Int) (o : Option α) : Bool := match o with | some x => decide (cmp x = 0) | none => false
def isAtL {α : Type} (cmp : α → Int) (l : List α) : Bool := atZ cmp (l[posL cmp l]?)
theorem c58 {A : Option Addr} {n c : Nat} {l : List Lk} {t : Lk} {f : Nat} {fa fc : Array Value} {cmp : Lk → Int} (hA : SlAt lkC H A n l) (hf : FnOk Try.prog f) (hm : Mono cmp l)
    (hg : ∀ x ∈ l, ∀ (H' : Hp) (Q : Value → Hp → Prop), Ext H H' → (∀ H2, Ext H' H2 → Q (.int .i64 (cmp x)) H2) → HCalls Try.prog f (fa.toList ++ [.agg #[.string x.thing, .int .i64 x.txn, .bool x.share], .agg #[.string t.thing, .int .i64 t.txn, .bool t.share]] ++ fc.toList) H' Q)
    (hq : ∀ H', Ext H H' → Q (.tuple #[.int .i64 (posL cmp l : Nat), .bool (isAtL cmp l)]) H') : HCalls Try.prog 58 [.slice A n c, .agg #[.string t.thing, .int .i64 t.txn, .bool t.share], .func (.func f) fa fc] H Q := by
  refine f58.ok _ _ _ _ _ _ _ _ _ ?_
  unfold f58
  obtain rfl := hA.len
  have hlt := hA.small
  unfold huge at hlt
  refine ⟨fun m s H' => ∃ i j : Nat, s = (((i : Int), ((j : Int), ())), ()) ∧ m = j - i ∧ i ≤ j ∧ j ≤ l.length ∧ Ext H H' ∧ (∀ k x, k < i → l[k]? = some x → cmp x < 0) ∧ (∀ k x, j ≤ k → l[k]? = some x → 0 ≤ cmp x),
    ⟨_, 0, l.length, rfl, rfl, by omega, by omega, Ext.refl H, fun k x h => by omega, fun k x h hx => by have := (List.getElem?_eq_some_iff.1 hx).1; omega⟩, ?_⟩
  rintro m s H2 ⟨i, j, rfl, rfl, hij, hj, hx, h1, h2⟩
  dsimp only
  refine jn_intro (fun J => ∀ (i' j' : Nat) H', j' - i' < j - i → i' ≤ j' → j' ≤ l.length → Ext H H' → (∀ k x, k < i' → l[k]? = some x → cmp x < 0) → (∀ k x, j' ≤ k → l[k]? = some x → 0 ≤ cmp x) → J (i' : Int) (j' : Int) H') ?_ fun J hJ => ?_
  · intro i' j' H' hd hle hjl hx' g1 g2
    exact ⟨rfl, _, hd, i', j', rfl, rfl, hle, hjl, hx', g1, g2⟩
  by_cases hlt' : i < j
  · refine cndT (by simpa using hlt') ?_
    rw [mid_eq (by omega)]
    have hmid : (i + j) / 2 < l.length := by omega
    have hm1 : i ≤ (i + j) / 2 := by omega
    have hm2 : (i + j) / 2 < j := by omega
    generalize (i + j) / 2 = md at hmid hm1 hm2
    obtain ⟨y, hy⟩ := get_of hmid
    have hmem := List.mem_of_getElem? hy
    refine ⟨by omega, by omega, by omega, rd_lk (hA.ext hx) hy fun p o _ k1 k2 k3 => ⟨y.thing, by simpa using k1, y.txn, by simpa using k2, y.share, by simpa using k3, hf, hg y hmem _ _ hx fun H9 hx9 => ⟨_, rfl, cndI (fun h => ?_) (fun h => ?_)⟩⟩⟩
    · have h := of_decide_eq_true h
      have e : IntKind.i64.wrap ((md : Int) + 1) = ((md + 1 : Nat) : Int) := by rw [wrap_id (by omega) (by omega)]; omega
      rw [e]
      exact hJ _ _ _ (by omega) (by omega) hj (hx.trans hx9) (fun k x hk hxk => hm k _ x y (by omega) hxk hy h) h2
    · have h := of_decide_eq_false h
      refine hJ _ _ _ (by omega) (by omega) (by omega) (hx.trans hx9) h1 (fun k x hk hxk => ?_)
      refine Classical.byContradiction fun hn => h (hm _ k y x hk hy hxk (by omega))
  · obtain rfl : i = j := by omega
    refine cndF (by simp) ?_
    have hp : posL cmp l = i := posL_eq hj h1 h2
    unfold isAtL at hq
    rw [hp] at hq
    refine jn_intro (fun J => ∀ H', Ext H H' → J (atZ cmp l[i]?) H') (fun H' hx' => hq H' hx') fun J' hJ' => ?_
    by_cases hi : i < l.length
    · obtain ⟨y, hy⟩ := get_of hi
      rw [hy] at hJ'
      refine cndT (by simpa using hi) ⟨by omega, by omega, rd_lk (hA.ext hx) hy fun p o _ k1 k2 k3 => ⟨y.thing, by simpa using k1, y.txn, by simpa using k2, y.share, by simpa using k3, hf, hg y (List.mem_of_getElem? hy) _ _ hx fun H9 hx9 => ⟨_, rfl, ?_⟩⟩⟩
      have := hJ' _ (hx.trans hx9)
      exact this
    · have hn : l[i]? = none := List.getElem?_eq_none (by omega)
      rw [hn] at hJ'
      exact cndF (by simp; omega) (hJ' _ hx)
end
end Go.Proofs.Ytkbancdmhcnhjaa.Hw
