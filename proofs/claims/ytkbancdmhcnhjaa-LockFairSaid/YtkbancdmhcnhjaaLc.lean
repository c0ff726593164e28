/- Locks: what a sorted list of locks holds; mine, on; small loops. -/
import Derived.Test.YtkbancdmhcnhjaaLb
set_option linter.unusedVariables false
set_option linter.unusedSimpArgs false
namespace Go.Proofs.Ytkbancdmhcnhjaa.Hw
open Go Go.Proofs
section
variable {H : Hp} {Q : Value → Hp → Prop}
theorem c69 {A : Option Addr} {n c : Nat} {l : List Lk} {t : ByteArray} {f : Nat} {fa fc : Array Value} {cmp : Lk → Int} (hA : SlAt lkC H A n l) (hf : FnOk Try.prog f) (hm : Mono cmp l)
    (hg : ∀ x ∈ l, ∀ (H' : Hp) (Q : Value → Hp → Prop), Ext H H' → (∀ H2, Ext H' H2 → Q (.int .i64 (cmp x)) H2) → HCalls Try.prog f (fa.toList ++ [.agg #[.string x.thing, .int .i64 x.txn, .bool x.share], .string t] ++ fc.toList) H' Q)
    (hq : ∀ H', Ext H H' → Q (.tuple #[.int .i64 (posL cmp l : Nat), .bool (isAtL cmp l)]) H') : HCalls Try.prog 69 [.slice A n c, .string t, .func (.func f) fa fc] H Q := by
  refine f69.ok _ _ _ _ _ _ _ ?_
  unfold f69
  obtain rfl := hA.len
  have hlt := hA.small
  unfold huge at hlt
  refine ⟨fun m s H' => ∃ i j : Nat, s = (((i : Int), ((j : Int), ())), ()) ∧ m = j - i ∧ i ≤ j ∧ j ≤ l.length ∧ Ext H H' ∧ (∀ k x, k < i → l[k]? = some x → cmp x < 0) ∧ (∀ k x, j ≤ k → l[k]? = some x → 0 ≤ cmp x),
    ⟨_, 0, l.length, rfl, rfl, by omega, by omega, Ext.refl H, fun k x h => by omega, fun k x h hx => by have := (List.getElem?_eq_some_iff.1 hx).1; omega⟩, ?_⟩
  rintro m s H2 ⟨i, j, rfl, rfl, hij, hj, hx, h1, h2⟩
  dsimp only
  refine jn_intro (fun J => ∀ (i' j' : Nat) H', j' - i' < j - i → i' ≤ j' → j' ≤ l.length → Ext H H' → (∀ k x, k < i' → l[k]? = some x → cmp x < 0) → (∀ k x, j' ≤ k → l[k]? = some x → 0 ≤ cmp x) → J (i' : Int) (j' : Int) H') ?_ fun J hJ => ?_
  · intro i' j' H' hd hle hjl hx' g1 g2
    exact ⟨rfl, _, hd, i', j', rfl, rfl, hle, hjl, hx', g1, g2⟩
  by_cases hlt' : i < j
  · refine cndT (by simpa using hlt') ?_
    rw [mid_eq (by omega)]
    have hmid : (i + j) / 2 < l.length := by omega
    have hm1 : i ≤ (i + j) / 2 := by omega
    have hm2 : (i + j) / 2 < j := by omega
    generalize (i + j) / 2 = md at hmid hm1 hm2
    obtain ⟨y, hy⟩ := get_of hmid
    have hmem := List.mem_of_getElem? hy
    refine ⟨by omega, by omega, by omega, rd_lk (hA.ext hx) hy fun p o _ k1 k2 k3 => ⟨y.thing, by simpa using k1, y.txn, by simpa using k2, y.share, by simpa using k3, hf, hg y hmem _ _ hx fun H9 hx9 => ⟨_, rfl, cndI (fun h => ?_) (fun h => ?_)⟩⟩⟩
    · have h := of_decide_eq_true h
      have e : IntKind.i64.wrap ((md : Int) + 1) = ((md + 1 : Nat) : Int) := by rw [wrap_id (by omega) (by omega)]; omega
      rw [e]
      exact hJ _ _ _ (by omega) (by omega) hj (hx.trans hx9) (fun k x hk hxk => hm k _ x y (by omega) hxk hy h) h2
    · have h := of_decide_eq_false h
      refine hJ _ _ _ (by omega) (by omega) (by omega) (hx.trans hx9) h1 (fun k x hk hxk => ?_)
      refine Classical.byContradiction fun hn => h (hm _ k y x hk hy hxk (by omega))
  · obtain rfl : i = j := by omega
    refine cndF (by simp) ?_
    have hp : posL cmp l = i := posL_eq hj h1 h2
    unfold isAtL at hq
    rw [hp] at hq
    refine jn_intro (fun J => ∀ H', Ext H H' → J (atZ cmp l[i]?) H') (fun H' hx' => hq H' hx') fun J' hJ' => ?_
    by_cases hi : i < l.length
    · obtain ⟨y, hy⟩ := get_of hi
      rw [hy] at hJ'
      refine cndT (by simpa using hi) ⟨by omega, by omega, rd_lk (hA.ext hx) hy fun p o _ k1 k2 k3 => ⟨y.thing, by simpa using k1, y.txn, by simpa using k2, y.share, by simpa using k3, hf, hg y (List.mem_of_getElem? hy) _ _ hx fun H9 hx9 => ⟨_, rfl, ?_⟩⟩⟩
      have := hJ' _ (hx.trans hx9)
      exact this
    · have hn : l[i]? = none := List.getElem?_eq_none (by omega)
      rw [hn] at hJ'
      exact cndF (by simp; omega) (hJ' _ hx)

/-! ### the order -/
theorem cmpS_lt {a b : ByteArray} : cmpS a b < 0 ↔ strL a b = true := by
  unfold cmpS
  by_cases h : strL a b = true
  · rw [if_pos h]; simp [h]
  · rw [if_neg h]
    by_cases h2 : a = b
    · rw [if_pos h2]; simp [h]
    · rw [if_neg h2]; simp [h]
theorem cmpS_eq {a b : ByteArray} : cmpS a b = 0 ↔ a = b := by
  unfold cmpS
  by_cases h : strL a b = true
  · rw [if_pos h]
    constructor
    · intro h'; cases h'
    · rintro rfl; rw [strL_irrefl] at h; cases h
  · rw [if_neg h]
    by_cases h2 : a = b
    · rw [if_pos h2]; simp [h2]
    · rw [if_neg h2]; simp [h2]
theorem cmpI_lt {a b : Int} : cmpI a b < 0 ↔ a < b := by
  unfold cmpI
  by_cases h : a < b
  · rw [if_pos h]; simp [h]
  · rw [if_neg h]
    by_cases h2 : a = b
    · rw [if_pos h2]; simp [h]
    · rw [if_neg h2]; simp [h]
theorem cmpI_eq {a b : Int} : cmpI a b = 0 ↔ a = b := by
  unfold cmpI
  by_cases h : a < b
  · rw [if_pos h]
    constructor
    · intro h'; cases h'
    · rintro rfl; omega
  · rw [if_neg h]
    by_cases h2 : a = b
    · rw [if_pos h2]; simp [h2]
    · rw [if_neg h2]; simp [h2]
theorem ordL_lt {a : Lk} {t : ByteArray} {n : Int} : ordL a t n < 0 ↔ strL a.thing t = true ∨ (a.thing = t ∧ a.txn < n) := by
  unfold ordL
  by_cases h : a.thing = t
  · rw [if_neg (by simpa using cmpS_eq.2 h), cmpI_lt]
    constructor
    · intro h'; exact .inr ⟨h, h'⟩
    · rintro (h' | h')
      · rw [h, strL_irrefl] at h'; cases h'
      · exact h'.2
  · rw [if_pos (by rw [ne_eq, cmpS_eq]; exact h), cmpS_lt]
    constructor
    · exact .inl
    · rintro (h' | h')
      · exact h'
      · exact absurd h'.1 h
theorem ordL_eq {a : Lk} {t : ByteArray} {n : Int} : ordL a t n = 0 ↔ a.thing = t ∧ a.txn = n := by
  unfold ordL
  by_cases h : a.thing = t
  · rw [if_neg (by simpa using cmpS_eq.2 h), cmpI_eq]
    exact ⟨fun h' => ⟨h, h'⟩, fun h' => h'.2⟩
  · rw [if_pos (by rw [ne_eq, cmpS_eq]; exact h), cmpS_eq]
    exact ⟨fun h' => absurd h' h, fun h' => h'.1⟩
def ltL (a b : Lk) : Prop := ordL a b.thing b.txn < 0
theorem ltL_trans {a b : Lk} {t : ByteArray} {n : Int} (h1 : ltL a b) (h2 : ordL b t n < 0) : ordL a t n < 0 := by
  unfold ltL at h1
  rw [ordL_lt] at *
  rcases h1 with h1 | ⟨h1, h1'⟩ <;> rcases h2 with h2 | ⟨h2, h2'⟩
  · exact .inl (strL_trans h1 h2)
  · exact .inl (h2 ▸ h1)
  · exact .inl (h1 ▸ h2)
  · exact .inr ⟨h1.trans h2, by omega⟩
theorem ltL_irrefl {a : Lk} : ¬ ltL a a := by
  unfold ltL
  rw [ordL_lt, strL_irrefl]
  simp
/-- Rising without doubles. -/
def Rising (l : List Lk) : Prop := ∀ (i j : Nat) x y, i < j → l[i]? = some x → l[j]? = some y → ltL x y
theorem Rising.mono {l : List Lk} (h : Rising l) {t : ByteArray} {n : Int} : Mono (fun x => ordL x t n) l := fun i j x y hij hx hy hlt => by
  by_cases e : i = j
  · subst e; rw [hx] at hy; cases hy; exact hlt
  · exact ltL_trans (h i j x y (by omega) hx hy) hlt
theorem Rising.monoS {l : List Lk} (h : Rising l) {t : ByteArray} : Mono (fun x : Lk => cmpS x.thing t) l := fun i j x y hij hx hy hlt => by
  by_cases e : i = j
  · subst e; rw [hx] at hy; cases hy; exact hlt
  · have := h i j x y (by omega) hx hy
    unfold ltL at this
    rw [ordL_lt] at this
    dsimp only at hlt ⊢
    rw [cmpS_lt] at hlt ⊢
    rcases this with h1 | ⟨h1, _⟩
    · exact strL_trans h1 hlt
    · rw [h1]; exact hlt
theorem posL_spec {α : Type} {cmp : α → Int} {l : List α} (hm : Mono cmp l) : posL cmp l ≤ l.length ∧ (∀ k x, k < posL cmp l → l[k]? = some x → cmp x < 0) ∧ ∀ k x, posL cmp l ≤ k → l[k]? = some x → 0 ≤ cmp x := by
  have hsplit : l = l.takeWhile (fun x => decide (cmp x < 0)) ++ l.dropWhile (fun x => decide (cmp x < 0)) := (List.takeWhile_append_dropWhile).symm
  have hlen : posL cmp l ≤ l.length := by
    unfold posL
    conv => rhs; rw [hsplit]
    rw [List.length_append]; omega
  have h1 : ∀ k x, k < posL cmp l → l[k]? = some x → cmp x < 0 := fun k x hk hx => by
    rw [hsplit, List.getElem?_append_left hk] at hx
    have := List.all_takeWhile (l := l) (p := fun x => decide (cmp x < 0))
    exact of_decide_eq_true (List.all_eq_true.1 this x (List.mem_of_getElem? hx))
  refine ⟨hlen, h1, fun k x hk hx => Classical.byContradiction fun hn => ?_⟩
  have hlt : posL cmp l < l.length := by have := (List.getElem?_eq_some_iff.1 hx).1; omega
  obtain ⟨y, hy⟩ := get_of hlt
  have hyl := hm _ k y x hk hy hx (by omega)
  have hd : (l.dropWhile (fun x => decide (cmp x < 0)))[0]? = some y := by
    have hy' : (l.takeWhile (fun x => decide (cmp x < 0)) ++ l.dropWhile (fun x => decide (cmp x < 0)))[(l.takeWhile (fun x => decide (cmp x < 0))).length]? = some y := by
      rw [List.takeWhile_append_dropWhile]; exact hy
    rw [List.getElem?_append_right (Nat.le_refl _), Nat.sub_self] at hy'
    exact hy'
  cases hdw : l.dropWhile (fun x => decide (cmp x < 0)) with
  | nil => rw [hdw] at hd; cases hd
  | cons z r =>
    rw [hdw] at hd
    simp only [List.getElem?_cons_zero, Option.some.injEq] at hd
    subst hd
    have := List.head?_dropWhile_not (p := fun x => decide (cmp x < 0)) l
    rw [hdw] at this
    simp at this
    omega
/-! ### the lock of a transaction -/
def isMine (txn : Int) (thing : ByteArray) (h : Lk) : Bool := decide (h.txn = txn) && decide (h.thing = thing)
def heldM (l : List Lk) (txn : Int) (thing : ByteArray) : Option Lk := l.find? (isMine txn thing)
theorem find_hit {α : Type} {g : α → Bool} : ∀ {l : List α} {i : Nat} {x : α}, (l.take i).any g = false → l[i]? = some x → g x = true → l.find? g = some x
  | [], i, x, _, h, _ => by simp at h
  | a :: r, 0, x, _, h, hg => by
    simp at h; subst h
    rw [List.find?_cons, hg]
  | a :: r, i + 1, x, h, hx, hg => by
    simp only [List.take_succ_cons, List.any_cons, Bool.or_eq_false_iff] at h
    rw [List.find?_cons, h.1]
    exact find_hit (l := r) (i := i) h.2 (by simpa using hx) hg
theorem find_miss {α : Type} {g : α → Bool} {l : List α} (h : l.any g = false) : l.find? g = none := by
  rw [List.find?_eq_none]
  intro x hx hg
  have := List.any_eq_true.2 ⟨x, hx, hg⟩
  rw [h] at this; cases this
def zeroLk : Lk := ⟨ByteArray.empty, 0, false⟩
theorem held_rising {l : List Lk} (h : Rising l) {txn : Int} {thing : ByteArray} : (isAtL (fun x => ordL x thing txn) l = true → ∃ x, l[posL (fun x => ordL x thing txn) l]? = some x ∧ heldM l txn thing = some x) ∧ (isAtL (fun x => ordL x thing txn) l = false → heldM l txn thing = none) := by
  obtain ⟨h1, h2, h3⟩ := posL_spec (h.mono (t := thing) (n := txn))
  have hb : (l.take (posL (fun x => ordL x thing txn) l)).any (isMine txn thing) = false := by
    rw [List.any_eq_false]
    intro x hx
    obtain ⟨k, hk⟩ := List.getElem?_of_mem hx
    rw [List.getElem?_take] at hk
    split at hk
    · rename_i hkl
      have := h2 k x hkl hk
      unfold isMine
      intro hm
      simp only [Bool.and_eq_true, decide_eq_true_eq] at hm
      have e := ordL_eq.2 ⟨hm.2, hm.1⟩
      omega
    · cases hk
  unfold isAtL atZ
  constructor
  · intro hat
    split at hat
    · rename_i x hx
      have := ordL_eq.1 (of_decide_eq_true hat)
      exact ⟨x, hx, find_hit hb hx (by unfold isMine; simp [this])⟩
    · cases hat
  · intro hat
    refine find_miss ?_
    rw [List.any_eq_false]
    intro x hx hm
    obtain ⟨k, hk⟩ := List.getElem?_of_mem hx
    unfold isMine at hm
    simp only [Bool.and_eq_true, decide_eq_true_eq] at hm
    have e := ordL_eq.2 ⟨hm.2, hm.1⟩
    have hkp : posL (fun x => ordL x thing txn) l ≤ k := by
      refine Classical.byContradiction fun hn => ?_
      have := h2 k x (by omega) hk
      omega
    have hpl : posL (fun x => ordL x thing txn) l < l.length := by have := (List.getElem?_eq_some_iff.1 hk).1; omega
    obtain ⟨y, hy⟩ := get_of hpl
    rw [hy] at hat
    have hne := of_decide_eq_false hat
    have hge := h3 _ y (Nat.le_refl _) hy
    by_cases hke : posL (fun x => ordL x thing txn) l = k
    · rw [hke, hk] at hy; cases hy; exact hne e
    · have hlt := h _ k y x (by omega) hy hk
      unfold ltL at hlt
      rw [hm.2, hm.1] at hlt
      omega
/-- No thing is too long. -/
def StrOk (l : LK) : Prop := (∀ x ∈ l.held, x.thing.size < huge) ∧ ∀ w ∈ l.waits, w.thing.size < huge
/-- Locks in memory. -/
structure LocksAt (H : Hp) (A0 : Option Addr) (n0 c0 : Nat) (A1 : Option Addr) (n1 c1 : Nat) (A2 : Option Addr) (n2 c2 : Nat) (l : LK) : Prop where
  held : SlAt lkC H A0 n0 l.held
  waits : SlAt wtC H A1 n1 l.waits
  inner : SlAt prC H A2 n2 l.inner
  cap0 : n0 ≤ c0
  cap1 : n1 ≤ c1
  cap2 : n2 ≤ c2
  str : StrOk l
theorem LocksAt.ext {H H' : Hp} {A0 A1 A2 : Option Addr} {n0 c0 n1 c1 n2 c2 : Nat} {l : LK} (h : LocksAt H A0 n0 c0 A1 n1 c1 A2 n2 c2 l) (hx : Ext H H') : LocksAt H' A0 n0 c0 A1 n1 c1 A2 n2 c2 l := ⟨h.held.ext hx, h.waits.ext hx, h.inner.ext hx, h.cap0, h.cap1, h.cap2, h.str⟩
def lkV (o : Option Lk) : Value := .tuple #[.agg #[.string (o.getD zeroLk).thing, .int .i64 (o.getD zeroLk).txn, .bool (o.getD zeroLk).share], .bool o.isSome]
theorem c38 {A0 A1 A2 : Option Addr} {n0 c0 n1 c1 n2 c2 : Nat} {l : LK} {txn : Int} {thing : ByteArray} (hl : LocksAt H A0 n0 c0 A1 n1 c1 A2 n2 c2 l) (hr : Rising l.held) (hq : ∀ H', Ext H H' → Q (lkV (heldM l.held txn thing)) H') :
    HCalls Try.prog 38 [.agg #[.slice A0 n0 c0, .slice A1 n1 c1, .slice A2 n2 c2], .int .i64 txn, .string thing] H Q := by
  refine f38.ok _ _ _ _ _ _ _ _ _ _ _ ?_
  unfold f38
  refine c58 (t := ⟨thing, txn, false⟩) (cmp := fun x => ordL x thing txn) hl.held (fnOk 49 rfl) hr.mono (fun x _ H' Q' hx hq' => c49 (b := ⟨thing, txn, false⟩) hq') fun H2 hx2 => ⟨_, _, rfl, ?_⟩
  obtain ⟨h1, h2⟩ := held_rising hr (txn := txn) (thing := thing)
  refine cndI (fun hn => ?_) (fun hy => ?_)
  · have hn : isAtL (fun x => ordL x thing txn) l.held = false := by simpa using hn
    have := hq _ hx2
    rw [h2 hn] at this
    exact this
  · have hy : isAtL (fun x => ordL x thing txn) l.held = true := by simpa using hy
    obtain ⟨x, hx, he⟩ := h1 hy
    have hlt := (List.getElem?_eq_some_iff.1 hx).1
    have := hq _ hx2
    rw [he] at this
    obtain e := hl.held.len
    exact ⟨by omega, by omega, rd_lk (hl.held.ext hx2) hx fun p o _ k1 k2 k3 => ⟨x.thing, by simpa using k1, x.txn, by simpa using k2, x.share, by simpa using k3, this⟩⟩
/-! ### ContainsFunc -/
theorem c55 {A : Option Addr} {n c : Nat} {l : List (Int × Int)} {f : Nat} {fa fc : Array Value} {g : Int × Int → Bool} (hA : SlAt prC H A n l) (hf : FnOk Try.prog f)
    (hg : ∀ x ∈ l, ∀ Q : Value → Hp → Prop, Q (.bool (g x)) H → HCalls Try.prog f (fa.toList ++ [.agg #[.int .i64 x.1, .int .i64 x.2]] ++ fc.toList) H Q) (hq : ∀ r : Int, decide (r ≥ 0) = l.any g → Q (.int .i64 r) H) :
    HCalls Try.prog 55 [.slice A n c, .func (.func f) fa fc] H Q := by
  refine f55.ok _ _ _ _ _ _ ?_
  unfold f55
  obtain rfl := hA.len
  refine scan hA.lt (fun i H' => H' = H ∧ (l.take i).any g = false) ⟨rfl, by simp⟩ ?_ ?_
  · rintro i H next hi ⟨rfl, hI⟩ hnext
    obtain ⟨x, hx⟩ := get_of hi
    refine cndT (by simpa using hi) ⟨by simp, by simpa using hi, rd_pr hA hx fun b o _ hc hc2 => ⟨x.1, by simpa using hc, x.2, by simpa using hc2, hf, hg x (List.mem_of_getElem? hx) _ ⟨g x, rfl, cndI (fun h => ?_) (fun h => ⟨rfl, ?_⟩)⟩⟩⟩
    · exact hq _ (by rw [any_hit hx h]; simp)
    · exact hnext _ ⟨rfl, by rw [any_take_succ hx, hI, h]; rfl⟩
  · rintro H next ⟨rfl, hI⟩
    refine cndF (by simp) (hq _ ?_)
    rw [any_done hI]; rfl
theorem c36 {A : Option Addr} {n c : Nat} {l : List (Int × Int)} {f : Nat} {fa fc : Array Value} {g : Int × Int → Bool} (hA : SlAt prC H A n l) (hf : FnOk Try.prog f)
    (hg : ∀ x ∈ l, ∀ Q : Value → Hp → Prop, Q (.bool (g x)) H → HCalls Try.prog f (fa.toList ++ [.agg #[.int .i64 x.1, .int .i64 x.2]] ++ fc.toList) H Q) (hq : Q (.bool (l.any g)) H) : HCalls Try.prog 36 [.slice A n c, .func (.func f) fa fc] H Q := by
  refine f36.ok _ _ _ _ _ _ ?_
  unfold f36
  exact c55 hA hf hg fun r hr => ⟨r, rfl, by rw [hr]; exact hq⟩
theorem c54 {A : Option Addr} {n c : Nat} {l : List Wt} {f : Nat} {fa fc : Array Value} {g : Wt → Bool} (hA : SlAt wtC H A n l) (hf : FnOk Try.prog f)
    (hg : ∀ x ∈ l, ∀ Q : Value → Hp → Prop, Q (.bool (g x)) H → HCalls Try.prog f (fa.toList ++ [.agg #[.int .i64 x.txn, .string x.thing, .bool x.share]] ++ fc.toList) H Q) (hq : ∀ r : Int, decide (r ≥ 0) = l.any g → Q (.int .i64 r) H) :
    HCalls Try.prog 54 [.slice A n c, .func (.func f) fa fc] H Q := by
  refine f54.ok _ _ _ _ _ _ ?_
  unfold f54
  obtain rfl := hA.len
  refine scan hA.lt (fun i H' => H' = H ∧ (l.take i).any g = false) ⟨rfl, by simp⟩ ?_ ?_
  · rintro i H next hi ⟨rfl, hI⟩ hnext
    obtain ⟨x, hx⟩ := get_of hi
    refine cndT (by simpa using hi) ⟨by simp, by simpa using hi, rd_wt hA hx fun b o _ hc hc2 hc3 => ⟨x.txn, by simpa using hc, x.thing, by simpa using hc2, x.share, by simpa using hc3, hf, hg x (List.mem_of_getElem? hx) _ ⟨g x, rfl, cndI (fun h => ?_) (fun h => ⟨rfl, ?_⟩)⟩⟩⟩
    · exact hq _ (by rw [any_hit hx h]; simp)
    · exact hnext _ ⟨rfl, by rw [any_take_succ hx, hI, h]; rfl⟩
  · rintro H next ⟨rfl, hI⟩
    refine cndF (by simp) (hq _ ?_)
    rw [any_done hI]; rfl
theorem c56 {A : Option Addr} {n c : Nat} {l : List Wt} {f : Nat} {fa fc : Array Value} {g : Wt → Bool} (hA : SlAt wtC H A n l) (hf : FnOk Try.prog f)
    (hg : ∀ x ∈ l, ∀ Q : Value → Hp → Prop, Q (.bool (g x)) H → HCalls Try.prog f (fa.toList ++ [.agg #[.int .i64 x.txn, .string x.thing, .bool x.share]] ++ fc.toList) H Q) (hq : Q (.bool (l.any g)) H) : HCalls Try.prog 56 [.slice A n c, .func (.func f) fa fc] H Q := by
  refine f56.ok _ _ _ _ _ _ ?_
  unfold f56
  exact c54 hA hf hg fun r hr => ⟨r, rfl, by rw [hr]; exact hq⟩
theorem c53 {A : Option Addr} {n c : Nat} {l : List Lk} {f : Nat} {fa fc : Array Value} {g : Lk → Bool} (hA : SlAt lkC H A n l) (hf : FnOk Try.prog f)
    (hg : ∀ x ∈ l, ∀ Q : Value → Hp → Prop, Q (.bool (g x)) H → HCalls Try.prog f (fa.toList ++ [.agg #[.string x.thing, .int .i64 x.txn, .bool x.share]] ++ fc.toList) H Q) (hq : ∀ r : Int, decide (r ≥ 0) = l.any g → Q (.int .i64 r) H) :
    HCalls Try.prog 53 [.slice A n c, .func (.func f) fa fc] H Q := by
  refine f53.ok _ _ _ _ _ _ ?_
  unfold f53
  obtain rfl := hA.len
  refine scan hA.lt (fun i H' => H' = H ∧ (l.take i).any g = false) ⟨rfl, by simp⟩ ?_ ?_
  · rintro i H next hi ⟨rfl, hI⟩ hnext
    obtain ⟨x, hx⟩ := get_of hi
    refine cndT (by simpa using hi) ⟨by simp, by simpa using hi, rd_lk hA hx fun b o _ hc hc2 hc3 => ⟨x.thing, by simpa using hc, x.txn, by simpa using hc2, x.share, by simpa using hc3, hf, hg x (List.mem_of_getElem? hx) _ ⟨g x, rfl, cndI (fun h => ?_) (fun h => ⟨rfl, ?_⟩)⟩⟩⟩
    · exact hq _ (by rw [any_hit hx h]; simp)
    · exact hnext _ ⟨rfl, by rw [any_take_succ hx, hI, h]; rfl⟩
  · rintro H next ⟨rfl, hI⟩
    refine cndF (by simp) (hq _ ?_)
    rw [any_done hI]; rfl
theorem c60 {A : Option Addr} {n c : Nat} {l : List Lk} {f : Nat} {fa fc : Array Value} {g : Lk → Bool} (hA : SlAt lkC H A n l) (hf : FnOk Try.prog f)
    (hg : ∀ x ∈ l, ∀ Q : Value → Hp → Prop, Q (.bool (g x)) H → HCalls Try.prog f (fa.toList ++ [.agg #[.string x.thing, .int .i64 x.txn, .bool x.share]] ++ fc.toList) H Q) (hq : Q (.bool (l.any g)) H) : HCalls Try.prog 60 [.slice A n c, .func (.func f) fa fc] H Q := by
  refine f60.ok _ _ _ _ _ _ ?_
  unfold f60
  exact c53 hA hf hg fun r hr => ⟨r, rfl, by rw [hr]; exact hq⟩
end
end Go.Proofs.Ytkbancdmhcnhjaa.Hw
