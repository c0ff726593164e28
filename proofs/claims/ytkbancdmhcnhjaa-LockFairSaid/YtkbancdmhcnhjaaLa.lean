/- Locks: what is read. Readers of slices, strings, small functions. -/
import Derived.Test.YtkbancdmhcnhjaaHwMem
import Derived.Test.YtkbancdmhcnhjaaHwFa
import Derived.Test.YtkbancdmhcnhjaaHwFb
import Derived.Test.YtkbancdmhcnhjaaHwFc
import Derived.Laws.Strings
import Derived.Sort.Walk0
set_option linter.unusedVariables false
set_option linter.unusedSimpArgs false
namespace Go.Proofs.Ytkbancdmhcnhjaa.Hw
open Go Go.Proofs
/-- A lock, a wait: as the program has them. -/
structure Lk where
  thing : ByteArray
  txn : Int
  share : Bool
  deriving DecidableEq
structure Wt where
  txn : Int
  thing : ByteArray
  share : Bool
  deriving DecidableEq
structure LK where
  held : List Lk
  waits : List Wt
  inner : List (Int × Int)
  deriving DecidableEq
def lkC (x : Lk) : List Value := [.string x.thing, .int .i64 x.txn, .bool x.share]
def wtC (x : Wt) : List Value := [.int .i64 x.txn, .string x.thing, .bool x.share]
def prC (x : Int × Int) : List Value := [.int .i64 x.1, .int .i64 x.2]
def inC (x : Int) : List Value := [.int .i64 x]
def big : Nat := 1000000000000
def huge : Nat := 140737488355329
/-- Elements in a slice. -/
structure SlAt {α : Type} (f : α → List Value) (H : Hp) (A : Option Addr) (n : Nat) (l : List α) : Prop where
  len : n = l.length
  cells : cellsAt H A (l.flatMap f)
  small : l.length < huge
theorem SlAt.ext {α : Type} {f : α → List Value} {H H' : Hp} {A : Option Addr} {n : Nat} {l : List α} (h : SlAt f H A n l) (hx : Ext H H') : SlAt f H' A n l := ⟨h.len, cellsAt_ext hx h.cells, h.small⟩
theorem SlAt.lt {α : Type} {f : α → List Value} {H : Hp} {A : Option Addr} {n : Nat} {l : List α} (h : SlAt f H A n l) : l.length < 4611686018427387904 := by have := h.small; unfold huge at this; omega
theorem rd3 {α : Type} {f : α → List Value} {a b c : α → Value} (hf : ∀ x, f x = [a x, b x, c x]) {H : Hp} {A : Option Addr} {n : Nat} {l : List α} {i : Nat} {x : α} (h : SlAt f H A n l) (hi : l[i]? = some x) {K : Nat → Nat → Prop}
    (hk : ∀ p o, A = some ⟨p, o, none⟩ → cl H p (o + i * 3) = some (a x) → cl H p (o + i * 3 + 1) = some (b x) → cl H p (o + i * 3 + 1 + 1) = some (c x) → K p o) : onPtr A K := by
  have hlen : ∀ x ∈ l, (f x).length = 3 := fun x _ => by rw [hf]; rfl
  have hne : l ≠ [] := fun e => by subst e; simp at hi
  refine at_cells h.cells (flat_ne hlen (by omega) hne) fun p o hA hc => hk p o hA ?_ ?_ ?_
  · have := hc (i * 3 + 0) _ ((flat_get hlen hi (by omega)).trans (by rw [hf]; rfl)); exact this
  · have := hc (i * 3 + 1) _ ((flat_get hlen hi (by omega)).trans (by rw [hf]; rfl)); exact this
  · have := hc (i * 3 + 2) _ ((flat_get hlen hi (by omega)).trans (by rw [hf]; rfl)); exact this
theorem rd_lk {H : Hp} {A : Option Addr} {n : Nat} {l : List Lk} {i : Nat} {x : Lk} (h : SlAt lkC H A n l) (hi : l[i]? = some x) {K : Nat → Nat → Prop}
    (hk : ∀ p o, A = some ⟨p, o, none⟩ → cl H p (o + i * 3) = some (.string x.thing) → cl H p (o + i * 3 + 1) = some (.int .i64 x.txn) → cl H p (o + i * 3 + 1 + 1) = some (.bool x.share) → K p o) : onPtr A K :=
  rd3 (fun _ => rfl) h hi hk
theorem rd_wt {H : Hp} {A : Option Addr} {n : Nat} {l : List Wt} {i : Nat} {x : Wt} (h : SlAt wtC H A n l) (hi : l[i]? = some x) {K : Nat → Nat → Prop}
    (hk : ∀ p o, A = some ⟨p, o, none⟩ → cl H p (o + i * 3) = some (.int .i64 x.txn) → cl H p (o + i * 3 + 1) = some (.string x.thing) → cl H p (o + i * 3 + 1 + 1) = some (.bool x.share) → K p o) : onPtr A K :=
  rd3 (fun _ => rfl) h hi hk
theorem rd_pr {H : Hp} {A : Option Addr} {n : Nat} {l : List (Int × Int)} {i : Nat} {x : Int × Int} (h : SlAt prC H A n l) (hi : l[i]? = some x) {K : Nat → Nat → Prop}
    (hk : ∀ p o, A = some ⟨p, o, none⟩ → cl H p (o + i * 2) = some (.int .i64 x.1) → cl H p (o + i * 2 + 1) = some (.int .i64 x.2) → K p o) : onPtr A K := by
  have hlen : ∀ x ∈ l, (prC x).length = 2 := fun x _ => rfl
  have hne : l ≠ [] := fun e => by subst e; simp at hi
  refine at_cells h.cells (flat_ne hlen (by omega) hne) fun p o hA hc => hk p o hA ?_ ?_
  · have := hc (i * 2 + 0) _ (flat_get hlen hi (by omega)); exact this
  · have := hc (i * 2 + 1) _ (flat_get hlen hi (by omega)); exact this
theorem rd_in {H : Hp} {A : Option Addr} {n : Nat} {l : List Int} {i : Nat} {x : Int} (h : SlAt inC H A n l) (hi : l[i]? = some x) {K : Nat → Nat → Prop}
    (hk : ∀ p o, A = some ⟨p, o, none⟩ → cl H p (o + i) = some (.int .i64 x) → K p o) : onPtr A K := by
  have hlen : ∀ x ∈ l, (inC x).length = 1 := fun x _ => rfl
  have hne : l ≠ [] := fun e => by subst e; simp at hi
  refine at_cells h.cells (flat_ne hlen (by omega) hne) fun p o hA hc => hk p o hA ?_
  have := hc (i * 1 + 0) _ (flat_get hlen hi (by omega))
  rw [Nat.mul_one, Nat.add_zero] at this
  exact this
theorem fnOk (f : Nat) {ts : List Nat} (h : look f tR = some ts) : FnOk Try.prog f := chkR_ok tR_ok f ts h
theorem any_take_succ {α : Type} {g : α → Bool} {l : List α} {i : Nat} {x : α} (hx : l[i]? = some x) : (l.take (i + 1)).any g = ((l.take i).any g || g x) := by
  rw [List.take_add_one, hx]; simp
theorem any_hit {α : Type} {g : α → Bool} {l : List α} {i : Nat} {x : α} (hx : l[i]? = some x) (hg : g x = true) : l.any g = true :=
  List.any_eq_true.2 ⟨x, List.mem_of_getElem? hx, hg⟩
theorem any_done {α : Type} {g : α → Bool} {l : List α} (h : (l.take l.length).any g = false) : l.any g = false := by
  rwa [List.take_length] at h
theorem all_take_succ {α : Type} {g : α → Bool} {l : List α} {i : Nat} {x : α} (hx : l[i]? = some x) : (l.take (i + 1)).all g = ((l.take i).all g && g x) := by
  rw [List.take_add_one, hx]; simp
theorem all_miss {α : Type} {g : α → Bool} {l : List α} {i : Nat} {x : α} (hx : l[i]? = some x) (hg : g x = false) : l.all g = false := by
  cases h : l.all g with
  | false => rfl
  | true => have := List.all_eq_true.1 h x (List.mem_of_getElem? hx); rw [hg] at this; cases this
theorem get_of {α : Type} {l : List α} {i : Nat} (h : i < l.length) : ∃ x, l[i]? = some x := ⟨_, List.getElem?_eq_getElem h⟩
/-! ### strings -/
theorem str_eq {a b : ByteArray} : (a.toList == b.toList) = decide (a = b) := by
  by_cases h : a = b
  · subst h; simp
  · rw [decide_eq_false h, beq_eq_false_iff_ne]
    intro e
    rw [ByteArray.toList_eq, ByteArray.toList_eq] at e
    exact h (by cases a; cases b; simp only at e; congr 1; exact Array.ext' e)
def strL (a b : ByteArray) : Bool := Op.bytesLess a.toList b.toList
theorem strL_eq {a b : ByteArray} : strL a b = decide (a.toList < b.toList) := bytesLess_eq _ _
theorem strL_irrefl {a : ByteArray} : strL a a = false := by rw [strL_eq]; exact decide_eq_false (List.lt_irrefl _)
theorem strL_trans {a b c : ByteArray} (h1 : strL a b = true) (h2 : strL b c = true) : strL a c = true := by
  rw [strL_eq, decide_eq_true_eq] at *
  exact List.lt_trans h1 h2
theorem bl_total : ∀ {x y : List UInt8}, x ≠ y → Op.bytesLess x y = true ∨ Op.bytesLess y x = true
  | [], [], h => absurd rfl h
  | [], _ :: _, _ => .inl rfl
  | _ :: _, [], _ => .inr rfl
  | a :: x, b :: y, h => by
    by_cases hab : a = b
    · subst hab
      rcases bl_total (x := x) (y := y) (fun e => h (by rw [e])) with h' | h'
      · left; simp [Op.bytesLess, h']
      · right; simp [Op.bytesLess, h']
    · have : a < b ∨ b < a := by
        rcases UInt8.lt_or_lt_of_ne hab with h' | h'
        · exact .inl h'
        · exact .inr h'
      rcases this with h' | h'
      · left; simp [Op.bytesLess, h']
      · right; simp [Op.bytesLess, h']
theorem toList_inj {a b : ByteArray} (h : a.toList = b.toList) : a = b := by
  have := str_eq (a := a) (b := b)
  rw [h] at this
  simpa using this.symm
theorem strL_total {a b : ByteArray} (h : a ≠ b) : strL a b = true ∨ strL b a = true := bl_total (fun e => h (toList_inj e))
theorem strL_asymm {a b : ByteArray} (h : strL a b = true) : strL b a = false := by
  cases hb : strL b a with
  | false => rfl
  | true => have := strL_trans h hb; rw [strL_irrefl] at this; cases this

section
variable {H : Hp} {Q : Value → Hp → Prop}
/-! ### small functions -/
def numB (n : Int) : Bool := decide (1 ≤ n) && decide (n ≤ 1099511627776)
theorem c26 {n : Int} (hq : Q (.bool (numB n)) H) : HCalls Try.prog 26 [.int .i64 n] H Q := by
  refine f26.ok _ ?_
  unfold f26 jn
  unfold numB at hq
  refine cndI (fun h => ?_) (fun h => ?_)
  · rw [show decide (1 ≤ n) = true from h, Bool.true_and] at hq; exact hq
  · rw [show decide (1 ≤ n) = false from h, Bool.false_and] at hq; exact hq
def byteOk (c : UInt8) : Bool := decide (33 ≤ c.toNat) && decide (c.toNat ≤ 126)
def thingB (s : ByteArray) : Bool := s.data.toList.all byteOk && (decide (1 ≤ s.size) && decide (s.size ≤ 100))
theorem bAt_get {s : ByteArray} {i : Nat} {c : UInt8} (h : s.data.toList[i]? = some c) : bAt s (i : Int) = c.toNat := by
  unfold bAt
  rw [Int.toNat_natCast, List.getD_eq_getElem?_getD, h]; rfl
theorem size_len {s : ByteArray} : s.size = s.data.toList.length := by rw [Array.length_toList]; rfl
theorem c25 {s : ByteArray} (hb : s.size < 4611686018427387904) (hq : Q (.bool (thingB s)) H) : HCalls Try.prog 25 [.string s] H Q := by
  refine f25.ok _ ?_
  unfold f25 jn
  unfold thingB at hq
  have hs : (s.toList == ({ data := #[] } : ByteArray).toList) = decide (s.data.toList.length = 0) := by
    rw [str_eq]
    congr 1
    apply propext
    constructor
    · rintro rfl; rfl
    · intro h; cases s; simp at h; simp [h]
  rw [hs]
  rw [size_len] at hb
  rw [size_len] at hq ⊢
  refine scan hb (fun i H' => H' = H ∧ (s.data.toList.take i).all byteOk = true) ⟨rfl, by simp⟩ ?_ ?_
  · rintro i H next hi ⟨rfl, hI⟩ hnext
    obtain ⟨x, hx⟩ := get_of hi
    dsimp only
    rw [bAt_get hx]
    have bad : byteOk x = false → Q (.bool false) H := fun hx' => by rw [all_miss hx hx', Bool.false_and] at hq; exact hq
    refine cndT (by simpa using hi) ⟨by simp, by simpa using hi, cndI (fun h1 => cndT rfl (bad ?_)) (fun h1 => ⟨by simp, by simpa using hi, cndI (fun h2 => bad ?_) (fun h2 => ⟨rfl, hnext _ ⟨rfl, ?_⟩⟩)⟩)⟩
    · have h1 := of_decide_eq_true h1
      unfold byteOk; rw [decide_eq_false (by omega), Bool.false_and]
    · have h2 := of_decide_eq_true h2
      unfold byteOk; rw [show decide (x.toNat ≤ 126) = false from decide_eq_false (by omega), Bool.and_false]
    · have h1 := of_decide_eq_false h1
      have h2 := of_decide_eq_false h2
      rw [all_take_succ hx, hI]; unfold byteOk
      rw [decide_eq_true (by omega), decide_eq_true (by omega)]; rfl
  · rintro H next ⟨rfl, hI⟩
    rw [List.take_length] at hI
    rw [hI, Bool.true_and] at hq
    refine cndF (by simp) (cndI (fun h => ?_) (fun h => ?_))
    · have h : s.data.toList.length ≠ 0 := by simpa using h
      rw [show decide (1 ≤ s.data.toList.length) = true from decide_eq_true (by omega), Bool.true_and] at hq
      have e : decide (((s.data.toList.length : Nat) : Int) ≤ 100) = decide (s.data.toList.length ≤ 100) := by congr 1; apply propext; omega
      rw [e]; exact hq
    · have h : s.data.toList.length = 0 := by simpa using h
      rw [show decide (1 ≤ s.data.toList.length) = false from decide_eq_false (by omega), Bool.false_and] at hq; exact hq
def clashM (h : Lk) (txn : Int) (thing : ByteArray) (share : Bool) : Bool := decide (h.thing = thing) && (decide (h.txn ≠ txn) && !(h.share && share))
theorem c47 {a b : Lk} (hq : Q (.bool (clashM a b.txn b.thing b.share)) H) : HCalls Try.prog 47 [.agg #[.string a.thing, .int .i64 a.txn, .bool a.share], .agg #[.string b.thing, .int .i64 b.txn, .bool b.share]] H Q := by
  refine f47.ok _ _ _ _ _ _ ?_
  unfold f47 jn
  rw [str_eq]
  unfold clashM at hq
  refine cndI (fun h1 => cndI (fun h2 => cndI (fun h3 => ?_) (fun h3 => ?_)) (fun h2 => ?_)) (fun h1 => ?_)
  · rw [h1, show decide (a.txn ≠ b.txn) = true by simpa using h2, h3] at hq; simpa using hq
  · rw [h1, show decide (a.txn ≠ b.txn) = true by simpa using h2, h3] at hq; simpa using hq
  · rw [show decide (a.txn ≠ b.txn) = false by simpa using h2] at hq; simpa using hq
  · rw [h1] at hq; simpa using hq
def lockOf (w : Wt) : Lk := ⟨w.thing, w.txn, w.share⟩
theorem c48 {w : Wt} (hq : Q (.agg #[.string w.thing, .int .i64 w.txn, .bool w.share]) H) : HCalls Try.prog 48 [.agg #[.int .i64 w.txn, .string w.thing, .bool w.share]] H Q := by
  refine f48.ok _ _ _ ?_
  unfold f48
  exact hq
theorem c20 {A B : Option Addr} {n c m d : Nat} {l r : List Int} (hA : SlAt inC H A n l) (hB : SlAt inC H B m r) (hq : Q (.bool (decide (l = r))) H) : HCalls Try.prog 20 [.slice A n c, .slice B m d] H Q := by
  refine f20.ok _ _ _ _ _ _ ?_
  unfold f20
  obtain rfl := hA.len
  obtain rfl := hB.len
  have no : l ≠ r → Q (.bool false) H := fun h => by rw [decide_eq_false h] at hq; exact hq
  refine cndI (fun h => no (fun e => by subst e; simp at h)) (fun h => ?_)
  have hl : l.length = r.length := by
    have : (l.length : Int) = (r.length : Int) := by simpa using h
    omega
  refine scan hA.lt (fun i H' => H' = H ∧ l.take i = r.take i) ⟨rfl, by simp⟩ ?_ ?_
  · rintro i H next hi ⟨rfl, hI⟩ hnext
    obtain ⟨x, hx⟩ := get_of hi
    obtain ⟨y, hy⟩ := get_of (hl ▸ hi)
    refine cndT (by simpa using hi) ⟨by simp, by simpa using hi, rd_in hA hx fun b o _ hc => ⟨x, by simpa using hc, by simp, by simp; omega, rd_in hB hy fun b o _ hc => ⟨y, by simpa using hc, cndI (fun h => no (fun e => ?_)) (fun h => ⟨rfl, hnext _ ⟨rfl, ?_⟩⟩)⟩⟩⟩
    · subst e; rw [hx] at hy; cases hy; simp at h
    · rw [List.take_add_one, List.take_add_one, hI, hx, hy]; simp at h; rw [h]
  · rintro H next ⟨rfl, hI⟩
    rw [List.take_length, hl, List.take_length] at hI
    rw [decide_eq_true hI] at hq
    exact cndF (by simp) hq
end
end Go.Proofs.Ytkbancdmhcnhjaa.Hw
