/- Bb Sh Bc Bd HwFb Be (joined by merge.py) -/
import Derived.Test.YtmelbipidffmpaaGreatDoorTm3
import Derived.Shelf.GgClosure.StringsIndexFuncTop
import Derived.Shelf.SlSortCmp.NoneTotal
import Derived.Test.YtmelbipidffmpaaGreatDoorProg
import Derived.Shelf.Strings.FuncGrows
/- Values: valid ones, their order, of the program and of the document. -/
set_option linter.unusedVariables false
set_option linter.unusedSimpArgs false
set_option linter.unusedSectionVars false
set_option maxRecDepth 20000
namespace Go.Proofs.YtmelbipidffmpaaGreatDoor.Hw
open Go Go.Proofs
structure Vl where
  kind : Int
  num : Int
  txt : ByteArray
def vlC (v : Vl) : List Value := [.int .i64 v.kind, .int .i64 v.num, .string v.txt]
def vlA (v : Vl) : Value := .agg #[.int .i64 v.kind, .int .i64 v.num, .string v.txt]
theorem vlC_len (v : Vl) : (vlC v).length = 3 := rfl
theorem vlC_one (x : Vl) : ∀ v ∈ vlC x, v.oneCell' = true := fun v hv => by
  unfold vlC at hv
  simp only [List.mem_cons, List.not_mem_nil, or_false] at hv
  rcases hv with rfl | rfl | rfl <;> rfl
theorem rd_vl {H : Hp} {A : Option Addr} {n : Nat} {l : List Vl} {i : Nat} {x : Vl} (h : SlAt vlC H A n l) (hi : l[i]? = some x) {K : Nat → Nat → Prop}
    (hk : ∀ p o, A = some ⟨p, o, none⟩ → cl H p (o + i * 3) = some (.int .i64 x.kind) → cl H p (o + i * 3 + 1) = some (.int .i64 x.num) → cl H p (o + i * 3 + 1 + 1) = some (.string x.txt) → K p o) : onPtr A K := by
  have hlen : ∀ x ∈ l, (vlC x).length = 3 := fun x _ => rfl
  have hne : l ≠ [] := fun e => by subst e; simp at hi
  refine at_cells h.cells (flat_ne hlen (by omega) hne) fun p o hA hc => hk p o hA ?_ ?_ ?_
  · have := hc (i * 3 + 0) _ (flat_get hlen hi (by omega)); rw [Nat.add_zero] at this; exact this
  · have := hc (i * 3 + 1) _ (flat_get hlen hi (by omega)); rw [← Nat.add_assoc] at this; exact this
  · have := hc (i * 3 + 2) _ (flat_get hlen hi (by omega)); rw [← Nat.add_assoc] at this; exact this
/-! ### valid values -/
def noTx (s : ByteArray) : Bool := s.toList == ({ data := #[] } : ByteArray).toList
def numB (n : Int) : Bool := decide (n ≥ -1099511627776) && decide (n ≤ 1099511627776)
def byteB (b : Int) : Bool := !(decide (b < 32) || decide (b > 126))
def strB (s : ByteArray) : Bool := decide (s.size ≤ 200) && (List.range s.size).all fun i => byteB (bAt s i)
def validV (v : Vl) : Bool :=
  if v.kind == 0 then (v.num == 0) && noTx v.txt
  else if v.kind == 1 then noTx v.txt && numB v.num
  else if v.kind == 2 then (v.num == 0) && strB v.txt
  else if v.kind == 3 then noTx v.txt && (v.num == 0 || v.num == 1)
  else false
def validL (l : List Vl) : Bool := l.all validV
def idB (n : Int) : Bool := decide (n ≥ 1) && decide (n ≤ 1099511627776)
/-! ### the program's order -/
def lessS (a b : ByteArray) : Bool := Op.bytesLess a.toList b.toList
def cmpS (a b : ByteArray) : Int := if lessS a b then -1 else if a.toList == b.toList then 0 else 1
def ordV (a b : Vl) : Int := if a.kind == b.kind then orI (cmpI a.num b.num) (cmpS a.txt b.txt) else if a.kind == 0 then 1 else if b.kind == 0 then -1 else cmpI a.kind b.kind
def ordL : List Vl → List Vl → Int
  | [], [] => 0
  | [], _ :: _ => -1
  | _ :: _, [] => 1
  | a :: x, b :: y => if ordV a b != 0 then ordV a b else ordL x y
/-! ### the document's order -/
def sameV (a b : Vl) : Bool := (a.kind == b.kind) && ((a.num == b.num) && (a.txt.toList == b.txt.toList))
def lessR (a b : Vl) : Int := if (a.kind == 2 && lessS a.txt b.txt) || (a.kind != 2 && decide (a.num < b.num)) then -1 else if sameV a b then 0 else 1
def befR (a b : Vl) : Int := if a.kind == 0 && b.kind == 0 then 0 else if a.kind == 0 then 1 else if b.kind == 0 then -1 else lessR a b
def valR (a b : Vl) : Int := if a.kind == b.kind then (if validV a && validV b then befR a b else 0) else if a.kind == 0 || (b.kind != 0 && decide (a.kind > b.kind)) then 1 else -1
def keyR : List Vl → List Vl → Int
  | a :: x, b :: y => if valR a b != 0 then valR a b else keyR x y
  | _, _ => 0
theorem orL_two {a b : Int} : orL [a, b] = orI a b := by
  unfold orL orI
  by_cases h : a = 0
  · subst h
    by_cases h2 : b = 0
    · subst h2; rfl
    · have : (b != 0) = true := by simpa using h2
      simp [List.find?_cons, this]
  · have : (a != 0) = true := by simpa using h
    simp [List.find?_cons, this, h]
/-- What the program takes for nothing. -/
structure NullAt (H : Hp) : Prop where
  c0 : cl H 0 0 = some (.int .i64 0)
  c1 : cl H 0 1 = some (.int .i64 0)
  c2 : cl H 0 2 = some (.string { data := #[] })
theorem NullAt.ext {H H' : Hp} (h : NullAt H) (hx : Ext H H') : NullAt H' := ⟨cl_ext hx h.c0, cl_ext hx h.c1, cl_ext hx h.c2⟩
section
variable {H : Hp} {Q : Value → Hp → Prop}
theorem c118 {x : ByteArray} (hq : Q (.bool false) H) : HCalls Tryz.prog 118 [.string x] H Q := by
  refine f118.ok _ ?_
  unfold f118
  rw [show (x.toList == x.toList) = true from beq_iff_eq.2 rfl]; exact hq
theorem c94 {x y : ByteArray} (hq : Q (.int .i64 (cmpS x y)) H) : HCalls Tryz.prog 94 [.string x, .string y] H Q := by
  refine f94.ok _ _ ?_
  unfold f94
  unfold cmpS lessS at hq
  refine c118 ⟨false, rfl, c118 ⟨false, rfl, cndF rfl (cndF rfl (cndI (fun h => ?_) fun h => cndI (fun h2 => ?_) fun h2 => ?_))⟩⟩
  · rw [if_pos h] at hq; exact hq
  · rw [h] at h2 hq
    have : (x.toList == y.toList) = false := by simpa using h2
    rw [this] at hq
    simpa using hq
  · rw [h] at h2 hq
    have : (x.toList == y.toList) = true := by simpa using h2
    rw [this] at hq
    simpa using hq
theorem c92 {n : Int} (hq : Q (.bool (numB n)) H) : HCalls Tryz.prog 92 [.int .i64 n] H Q := by
  refine f92.ok _ ?_
  unfold f92 jn
  unfold numB at hq
  refine cndI (fun h => ?_) fun h => ?_
  · rw [h, Bool.true_and] at hq; exact hq
  · rw [h, Bool.false_and] at hq; exact hq
theorem c132 {n : Int} (hq : Q (.bool (numB n)) H) : HCalls Tryz.prog 132 [.int .i64 n] H Q := by
  refine f132.ok _ ?_
  unfold f132 jn
  unfold numB at hq
  refine cndI (fun h => ?_) fun h => ?_
  · rw [h, Bool.true_and] at hq; exact hq
  · rw [h, Bool.false_and] at hq; exact hq
theorem c75 {n : Int} (hq : Q (.bool (idB n)) H) : HCalls Tryz.prog 75 [.int .i64 n] H Q := by
  refine f75.ok _ ?_
  unfold f75 jn
  unfold idB at hq
  refine cndI (fun h => ?_) fun h => ?_
  · rw [h, Bool.true_and] at hq; exact hq
  · rw [h, Bool.false_and] at hq; exact hq
theorem c72 {a b : Vl} (hq : ∀ H', Ext H H' → Q (.int .i64 (ordV a b)) H') : HCalls Tryz.prog 72 [vlA a, vlA b] H Q := by
  refine f72.ok _ _ _ _ _ _ ?_
  unfold f72
  unfold ordV at hq
  refine cndI (fun h => ?_) fun h => ?_
  · rw [if_pos h] at hq
    refine c77 ⟨_, rfl, c94 ⟨_, rfl, fun g7 hg7 => ?_⟩⟩
    have s := fresh_sl (H := H) (g := g7) (ty := 3) (f := inC) (l := [cmpI a.num b.num, cmpS a.txt b.txt]) (vs := [Value.int .i64 (cmpI a.num b.num), .int .i64 (cmpS a.txt b.txt)]) rfl (by simp [huge])
    have x8 : Ext H (upd g7 (Obj.cells [Value.int .i64 (cmpI a.num b.num), .int .i64 (cmpS a.txt b.txt)].toArray 3 (0, 0)) H) := Ext.new hg7
    refine c76 s ⟨_, rfl, ?_⟩
    rw [orL_two]
    exact hq _ x8
  · rw [if_neg (by rw [h]; decide)] at hq
    refine cndI (fun h1 => ?_) fun h1 => ?_
    · rw [if_pos h1] at hq; exact hq H (Ext.refl _)
    · rw [if_neg (by rw [h1]; decide)] at hq
      refine cndI (fun h2 => ?_) fun h2 => ?_
      · rw [if_pos h2] at hq; exact hq H (Ext.refl _)
      · rw [if_neg (by rw [h2]; decide)] at hq
        exact c95 ⟨_, rfl, hq H (Ext.refl _)⟩
theorem ordL_drop {x y : List Vl} {i : Nat} {a b : Vl} (ha : x[i]? = some a) (hb : y[i]? = some b) : ordL (x.drop i) (y.drop i) = if ordV a b != 0 then ordV a b else ordL (x.drop (i + 1)) (y.drop (i + 1)) := by
  obtain ⟨h1, h2⟩ := List.getElem?_eq_some_iff.1 ha
  obtain ⟨h3, h4⟩ := List.getElem?_eq_some_iff.1 hb
  rw [List.drop_eq_getElem_cons h1, List.drop_eq_getElem_cons h3, h2, h4]; rfl
theorem keyR_drop {x y : List Vl} {i : Nat} {a b : Vl} (ha : x[i]? = some a) (hb : y[i]? = some b) : keyR (x.drop i) (y.drop i) = if valR a b != 0 then valR a b else keyR (x.drop (i + 1)) (y.drop (i + 1)) := by
  obtain ⟨h1, h2⟩ := List.getElem?_eq_some_iff.1 ha
  obtain ⟨h3, h4⟩ := List.getElem?_eq_some_iff.1 hb
  rw [List.drop_eq_getElem_cons h1, List.drop_eq_getElem_cons h3, h2, h4]; rfl
theorem c71 {A B : Option Addr} {n m ca cb : Nat} {x y : List Vl} (hA : SlAt vlC H A n x) (hB : SlAt vlC H B m y) (hq : ∀ H', Ext H H' → Q (.int .i64 (ordL x y)) H') : HCalls Tryz.prog 71 [.slice A n ca, .slice B m cb, .func (.func 72) #[] #[]] H Q := by
  refine f71.ok _ _ _ _ _ _ _ _ _ ?_
  unfold f71
  obtain rfl := hA.len
  obtain rfl := hB.len
  have hl1 := hA.lt
  have hl2 := hB.lt
  refine scan hl1 (fun i H' => Ext H H' ∧ i ≤ y.length ∧ ordL x y = ordL (x.drop i) (y.drop i)) ⟨Ext.refl _, Nat.zero_le _, rfl⟩ (fun i H2 next hi hI hnext => ?_) (fun H2 next hI => ?_)
  · obtain ⟨hx2, hiy, he⟩ := hI
    obtain ⟨a, ha⟩ := get_of hi
    dsimp only
    refine cndT (decide_eq_true (by omega)) ⟨by omega, by omega, rd_vl (hA.ext hx2) ha fun q o _ k1 k2 k3 => ⟨a.kind, by simpa using k1, a.num, by simpa using k2, a.txt, by simpa using k3, cndI (fun h => ?_) fun h => ?_⟩⟩
    · have h := of_decide_eq_true h
      have : i = y.length := by omega
      have hd : y.drop i = [] := by rw [this]; exact List.drop_length
      have hxd : x.drop i = a :: x.drop (i + 1) := by rw [List.drop_eq_getElem_cons hi, (List.getElem?_eq_some_iff.1 ha).2]
      rw [he, hd, hxd] at hq
      exact hq H2 hx2
    · have h := of_decide_eq_false h
      obtain ⟨b, hb⟩ := get_of (l := y) (i := i) (by omega)
      have hod := ordL_drop ha hb
      refine ⟨by omega, by omega, rd_vl (hB.ext hx2) hb fun q o _ k1 k2 k3 => ⟨b.kind, by simpa using k1, b.num, by simpa using k2, b.txt, by simpa using k3, fnOk 72 rfl, c72 (a := a) (b := b) fun H13 x13 => ⟨_, rfl, cndI (fun hne => ?_) fun he0 => ⟨rfl, hnext H13 ⟨hx2.trans x13, by omega, ?_⟩⟩⟩⟩⟩
      · rw [he, hod, if_pos hne] at hq
        exact hq H13 (hx2.trans x13)
      · rw [he, hod, if_neg (by rw [he0]; decide)]
  · obtain ⟨hx2, hiy, he⟩ := hI
    rw [List.drop_length] at he
    dsimp only
    refine cndF (decide_eq_false (by omega)) (cndI (fun h => ?_) fun h => ?_)
    · have h := of_decide_eq_true h
      obtain ⟨b, hb⟩ := get_of (l := y) (i := x.length) (by omega)
      rw [List.drop_eq_getElem_cons (by omega)] at he
      rw [he] at hq
      exact hq H2 hx2
    · have h := of_decide_eq_false h
      rw [show y.drop x.length = [] from List.drop_of_length_le (by omega)] at he
      rw [he] at hq
      exact hq H2 hx2
theorem c41 {A B : Option Addr} {n m ca cb : Nat} {x y : List Vl} (hA : SlAt vlC H A n x) (hB : SlAt vlC H B m y) (hq : ∀ H', Ext H H' → Q (.int .i64 (ordL x y)) H') : HCalls Tryz.prog 41 [.slice A n ca, .slice B m cb] H Q := by
  refine f41.ok _ _ _ _ _ _ ?_
  unfold f41
  exact c71 hA hB fun H' hx => ⟨_, rfl, hq H' hx⟩
/-! ### the document -/
theorem c133 {s : ByteArray} (hs : s.size < 4611686018427387904) (hq : Q (.bool (strB s)) H) : HCalls Tryz.prog 133 [.string s] H Q := by
  refine f133.ok _ ?_
  unfold f133
  refine scan hs (fun i H' => H' = H ∧ ∀ j, j < i → byteB (bAt s j) = true) ⟨rfl, fun j h => by omega⟩ (fun i H2 next hi hI hnext => ?_) (fun H2 next hI => ?_)
  · obtain ⟨rfl, hall⟩ := hI
    dsimp only
    refine cndT (decide_eq_true (by omega)) (jn_intro (fun J => ∀ b, b = !byteB (bAt s i) → J b) (fun b hb => cndI (fun h => ?_) fun h => ⟨rfl, hnext H2 ⟨rfl, fun j hj => ?_⟩⟩) fun J hJ => ⟨by omega, by omega, cndI (fun h => hJ _ ?_) fun h => ⟨by omega, by omega, hJ _ ?_⟩⟩)
    · have : strB s = false := by
        unfold strB
        cases hh : (List.range s.size).all fun i => byteB (bAt s i) with
        | false => rw [Bool.and_false]
        | true =>
          have := List.all_eq_true.1 hh i (List.mem_range.2 hi)
          rw [this, h] at hb; cases hb
      rw [this] at hq; exact hq
    · by_cases e : j = i
      · subst e; rw [h] at hb; exact not_f hb
      · exact hall j (by omega)
    · unfold byteB; rw [h]; rfl
    · unfold byteB; rw [h]; simp
  · obtain ⟨rfl, hall⟩ := hI
    dsimp only
    have : strB s = decide (((s.size : Nat) : Int) ≤ 200) := by
      unfold strB
      rw [List.all_eq_true.2 fun i hi => hall i (List.mem_range.1 hi), Bool.and_true]
      exact decide_eq_decide.2 (by omega)
    rw [this] at hq
    exact cndF (decide_eq_false (by omega)) hq
theorem c120 {v : Vl} (hs : v.txt.size < 4611686018427387904) (hq : Q (.bool (validV v)) H) : HCalls Tryz.prog 120 [vlA v] H Q := by
  refine f120.ok _ _ _ ?_
  unfold f120
  unfold validV noTx at hq
  refine cndI (fun h => ?_) fun h => ?_
  · rw [if_pos h] at hq
    refine jn_intro (fun J => J ((v.num == 0) && (v.txt.toList == ({ data := #[] } : ByteArray).toList))) hq fun J hJ => cndI (fun h1 => ?_) fun h1 => ?_
    · rw [h1, Bool.true_and] at hJ; exact hJ
    · rw [h1, Bool.false_and] at hJ; exact hJ
  rw [if_neg (by rw [h]; decide)] at hq
  refine cndI (fun h => ?_) fun h => ?_
  · rw [if_pos h] at hq
    refine jn_intro (fun J => J ((v.txt.toList == ({ data := #[] } : ByteArray).toList) && numB v.num) H) hq fun J hJ => c132 ⟨_, rfl, cndI (fun h1 => ?_) fun h1 => ?_⟩
    · rw [h1, Bool.and_true] at hJ; exact hJ
    · rw [h1, Bool.and_false] at hJ; exact hJ
  rw [if_neg (by rw [h]; decide)] at hq
  refine cndI (fun h => ?_) fun h => ?_
  · rw [if_pos h] at hq
    refine jn_intro (fun J => J ((v.num == 0) && strB v.txt) H) hq fun J hJ => cndI (fun h1 => c133 hs ⟨_, rfl, ?_⟩) fun h1 => ?_
    · rw [h1, Bool.true_and] at hJ; exact hJ
    · rw [h1, Bool.false_and] at hJ; exact hJ
  rw [if_neg (by rw [h]; decide)] at hq
  refine jn_intro (fun J => J (if v.kind == 3 then (v.txt.toList == ({ data := #[] } : ByteArray).toList) && (v.num == 0 || v.num == 1) else false)) hq fun J hJ => cndI (fun h => ?_) fun h => ?_
  · rw [if_pos h] at hJ
    refine cndI (fun h1 => ?_) fun h1 => cndI (fun h2 => ?_) fun h2 => ?_
    · rw [h1, Bool.true_or, Bool.and_true] at hJ; exact hJ
    · rw [h1, h2, Bool.or_true, Bool.and_true] at hJ; exact hJ
    · rw [h1, h2, Bool.or_false, Bool.and_false] at hJ; exact hJ
  · rw [if_neg (by rw [h]; decide)] at hJ; exact hJ
theorem c134 {a b : Vl} (hq : Q (.int .i64 (lessR a b)) H) : HCalls Tryz.prog 134 [vlA a, vlA b] H Q := by
  refine f134.ok _ _ _ _ _ _ ?_
  unfold f134
  unfold lessR at hq
  refine jn_intro (fun J => ∀ z, z = ((a.kind == 2 && lessS a.txt b.txt) || (a.kind != 2 && decide (a.num < b.num))) → J z) (fun z hz => cndI (fun h => ?_) fun h => ?_) fun J hJ => ?_
  · rw [← hz, if_pos h] at hq; exact hq
  · rw [← hz, if_neg (by rw [h]; decide)] at hq
    unfold sameV at hq
    refine cndI (fun h1 => ?_) fun h1 => ?_
    · rw [Bool.and_true] at h1; rw [if_pos h1] at hq; exact hq
    · rw [Bool.and_true] at h1; rw [if_neg (by rw [h1]; decide)] at hq; exact hq
  · unfold lessS at hJ
    refine cndI (fun h => cndI (fun h1 => hJ _ ?_) fun h1 => cndI (fun h2 => hJ _ ?_) fun h2 => hJ _ ?_) fun h => cndI (fun h2 => hJ _ ?_) fun h2 => hJ _ ?_
    · rw [h, h1]; rfl
    · rw [h, h1, h2]; rfl
    · rw [h, h1, h2]; rfl
    · rw [h, h2]; simp
    · rw [h, h2]; simp
theorem c121 {a b : Vl} (hq : Q (.int .i64 (befR a b)) H) : HCalls Tryz.prog 121 [vlA a, vlA b] H Q := by
  refine f121.ok _ _ _ _ _ _ ?_
  unfold f121
  unfold befR at hq
  refine jn_intro (fun J => ∀ z, z = (a.kind == 0 && b.kind == 0) → J z) (fun z hz => cndI (fun h => ?_) fun h => ?_) fun J hJ => cndI (fun h => hJ _ (by rw [h]; rfl)) fun h => hJ _ (by rw [h]; rfl)
  · rw [← hz, if_pos h] at hq; exact hq
  · rw [← hz, if_neg (by rw [h]; decide)] at hq
    refine cndI (fun h1 => ?_) fun h1 => ?_
    · rw [if_pos h1] at hq; exact hq
    · rw [if_neg (by rw [h1]; decide)] at hq
      refine cndI (fun h2 => ?_) fun h2 => ?_
      · rw [if_pos h2] at hq; exact hq
      · rw [if_neg (by rw [h2]; decide)] at hq
        exact c134 ⟨_, rfl, hq⟩
theorem c97 {a b : Vl} (ha : a.txt.size < 4611686018427387904) (hb : b.txt.size < 4611686018427387904) (hk : a.kind = b.kind) (hq : ∀ e, Q (.tuple #[.int .i64 (if validV a && validV b then befR a b else 0), .int .i64 e]) H) : HCalls Tryz.prog 97 [vlA a, vlA b] H Q := by
  refine f97.ok _ _ _ _ _ _ ?_
  unfold f97
  refine jn_intro (fun J => ∀ z, z = !(validV a && validV b) → J z H) (fun z hz => cndI (fun h => ?_) fun h => ?_) fun J hJ => c120 (v := a) ha ⟨_, rfl, cndI (fun h => hJ _ ?_) fun h => c120 (v := b) hb ⟨_, rfl, hJ _ ?_⟩⟩
  · rw [h] at hz
    rw [if_neg (by intro e; rw [e] at hz; cases hz)] at hq
    exact hq _
  · rw [h] at hz
    rw [if_pos (not_f hz)] at hq
    refine jn_intro (fun J => J false) (cndF rfl (c121 ⟨_, rfl, hq _⟩)) fun J hJ => cndI (fun h1 => cndI (fun h2 => ?_) fun h2 => hJ) fun h1 => hJ
    have : (a.kind != b.kind) = false := by simpa using hk
    rw [this]; exact hJ
  · have : validV a = false := by simpa using h
    rw [this]; rfl
  · have : validV a = true := by simpa using h
    rw [this]; simp
theorem c74 {a b : Vl} (ha : a.txt.size < 4611686018427387904) (hb : b.txt.size < 4611686018427387904) (hq : Q (.int .i64 (valR a b)) H) : HCalls Tryz.prog 74 [vlA a, vlA b] H Q := by
  refine f74.ok _ _ _ _ _ _ ?_
  unfold f74
  unfold valR at hq
  refine cndI (fun h => ?_) fun h => ?_
  · rw [if_pos h] at hq
    exact c97 ha hb (by simpa using h) fun e => ⟨_, _, rfl, hq⟩
  · rw [if_neg (by rw [h]; decide)] at hq
    refine jn_intro (fun J => ∀ z, z = (a.kind == 0 || (b.kind != 0 && decide (a.kind > b.kind))) → J z) (fun z hz => cndI (fun h => ?_) fun h => ?_) fun J hJ => cndI (fun h => hJ _ (by rw [h]; rfl)) fun h => cndI (fun h2 => hJ _ (by rw [h, h2]; rfl)) fun h2 => hJ _ (by rw [h, h2]; rfl)
    · rw [← hz, if_pos h] at hq; exact hq
    · rw [← hz, if_neg (by rw [h]; decide)] at hq; exact hq
end
end Go.Proofs.YtmelbipidffmpaaGreatDoor.Hw

/- strings.ContainsFunc and slices.SortFunc at entries: the kit's contracts, laid at this program (by the kit's own tool). -/
namespace Go.Proofs
open Go.Shelf Go.RowKit Go.Lib
def Tryz.laysGw17_ren : Go.Shelf.Ren := ⟨fun | 17 => 116 | 15 => 131 | 20 => 139 | n => n, fun | 9 => 9 | 23 => 149 | 4 => 4 | 3 => 3 | 0 => 0 | 21 => 21 | n => n, fun | n => n⟩
theorem Tryz.laysGw17 : Go.Proofs.LaysGw.n17 Tryz.prog Tryz.laysGw17_ren := {
  mixed := by kernel_rfl
  f15 := Tryz.func131.trans (congrArg some (by kernel_rfl))
  f17 := Tryz.func116.trans (congrArg some (by kernel_rfl))
  f20 := Tryz.func139.trans (congrArg some (by kernel_rfl))
  t0 := Tryz.underlying0
  a0 := Tryz.isAgg0
  z0 := Tryz.sizeOf0
  v0 := Tryz.zeroValue0
  i0 := by kernel_rfl
  t3 := Tryz.underlying3
  a3 := Tryz.isAgg3
  z3 := Tryz.sizeOf3
  v3 := Tryz.zeroValue3
  i3 := by kernel_rfl
  t4 := Tryz.underlying4
  a4 := Tryz.isAgg4
  z4 := Tryz.sizeOf4
  v4 := Tryz.zeroValue4
  i4 := by kernel_rfl
  t9 := Tryz.underlying9
  a9 := Tryz.isAgg9
  z9 := Tryz.sizeOf9
  v9 := Tryz.zeroValue9
  i9 := by kernel_rfl
  t21 := Tryz.underlying21
  a21 := Tryz.isAgg21
  z21 := Tryz.sizeOf21
  v21 := Tryz.zeroValue21
  i21 := by kernel_rfl
  t23 := Tryz.underlying149
  a23 := Tryz.isAgg149
  z23 := Tryz.sizeOf149
  v23 := Tryz.zeroValue149
  i23 := by kernel_rfl }
def Tryz.sortEnt_ren : Go.Shelf.Ren := ⟨fun | 6 => 63 | 15 => 88 | 14 => 87 | 28 => 114 | 29 => 115 | 20 => 106 | 21 => 107 | 22 => 108 | 23 => 109 | 24 => 110 | 25 => 111 | 26 => 112 | 27 => 113 | 46 => 126 | 47 => 127 | 48 => 128 | 49 => 129 | 50 => 130 | 57 => 138 | n => n, fun | 22 => 28 | 24 => 46 | 25 => 85 | 3 => 3 | 39 => 57 | 0 => 0 | 53 => 145 | 55 => 147 | 4 => 4 | 46 => 139 | 45 => 138 | 50 => 79 | 5 => 5 | 9 => 9 | 66 => 153 | 70 => 157 | 76 => 164 | 77 => 165 | n => n, fun | n => n⟩
theorem Tryz.sortEnt : Go.Proofs.SlLaysF0.n6 Tryz.prog Tryz.sortEnt_ren := {
  mixed := by kernel_rfl
  f6 := ⟨Tryz.f63.name, by decide, Tryz.func63.trans (congrArg some (by kernel_rfl))⟩
  f14 := ⟨Tryz.f87.name, by decide, Tryz.func87.trans (congrArg some (by kernel_rfl))⟩
  f15 := Tryz.func88.trans (congrArg some (by kernel_rfl))
  f20 := ⟨Tryz.f106.name, by decide, Tryz.func106.trans (congrArg some (by kernel_rfl))⟩
  f21 := ⟨Tryz.f107.name, by decide, Tryz.func107.trans (congrArg some (by kernel_rfl))⟩
  f22 := ⟨Tryz.f108.name, by decide, Tryz.func108.trans (congrArg some (by kernel_rfl))⟩
  f23 := ⟨Tryz.f109.name, by decide, Tryz.func109.trans (congrArg some (by kernel_rfl))⟩
  f24 := ⟨Tryz.f110.name, by decide, Tryz.func110.trans (congrArg some (by kernel_rfl))⟩
  f25 := ⟨Tryz.f111.name, by decide, Tryz.func111.trans (congrArg some (by kernel_rfl))⟩
  f26 := ⟨Tryz.f112.name, by decide, Tryz.func112.trans (congrArg some (by kernel_rfl))⟩
  f27 := ⟨Tryz.f113.name, by decide, Tryz.func113.trans (congrArg some (by kernel_rfl))⟩
  f28 := Tryz.func114.trans (congrArg some (by kernel_rfl))
  f29 := Tryz.func115.trans (congrArg some (by kernel_rfl))
  f46 := ⟨Tryz.f126.name, by decide, Tryz.func126.trans (congrArg some (by kernel_rfl))⟩
  f47 := Tryz.func127.trans (congrArg some (by kernel_rfl))
  f48 := Tryz.func128.trans (congrArg some (by kernel_rfl))
  f49 := ⟨Tryz.f129.name, by decide, Tryz.func129.trans (congrArg some (by kernel_rfl))⟩
  f50 := ⟨Tryz.f130.name, by decide, Tryz.func130.trans (congrArg some (by kernel_rfl))⟩
  f57 := ⟨Tryz.f138.name, by decide, Tryz.func138.trans (congrArg some (by kernel_rfl))⟩
  t0 := Tryz.underlying0
  a0 := Tryz.isAgg0
  z0 := Tryz.sizeOf0
  v0 := Tryz.zeroValue0
  t3 := Tryz.underlying3
  a3 := Tryz.isAgg3
  z3 := Tryz.sizeOf3
  v3 := Tryz.zeroValue3
  t4 := Tryz.underlying4
  a4 := Tryz.isAgg4
  z4 := Tryz.sizeOf4
  v4 := Tryz.zeroValue4
  t5 := Tryz.underlying5
  a5 := Tryz.isAgg5
  z5 := Tryz.sizeOf5
  v5 := Tryz.zeroValue5
  t9 := Tryz.underlying9
  a9 := Tryz.isAgg9
  z9 := Tryz.sizeOf9
  v9 := Tryz.zeroValue9
  t22 := Tryz.underlying28
  a22 := Tryz.isAgg28
  z22 := Tryz.sizeOf28
  v22 := Tryz.zeroValue28
  t25 := Tryz.underlying85
  a25 := Tryz.isAgg85
  z25 := Tryz.sizeOf85
  v25 := Tryz.zeroValue85
  t39 := Tryz.underlying57
  a39 := Tryz.isAgg57
  z39 := Tryz.sizeOf57
  v39 := Tryz.zeroValue57
  t45 := Tryz.underlying138
  a45 := Tryz.isAgg138
  z45 := Tryz.sizeOf138
  v45 := Tryz.zeroValue138
  t46 := Tryz.underlying139
  a46 := Tryz.isAgg139
  z46 := Tryz.sizeOf139
  v46 := Tryz.zeroValue139
  t50 := Tryz.underlying79
  a50 := Tryz.isAgg79
  z50 := Tryz.sizeOf79
  v50 := Tryz.zeroValue79
  t53 := Tryz.underlying145
  a53 := Tryz.isAgg145
  z53 := Tryz.sizeOf145
  v53 := Tryz.zeroValue145
  t55 := Tryz.underlying147
  a55 := Tryz.isAgg147
  z55 := Tryz.sizeOf147
  v55 := Tryz.zeroValue147
  t66 := Tryz.underlying153
  a66 := Tryz.isAgg153
  z66 := Tryz.sizeOf153
  v66 := Tryz.zeroValue153
  t70 := Tryz.underlying157
  a70 := Tryz.isAgg157
  z70 := Tryz.sizeOf157
  v70 := Tryz.zeroValue157
  t76 := Tryz.underlying164
  a76 := Tryz.isAgg164
  z76 := Tryz.sizeOf164
  v76 := Tryz.zeroValue164
  t77 := Tryz.underlying165
  a77 := Tryz.isAgg165
  z77 := Tryz.sizeOf165
  v77 := Tryz.zeroValue165 }
end Go.Proofs

/- Values: valid ones, walked; keys. -/
set_option linter.unusedVariables false
set_option linter.unusedSimpArgs false
set_option linter.unusedSectionVars false
set_option maxRecDepth 20000
namespace Go.Proofs.YtmelbipidffmpaaGreatDoor.Hw
open Go Go.Proofs
/-! ### runes and bytes -/
def runeP (x : Nat) : Bool := decide ((x : Int) < 32) || decide ((x : Int) > 126)
theorem get_bAt {s : ByteArray} {i : Nat} (hi : i < s.size) : ((s.get! i).toNat : Int) = bAt s (i : Int) := by
  unfold bAt
  rw [Int.toNat_natCast]
  congr 2
  have h2 : i < s.data.size := hi
  show s.data[i]! = s.data.toList.getD i 0
  rw [getElem!_pos s.data i h2, List.getD_eq_getElem?_getD, Array.getElem?_toList, Array.getElem?_eq_getElem h2]; rfl
theorem decode_p {s : ByteArray} {pos : Nat} (h : pos < s.size) : runeP (Utf8.decode s pos).1 = !byteB (bAt s (pos : Int)) ∧ (byteB (bAt s (pos : Int)) = true → (Utf8.decode s pos).2 = 1) := by
  rw [← get_bAt h]
  unfold Utf8.decode
  simp only [Nat.add_zero]
  by_cases hb : (s.get! pos).toNat < 128
  · rw [if_pos hb]
    exact ⟨by unfold runeP byteB; simp, fun _ => rfl⟩
  · rw [if_neg hb]
    have hbad : byteB ((s.get! pos).toNat : Int) = false := by unfold byteB; simp; omega
    rw [hbad]
    have big : ∀ x : Nat, 128 ≤ x → runeP x = !false := fun x hx => by unfold runeP; simp; omega
    have herr : runeP Utf8.runeError = !false := big _ (by decide)
    refine ⟨?_, fun h => by cases h⟩
    split
    · split
      · exact big _ (by omega)
      · exact herr
    · split
      · split
        · rename_i hc
          simp only [Bool.and_eq_true, decide_eq_true_eq] at hc
          exact big _ (by omega)
        · exact herr
      · split
        · split
          · rename_i hc
            simp only [Bool.and_eq_true, decide_eq_true_eq] at hc
            exact big _ (by omega)
          · exact herr
        · exact herr
theorem idx_bytes {s : ByteArray} : ∀ {f pos : Nat}, s.size ≤ pos + f → (0 ≤ Lib.idxFuncFrom runeP true s f pos ↔ ∃ j, pos ≤ j ∧ j < s.size ∧ byteB (bAt s (j : Int)) = false)
  | 0, pos, h => by
    unfold Lib.idxFuncFrom
    constructor
    · intro h; omega
    · rintro ⟨j, h1, h2, _⟩; omega
  | f + 1, pos, h => by
    unfold Lib.idxFuncFrom
    by_cases hp : pos < s.size
    · rw [if_pos hp]
      obtain ⟨d1, d2⟩ := decode_p hp
      cases hb : byteB (bAt s (pos : Int)) with
      | false =>
        rw [hb] at d1
        have d1' : runeP (Utf8.decode s pos).1 = true := d1
        rw [if_pos d1']
        exact ⟨fun _ => ⟨pos, Nat.le_refl _, hp, hb⟩, fun _ => by omega⟩
      | true =>
        rw [hb] at d1
        rw [if_neg (by rw [d1]; decide), d2 hb, idx_bytes (f := f) (pos := pos + 1) (by omega)]
        constructor
        · rintro ⟨j, h1, h2⟩; exact ⟨j, by omega, h2⟩
        · rintro ⟨j, h1, h2, h3⟩
          by_cases e : j = pos
          · subst e; rw [hb] at h3; cases h3
          · exact ⟨j, by omega, h2, h3⟩
    · rw [if_neg hp]
      constructor
      · intro h; omega
      · rintro ⟨j, h1, h2, _⟩; omega
section
variable {H : Hp} {Q : Value → Hp → Prop}
theorem c117 {x : Nat} (hq : Q (.bool (runeP x)) H) : HCalls Tryz.prog 117 [.int .i32 (x : Int)] H Q := by
  refine f117.ok _ ?_
  unfold f117 jn
  unfold runeP at hq
  refine cndI (fun h => ?_) fun h => ?_
  · rw [h, Bool.true_or] at hq; exact hq
  · rw [h, Bool.false_or] at hq; exact hq
theorem rune_pred (w : World) : PredGrows Tryz.prog 117 #[] runeP w := fun W x _ _ => by
  have := c117 (x := x) (H := fun _ => none) (Q := fun v _ => v = .bool (runeP x)) rfl W (fun b o h => by cases h)
  refine Calls.mono this ?_
  rintro e w' ⟨v, H', rfl, rfl, _, hf, _⟩
  obtain ⟨h1, h2, h3, h4, h5, _⟩ := hf
  exact ⟨rfl, h1, h2, h3, h4, fun k hk => h5 k hk rfl⟩
theorem c116 {s : ByteArray} (hq : Q (.bool (!(List.range s.size).all fun i => byteB (bAt s (i : Int)))) H) : HCalls Tryz.prog 116 [.string s, .func (.func 117) #[] #[]] H Q := by
  intro w hw
  have key := Any.strings_ContainsFunc_grows Tryz.laysGw17 117 #[] (enters_of Tryz.func117 (by kernel_rfl) rfl) runeP s w (rune_pred w)
  change Calls Tryz.prog 116 _ w _ at key
  refine Calls.mono key ?_
  rintro e w' ⟨rfl, hb⟩
  refine ⟨_, H, rfl, ?_, fun b o hbo => ?_, ⟨hb.os, hb.tape, hb.output, hb.size, fun b hlb _ => hb.block b hlb, fun h => by cases h⟩, fun b hb => .inl hb⟩
  · have : decide (0 ≤ Lib.idxFunc runeP true s) = !(List.range s.size).all fun i => byteB (bAt s (i : Int)) := by
      rw [Bool.eq_iff_iff, decide_eq_true_eq, Bool.not_eq_true', Bool.eq_false_iff, ne_eq, List.all_eq_true]
      unfold Lib.idxFunc
      rw [idx_bytes (by omega)]
      constructor
      · rintro ⟨j, _, h2, h3⟩ hall
        have := hall j (List.mem_range.2 h2)
        rw [h3] at this; cases this
      · intro h
        apply Classical.byContradiction
        intro hno
        apply h
        intro j hj
        cases hbj : byteB (bAt s (j : Int)) with
        | true => rfl
        | false => exact absurd ⟨j, Nat.zero_le _, List.mem_range.1 hj, hbj⟩ hno
    rw [this]; exact hq
  · rw [hb.block b (Array.getElem?_eq_some_iff.1 (hw b o hbo)).1]; exact hw b o hbo
theorem c93 {s : ByteArray} (hq : Q (.bool (strB s)) H) : HCalls Tryz.prog 93 [.string s] H Q := by
  refine f93.ok _ ?_
  unfold f93
  have e : decide (((s.size : Nat) : Int) ≤ 200) = decide (s.size ≤ 200) := decide_eq_decide.2 (by omega)
  unfold strB at hq
  refine jn_intro (fun J => J (decide (s.size ≤ 200) && (List.range s.size).all fun i => byteB (bAt s (i : Int))) H) hq fun J hJ => cndI (fun h => c116 ⟨_, rfl, ?_⟩) fun h => ?_
  · rw [e] at h
    rw [h, Bool.true_and] at hJ
    rw [Bool.not_not]; exact hJ
  · rw [e] at h
    rw [h, Bool.false_and] at hJ; exact hJ
theorem c70 {v : Vl} (N : NullAt H) (hq : Q (.bool (validV v)) H) : HCalls Tryz.prog 70 [vlA v] H Q := by
  refine f70.ok _ _ _ ?_
  unfold f70
  unfold validV noTx at hq
  refine cndI (fun h => ?_) fun h => ?_
  · rw [if_pos h] at hq
    refine ⟨0, N.c0, 0, N.c1, _, N.c2, ?_⟩
    rw [h, Bool.true_and, Bool.and_true]
    exact hq
  rw [if_neg (by rw [h]; decide)] at hq
  refine cndI (fun h => ?_) fun h => ?_
  · rw [if_pos h] at hq
    refine jn_intro (fun J => J ((v.txt.toList == ({ data := #[] } : ByteArray).toList) && numB v.num) H) hq fun J hJ => cndI (fun h1 => c92 ⟨_, rfl, ?_⟩) fun h1 => ?_
    · rw [h1, Bool.true_and] at hJ; exact hJ
    · rw [h1, Bool.false_and] at hJ; exact hJ
  rw [if_neg (by rw [h]; decide)] at hq
  refine cndI (fun h => ?_) fun h => ?_
  · rw [if_pos h] at hq
    refine jn_intro (fun J => J ((v.num == 0) && strB v.txt) H) hq fun J hJ => cndI (fun h1 => c93 ⟨_, rfl, ?_⟩) fun h1 => ?_
    · rw [h1, Bool.true_and] at hJ; exact hJ
    · rw [h1, Bool.false_and] at hJ; exact hJ
  rw [if_neg (by rw [h]; decide)] at hq
  refine cndI (fun h => ?_) fun h => ?_
  · rw [if_pos h] at hq
    refine jn_intro (fun J => J ((v.txt.toList == ({ data := #[] } : ByteArray).toList) && (v.num == 0 || v.num == 1))) hq fun J hJ => cndI (fun h1 => cndI (fun h2 => ?_) fun h2 => ?_) fun h1 => ?_
    · rw [h1, h2] at hJ; exact hJ
    · rw [h1, h2] at hJ; exact hJ
    · rw [h1, Bool.false_and] at hJ; exact hJ
  · rw [if_neg (by rw [h]; decide)] at hq; exact hq
theorem c69 {v : Vl} (N : NullAt H) (hq : Q (.bool (!validV v)) H) : HCalls Tryz.prog 69 [vlA v] H Q := by
  refine f69.ok _ _ _ ?_
  unfold f69
  exact c70 (v := v) N ⟨_, rfl, hq⟩
theorem c91 {A : Option Addr} {n c : Nat} {l : List Vl} (N : NullAt H) (hA : SlAt vlC H A n l) (hq : ∀ r : Int, decide (r ≥ 0) = !validL l → Q (.int .i64 r) H) : HCalls Tryz.prog 91 [.slice A n c, .func (.func 69) #[] #[]] H Q := by
  refine f91.ok _ _ _ _ _ _ ?_
  unfold f91
  obtain rfl := hA.len
  refine scan hA.lt (fun i H' => H' = H ∧ (l.take i).all validV = true) ⟨rfl, by simp⟩ (fun i H2 next hi hI hnext => ?_) (fun H2 next hI => ?_)
  · obtain ⟨rfl, hall⟩ := hI
    obtain ⟨x, hx⟩ := get_of hi
    dsimp only
    refine cndT (decide_eq_true (by omega)) ⟨by omega, by omega, rd_vl hA hx fun q o _ k1 k2 k3 => ⟨x.kind, by simpa using k1, x.num, by simpa using k2, x.txt, by simpa using k3, fnOk 69 rfl, c69 (v := x) N ⟨_, rfl, cndI (fun h => hq _ ?_) fun h => ⟨rfl, hnext H2 ⟨rfl, ?_⟩⟩⟩⟩⟩
    · have : validL l = false := all_miss hx (by simpa using h)
      rw [this, decide_eq_true (by omega)]; rfl
    · rw [all_take_succ hx, hall, not_f h.symm]; rfl
  · obtain ⟨rfl, hall⟩ := hI
    rw [List.take_length] at hall
    dsimp only
    refine cndF (decide_eq_false (by omega)) (hq _ ?_)
    have : validL l = true := hall
    rw [this]; rfl
theorem c40 {A : Option Addr} {n c : Nat} {l : List Vl} (N : NullAt H) (hA : SlAt vlC H A n l) (hq : Q (.bool (validL l)) H) : HCalls Tryz.prog 40 [.slice A n c] H Q := by
  refine f40.ok _ _ _ ?_
  unfold f40
  refine f68.ok _ _ _ _ _ _ ?_
  unfold f68
  refine c91 N hA fun r hr => ⟨_, rfl, _, rfl, ?_⟩
  rw [hr, Bool.not_not]; exact hq
def TxS (l : List Vl) : Prop := ∀ v ∈ l, v.txt.size < 4611686018427387904
theorem c96 {A : Option Addr} {n c : Nat} {l : List Vl} (hT : TxS l) (hA : SlAt vlC H A n l) (hq : Q (.bool (validL l)) H) : HCalls Tryz.prog 96 [.slice A n c] H Q := by
  refine f96.ok _ _ _ ?_
  unfold f96
  obtain rfl := hA.len
  refine scan hA.lt (fun i H' => H' = H ∧ (l.take i).all validV = true) ⟨rfl, by simp⟩ (fun i H2 next hi hI hnext => ?_) (fun H2 next hI => ?_)
  · obtain ⟨rfl, hall⟩ := hI
    obtain ⟨x, hx⟩ := get_of hi
    dsimp only
    refine cndT (decide_eq_true (by omega)) ⟨by omega, by omega, rd_vl hA hx fun q o _ k1 k2 k3 => ⟨x.kind, by simpa using k1, x.num, by simpa using k2, x.txt, by simpa using k3, c120 (v := x) (hT x (List.mem_of_getElem? hx)) ⟨_, rfl, cndI (fun h => ?_) fun h => ⟨rfl, hnext H2 ⟨rfl, ?_⟩⟩⟩⟩⟩
    · have : validL l = false := all_miss hx (by simpa using h)
      rw [this] at hq; exact hq
    · rw [all_take_succ hx, hall, not_f h.symm]; rfl
  · obtain ⟨rfl, hall⟩ := hI
    rw [List.take_length] at hall
    dsimp only
    have : validL l = true := hall
    rw [this] at hq
    exact cndF (decide_eq_false (by omega)) hq
def rowB' (l : List Vl) : Bool := decide (l.length ≤ 20) && validL l
theorem c73 {A : Option Addr} {n c : Nat} {l : List Vl} (hT : TxS l) (hA : SlAt vlC H A n l) (hq : Q (.bool (rowB' l)) H) : HCalls Tryz.prog 73 [.slice A n c] H Q := by
  refine f73.ok _ _ _ ?_
  unfold f73
  obtain rfl := hA.len
  have e : decide (((l.length : Nat) : Int) ≤ 20) = decide (l.length ≤ 20) := decide_eq_decide.2 (by omega)
  unfold rowB' at hq
  refine jn_intro (fun J => J (decide (l.length ≤ 20) && validL l) H) hq fun J hJ => cndI (fun h => c96 hT hA ⟨_, rfl, ?_⟩) fun h => ?_
  · rw [e] at h; rw [h, Bool.true_and] at hJ; exact hJ
  · rw [e] at h; rw [h, Bool.false_and] at hJ; exact hJ
theorem c44 {A B : Option Addr} {n m ca cb : Nat} {x y : List Vl} (hA : SlAt vlC H A n x) (hB : SlAt vlC H B m y) (hx : TxS x) (hy : TxS y) (hq : Q (.int .i64 (keyR x y)) H) : HCalls Tryz.prog 44 [.slice A n ca, .slice B m cb] H Q := by
  refine f44.ok _ _ _ _ _ _ ?_
  unfold f44
  obtain rfl := hA.len
  obtain rfl := hB.len
  have hl1 := hA.lt
  have hl2 := hB.lt
  refine loop_to (min x.length y.length) (fun i st H' => st = (((i : Int), ()), ()) ∧ H' = H ∧ keyR x y = keyR (x.drop i) (y.drop i)) ⟨rfl, rfl, rfl⟩ ?_
  rintro i st H2 next hi ⟨rfl, rfl, he⟩ hnext
  dsimp only
  refine jn_intro (fun J => ((i < x.length ∧ i < y.length) → J true) ∧ (¬ (i < x.length ∧ i < y.length) → J false)) ⟨fun ⟨h1, h2⟩ => cndT rfl ?_, fun h => cndF rfl ?_⟩ fun J hJ => cndI (fun h1 => ?_) fun h1 => hJ.2 (by have := of_decide_eq_false h1; omega)
  rotate_left
  · have : keyR (x.drop i) (y.drop i) = 0 := by
      by_cases e : i < x.length
      · rw [show y.drop i = [] from List.drop_of_length_le (by omega)]
        cases x.drop i <;> rfl
      · rw [show x.drop i = [] from List.drop_of_length_le (by omega)]; rfl
    rw [he, this] at hq; exact hq
  · cases h2 : decide ((i : Int) < ((y.length : Nat) : Int)) with
    | true => exact hJ.1 ⟨by have := of_decide_eq_true h1; omega, by have := of_decide_eq_true h2; omega⟩
    | false => exact hJ.2 (by have := of_decide_eq_false h2; omega)
  · obtain ⟨a, ha⟩ := get_of h1
    obtain ⟨b, hb⟩ := get_of h2
    have hod := keyR_drop ha hb
    have ei : IntKind.i64.wrap ((i : Int) + 1) = ((i + 1 : Nat) : Int) := by rw [wrap_id (by omega) (by omega)]; rfl
    refine ⟨by omega, by omega, rd_vl hA ha fun q o _ k1 k2 k3 => ⟨a.kind, by simpa using k1, a.num, by simpa using k2, a.txt, by simpa using k3, by omega, by omega, rd_vl hB hb fun q o _ k1 k2 k3 => ⟨b.kind, by simpa using k1, b.num, by simpa using k2, b.txt, by simpa using k3, c74 (a := a) (b := b) (hx a (List.mem_of_getElem? ha)) (hy b (List.mem_of_getElem? hb)) ⟨_, rfl, cndI (fun hne => ?_) fun he0 => ⟨rfl, hnext _ _ (by omega) ⟨by rw [ei], rfl, ?_⟩⟩⟩⟩⟩⟩
    · rw [he, hod, if_pos hne] at hq; exact hq
    · rw [he, hod, if_neg (by rw [he0]; decide)]
end
/-! ### the two orders agree on what is valid -/
theorem noTx_eq {a b : ByteArray} (ha : noTx a = true) (hb : noTx b = true) : a.toList = b.toList := by
  unfold noTx at ha hb
  rw [beq_iff_eq] at ha hb
  rw [ha, hb]
theorem lessS_irrefl_eq {a b : ByteArray} (h : a.toList = b.toList) : lessS a b = false := by
  unfold lessS
  rw [h]
  have : ∀ l : List UInt8, Op.bytesLess l l = false := by
    intro l
    induction l with
    | nil => rfl
    | cons x r ih => unfold Op.bytesLess; simp [ih]
  exact this _
theorem cmpS_eq {a b : ByteArray} (h : a.toList = b.toList) : cmpS a b = 0 := by
  unfold cmpS
  rw [lessS_irrefl_eq h, h]
  simp
theorem val_ord {a b : Vl} (ha : validV a = true) (hb : validV b = true) : valR a b = ordV a b := by
  unfold valR ordV
  by_cases hk : a.kind = b.kind
  · have e : (a.kind == b.kind) = true := by simpa using hk
    simp only [e, ha, hb, Bool.and_self, if_true]
    unfold befR lessR sameV
    unfold validV at ha hb
    rw [← hk] at hb ⊢
    by_cases h0 : a.kind = 0
    · simp only [h0, beq_self_eq_true, if_true, Bool.and_eq_true, beq_iff_eq] at ha hb
      simp only [h0, beq_self_eq_true, Bool.and_self, if_true]
      rw [ha.1, hb.1, cmpS_eq (noTx_eq ha.2 hb.2)]; rfl
    · have e0 : (a.kind == 0) = false := by simpa using h0
      rw [e0] at ha hb ⊢
      simp only [Bool.false_eq_true, if_false, Bool.false_and] at ha hb ⊢
      by_cases h2 : a.kind = 2
      · simp only [h2, beq_self_eq_true, Bool.true_and, bne_self_eq_false, Bool.false_and, Bool.or_false] at ha hb ⊢
        simp at ha hb
        rw [ha.1, hb.1]
        unfold orI cmpI cmpS
        simp
      · have e2 : (a.kind == 2) = false := by simpa using h2
        have n2 : (a.kind != 2) = true := by simpa using h2
        rw [e2] at ha hb ⊢
        rw [n2]
        have htx : a.txt.toList = b.txt.toList := by
          by_cases h1 : a.kind = 1
          · simp only [h1, beq_self_eq_true, if_true, Bool.and_eq_true] at ha hb
            exact noTx_eq ha.1 hb.1
          · have e1 : (a.kind == 1) = false := by simpa using h1
            rw [e1] at ha hb
            simp only [Bool.false_eq_true, if_false] at ha hb
            by_cases h3 : a.kind = 3
            · simp only [h3, beq_self_eq_true, if_true, Bool.and_eq_true] at ha hb
              exact noTx_eq ha.1 hb.1
            · have e3 : (a.kind == 3) = false := by simpa using h3
              rw [e3] at ha
              simp at ha
        rw [cmpS_eq htx, htx]
        unfold orI cmpI
        simp only [Bool.false_and, Bool.true_and, Bool.false_or, decide_eq_true_eq, beq_self_eq_true, Bool.and_true, beq_iff_eq]
        by_cases h : a.num < b.num
        · simp [h]
        · by_cases h' : a.num > b.num
          · have : a.num ≠ b.num := by omega
            simp [h, h', this]
          · have : a.num = b.num := by omega
            simp [this]
  · have hk' : (a.kind == b.kind) = false := by simpa using hk
    rw [hk']
    simp only [Bool.false_eq_true, if_false]
    by_cases h0 : a.kind = 0
    · simp [h0]
    · have e0 : (a.kind == 0) = false := by simpa using h0
      rw [e0]
      by_cases h1 : b.kind = 0
      · simp [h1]
      · have e1 : (b.kind == 0) = false := by simpa using h1
        have n1 : (b.kind != 0) = true := by simpa using h1
        rw [e1, n1]
        simp only [Bool.false_or, Bool.true_and, decide_eq_true_eq, Bool.false_eq_true, if_false]
        unfold cmpI
        by_cases h : a.kind < b.kind
        · rw [if_pos h, if_neg (by omega)]
        · rw [if_neg h, if_pos (by omega), if_pos (by omega)]
theorem key_ord : ∀ {x y : List Vl}, validL x = true → validL y = true → x.length = y.length → keyR x y = ordL x y
  | [], [], _, _, _ => rfl
  | [], _ :: _, _, _, h => by simp at h
  | _ :: _, [], _, _, h => by simp at h
  | a :: x, b :: y, hx, hy, h => by
    unfold validL at hx hy
    rw [List.all_cons, Bool.and_eq_true] at hx hy
    show (if valR a b != 0 then valR a b else keyR x y) = if ordV a b != 0 then ordV a b else ordL x y
    rw [val_ord hx.1 hy.1, key_ord hx.2 hy.2 (by simpa using h)]
end Go.Proofs.YtmelbipidffmpaaGreatDoor.Hw

/- Trees of blocks: what is read, and the walk through them, plain. -/
set_option linter.unusedVariables false
set_option linter.unusedSimpArgs false
set_option linter.unusedSectionVars false
set_option maxRecDepth 20000
namespace Go.Proofs.YtmelbipidffmpaaGreatDoor.Hw
open Go Go.Proofs
/-- An entry, with the slice of its key. -/
structure EnM where
  A : Option Addr
  c : Nat
  key : List Vl
  id : Int
def enC (e : EnM) : List Value := [.slice e.A e.key.length e.c, .int .i64 e.id]
def enA (e : EnM) : Value := .agg #[.slice e.A e.key.length e.c, .int .i64 e.id]
theorem enC_len (e : EnM) : (enC e).length = 2 := rfl
theorem enC_one (x : EnM) : ∀ v ∈ enC x, v.oneCell' = true := fun v hv => by
  unfold enC at hv
  simp only [List.mem_cons, List.not_mem_nil, or_false] at hv
  rcases hv with rfl | rfl <;> rfl
structure KeyAt (H : Hp) (e : EnM) : Prop where
  sl : SlAt vlC H e.A e.key.length e.key
  cap : e.key.length ≤ e.c
  tx : TxS e.key
theorem KeyAt.ext {H H' : Hp} {e : EnM} (h : KeyAt H e) (hx : Ext H H') : KeyAt H' e := ⟨h.sl.ext hx, h.cap, h.tx⟩
theorem rd_en {H : Hp} {A : Option Addr} {n : Nat} {l : List EnM} {i : Nat} {x : EnM} (h : SlAt enC H A n l) (hi : l[i]? = some x) {K : Nat → Nat → Prop}
    (hk : ∀ p o, A = some ⟨p, o, none⟩ → cl H p (o + i * 2) = some (.slice x.A x.key.length x.c) → cl H p (o + i * 2 + 1) = some (.int .i64 x.id) → K p o) : onPtr A K := by
  have hlen : ∀ x ∈ l, (enC x).length = 2 := fun x _ => rfl
  have hne : l ≠ [] := fun e => by subst e; simp at hi
  refine at_cells h.cells (flat_ne hlen (by omega) hne) fun p o hA hc => hk p o hA ?_ ?_
  · have := hc (i * 2 + 0) _ (flat_get hlen hi (by omega)); rw [Nat.add_zero] at this; exact this
  · have := hc (i * 2 + 1) _ (flat_get hlen hi (by omega)); rw [← Nat.add_assoc] at this; exact this
/-- A block, with its slices. -/
structure NdM where
  eA : Option Addr
  ec : Nat
  es : List EnM
  kA : Option Addr
  kc : Nat
  ks : List Int
def ndC (b : NdM) : List Value := [.slice b.eA b.es.length b.ec, .slice b.kA b.ks.length b.kc]
structure NdAt (H : Hp) (b : NdM) : Prop where
  es : SlAt enC H b.eA b.es.length b.es
  ecap : b.es.length ≤ b.ec
  ks : SlAt inC H b.kA b.ks.length b.ks
  key : ∀ e ∈ b.es, KeyAt H e
theorem NdAt.ext {H H' : Hp} {b : NdM} (h : NdAt H b) (hx : Ext H H') : NdAt H' b := ⟨h.es.ext hx, h.ecap, h.ks.ext hx, fun e he => (h.key e he).ext hx⟩
theorem rd_nd {H : Hp} {A : Option Addr} {n : Nat} {l : List NdM} {i : Nat} {x : NdM} (h : SlAt ndC H A n l) (hi : l[i]? = some x) {K : Nat → Nat → Prop}
    (hk : ∀ p o, A = some ⟨p, o, none⟩ → cl H p (o + i * 2) = some (.slice x.eA x.es.length x.ec) → cl H p (o + i * 2 + 1) = some (.slice x.kA x.ks.length x.kc) → K p o) : onPtr A K := by
  have hlen : ∀ x ∈ l, (ndC x).length = 2 := fun x _ => rfl
  have hne : l ≠ [] := fun e => by subst e; simp at hi
  refine at_cells h.cells (flat_ne hlen (by omega) hne) fun p o hA hc => hk p o hA ?_ ?_
  · have := hc (i * 2 + 0) _ (flat_get hlen hi (by omega)); rw [Nat.add_zero] at this; exact this
  · have := hc (i * 2 + 1) _ (flat_get hlen hi (by omega)); rw [← Nat.add_assoc] at this; exact this
structure TrAt (H : Hp) (A : Option Addr) (n : Nat) (bl : List NdM) : Prop where
  sl : SlAt ndC H A n bl
  nd : ∀ b ∈ bl, NdAt H b
theorem TrAt.ext {H H' : Hp} {A : Option Addr} {n : Nat} {bl : List NdM} (h : TrAt H A n bl) (hx : Ext H H') : TrAt H' A n bl := ⟨h.sl.ext hx, fun b hb => (h.nd b hb).ext hx⟩
/-- What a slice of entries can be. -/
def Fewish (bl : List NdM) : Prop := ∀ b ∈ bl, b.es.length ≤ 4398046510976
/-! ### the walk -/
structure Sv where
  seen : List Bool
  leaf : Int
  out : List EnM
def unseen (l : List Bool) : Nat := (l.filter fun b => !b).length
def leafOk (b : NdM) (i root leaf d : Int) : Bool := decide (b.es.length ≤ 8) && ((i == root || decide (3 ≤ b.es.length)) && (leaf == 0 || leaf == d))
def nodeOk (b : NdM) (i root : Int) : Bool := decide (b.es.length ≤ 8) && ((i == root || decide (3 ≤ b.es.length)) && (decide (1 ≤ b.es.length) && (b.ks.length == b.es.length + 1)))
def kidsV (f : Sv → Int → Option Sv) : List Int → List EnM → Sv → Option Sv
  | [], _, S => some S
  | k :: ks, es, S => match f S k with
    | none => none
    | some S' => match es with
      | [] => kidsV f ks [] S'
      | e :: es => kidsV f ks es ⟨S'.seen, S'.leaf, S'.out ++ [e]⟩
def visit (bl : List NdM) (root : Int) : Nat → Sv → Int → Int → Option Sv
  | 0, _, _, _ => none
  | m + 1, S, i, d => if i < 0 then none else match bl[i.toNat]?, S.seen[i.toNat]? with
    | some b, some false =>
      if b.ks.length = 0 then (if leafOk b i root S.leaf d then some ⟨S.seen.set i.toNat true, d, S.out ++ b.es⟩ else none)
      else if nodeOk b i root then kidsV (fun S k => visit bl root m S k (d + 1)) b.ks b.es ⟨S.seen.set i.toNat true, S.leaf, S.out⟩ else none
    | _, _ => none
theorem unseen_set : ∀ {l : List Bool} {i : Nat}, l[i]? = some false → unseen (l.set i true) + 1 = unseen l
  | [], i, h => by simp at h
  | b :: r, 0, h => by
    simp at h; subst h
    unfold unseen; simp
  | b :: r, i + 1, h => by
    have ih := unseen_set (l := r) (i := i) (by simpa using h)
    unfold unseen at ih ⊢
    cases b <;> simp at ih ⊢ <;> omega
/-- How much there still may come. -/
def pot (S : Sv) : Nat := S.out.length + 8 * unseen S.seen
def Step (S S' : Sv) : Prop := S'.seen.length = S.seen.length ∧ unseen S'.seen ≤ unseen S.seen ∧ pot S' ≤ pot S
theorem kids_step {f : Sv → Int → Option Sv} (hf : ∀ S k S', f S k = some S' → Step S S') : ∀ {ks : List Int} {es : List EnM} {S S' : Sv}, kidsV f ks es S = some S' → S'.seen.length = S.seen.length ∧ unseen S'.seen ≤ unseen S.seen ∧ pot S' ≤ pot S + es.length
  | [], es, S, S', h => by cases h; exact ⟨rfl, Nat.le_refl _, by omega⟩
  | k :: ks, es, S, S', h => by
    unfold kidsV at h
    cases hv : f S k with
    | none => rw [hv] at h; cases h
    | some T =>
      rw [hv] at h
      obtain ⟨h1, h2, h3⟩ := hf S k T hv
      cases es with
      | nil =>
        obtain ⟨g1, g2, g3⟩ := kids_step hf h
        exact ⟨g1.trans h1, by omega, by simp at g3 ⊢; omega⟩
      | cons e es =>
        obtain ⟨g1, g2, g3⟩ := kids_step hf h
        simp only [pot, List.length_append, List.length_singleton] at g1 g2 g3 h3 ⊢
        exact ⟨g1.trans h1, by omega, by simp; omega⟩
theorem visit_step {bl : List NdM} {root : Int} : ∀ {m : Nat} {S S' : Sv} {i d : Int}, visit bl root m S i d = some S' → Step S S'
  | 0, S, S', i, d, h => by cases h
  | m + 1, S, S', i, d, h => by
    unfold visit at h
    split at h
    · cases h
    · split at h
      · rename_i b hb hs
        have hu := unseen_set hs
        split at h
        · split at h
          · rename_i hl
            cases h
            unfold leafOk at hl
            simp only [Bool.and_eq_true, decide_eq_true_eq] at hl
            refine ⟨by simp, by show unseen (S.seen.set _ true) ≤ _; omega, ?_⟩
            unfold pot
            simp only [List.length_append]
            omega
          · cases h
        · split at h
          · rename_i hn
            unfold nodeOk at hn
            simp only [Bool.and_eq_true, decide_eq_true_eq] at hn
            obtain ⟨g1, g2, g3⟩ := kids_step (fun S k S' hv => visit_step hv) h
            refine ⟨g1.trans (by simp), ?_, ?_⟩
            · have g2 : unseen S'.seen ≤ unseen (S.seen.set i.toNat true) := g2
              omega
            · unfold pot at g3 ⊢
              have g3 : S'.out.length + 8 * unseen S'.seen ≤ S.out.length + 8 * unseen (S.seen.set i.toNat true) + b.es.length := g3
              omega
          · cases h
      · cases h
theorem kids_drop {f : Sv → Int → Option Sv} {ks : List Int} {es : List EnM} {S : Sv} {k : Nat} {x : Int} (hx : ks[k]? = some x) : kidsV f (ks.drop k) (es.drop k) S = match f S x with
    | none => none
    | some S' => match es[k]? with
      | none => kidsV f (ks.drop (k + 1)) (es.drop (k + 1)) S'
      | some e => kidsV f (ks.drop (k + 1)) (es.drop (k + 1)) ⟨S'.seen, S'.leaf, S'.out ++ [e]⟩ := by
  obtain ⟨h1, h2⟩ := List.getElem?_eq_some_iff.1 hx
  have e0 : ks.drop k = x :: ks.drop (k + 1) := by rw [List.drop_eq_getElem_cons h1, h2]
  rw [e0]
  cases he : es[k]? with
  | none =>
    have hl := List.getElem?_eq_none_iff.1 he
    have d1 : es.drop k = [] := List.drop_of_length_le hl
    have d2 : es.drop (k + 1) = [] := List.drop_of_length_le (by omega)
    rw [d1, d2]
    rfl
  | some e =>
    obtain ⟨h3, h4⟩ := List.getElem?_eq_some_iff.1 he
    have d1 : es.drop k = e :: es.drop (k + 1) := by rw [List.drop_eq_getElem_cons h3, h4]
    rw [d1]
    rfl
/-! ### a walker -/
def wkC (A : Option Addr) (n c : Nat) (root cols : Int) (gs N : Nat) (leaf : Int) (oA : Option Addr) (on oc : Nat) (ok : Bool) : List Value :=
  [.slice A n c, .int .i64 root, .int .i64 cols, .slice (some ⟨gs, 0, none⟩) N N, .int .i64 leaf, .slice oA on oc, .bool ok]
/-- A walker of its own: where it lies, and what it knows. -/
structure WkAt (H0 : Hp) (g gs ty : Nat) (A : Option Addr) (n c : Nat) (root cols : Int) (H : Hp) (S : Sv) (oA : Option Addr) (oc : Nat) (ok : Bool) : Prop where
  ext : Ext H0 H
  cell : H g = some (.cells (wkC A n c root cols gs S.seen.length S.leaf oA S.out.length oc ok).toArray ty (0, 0))
  seen : H gs = some (.cells (S.seen.map Value.bool).toArray 4 (0, 0))
  out : Row H0 H oA S.out.length oc 2 (S.out.flatMap enC)
  n0 : H0 g = none
  n1 : H0 gs = none
  ne : g ≠ gs
  o0 : ¬ rowB oA g
  o1 : ¬ rowB oA gs
  num : S.seen.length = n
section
variable {H0 H : Hp} {g gs ty : Nat} {A oA : Option Addr} {n c oc : Nat} {root cols : Int} {S : Sv} {ok : Bool}
theorem WkAt.cl (W : WkAt H0 g gs ty A n c root cols H S oA oc ok) (k : Nat) : cl H g k = (wkC A n c root cols gs S.seen.length S.leaf oA S.out.length oc ok)[k]? := cl_cells W.cell k
theorem WkAt.sAt (W : WkAt H0 g gs ty A n c root cols H S oA oc ok) {i : Nat} {b : Bool} (h : S.seen[i]? = some b) : Go.Proofs.YtmelbipidffmpaaGreatDoor.Hw.cl H gs (0 + i * 1) = some (.bool b) := by
  rw [cl_cells W.seen, Nat.zero_add, Nat.mul_one, List.getElem?_map, h]; rfl
theorem WkAt.more {H' : Hp} (W : WkAt H0 g gs ty A n c root cols H S oA oc ok) (hx : Ext H H') : WkAt H0 g gs ty A n c root cols H' S oA oc ok :=
  ⟨W.ext.trans hx, hx _ _ W.cell, hx _ _ W.seen, Row.keep W.out fun b hb => ext_at hx (W.out.lt hb).1, W.n0, W.n1, W.ne, W.o0, W.o1, W.num⟩
theorem WkAt.setOk {b : Bool} {K : Hp → Prop} (W : WkAt H0 g gs ty A n c root cols H S oA oc ok) (hk : ∀ H', WkAt H0 g gs ty A n c root cols H' S oA oc b → K H') : storeF H g (0 + 6) [.bool b] K := by
  refine ⟨_, ty, W.cell, by simp [wkC], hk _ ⟨W.ext.upd W.n0, upd_at, (upd_off W.ne.symm).trans W.seen, Row.keep W.out fun q hq => upd_off fun e => W.o0 (e ▸ hq), W.n0, W.n1, W.ne, W.o0, W.o1, W.num⟩⟩
theorem WkAt.setLeaf {d : Int} {K : Hp → Prop} (W : WkAt H0 g gs ty A n c root cols H S oA oc ok) (hk : ∀ H', WkAt H0 g gs ty A n c root cols H' ⟨S.seen, d, S.out⟩ oA oc ok → K H') : storeF H g (0 + 4) [.int .i64 d] K := by
  refine ⟨_, ty, W.cell, by simp [wkC], hk _ ⟨W.ext.upd W.n0, upd_at, (upd_off W.ne.symm).trans W.seen, Row.keep W.out fun q hq => upd_off fun e => W.o0 (e ▸ hq), W.n0, W.n1, W.ne, W.o0, W.o1, W.num⟩⟩
theorem WkAt.setSeen {i : Nat} {K : Hp → Prop} (W : WkAt H0 g gs ty A n c root cols H S oA oc ok) (hi : i < S.seen.length) (hk : ∀ H', WkAt H0 g gs ty A n c root cols H' ⟨S.seen.set i true, S.leaf, S.out⟩ oA oc ok → K H') : storeF H gs (0 + i * 1) [.bool true] K := by
  refine ⟨_, 4, W.seen, by simp; omega, hk _ ⟨W.ext.upd W.n1, ?_, ?_, Row.keep W.out fun q hq => upd_off fun e => W.o1 (e ▸ hq), W.n0, W.n1, W.ne, W.o0, W.o1, by simpa using W.num⟩⟩
  · rw [upd_off W.ne, W.cell]
    simp
  · rw [upd_at]
    congr 3
    rw [Nat.zero_add, Nat.mul_one]
    unfold setR
    apply List.ext_getElem?
    intro j
    rw [List.getElem?_map, List.getElem?_set]
    by_cases e : i = j
    · subst e
      rw [if_pos rfl, if_pos hi, List.append_assoc, List.getElem?_append_right (by simp; omega), List.length_take, List.length_map]
      rw [show i - min i S.seen.length = 0 by omega]
      rfl
    · rw [if_neg e, ← List.getElem?_map, List.append_assoc]
      by_cases e2 : j < i
      · rw [List.getElem?_append_left (by simp; omega), List.getElem?_take_of_lt e2]
      · rw [List.getElem?_append_right (by simp; omega), List.length_take, List.length_map, List.getElem?_append_right (by simp; omega), List.getElem?_drop]
        congr 1
        simp
        omega
/-- Entries are put behind what it knows. -/
theorem WkAt.addAll {B : Option Addr} {m : Nat} {es : List EnM} {K : Option Addr → Nat → Nat → Hp → Prop} (W : WkAt H0 g gs ty A n c root cols H S oA oc ok) (hB : SlAt enC H B m es) (hs : S.out.length + es.length ≤ 4400000000000)
    (hk : ∀ A' c' H', (∀ K', (∀ H'', WkAt H0 g gs ty A n c root cols H'' ⟨S.seen, S.leaf, S.out ++ es⟩ A' c' ok → K' H'') → storeF H' g (0 + 5) [.slice A' (S.out.length + m) c'] K') → K A' (S.out.length + m) c' H') :
    appendF H 46 2 32 oA S.out.length oc B m K := by
  have hm := hB.len
  refine W.out.appendR W.ext hB.cells (by rw [hm]; exact flat_length fun x _ => enC_len x) (fun v hv => by obtain ⟨x, _, hx⟩ := List.mem_flatMap.1 hv; exact enC_one x v hx) (.inr (by omega)) (by omega) fun A' c' H' R' x' ch nw _ => hk A' c' H' fun K' hk' => ?_
  have hg : H' g = H g := Classical.byContradiction fun hne => by
    rcases (ch g hne).2 with h | h
    · exact W.o0 h
    · rw [W.cell] at h; cases h
  have hgs : H' gs = H gs := Classical.byContradiction fun hne => by
    rcases (ch gs hne).2 with h | h
    · exact W.o1 h
    · rw [W.seen] at h; cases h
  have og : ¬ rowB A' g := fun h => by
    rcases nw g h with h | h
    · exact W.o0 h
    · rw [W.cell] at h; cases h
  have ogs : ¬ rowB A' gs := fun h => by
    rcases nw gs h with h | h
    · exact W.o1 h
    · rw [W.seen] at h; cases h
  refine ⟨_, ty, hg.trans W.cell, by simp [wkC], hk' _ ⟨x'.upd W.n0, ?_, (upd_off W.ne.symm).trans (hgs.trans W.seen), Row.keep ?_ fun q hq => upd_off fun e => og (e ▸ hq), W.n0, W.n1, W.ne, og, ogs, W.num⟩⟩
  · rw [upd_at, List.length_append, ← hm]; rfl
  · rw [List.length_append, List.flatMap_append, ← hm]; exact R'
end
end Go.Proofs.YtmelbipidffmpaaGreatDoor.Hw

/- What functions of the program come to, by the evaluator: printed by a program of this session (gen.py) and checked here. -/
set_option linter.unusedVariables false
set_option maxRecDepth 100000
namespace Go.Proofs.YtmelbipidffmpaaGreatDoor.Hw
open Go Go.Proofs

/-- (*justiciar tree.walker).walk -/
def f64 (pw_b pw_o : Nat) (pi : Int) (pdepth : Int) (H : Hp) (Q : Value → Hp → Prop) : Prop :=
  jn (fun (j6 : Bool) => cnd j6 (storeF H pw_b (pw_o + 6) [.bool false] fun H8 => Q (.tuple #[]) H8) (∃ (A9 : Option Addr) (n9 c9 : Nat), cl H pw_b (pw_o + 3) = some (.slice A9 n9 c9) ∧ 0 ≤ (pi : Int) ∧ (pi : Int) < ((n9 :
    Nat) : Int) ∧ onPtr A9 fun b10 o10 => storeF H b10 (o10 + (pi : Int).toNat * 1) [.bool true] fun H11 => ∃ (A12 : Option Addr) (n12 c12 : Nat), cl H11 pw_b ((pw_o + 0) + 0) = some (.slice A12 n12 c12) ∧ 0 ≤ (pi : Int)
    ∧ (pi : Int) < ((n12 : Nat) : Int) ∧ onPtr A12 fun b13 o13 => ∃ (A14 : Option Addr) (n14 c14 : Nat), cl H11 b13 (o13 + (pi : Int).toNat * 2) = some (.slice A14 n14 c14) ∧ ∃ (A15 : Option Addr) (n15 c15 : Nat), cl H11
    b13 ((o13 + (pi : Int).toNat * 2) + 1) = some (.slice A15 n15 c15) ∧ jn (fun (H25 : Hp) => cnd ((((n15 : Nat) : Int) : Int) == 0) (jn (fun (H33 : Hp) => storeF H33 pw_b (pw_o + 4) [.int .i64 pdepth] fun H35 => ∃ (A36
    : Option Addr) (n36 c36 : Nat), cl H35 pw_b (pw_o + 5) = some (.slice A36 n36 c36) ∧ appendF H35 46 2 32 A36 n36 c36 A14 n14 fun A37 n37 c37 H38 => storeF H38 pw_b (pw_o + 5) [.slice A37 n37 c37] fun H39 => Q (.tuple
    #[]) H39) fun J34 => ∃ x27 : Bool, cl H25 pw_b (pw_o + 6) = some (.bool x27) ∧ cnd x27 (∃ x28 : Int, cl H25 pw_b (pw_o + 4) = some (.int .i64 x28) ∧ cnd ((x28 : Int) == 0) (storeF H25 pw_b (pw_o + 6) [.bool true] fun
    H29 => J34 H29) (∃ x30 : Int, cl H25 pw_b (pw_o + 4) = some (.int .i64 x30) ∧ storeF H25 pw_b (pw_o + 6) [.bool ((x30 : Int) == pdepth)] fun H31 => J34 H31)) (storeF H25 pw_b (pw_o + 6) [.bool false] fun H32 => J34
    H32)) (LoopF (σ := (Int × Unit) × Unit) ((0, ()), ()) H25 fun s40 H41 next42 => cnd (decide ((s40.1.1 : Int) < ((n15 : Nat) : Int))) (jn (fun (H60 : Hp) => KeepX [some (.v (.pointer (some ⟨pw_b, pw_o, none⟩))), some
    (.v (.int .i64 pdepth)), some (.loc 6 0), some (.v (.int .i64 ((n14 : Nat) : Int))), some (.v (.slice A15 n15 c15)), some (.v (.int .i64 ((n15 : Nat) : Int)))] [some (true, [.slice A14 n14 c14, .slice A15 n15 c15])] ∧
    next42 ((IntKind.i64.wrap (s40.1.1 + 1), ()), ()) H60) fun J61 => 0 ≤ (s40.1.1 : Int) ∧ (s40.1.1 : Int) < ((n15 : Nat) : Int) ∧ onPtr A15 fun b43 o43 => ∃ x44 : Int, cl H41 b43 (o43 + (s40.1.1 : Int).toNat * 1) = some
    (.int .i64 x44) ∧ ∃ x45 : Bool, cl H41 pw_b (pw_o + 6) = some (.bool x45) ∧ cnd (!x45) (Q (.tuple #[]) H41) (HCalls Tryz.prog 64 [.pointer (some ⟨pw_b, pw_o, none⟩), .int .i64 x44, .int .i64 (IntKind.i64.wrap (pdepth
    + 1))] H41 fun v46 H47 => v46 = .tuple #[] ∧ jn (fun (j49 : Bool) => cnd j49 (∃ (A51 : Option Addr) (n51 c51 : Nat), cl H47 pw_b (pw_o + 5) = some (.slice A51 n51 c51) ∧ 0 ≤ (s40.1.1 : Int) ∧ (s40.1.1 : Int) < ((n14 :
    Nat) : Int) ∧ onPtr A14 fun b52 o52 => ∃ (A53 : Option Addr) (n53 c53 : Nat), cl H47 b52 (o52 + (s40.1.1 : Int).toNat * 2) = some (.slice A53 n53 c53) ∧ ∃ x54 : Int, cl H47 b52 ((o52 + (s40.1.1 : Int).toNat * 2) + 1)
    = some (.int .i64 x54) ∧ newF H47 46 [.slice A53 n53 c53, .int .i64 x54] fun g55 H56 => appendF H56 46 2 32 A51 n51 c51 (some ⟨g55, 0, none⟩) 1 fun A57 n57 c57 H58 => storeF H58 pw_b (pw_o + 5) [.slice A57 n57 c57]
    fun H59 => J61 H59) (J61 H47)) fun J50 => ∃ x48 : Bool, cl H47 pw_b (pw_o + 6) = some (.bool x48) ∧ cnd x48 (J50 (decide ((s40.1.1 : Int) < ((n14 : Nat) : Int)))) (J50 false))) (Q (.tuple #[]) H41))) fun J26 => cnd
    (decide ((((n14 : Nat) : Int) : Int) ≤ 8)) (∃ x16 : Int, cl H11 pw_b ((pw_o + 0) + 1) = some (.int .i64 x16) ∧ cnd ((pi : Int) == x16) (cnd ((((n15 : Nat) : Int) : Int) == 0) (storeF H11 pw_b (pw_o + 6) [.bool true]
    fun H17 => J26 H17) (cnd (decide ((((n14 : Nat) : Int) : Int) ≥ 1)) (storeF H11 pw_b (pw_o + 6) [.bool ((((n15 : Nat) : Int) : Int) == (IntKind.i64.wrap (((n14 : Nat) : Int) + 1)))] fun H18 => J26 H18) (storeF H11
    pw_b (pw_o + 6) [.bool false] fun H19 => J26 H19))) (cnd (decide ((((n14 : Nat) : Int) : Int) ≥ 3)) (cnd ((((n15 : Nat) : Int) : Int) == 0) (storeF H11 pw_b (pw_o + 6) [.bool true] fun H20 => J26 H20) (cnd (decide
    ((((n14 : Nat) : Int) : Int) ≥ 1)) (storeF H11 pw_b (pw_o + 6) [.bool ((((n15 : Nat) : Int) : Int) == (IntKind.i64.wrap (((n14 : Nat) : Int) + 1)))] fun H21 => J26 H21) (storeF H11 pw_b (pw_o + 6) [.bool false] fun
    H22 => J26 H22))) (storeF H11 pw_b (pw_o + 6) [.bool false] fun H23 => J26 H23))) (storeF H11 pw_b (pw_o + 6) [.bool false] fun H24 => J26 H24))) fun J7 => ∃ x1 : Bool, cl H pw_b (pw_o + 6) = some (.bool x1) ∧ cnd
    (!x1) (J7 true) (cnd (decide ((pi : Int) < 0)) (J7 true) (∃ (A2 : Option Addr) (n2 c2 : Nat), cl H pw_b ((pw_o + 0) + 0) = some (.slice A2 n2 c2) ∧ cnd (decide ((pi : Int) ≥ ((n2 : Nat) : Int))) (J7 true) (∃ (A3 :
    Option Addr) (n3 c3 : Nat), cl H pw_b (pw_o + 3) = some (.slice A3 n3 c3) ∧ 0 ≤ (pi : Int) ∧ (pi : Int) < ((n3 : Nat) : Int) ∧ onPtr A3 fun b4 o4 => ∃ x5 : Bool, cl H b4 (o4 + (pi : Int).toNat * 1) = some (.bool x5) ∧
    J7 x5)))
noncomputable def fcx64 : Cx := cx 175 [(6, true)] [(12, ⟨[0, 2, 6, 7, 134, 135], [6], [(136, .int .i64)], []⟩)] [(10, (.look 0 (.look 1 (.look 2 (.look 3 (.look 4 (.look 5 (.look 6 (.act 7 (.look 8 (.look 9 (.act 10 .done .done))) .done))))))))), (17, (.look 0 (.look 1 (.look 2 (.look 3 (.look 4 (.look 5 (.look 6 (.look 7 (.look 8 (.look 9 (.act 10 (.act 11 (.look 12 (.look 13 (.act 14 .done .done))) .done) .done))))))))))))] []
theorem f64.eq (pw_b pw_o : Nat) (pi : Int) (pdepth : Int) (H : Hp) (Q : Value → Hp → Prop) : f64 pw_b pw_o pi pdepth H Q = wFun fcx64 Tryz.f64 [.pointer (some ⟨pw_b, pw_o, none⟩), .int .i64 pi, .int .i64 pdepth] H Q := by kernel_rfl
theorem f64.ok (pw_b pw_o : Nat) (pi : Int) (pdepth : Int) {H : Hp} {Q : Value → Hp → Prop} (h : f64 pw_b pw_o pi pdepth H Q) : HCalls Tryz.prog 64 [.pointer (some ⟨pw_b, pw_o, none⟩), .int .i64 pi, .int .i64 pdepth] H Q := hcalls_of (cxOk _ _ _ _ _) Tryz.func64 (Eq.mp (f64.eq pw_b pw_o pi pdepth H Q) h)

/-- justiciar tree.walked -/
def f36 (pt_0_A : Option Addr) (pt_0_n pt_0_c : Nat) (pt_1 : Int) (pt_2 : Int) (H : Hp) (Q : Value → Hp → Prop) : Prop :=
  jn (fun (j1 : Bool) => cnd j1 (Q (.tuple #[.pointer none, .bool false]) H) (((((pt_0_n : Nat) : Int) : Int) = ((pt_0_n : Nat) : Int) ∧ 0 ≤ (((pt_0_n : Nat) : Int) : Int) ∧ (((pt_0_n : Nat) : Int) : Int) ≤ 16777216 ∧ newF
    H 4 (List.replicate ((((pt_0_n : Nat) : Int) : Int).toNat) [.bool false]).flatten fun g3 H4 => newF H4 70 [.slice pt_0_A pt_0_n pt_0_c, .int .i64 pt_1, .int .i64 pt_2, .slice (some ⟨g3, 0, none⟩) ((((pt_0_n : Nat) :
    Int) : Int).toNat) ((((pt_0_n : Nat) : Int) : Int).toNat), .int .i64 0, .slice none 0 0, .bool true] fun g5 H6 => HCalls Tryz.prog 64 [.pointer (some ⟨g5, 0, none⟩), .int .i64 pt_1, .int .i64 1] H6 fun v7 H8 => v7 =
    .tuple #[] ∧ jn (fun (j14 : Bool) (H15 : Hp) => cnd j14 (Q (.tuple #[.pointer none, .bool false]) H15) (∃ (A17 : Option Addr) (n17 c17 : Nat), cl H15 g5 (0 + 5) = some (.slice A17 n17 c17) ∧ LoopF (σ := (Int × Unit) ×
    Unit) ((0, ()), ()) H15 fun s18 H19 next20 => cnd (decide ((s18.1.1 : Int) < ((n17 : Nat) : Int))) (0 ≤ (s18.1.1 : Int) ∧ (s18.1.1 : Int) < ((n17 : Nat) : Int) ∧ onPtr A17 fun b21 o21 => ∃ (A22 : Option Addr) (n22 c22
    : Nat), cl H19 b21 (o21 + (s18.1.1 : Int).toNat * 2) = some (.slice A22 n22 c22) ∧ ∃ x23 : Int, cl H19 b21 ((o21 + (s18.1.1 : Int).toNat * 2) + 1) = some (.int .i64 x23) ∧ jn (fun (j34 : Bool) (H35 : Hp) => cnd j34 (Q
    (.tuple #[.pointer none, .bool false]) H35) (KeepX [some (.loc 1 0), some (.v (.pointer (some ⟨g5, 0, none⟩))), some (.v (.slice A17 n17 c17)), some (.v (.int .i64 ((n17 : Nat) : Int)))] [some (true, [.slice pt_0_A
    pt_0_n pt_0_c, .int .i64 pt_1, .int .i64 pt_2])] ∧ next20 ((IntKind.i64.wrap (s18.1.1 + 1), ()), ()) H35)) fun J36 => HCalls Tryz.prog 49 [.agg #[.slice A22 n22 c22, .int .i64 x23], .int .i64 pt_2] H19 fun v24 H25 =>
    ∃ x26 : Bool, v24 = .bool x26 ∧ cnd (!x26) (J36 true H25) (cnd (decide ((s18.1.1 : Int) > 0)) (∃ (A27 : Option Addr) (n27 c27 : Nat), cl H25 g5 (0 + 5) = some (.slice A27 n27 c27) ∧ 0 ≤ (IntKind.i64.wrap (s18.1.1 - 1)
    : Int) ∧ (IntKind.i64.wrap (s18.1.1 - 1) : Int) < ((n27 : Nat) : Int) ∧ onPtr A27 fun b28 o28 => ∃ (A29 : Option Addr) (n29 c29 : Nat), cl H25 b28 (o28 + (IntKind.i64.wrap (s18.1.1 - 1) : Int).toNat * 2) = some
    (.slice A29 n29 c29) ∧ ∃ x30 : Int, cl H25 b28 ((o28 + (IntKind.i64.wrap (s18.1.1 - 1) : Int).toNat * 2) + 1) = some (.int .i64 x30) ∧ HCalls Tryz.prog 51 [.agg #[.slice A29 n29 c29, .int .i64 x30], .agg #[.slice A22
    n22 c22, .int .i64 x23]] H25 fun v31 H32 => ∃ x33 : Int, v31 = .int .i64 x33 ∧ J36 (decide ((x33 : Int) ≥ 0)) H32) (J36 false H25))) (Q (.tuple #[.pointer (some ⟨g5, 0, none⟩), .bool true]) H19))) fun J16 => ∃ x9 :
    Bool, cl H8 g5 (0 + 6) = some (.bool x9) ∧ cnd (!x9) (J16 true H8) (∃ (A10 : Option Addr) (n10 c10 : Nat), cl H8 g5 (0 + 3) = some (.slice A10 n10 c10) ∧ HCalls Tryz.prog 65 [.slice A10 n10 c10, .bool false] H8 fun
    v11 H12 => ∃ x13 : Bool, v11 = .bool x13 ∧ J16 x13 H12)))) fun J2 => cnd (decide ((pt_2 : Int) < 1)) (J2 true) (cnd (decide ((pt_2 : Int) > 20)) (J2 true) (cnd (decide ((((pt_0_n : Nat) : Int) : Int) < 1)) (J2 true)
    (J2 (decide ((((pt_0_n : Nat) : Int) : Int) > 2000)))))
noncomputable def fcx36 : Cx := cx 84 [(1, true), (6, true)] [(8, ⟨[1, 4, 53, 54], [1], [(55, .int .i64)], []⟩)] [(3, (.look 0 (.look 1 (.look 2 (.look 3 (.act 4 (.look 5 (.act 6 (.act 7 .done .done) .done)) .done)))))), (10, (.look 0 (.look 1 (.look 2 (.act 3 (.look 4 (.look 5 (.look 6 (.look 7 (.look 8 (.look 9 (.look 10 (.look 11 (.look 12 (.look 13 (.look 14 (.look 15 (.look 16 (.look 17 (.act 18 (.look 19 (.look 20 (.look 21 .done))) .done))))))))))))))) .done)))))] []
theorem f36.eq (pt_0_A : Option Addr) (pt_0_n pt_0_c : Nat) (pt_1 : Int) (pt_2 : Int) (H : Hp) (Q : Value → Hp → Prop) : f36 pt_0_A pt_0_n pt_0_c pt_1 pt_2 H Q = wFun fcx36 Tryz.f36 [.agg #[.slice pt_0_A pt_0_n pt_0_c, .int .i64 pt_1, .int .i64 pt_2]] H Q := by kernel_rfl
theorem f36.ok (pt_0_A : Option Addr) (pt_0_n pt_0_c : Nat) (pt_1 : Int) (pt_2 : Int) {H : Hp} {Q : Value → Hp → Prop} (h : f36 pt_0_A pt_0_n pt_0_c pt_1 pt_2 H Q) : HCalls Tryz.prog 36 [.agg #[.slice pt_0_A pt_0_n pt_0_c, .int .i64 pt_1, .int .i64 pt_2]] H Q := hcalls_of (cxOk _ _ _ _ _) Tryz.func36 (Eq.mp (f36.eq pt_0_A pt_0_n pt_0_c pt_1 pt_2 H Q) h)

/-- slices.Contains[[]bool,bool] -/
def f65 (ps_A : Option Addr) (ps_n ps_c : Nat) (pv : Bool) (H : Hp) (Q : Value → Hp → Prop) : Prop :=
  HCalls Tryz.prog 89 [.slice ps_A ps_n ps_c, .bool pv] H fun v1 H2 => ∃ x3 : Int, v1 = .int .i64 x3 ∧ Q (.bool (decide ((x3 : Int) ≥ 0))) H2
noncomputable def fcx65 : Cx := cx 9 [] [] [] []
theorem f65.eq (ps_A : Option Addr) (ps_n ps_c : Nat) (pv : Bool) (H : Hp) (Q : Value → Hp → Prop) : f65 ps_A ps_n ps_c pv H Q = wFun fcx65 Tryz.f65 [.slice ps_A ps_n ps_c, .bool pv] H Q := by kernel_rfl
theorem f65.ok (ps_A : Option Addr) (ps_n ps_c : Nat) (pv : Bool) {H : Hp} {Q : Value → Hp → Prop} (h : f65 ps_A ps_n ps_c pv H Q) : HCalls Tryz.prog 65 [.slice ps_A ps_n ps_c, .bool pv] H Q := hcalls_of (cxOk _ _ _ _ _) Tryz.func65 (Eq.mp (f65.eq ps_A ps_n ps_c pv H Q) h)

/-- slices.Index[[]bool,bool] -/
def f89 (ps_A : Option Addr) (ps_n ps_c : Nat) (pv : Bool) (H : Hp) (Q : Value → Hp → Prop) : Prop :=
  LoopF (σ := (Int × Unit) × Unit) ((0, ()), ()) H fun s1 H2 next3 => cnd (decide ((s1.1.1 : Int) < ((ps_n : Nat) : Int))) (0 ≤ (s1.1.1 : Int) ∧ (s1.1.1 : Int) < ((ps_n : Nat) : Int) ∧ onPtr ps_A fun b4 o4 => ∃ x5 : Bool,
    cl H2 b4 (o4 + (s1.1.1 : Int).toNat * 1) = some (.bool x5) ∧ cnd (pv == x5) (Q (.int .i64 s1.1.1) H2) (KeepX [some (.v (.slice ps_A ps_n ps_c)), some (.v (.bool pv)), some (.v (.int .i64 ((ps_n : Nat) : Int)))] [] ∧
    next3 ((IntKind.i64.wrap (s1.1.1 + 1), ()), ()) H2)) (Q (.int .i64 (-1)) H2)
noncomputable def fcx89 : Cx := cx 19 [] [(2, ⟨[0, 1, 7], [], [(8, .int .i64)], []⟩)] [] []
theorem f89.eq (ps_A : Option Addr) (ps_n ps_c : Nat) (pv : Bool) (H : Hp) (Q : Value → Hp → Prop) : f89 ps_A ps_n ps_c pv H Q = wFun fcx89 Tryz.f89 [.slice ps_A ps_n ps_c, .bool pv] H Q := by kernel_rfl
theorem f89.ok (ps_A : Option Addr) (ps_n ps_c : Nat) (pv : Bool) {H : Hp} {Q : Value → Hp → Prop} (h : f89 ps_A ps_n ps_c pv H Q) : HCalls Tryz.prog 89 [.slice ps_A ps_n ps_c, .bool pv] H Q := hcalls_of (cxOk _ _ _ _ _) Tryz.func89 (Eq.mp (f89.eq ps_A ps_n ps_c pv H Q) h)

/-- (*justiciar justiciarref17.walker).block -/
def f67 (pw_b pw_o : Nat) (pi : Int) (pdeep : Int) (H : Hp) (Q : Value → Hp → Prop) : Prop :=
  jn (fun (j5 : Bool) => cnd j5 (storeF H pw_b (pw_o + 6) [.bool false] fun H7 => Q (.tuple #[]) H7) (∃ (A8 : Option Addr) (n8 c8 : Nat), cl H pw_b (pw_o + 3) = some (.slice A8 n8 c8) ∧ 0 ≤ (pi : Int) ∧ (pi : Int) < ((n8 :
    Nat) : Int) ∧ onPtr A8 fun b9 o9 => storeF H b9 (o9 + (pi : Int).toNat * 1) [.bool true] fun H10 => ∃ (A11 : Option Addr) (n11 c11 : Nat), cl H10 pw_b ((pw_o + 0) + 0) = some (.slice A11 n11 c11) ∧ 0 ≤ (pi : Int) ∧
    (pi : Int) < ((n11 : Nat) : Int) ∧ onPtr A11 fun b12 o12 => ∃ (A13 : Option Addr) (n13 c13 : Nat), cl H10 b12 (o12 + (pi : Int).toNat * 2) = some (.slice A13 n13 c13) ∧ ∃ (A14 : Option Addr) (n14 c14 : Nat), cl H10
    b12 ((o12 + (pi : Int).toNat * 2) + 1) = some (.slice A14 n14 c14) ∧ jn (fun (j16 : Int) => cnd ((((n14 : Nat) : Int) : Int) == 0) (jn (fun (H20 : Hp) => jn (fun (H30 : Hp) => ∃ (A32 : Option Addr) (n32 c32 : Nat), cl
    H30 pw_b (pw_o + 5) = some (.slice A32 n32 c32) ∧ appendF H30 46 2 32 A32 n32 c32 A13 n13 fun A33 n33 c33 H34 => storeF H34 pw_b (pw_o + 5) [.slice A33 n33 c33] fun H35 => Q (.tuple #[]) H35) fun J31 => ∃ x22 : Bool,
    cl H20 pw_b (pw_o + 6) = some (.bool x22) ∧ cnd x22 (∃ x23 : Int, cl H20 pw_b (pw_o + 4) = some (.int .i64 x23) ∧ cnd ((x23 : Int) == pdeep) (cnd (decide ((((n13 : Nat) : Int) : Int) ≤ 8)) (∃ x24 : Int, cl H20 pw_b
    ((pw_o + 0) + 1) = some (.int .i64 x24) ∧ cnd ((pi : Int) == x24) (storeF H20 pw_b (pw_o + 6) [.bool true] fun H25 => J31 H25) (storeF H20 pw_b (pw_o + 6) [.bool (decide ((((n13 : Nat) : Int) : Int) ≥ j16))] fun H26
    => J31 H26)) (storeF H20 pw_b (pw_o + 6) [.bool false] fun H27 => J31 H27)) (storeF H20 pw_b (pw_o + 6) [.bool false] fun H28 => J31 H28)) (storeF H20 pw_b (pw_o + 6) [.bool false] fun H29 => J31 H29)) fun J21 => ∃
    x18 : Int, cl H10 pw_b (pw_o + 4) = some (.int .i64 x18) ∧ cnd ((x18 : Int) == 0) (storeF H10 pw_b (pw_o + 4) [.int .i64 pdeep] fun H19 => J21 H19) (J21 H10)) (jn (fun (j36 : Bool) => cnd j36 (storeF H10 pw_b (pw_o +
    6) [.bool false] fun H38 => Q (.tuple #[]) H38) (LoopF (σ := (Int × Unit) × Unit) ((0, ()), ()) H10 fun s39 H40 next41 => cnd (decide ((s39.1.1 : Int) < ((n14 : Nat) : Int))) (jn (fun (H56 : Hp) => KeepX [some (.v
    (.pointer (some ⟨pw_b, pw_o, none⟩))), some (.v (.int .i64 pdeep)), some (.loc 6 0), some (.v (.slice A14 n14 c14)), some (.v (.int .i64 ((n14 : Nat) : Int)))] [some (true, [.slice A13 n13 c13, .slice A14 n14 c14])] ∧
    next41 ((IntKind.i64.wrap (s39.1.1 + 1), ()), ()) H56) fun J57 => 0 ≤ (s39.1.1 : Int) ∧ (s39.1.1 : Int) < ((n14 : Nat) : Int) ∧ onPtr A14 fun b42 o42 => ∃ x43 : Int, cl H40 b42 (o42 + (s39.1.1 : Int).toNat * 1) = some
    (.int .i64 x43) ∧ ∃ x44 : Bool, cl H40 pw_b (pw_o + 6) = some (.bool x44) ∧ cnd (!x44) (Q (.tuple #[]) H40) (HCalls Tryz.prog 67 [.pointer (some ⟨pw_b, pw_o, none⟩), .int .i64 x43, .int .i64 (IntKind.i64.wrap (pdeep +
    1))] H40 fun v45 H46 => v45 = .tuple #[] ∧ cnd (decide ((s39.1.1 : Int) < ((n13 : Nat) : Int))) (∃ (A47 : Option Addr) (n47 c47 : Nat), cl H46 pw_b (pw_o + 5) = some (.slice A47 n47 c47) ∧ 0 ≤ (s39.1.1 : Int) ∧
    (s39.1.1 : Int) < ((n13 : Nat) : Int) ∧ onPtr A13 fun b48 o48 => ∃ (A49 : Option Addr) (n49 c49 : Nat), cl H46 b48 (o48 + (s39.1.1 : Int).toNat * 2) = some (.slice A49 n49 c49) ∧ ∃ x50 : Int, cl H46 b48 ((o48 +
    (s39.1.1 : Int).toNat * 2) + 1) = some (.int .i64 x50) ∧ newF H46 46 [.slice A49 n49 c49, .int .i64 x50] fun g51 H52 => appendF H52 46 2 32 A47 n47 c47 (some ⟨g51, 0, none⟩) 1 fun A53 n53 c53 H54 => storeF H54 pw_b
    (pw_o + 5) [.slice A53 n53 c53] fun H55 => J57 H55) (J57 H46))) (Q (.tuple #[]) H40))) fun J37 => cnd (decide ((((n13 : Nat) : Int) : Int) < j16)) (J37 true) (cnd (decide ((((n13 : Nat) : Int) : Int) > 8)) (J37 true)
    (J37 ((((n14 : Nat) : Int) : Int) != (IntKind.i64.wrap (((n13 : Nat) : Int) + 1))))))) fun J17 => ∃ x15 : Int, cl H10 pw_b ((pw_o + 0) + 1) = some (.int .i64 x15) ∧ cnd ((pi : Int) == x15) (J17 1) (J17 3))) fun J6 =>
    cnd (decide ((pi : Int) < 0)) (J6 true) (∃ (A1 : Option Addr) (n1 c1 : Nat), cl H pw_b ((pw_o + 0) + 0) = some (.slice A1 n1 c1) ∧ cnd (decide ((pi : Int) ≥ ((n1 : Nat) : Int))) (J6 true) (∃ (A2 : Option Addr) (n2 c2
    : Nat), cl H pw_b (pw_o + 3) = some (.slice A2 n2 c2) ∧ 0 ≤ (pi : Int) ∧ (pi : Int) < ((n2 : Nat) : Int) ∧ onPtr A2 fun b3 o3 => ∃ x4 : Bool, cl H b3 (o3 + (pi : Int).toNat * 1) = some (.bool x4) ∧ J6 x4))
noncomputable def fcx67 : Cx := cx 177 [(6, true)] [(15, ⟨[0, 2, 6, 140, 141], [6], [(142, .int .i64)], []⟩)] [(11, (.look 0 (.look 1 (.look 2 (.look 3 (.look 4 (.look 5 (.look 6 (.act 7 (.look 8 (.look 9 (.act 10 .done .done))) .done))))))))), (20, (.look 0 (.look 1 (.look 2 (.look 3 (.look 4 (.look 5 (.look 6 (.look 7 (.look 8 (.look 9 (.act 10 (.act 11 (.look 12 (.look 13 (.act 14 .done .done))) .done) .done))))))))))))] []
theorem f67.eq (pw_b pw_o : Nat) (pi : Int) (pdeep : Int) (H : Hp) (Q : Value → Hp → Prop) : f67 pw_b pw_o pi pdeep H Q = wFun fcx67 Tryz.f67 [.pointer (some ⟨pw_b, pw_o, none⟩), .int .i64 pi, .int .i64 pdeep] H Q := by kernel_rfl
theorem f67.ok (pw_b pw_o : Nat) (pi : Int) (pdeep : Int) {H : Hp} {Q : Value → Hp → Prop} (h : f67 pw_b pw_o pi pdeep H Q) : HCalls Tryz.prog 67 [.pointer (some ⟨pw_b, pw_o, none⟩), .int .i64 pi, .int .i64 pdeep] H Q := hcalls_of (cxOk _ _ _ _ _) Tryz.func67 (Eq.mp (f67.eq pw_b pw_o pi pdeep H Q) h)

/-- justiciar justiciarref17.through -/
def f38 (pt_0_A : Option Addr) (pt_0_n pt_0_c : Nat) (pt_1 : Int) (pt_2 : Int) (H : Hp) (Q : Value → Hp → Prop) : Prop :=
  jn (fun (j1 : Bool) => cnd j1 (Q (.tuple #[.slice none 0 0, .int .i64 0, .bool false]) H) (((((pt_0_n : Nat) : Int) : Int) = ((pt_0_n : Nat) : Int) ∧ 0 ≤ (((pt_0_n : Nat) : Int) : Int) ∧ (((pt_0_n : Nat) : Int) : Int) ≤
    16777216 ∧ newF H 4 (List.replicate ((((pt_0_n : Nat) : Int) : Int).toNat) [.bool false]).flatten fun g3 H4 => newF H4 107 [.slice pt_0_A pt_0_n pt_0_c, .int .i64 pt_1, .int .i64 pt_2, .slice (some ⟨g3, 0, none⟩)
    ((((pt_0_n : Nat) : Int) : Int).toNat) ((((pt_0_n : Nat) : Int) : Int).toNat), .int .i64 0, .slice none 0 0, .bool true] fun g5 H6 => HCalls Tryz.prog 67 [.pointer (some ⟨g5, 0, none⟩), .int .i64 pt_1, .int .i64 1] H6
    fun v7 H8 => v7 = .tuple #[] ∧ ∃ (A9 : Option Addr) (n9 c9 : Nat), cl H8 g5 (0 + 3) = some (.slice A9 n9 c9) ∧ LoopF (σ := (Int × Unit) × Unit) ((0, ()), ()) H8 fun s10 H11 next12 => cnd (decide ((s10.1.1 : Int) <
    ((n9 : Nat) : Int))) (jn (fun (H18 : Hp) => KeepX [some (.loc 1 0), some (.v (.pointer (some ⟨g5, 0, none⟩))), some (.v (.slice A9 n9 c9)), some (.v (.int .i64 ((n9 : Nat) : Int)))] [some (true, [.slice pt_0_A pt_0_n
    pt_0_c, .int .i64 pt_1, .int .i64 pt_2])] ∧ next12 ((IntKind.i64.wrap (s10.1.1 + 1), ()), ()) H18) fun J19 => 0 ≤ (s10.1.1 : Int) ∧ (s10.1.1 : Int) < ((n9 : Nat) : Int) ∧ onPtr A9 fun b13 o13 => ∃ x14 : Bool, cl H11
    b13 (o13 + (s10.1.1 : Int).toNat * 1) = some (.bool x14) ∧ ∃ x15 : Bool, cl H11 g5 (0 + 6) = some (.bool x15) ∧ cnd x15 (storeF H11 g5 (0 + 6) [.bool x14] fun H16 => J19 H16) (storeF H11 g5 (0 + 6) [.bool false] fun
    H17 => J19 H17)) (∃ (A20 : Option Addr) (n20 c20 : Nat), cl H11 g5 (0 + 5) = some (.slice A20 n20 c20) ∧ LoopF (σ := (Int × Unit) × Unit) ((0, ()), ()) H11 fun s21 H22 next23 => cnd (decide ((s21.1.1 : Int) < ((n20 :
    Nat) : Int))) (jn (fun (H42 : Hp) => KeepX [some (.loc 1 0), some (.v (.pointer (some ⟨g5, 0, none⟩))), some (.v (.slice A20 n20 c20)), some (.v (.int .i64 ((n20 : Nat) : Int)))] [some (true, [.slice pt_0_A pt_0_n
    pt_0_c, .int .i64 pt_1, .int .i64 pt_2])] ∧ next23 ((IntKind.i64.wrap (s21.1.1 + 1), ()), ()) H42) fun J43 => 0 ≤ (s21.1.1 : Int) ∧ (s21.1.1 : Int) < ((n20 : Nat) : Int) ∧ onPtr A20 fun b24 o24 => ∃ (A25 : Option
    Addr) (n25 c25 : Nat), cl H22 b24 (o24 + (s21.1.1 : Int).toNat * 2) = some (.slice A25 n25 c25) ∧ ∃ x26 : Int, cl H22 b24 ((o24 + (s21.1.1 : Int).toNat * 2) + 1) = some (.int .i64 x26) ∧ ∃ x27 : Bool, cl H22 g5 (0 +
    6) = some (.bool x27) ∧ cnd x27 (HCalls Tryz.prog 56 [.int .i64 pt_2, .agg #[.slice A25 n25 c25, .int .i64 x26]] H22 fun v28 H29 => ∃ x30 : Bool, v28 = .bool x30 ∧ cnd x30 (cnd ((s21.1.1 : Int) == 0) (storeF H29 g5 (0
    + 6) [.bool true] fun H31 => J43 H31) (∃ (A32 : Option Addr) (n32 c32 : Nat), cl H29 g5 (0 + 5) = some (.slice A32 n32 c32) ∧ 0 ≤ (IntKind.i64.wrap (s21.1.1 - 1) : Int) ∧ (IntKind.i64.wrap (s21.1.1 - 1) : Int) < ((n32
    : Nat) : Int) ∧ onPtr A32 fun b33 o33 => ∃ (A34 : Option Addr) (n34 c34 : Nat), cl H29 b33 (o33 + (IntKind.i64.wrap (s21.1.1 - 1) : Int).toNat * 2) = some (.slice A34 n34 c34) ∧ ∃ x35 : Int, cl H29 b33 ((o33 +
    (IntKind.i64.wrap (s21.1.1 - 1) : Int).toNat * 2) + 1) = some (.int .i64 x35) ∧ HCalls Tryz.prog 59 [.agg #[.slice A34 n34 c34, .int .i64 x35], .agg #[.slice A25 n25 c25, .int .i64 x26]] H29 fun v36 H37 => ∃ x38 :
    Int, v36 = .int .i64 x38 ∧ storeF H37 g5 (0 + 6) [.bool (decide ((x38 : Int) < 0))] fun H39 => J43 H39)) (storeF H29 g5 (0 + 6) [.bool false] fun H40 => J43 H40)) (storeF H22 g5 (0 + 6) [.bool false] fun H41 => J43
    H41)) (∃ (A44 : Option Addr) (n44 c44 : Nat), cl H22 g5 (0 + 5) = some (.slice A44 n44 c44) ∧ ∃ x45 : Int, cl H22 g5 (0 + 4) = some (.int .i64 x45) ∧ ∃ x46 : Bool, cl H22 g5 (0 + 6) = some (.bool x46) ∧ Q (.tuple
    #[.slice A44 n44 c44, .int .i64 x45, .bool x46]) H22))))) fun J2 => cnd (decide ((pt_2 : Int) < 1)) (J2 true) (cnd (decide ((pt_2 : Int) > 20)) (J2 true) (cnd (decide ((((pt_0_n : Nat) : Int) : Int) < 1)) (J2 true)
    (J2 (decide ((((pt_0_n : Nat) : Int) : Int) > 2000)))))
noncomputable def fcx38 : Cx := cx 114 [(1, true), (9, true)] [(6, ⟨[1, 5, 44, 45], [1], [(46, .int .i64)], []⟩), (11, ⟨[1, 5, 64, 65], [1], [(66, .int .i64)], []⟩)] [(3, (.look 0 (.look 1 (.look 2 (.look 3 (.act 4 (.look 5 (.act 6 (.act 7 .done .done) .done)) .done)))))), (13, (.look 0 (.look 1 (.look 2 (.look 3 (.look 4 (.look 5 (.look 6 (.look 7 (.look 8 (.act 9 (.look 10 (.look 11 (.look 12 (.look 13 (.look 14 (.look 15 (.look 16 (.look 17 (.look 18 (.look 19 (.look 20 (.look 21 (.look 22 (.look 23 (.act 24 (.look 25 (.look 26 (.look 27 (.look 28 (.look 29 (.act 30 .done .done)))))) .done))))))))))))))) .done))))))))))), (15, (.look 0 (.look 1 (.look 2 (.look 3 (.look 4 (.look 5 (.look 6 (.look 7 (.look 8 (.look 9 (.look 10 (.look 11 (.act 12 (.act 13 (.act 14 .done .done) .done) .done))))))))))))))] []
theorem f38.eq (pt_0_A : Option Addr) (pt_0_n pt_0_c : Nat) (pt_1 : Int) (pt_2 : Int) (H : Hp) (Q : Value → Hp → Prop) : f38 pt_0_A pt_0_n pt_0_c pt_1 pt_2 H Q = wFun fcx38 Tryz.f38 [.agg #[.slice pt_0_A pt_0_n pt_0_c, .int .i64 pt_1, .int .i64 pt_2]] H Q := by kernel_rfl
theorem f38.ok (pt_0_A : Option Addr) (pt_0_n pt_0_c : Nat) (pt_1 : Int) (pt_2 : Int) {H : Hp} {Q : Value → Hp → Prop} (h : f38 pt_0_A pt_0_n pt_0_c pt_1 pt_2 H Q) : HCalls Tryz.prog 38 [.agg #[.slice pt_0_A pt_0_n pt_0_c, .int .i64 pt_1, .int .i64 pt_2]] H Q := hcalls_of (cxOk _ _ _ _ _) Tryz.func38 (Eq.mp (f38.eq pt_0_A pt_0_n pt_0_c pt_1 pt_2 H Q) h)

/-- justiciar tree.All -/
def f11 (pt_0_A : Option Addr) (pt_0_n pt_0_c : Nat) (pt_1 : Int) (pt_2 : Int) (H : Hp) (Q : Value → Hp → Prop) : Prop :=
  HCalls Tryz.prog 36 [.agg #[.slice pt_0_A pt_0_n pt_0_c, .int .i64 pt_1, .int .i64 pt_2]] H fun v1 H2 => ∃ p3 : Option Addr, ∃ x4 : Bool, v1 = .tuple #[.pointer p3, .bool x4] ∧ cnd (!x4) (Q (.tuple #[.slice none 0 0, .int
    .i64 2]) H2) (onPtr p3 fun b5 o5 => ∃ (A6 : Option Addr) (n6 c6 : Nat), cl H2 b5 (o5 + 5) = some (.slice A6 n6 c6) ∧ LoopF (σ := ((Option Addr × Nat × Nat) × (Int × Unit)) × Unit) (((none, 0, 0), (0, ())), ()) H2 fun
    s7 H8 next9 => cnd (decide ((s7.1.2.1 : Int) < ((n6 : Nat) : Int))) (0 ≤ (s7.1.2.1 : Int) ∧ (s7.1.2.1 : Int) < ((n6 : Nat) : Int) ∧ onPtr A6 fun b10 o10 => ∃ (A11 : Option Addr) (n11 c11 : Nat), cl H8 b10 (o10 +
    (s7.1.2.1 : Int).toNat * 2) = some (.slice A11 n11 c11) ∧ ∃ x12 : Int, cl H8 b10 ((o10 + (s7.1.2.1 : Int).toNat * 2) + 1) = some (.int .i64 x12) ∧ HCalls Tryz.prog 37 [.agg #[.slice A11 n11 c11, .int .i64 x12]] H8 fun
    v13 H14 => ∃ (A15 : Option Addr) (n15 c15 : Nat), ∃ x16 : Int, v13 = .agg #[.slice A15 n15 c15, .int .i64 x16] ∧ newF H14 46 [.slice A15 n15 c15, .int .i64 x16] fun g17 H18 => appendF H18 46 2 32 s7.1.1.1 s7.1.1.2.1
    s7.1.1.2.2 (some ⟨g17, 0, none⟩) 1 fun A19 n19 c19 H20 => KeepX [some (.v (.slice A6 n6 c6)), some (.v (.int .i64 ((n6 : Nat) : Int)))] [] ∧ next9 (((A19, n19, c19), (IntKind.i64.wrap (s7.1.2.1 + 1), ())), ()) H20) (Q
    (.tuple #[.slice s7.1.1.1 s7.1.1.2.1 s7.1.1.2.2, .int .i64 0]) H8))
noncomputable def fcx11 : Cx := cx 32 [(1, true), (8, true)] [(6, ⟨[19, 20], [], [(6, .slice), (21, .int .i64)], []⟩)] [] []
theorem f11.eq (pt_0_A : Option Addr) (pt_0_n pt_0_c : Nat) (pt_1 : Int) (pt_2 : Int) (H : Hp) (Q : Value → Hp → Prop) : f11 pt_0_A pt_0_n pt_0_c pt_1 pt_2 H Q = wFun fcx11 Tryz.f11 [.agg #[.slice pt_0_A pt_0_n pt_0_c, .int .i64 pt_1, .int .i64 pt_2]] H Q := by kernel_rfl
theorem f11.ok (pt_0_A : Option Addr) (pt_0_n pt_0_c : Nat) (pt_1 : Int) (pt_2 : Int) {H : Hp} {Q : Value → Hp → Prop} (h : f11 pt_0_A pt_0_n pt_0_c pt_1 pt_2 H Q) : HCalls Tryz.prog 11 [.agg #[.slice pt_0_A pt_0_n pt_0_c, .int .i64 pt_1, .int .i64 pt_2]] H Q := hcalls_of (cxOk _ _ _ _ _) Tryz.func11 (Eq.mp (f11.eq pt_0_A pt_0_n pt_0_c pt_1 pt_2 H Q) h)

/-- justiciar justiciarref17.All -/
def f12 (pt_0_A : Option Addr) (pt_0_n pt_0_c : Nat) (pt_1 : Int) (pt_2 : Int) (H : Hp) (Q : Value → Hp → Prop) : Prop :=
  HCalls Tryz.prog 38 [.agg #[.slice pt_0_A pt_0_n pt_0_c, .int .i64 pt_1, .int .i64 pt_2]] H fun v1 H2 => ∃ (A3 : Option Addr) (n3 c3 : Nat), ∃ x4 : Int, ∃ x5 : Bool, v1 = .tuple #[.slice A3 n3 c3, .int .i64 x4, .bool x5]
    ∧ cnd (!x5) (Q (.tuple #[.slice none 0 0, .int .i64 2]) H2) (Q (.tuple #[.slice A3 n3 c3, .int .i64 0]) H2)
noncomputable def fcx12 : Cx := cx 16 [(1, true)] [] [] []
theorem f12.eq (pt_0_A : Option Addr) (pt_0_n pt_0_c : Nat) (pt_1 : Int) (pt_2 : Int) (H : Hp) (Q : Value → Hp → Prop) : f12 pt_0_A pt_0_n pt_0_c pt_1 pt_2 H Q = wFun fcx12 Tryz.f12 [.agg #[.slice pt_0_A pt_0_n pt_0_c, .int .i64 pt_1, .int .i64 pt_2]] H Q := by kernel_rfl
theorem f12.ok (pt_0_A : Option Addr) (pt_0_n pt_0_c : Nat) (pt_1 : Int) (pt_2 : Int) {H : Hp} {Q : Value → Hp → Prop} (h : f12 pt_0_A pt_0_n pt_0_c pt_1 pt_2 H Q) : HCalls Tryz.prog 12 [.agg #[.slice pt_0_A pt_0_n pt_0_c, .int .i64 pt_1, .int .i64 pt_2]] H Q := hcalls_of (cxOk _ _ _ _ _) Tryz.func12 (Eq.mp (f12.eq pt_0_A pt_0_n pt_0_c pt_1 pt_2 H Q) h)

/-- justiciar tree.Valid -/
def f13 (pt_0_A : Option Addr) (pt_0_n pt_0_c : Nat) (pt_1 : Int) (pt_2 : Int) (H : Hp) (Q : Value → Hp → Prop) : Prop :=
  HCalls Tryz.prog 36 [.agg #[.slice pt_0_A pt_0_n pt_0_c, .int .i64 pt_1, .int .i64 pt_2]] H fun v1 H2 => ∃ p3 : Option Addr, ∃ x4 : Bool, v1 = .tuple #[.pointer p3, .bool x4] ∧ Q (.bool x4) H2
noncomputable def fcx13 : Cx := cx 11 [(1, true)] [] [] []
theorem f13.eq (pt_0_A : Option Addr) (pt_0_n pt_0_c : Nat) (pt_1 : Int) (pt_2 : Int) (H : Hp) (Q : Value → Hp → Prop) : f13 pt_0_A pt_0_n pt_0_c pt_1 pt_2 H Q = wFun fcx13 Tryz.f13 [.agg #[.slice pt_0_A pt_0_n pt_0_c, .int .i64 pt_1, .int .i64 pt_2]] H Q := by kernel_rfl
theorem f13.ok (pt_0_A : Option Addr) (pt_0_n pt_0_c : Nat) (pt_1 : Int) (pt_2 : Int) {H : Hp} {Q : Value → Hp → Prop} (h : f13 pt_0_A pt_0_n pt_0_c pt_1 pt_2 H Q) : HCalls Tryz.prog 13 [.agg #[.slice pt_0_A pt_0_n pt_0_c, .int .i64 pt_1, .int .i64 pt_2]] H Q := hcalls_of (cxOk _ _ _ _ _) Tryz.func13 (Eq.mp (f13.eq pt_0_A pt_0_n pt_0_c pt_1 pt_2 H Q) h)

/-- justiciar justiciarref17.Valid -/
def f14 (pt_0_A : Option Addr) (pt_0_n pt_0_c : Nat) (pt_1 : Int) (pt_2 : Int) (H : Hp) (Q : Value → Hp → Prop) : Prop :=
  HCalls Tryz.prog 38 [.agg #[.slice pt_0_A pt_0_n pt_0_c, .int .i64 pt_1, .int .i64 pt_2]] H fun v1 H2 => ∃ (A3 : Option Addr) (n3 c3 : Nat), ∃ x4 : Int, ∃ x5 : Bool, v1 = .tuple #[.slice A3 n3 c3, .int .i64 x4, .bool x5]
    ∧ Q (.bool x5) H2
noncomputable def fcx14 : Cx := cx 13 [(1, true)] [] [] []
theorem f14.eq (pt_0_A : Option Addr) (pt_0_n pt_0_c : Nat) (pt_1 : Int) (pt_2 : Int) (H : Hp) (Q : Value → Hp → Prop) : f14 pt_0_A pt_0_n pt_0_c pt_1 pt_2 H Q = wFun fcx14 Tryz.f14 [.agg #[.slice pt_0_A pt_0_n pt_0_c, .int .i64 pt_1, .int .i64 pt_2]] H Q := by kernel_rfl
theorem f14.ok (pt_0_A : Option Addr) (pt_0_n pt_0_c : Nat) (pt_1 : Int) (pt_2 : Int) {H : Hp} {Q : Value → Hp → Prop} (h : f14 pt_0_A pt_0_n pt_0_c pt_1 pt_2 H Q) : HCalls Tryz.prog 14 [.agg #[.slice pt_0_A pt_0_n pt_0_c, .int .i64 pt_1, .int .i64 pt_2]] H Q := hcalls_of (cxOk _ _ _ _ _) Tryz.func14 (Eq.mp (f14.eq pt_0_A pt_0_n pt_0_c pt_1 pt_2 H Q) h)

/-- justiciar tree.Depth -/
def f16 (pt_0_A : Option Addr) (pt_0_n pt_0_c : Nat) (pt_1 : Int) (pt_2 : Int) (H : Hp) (Q : Value → Hp → Prop) : Prop :=
  HCalls Tryz.prog 36 [.agg #[.slice pt_0_A pt_0_n pt_0_c, .int .i64 pt_1, .int .i64 pt_2]] H fun v1 H2 => ∃ p3 : Option Addr, ∃ x4 : Bool, v1 = .tuple #[.pointer p3, .bool x4] ∧ cnd (!x4) (Q (.tuple #[.int .i64 0, .int
    .i64 2]) H2) (onPtr p3 fun b5 o5 => ∃ x6 : Int, cl H2 b5 (o5 + 4) = some (.int .i64 x6) ∧ Q (.tuple #[.int .i64 x6, .int .i64 0]) H2)
noncomputable def fcx16 : Cx := cx 17 [(1, true)] [] [] []
theorem f16.eq (pt_0_A : Option Addr) (pt_0_n pt_0_c : Nat) (pt_1 : Int) (pt_2 : Int) (H : Hp) (Q : Value → Hp → Prop) : f16 pt_0_A pt_0_n pt_0_c pt_1 pt_2 H Q = wFun fcx16 Tryz.f16 [.agg #[.slice pt_0_A pt_0_n pt_0_c, .int .i64 pt_1, .int .i64 pt_2]] H Q := by kernel_rfl
theorem f16.ok (pt_0_A : Option Addr) (pt_0_n pt_0_c : Nat) (pt_1 : Int) (pt_2 : Int) {H : Hp} {Q : Value → Hp → Prop} (h : f16 pt_0_A pt_0_n pt_0_c pt_1 pt_2 H Q) : HCalls Tryz.prog 16 [.agg #[.slice pt_0_A pt_0_n pt_0_c, .int .i64 pt_1, .int .i64 pt_2]] H Q := hcalls_of (cxOk _ _ _ _ _) Tryz.func16 (Eq.mp (f16.eq pt_0_A pt_0_n pt_0_c pt_1 pt_2 H Q) h)

/-- justiciar justiciarref17.Depth -/
def f17 (pt_0_A : Option Addr) (pt_0_n pt_0_c : Nat) (pt_1 : Int) (pt_2 : Int) (H : Hp) (Q : Value → Hp → Prop) : Prop :=
  HCalls Tryz.prog 38 [.agg #[.slice pt_0_A pt_0_n pt_0_c, .int .i64 pt_1, .int .i64 pt_2]] H fun v1 H2 => ∃ (A3 : Option Addr) (n3 c3 : Nat), ∃ x4 : Int, ∃ x5 : Bool, v1 = .tuple #[.slice A3 n3 c3, .int .i64 x4, .bool x5]
    ∧ cnd (!x5) (Q (.tuple #[.int .i64 0, .int .i64 2]) H2) (Q (.tuple #[.int .i64 x4, .int .i64 0]) H2)
noncomputable def fcx17 : Cx := cx 16 [(1, true)] [] [] []
theorem f17.eq (pt_0_A : Option Addr) (pt_0_n pt_0_c : Nat) (pt_1 : Int) (pt_2 : Int) (H : Hp) (Q : Value → Hp → Prop) : f17 pt_0_A pt_0_n pt_0_c pt_1 pt_2 H Q = wFun fcx17 Tryz.f17 [.agg #[.slice pt_0_A pt_0_n pt_0_c, .int .i64 pt_1, .int .i64 pt_2]] H Q := by kernel_rfl
theorem f17.ok (pt_0_A : Option Addr) (pt_0_n pt_0_c : Nat) (pt_1 : Int) (pt_2 : Int) {H : Hp} {Q : Value → Hp → Prop} (h : f17 pt_0_A pt_0_n pt_0_c pt_1 pt_2 H Q) : HCalls Tryz.prog 17 [.agg #[.slice pt_0_A pt_0_n pt_0_c, .int .i64 pt_1, .int .i64 pt_2]] H Q := hcalls_of (cxOk _ _ _ _ _) Tryz.func17 (Eq.mp (f17.eq pt_0_A pt_0_n pt_0_c pt_1 pt_2 H Q) h)

/-- justiciar tree.Touched -/
def f18 (pt_0_A : Option Addr) (pt_0_n pt_0_c : Nat) (pt_1 : Int) (pt_2 : Int) (pkey_A : Option Addr) (pkey_n pkey_c : Nat) (H : Hp) (Q : Value → Hp → Prop) : Prop :=
  jn (fun (j7 : Bool) (H8 : Hp) => cnd j7 (Q (.tuple #[.int .i64 0, .int .i64 2]) H8) (LoopF (σ := (Int × (Int × Unit)) × Unit) ((pt_1, (1, ())), ()) H8 fun s10 H11 next12 => 0 ≤ (s10.1.1 : Int) ∧ (s10.1.1 : Int) < ((pt_0_n
    : Nat) : Int) ∧ onPtr pt_0_A fun b13 o13 => ∃ (A14 : Option Addr) (n14 c14 : Nat), cl H11 b13 (o13 + (s10.1.1 : Int).toNat * 2) = some (.slice A14 n14 c14) ∧ ∃ (A15 : Option Addr) (n15 c15 : Nat), cl H11 b13 ((o13 +
    (s10.1.1 : Int).toNat * 2) + 1) = some (.slice A15 n15 c15) ∧ LoopF (σ := (Int × Unit) × Unit) ((0, ()), ()) H11 fun s16 H17 next18 => jn (fun (j28 : Bool) (H29 : Hp) => cnd j28 (KeepX [some (.v (.slice pkey_A pkey_n
    pkey_c)), some (.loc 2 0), some (.v (.int .i64 s10.1.2.1)), some (.loc 8 0)] [some (true, [.slice pt_0_A pt_0_n pt_0_c, .int .i64 pt_1, .int .i64 pt_2]), some (true, [.slice A14 n14 c14, .slice A15 n15 c15])] ∧ next18
    ((IntKind.i64.wrap (s16.1.1 + 1), ()), ()) H29) (jn (fun (j40 : Bool) (H41 : Hp) => cnd j40 (Q (.tuple #[.int .i64 s10.1.2.1, .int .i64 0]) H41) (0 ≤ (s16.1.1 : Int) ∧ (s16.1.1 : Int) < ((n15 : Nat) : Int) ∧ onPtr A15
    fun b43 o43 => ∃ x44 : Int, cl H41 b43 (o43 + (s16.1.1 : Int).toNat * 1) = some (.int .i64 x44) ∧ KeepX [some (.v (.slice pkey_A pkey_n pkey_c)), some (.loc 2 0)] [some (true, [.slice pt_0_A pt_0_n pt_0_c, .int .i64
    pt_1, .int .i64 pt_2])] ∧ next12 ((x44, (IntKind.i64.wrap (s10.1.2.1 + 1), ())), ()) H41)) fun J42 => cnd (decide ((s16.1.1 : Int) < ((n14 : Nat) : Int))) (0 ≤ (s16.1.1 : Int) ∧ (s16.1.1 : Int) < ((n14 : Nat) : Int) ∧
    onPtr A14 fun b31 o31 => ∃ (A32 : Option Addr) (n32 c32 : Nat), cl H29 b31 (o31 + (s16.1.1 : Int).toNat * 2) = some (.slice A32 n32 c32) ∧ ∃ x33 : Int, cl H29 b31 ((o31 + (s16.1.1 : Int).toNat * 2) + 1) = some (.int
    .i64 x33) ∧ HCalls Tryz.prog 42 [.agg #[.slice A32 n32 c32, .int .i64 x33], .int .i64 ((pkey_n : Nat) : Int)] H29 fun v34 H35 => ∃ (A36 : Option Addr) (n36 c36 : Nat), v34 = .slice A36 n36 c36 ∧ HCalls Tryz.prog 41
    [.slice A36 n36 c36, .slice pkey_A pkey_n pkey_c] H35 fun v37 H38 => ∃ x39 : Int, v37 = .int .i64 x39 ∧ cnd ((x39 : Int) == 0) (J42 true H38) (J42 ((((n15 : Nat) : Int) : Int) == 0) H38)) (J42 ((((n15 : Nat) : Int) :
    Int) == 0) H29))) fun J30 => cnd (decide ((s16.1.1 : Int) < ((n14 : Nat) : Int))) (0 ≤ (s16.1.1 : Int) ∧ (s16.1.1 : Int) < ((n14 : Nat) : Int) ∧ onPtr A14 fun b19 o19 => ∃ (A20 : Option Addr) (n20 c20 : Nat), cl H17
    b19 (o19 + (s16.1.1 : Int).toNat * 2) = some (.slice A20 n20 c20) ∧ ∃ x21 : Int, cl H17 b19 ((o19 + (s16.1.1 : Int).toNat * 2) + 1) = some (.int .i64 x21) ∧ HCalls Tryz.prog 42 [.agg #[.slice A20 n20 c20, .int .i64
    x21], .int .i64 ((pkey_n : Nat) : Int)] H17 fun v22 H23 => ∃ (A24 : Option Addr) (n24 c24 : Nat), v22 = .slice A24 n24 c24 ∧ HCalls Tryz.prog 41 [.slice A24 n24 c24, .slice pkey_A pkey_n pkey_c] H23 fun v25 H26 => ∃
    x27 : Int, v25 = .int .i64 x27 ∧ J30 (decide ((x27 : Int) < 0)) H26) (J30 false H17))) fun J9 => HCalls Tryz.prog 13 [.agg #[.slice pt_0_A pt_0_n pt_0_c, .int .i64 pt_1, .int .i64 pt_2]] H fun v1 H2 => ∃ x3 : Bool, v1
    = .bool x3 ∧ cnd (!x3) (J9 true H2) (cnd (decide ((((pkey_n : Nat) : Int) : Int) < 1)) (J9 true H2) (cnd (decide ((((pkey_n : Nat) : Int) : Int) > pt_2)) (J9 true H2) (HCalls Tryz.prog 40 [.slice pkey_A pkey_n pkey_c]
    H2 fun v4 H5 => ∃ x6 : Bool, v4 = .bool x6 ∧ J9 (!x6) H5)))
noncomputable def fcx18 : Cx := cx 89 [(2, true), (8, true)] [(6, ⟨[1, 2], [2], [(6, .int .i64), (7, .int .i64)], []⟩), (8, ⟨[1, 2, 7, 8], [2, 8], [(9, .int .i64)], []⟩)] [] []
theorem f18.eq (pt_0_A : Option Addr) (pt_0_n pt_0_c : Nat) (pt_1 : Int) (pt_2 : Int) (pkey_A : Option Addr) (pkey_n pkey_c : Nat) (H : Hp) (Q : Value → Hp → Prop) : f18 pt_0_A pt_0_n pt_0_c pt_1 pt_2 pkey_A pkey_n pkey_c H Q = wFun fcx18 Tryz.f18 [.agg #[.slice pt_0_A pt_0_n pt_0_c, .int .i64 pt_1, .int .i64 pt_2], .slice pkey_A pkey_n pkey_c] H Q := by kernel_rfl
theorem f18.ok (pt_0_A : Option Addr) (pt_0_n pt_0_c : Nat) (pt_1 : Int) (pt_2 : Int) (pkey_A : Option Addr) (pkey_n pkey_c : Nat) {H : Hp} {Q : Value → Hp → Prop} (h : f18 pt_0_A pt_0_n pt_0_c pt_1 pt_2 pkey_A pkey_n pkey_c H Q) : HCalls Tryz.prog 18 [.agg #[.slice pt_0_A pt_0_n pt_0_c, .int .i64 pt_1, .int .i64 pt_2], .slice pkey_A pkey_n pkey_c] H Q := hcalls_of (cxOk _ _ _ _ _) Tryz.func18 (Eq.mp (f18.eq pt_0_A pt_0_n pt_0_c pt_1 pt_2 pkey_A pkey_n pkey_c H Q) h)

/-- justiciar justiciarref17.Touched -/
def f19 (pt_0_A : Option Addr) (pt_0_n pt_0_c : Nat) (pt_1 : Int) (pt_2 : Int) (pkey_A : Option Addr) (pkey_n pkey_c : Nat) (H : Hp) (Q : Value → Hp → Prop) : Prop :=
  jn (fun (j7 : Bool) (H8 : Hp) => cnd j7 (Q (.tuple #[.int .i64 0, .int .i64 2]) H8) (LoopF (σ := (Int × (Int × Unit)) × Unit) ((pt_1, (1, ())), ()) H8 fun s10 H11 next12 => 0 ≤ (s10.1.1 : Int) ∧ (s10.1.1 : Int) < ((pt_0_n
    : Nat) : Int) ∧ onPtr pt_0_A fun b13 o13 => ∃ (A14 : Option Addr) (n14 c14 : Nat), cl H11 b13 (o13 + (s10.1.1 : Int).toNat * 2) = some (.slice A14 n14 c14) ∧ ∃ (A15 : Option Addr) (n15 c15 : Nat), cl H11 b13 ((o13 +
    (s10.1.1 : Int).toNat * 2) + 1) = some (.slice A15 n15 c15) ∧ LoopF (σ := (Int × Unit) × Unit) ((0, ()), ()) H11 fun s16 H17 next18 => jn (fun (j24 : Bool) (H25 : Hp) => cnd j24 (KeepX [some (.v (.slice pkey_A pkey_n
    pkey_c)), some (.loc 2 0), some (.v (.int .i64 s10.1.2.1)), some (.loc 8 0)] [some (true, [.slice pt_0_A pt_0_n pt_0_c, .int .i64 pt_1, .int .i64 pt_2]), some (true, [.slice A14 n14 c14, .slice A15 n15 c15])] ∧ next18
    ((IntKind.i64.wrap (s16.1.1 + 1), ()), ()) H25) (jn (fun (j32 : Bool) (H33 : Hp) => cnd j32 (Q (.tuple #[.int .i64 s10.1.2.1, .int .i64 0]) H33) (0 ≤ (s16.1.1 : Int) ∧ (s16.1.1 : Int) < ((n15 : Nat) : Int) ∧ onPtr A15
    fun b35 o35 => ∃ x36 : Int, cl H33 b35 (o35 + (s16.1.1 : Int).toNat * 1) = some (.int .i64 x36) ∧ KeepX [some (.v (.slice pkey_A pkey_n pkey_c)), some (.loc 2 0)] [some (true, [.slice pt_0_A pt_0_n pt_0_c, .int .i64
    pt_1, .int .i64 pt_2])] ∧ next12 ((x36, (IntKind.i64.wrap (s10.1.2.1 + 1), ())), ()) H33)) fun J34 => cnd ((((n15 : Nat) : Int) : Int) == 0) (J34 true H25) (cnd (decide ((s16.1.1 : Int) < ((n14 : Nat) : Int))) (0 ≤
    (s16.1.1 : Int) ∧ (s16.1.1 : Int) < ((n14 : Nat) : Int) ∧ onPtr A14 fun b27 o27 => ∃ (A28 : Option Addr) (n28 c28 : Nat), cl H25 b27 ((o27 + (s16.1.1 : Int).toNat * 2) + 0) = some (.slice A28 n28 c28) ∧ HCalls
    Tryz.prog 44 [.slice A28 n28 c28, .slice pkey_A pkey_n pkey_c] H25 fun v29 H30 => ∃ x31 : Int, v29 = .int .i64 x31 ∧ J34 ((x31 : Int) == 0) H30) (J34 false H25)))) fun J26 => cnd (decide ((s16.1.1 : Int) < ((n14 :
    Nat) : Int))) (0 ≤ (s16.1.1 : Int) ∧ (s16.1.1 : Int) < ((n14 : Nat) : Int) ∧ onPtr A14 fun b19 o19 => ∃ (A20 : Option Addr) (n20 c20 : Nat), cl H17 b19 ((o19 + (s16.1.1 : Int).toNat * 2) + 0) = some (.slice A20 n20
    c20) ∧ HCalls Tryz.prog 44 [.slice A20 n20 c20, .slice pkey_A pkey_n pkey_c] H17 fun v21 H22 => ∃ x23 : Int, v21 = .int .i64 x23 ∧ J26 (decide ((x23 : Int) < 0)) H22) (J26 false H17))) fun J9 => HCalls Tryz.prog 14
    [.agg #[.slice pt_0_A pt_0_n pt_0_c, .int .i64 pt_1, .int .i64 pt_2]] H fun v1 H2 => ∃ x3 : Bool, v1 = .bool x3 ∧ cnd (!x3) (J9 true H2) (HCalls Tryz.prog 43 [.slice pkey_A pkey_n pkey_c, .int .i64 1, .int .i64 pt_2]
    H2 fun v4 H5 => ∃ x6 : Bool, v4 = .bool x6 ∧ J9 (!x6) H5)
noncomputable def fcx19 : Cx := cx 75 [(2, true), (8, true)] [(6, ⟨[1, 2], [2], [(6, .int .i64), (7, .int .i64)], []⟩), (8, ⟨[1, 2, 7, 8], [2, 8], [(9, .int .i64)], []⟩)] [] []
theorem f19.eq (pt_0_A : Option Addr) (pt_0_n pt_0_c : Nat) (pt_1 : Int) (pt_2 : Int) (pkey_A : Option Addr) (pkey_n pkey_c : Nat) (H : Hp) (Q : Value → Hp → Prop) : f19 pt_0_A pt_0_n pt_0_c pt_1 pt_2 pkey_A pkey_n pkey_c H Q = wFun fcx19 Tryz.f19 [.agg #[.slice pt_0_A pt_0_n pt_0_c, .int .i64 pt_1, .int .i64 pt_2], .slice pkey_A pkey_n pkey_c] H Q := by kernel_rfl
theorem f19.ok (pt_0_A : Option Addr) (pt_0_n pt_0_c : Nat) (pt_1 : Int) (pt_2 : Int) (pkey_A : Option Addr) (pkey_n pkey_c : Nat) {H : Hp} {Q : Value → Hp → Prop} (h : f19 pt_0_A pt_0_n pt_0_c pt_1 pt_2 pkey_A pkey_n pkey_c H Q) : HCalls Tryz.prog 19 [.agg #[.slice pt_0_A pt_0_n pt_0_c, .int .i64 pt_1, .int .i64 pt_2], .slice pkey_A pkey_n pkey_c] H Q := hcalls_of (cxOk _ _ _ _ _) Tryz.func19 (Eq.mp (f19.eq pt_0_A pt_0_n pt_0_c pt_1 pt_2 pkey_A pkey_n pkey_c H Q) h)

/-- justiciar justiciarref17.Few -/
def f9 (pt_0_A : Option Addr) (pt_0_n pt_0_c : Nat) (pt_1 : Int) (pt_2 : Int) (H : Hp) (Q : Value → Hp → Prop) : Prop :=
  LoopF (σ := (Int × (Int × Unit)) × Unit) ((((pt_0_n : Nat) : Int), (0, ())), ()) H fun s1 H2 next3 => jn (fun (j4 : Bool) => cnd j4 (0 ≤ (s1.1.2.1 : Int) ∧ (s1.1.2.1 : Int) < ((pt_0_n : Nat) : Int) ∧ onPtr pt_0_A fun b6
    o6 => ∃ (A7 : Option Addr) (n7 c7 : Nat), cl H2 b6 ((o6 + (s1.1.2.1 : Int).toNat * 2) + 1) = some (.slice A7 n7 c7) ∧ 0 ≤ (s1.1.2.1 : Int) ∧ (s1.1.2.1 : Int) < ((pt_0_n : Nat) : Int) ∧ onPtr pt_0_A fun b8 o8 => ∃ (A9
    : Option Addr) (n9 c9 : Nat), cl H2 b8 ((o8 + (s1.1.2.1 : Int).toNat * 2) + 0) = some (.slice A9 n9 c9) ∧ LoopF (σ := (Int × (Int × Unit)) × Unit) ((IntKind.i64.wrap (s1.1.1 + ((n7 : Nat) : Int)), (0, ())), ()) H2 fun
    s10 H11 next12 => cnd (decide ((s10.1.2.1 : Int) < ((n9 : Nat) : Int))) (0 ≤ (s10.1.2.1 : Int) ∧ (s10.1.2.1 : Int) < ((n9 : Nat) : Int) ∧ onPtr A9 fun b13 o13 => ∃ (A14 : Option Addr) (n14 c14 : Nat), cl H11 b13 (o13
    + (s10.1.2.1 : Int).toNat * 2) = some (.slice A14 n14 c14) ∧ ∃ x15 : Int, cl H11 b13 ((o13 + (s10.1.2.1 : Int).toNat * 2) + 1) = some (.int .i64 x15) ∧ KeepX [some (.loc 1 0), some (.v (.int .i64 s1.1.2.1)), some (.v
    (.slice A9 n9 c9)), some (.v (.int .i64 ((n9 : Nat) : Int)))] [some (true, [.slice pt_0_A pt_0_n pt_0_c, .int .i64 pt_1, .int .i64 pt_2])] ∧ next12 ((IntKind.i64.wrap (s10.1.1 + (IntKind.i64.wrap (1 + ((n14 : Nat) :
    Int)))), (IntKind.i64.wrap (s10.1.2.1 + 1), ())), ()) H11) (KeepX [some (.loc 1 0)] [some (true, [.slice pt_0_A pt_0_n pt_0_c, .int .i64 pt_1, .int .i64 pt_2])] ∧ next3 ((s10.1.1, (IntKind.i64.wrap (s1.1.2.1 + 1),
    ())), ()) H11)) (Q (.bool (decide ((s1.1.1 : Int) < 4000))) H2)) fun J5 => cnd (decide ((s1.1.2.1 : Int) < ((pt_0_n : Nat) : Int))) (J5 (decide ((s1.1.1 : Int) < 4000))) (J5 false)
noncomputable def fcx9 : Cx := cx 50 [(1, true), (6, true)] [(3, ⟨[1], [1], [(3, .int .i64), (4, .int .i64)], []⟩), (7, ⟨[1, 4, 35, 36], [1], [(3, .int .i64), (37, .int .i64)], []⟩)] [] []
theorem f9.eq (pt_0_A : Option Addr) (pt_0_n pt_0_c : Nat) (pt_1 : Int) (pt_2 : Int) (H : Hp) (Q : Value → Hp → Prop) : f9 pt_0_A pt_0_n pt_0_c pt_1 pt_2 H Q = wFun fcx9 Tryz.f9 [.agg #[.slice pt_0_A pt_0_n pt_0_c, .int .i64 pt_1, .int .i64 pt_2]] H Q := by kernel_rfl
theorem f9.ok (pt_0_A : Option Addr) (pt_0_n pt_0_c : Nat) (pt_1 : Int) (pt_2 : Int) {H : Hp} {Q : Value → Hp → Prop} (h : f9 pt_0_A pt_0_n pt_0_c pt_1 pt_2 H Q) : HCalls Tryz.prog 9 [.agg #[.slice pt_0_A pt_0_n pt_0_c, .int .i64 pt_1, .int .i64 pt_2]] H Q := hcalls_of (cxOk _ _ _ _ _) Tryz.func9 (Eq.mp (f9.eq pt_0_A pt_0_n pt_0_c pt_1 pt_2 H Q) h)

/-- justiciar tree.clone -/
def f37 (pe_0_A : Option Addr) (pe_0_n pe_0_c : Nat) (pe_1 : Int) (H : Hp) (Q : Value → Hp → Prop) : Prop :=
  HCalls Tryz.prog 66 [.slice pe_0_A pe_0_n pe_0_c] H fun v1 H2 => ∃ (A3 : Option Addr) (n3 c3 : Nat), v1 = .slice A3 n3 c3 ∧ Q (.agg #[.slice A3 n3 c3, .int .i64 pe_1]) H2
noncomputable def fcx37 : Cx := cx 9 [(1, true), (2, true)] [] [(1, (.look 0 (.look 1 (.look 3 (.look 4 (.act 2 (.look 5 (.act 6 .done .done)) .done))))))] []
theorem f37.eq (pe_0_A : Option Addr) (pe_0_n pe_0_c : Nat) (pe_1 : Int) (H : Hp) (Q : Value → Hp → Prop) : f37 pe_0_A pe_0_n pe_0_c pe_1 H Q = wFun fcx37 Tryz.f37 [.agg #[.slice pe_0_A pe_0_n pe_0_c, .int .i64 pe_1]] H Q := by kernel_rfl
theorem f37.ok (pe_0_A : Option Addr) (pe_0_n pe_0_c : Nat) (pe_1 : Int) {H : Hp} {Q : Value → Hp → Prop} (h : f37 pe_0_A pe_0_n pe_0_c pe_1 H Q) : HCalls Tryz.prog 37 [.agg #[.slice pe_0_A pe_0_n pe_0_c, .int .i64 pe_1]] H Q := hcalls_of (cxOk _ _ _ _ _) Tryz.func37 (Eq.mp (f37.eq pe_0_A pe_0_n pe_0_c pe_1 H Q) h)

/-- justiciar valid.Clone -/
def f66 (pr_A : Option Addr) (pr_n pr_c : Nat) (H : Hp) (Q : Value → Hp → Prop) : Prop :=
  HCalls Tryz.prog 90 [.slice pr_A pr_n pr_c] H fun v1 H2 => ∃ (A3 : Option Addr) (n3 c3 : Nat), v1 = .slice A3 n3 c3 ∧ Q (.slice A3 n3 c3) H2
noncomputable def fcx66 : Cx := cx 5 [] [] [] []
theorem f66.eq (pr_A : Option Addr) (pr_n pr_c : Nat) (H : Hp) (Q : Value → Hp → Prop) : f66 pr_A pr_n pr_c H Q = wFun fcx66 Tryz.f66 [.slice pr_A pr_n pr_c] H Q := by kernel_rfl
theorem f66.ok (pr_A : Option Addr) (pr_n pr_c : Nat) {H : Hp} {Q : Value → Hp → Prop} (h : f66 pr_A pr_n pr_c H Q) : HCalls Tryz.prog 66 [.slice pr_A pr_n pr_c] H Q := hcalls_of (cxOk _ _ _ _ _) Tryz.func66 (Eq.mp (f66.eq pr_A pr_n pr_c H Q) h)

/-- slices.Clone[justiciar api.Row,justiciar api.Value] -/
def f90 (ps_A : Option Addr) (ps_n ps_c : Nat) (H : Hp) (Q : Value → Hp → Prop) : Prop :=
  cnd ps_A.isNone (Q (.slice none 0 0) H) (newF H 64 [] fun g1 H2 => appendF H2 64 3 32 (some ⟨g1, 0, none⟩) 0 0 ps_A ps_n fun A3 n3 c3 H4 => Q (.slice A3 n3 c3) H4)
noncomputable def fcx90 : Cx := cx 8 [] [] [] []
theorem f90.eq (ps_A : Option Addr) (ps_n ps_c : Nat) (H : Hp) (Q : Value → Hp → Prop) : f90 ps_A ps_n ps_c H Q = wFun fcx90 Tryz.f90 [.slice ps_A ps_n ps_c] H Q := by kernel_rfl
theorem f90.ok (ps_A : Option Addr) (ps_n ps_c : Nat) {H : Hp} {Q : Value → Hp → Prop} (h : f90 ps_A ps_n ps_c H Q) : HCalls Tryz.prog 90 [.slice ps_A ps_n ps_c] H Q := hcalls_of (cxOk _ _ _ _ _) Tryz.func90 (Eq.mp (f90.eq ps_A ps_n ps_c H Q) h)

end Go.Proofs.YtmelbipidffmpaaGreatDoor.Hw

/- Trees of blocks: the two walks. -/
set_option linter.unusedVariables false
set_option linter.unusedSimpArgs false
set_option linter.unusedSectionVars false
set_option maxRecDepth 20000
namespace Go.Proofs.YtmelbipidffmpaaGreatDoor.Hw
open Go Go.Proofs
def cap8 : Nat := 800000
def Fin (H0 : Hp) (g gs ty : Nat) (A : Option Addr) (n c : Nat) (root cols : Int) (m : Nat) (R : Option Sv) (H : Hp) : Prop :=
  (∃ S oA oc, WkAt H0 g gs ty A n c root cols H S oA oc true ∧ R = some S) ∨ (∃ S oA oc, WkAt H0 g gs ty A n c root cols H S oA oc false ∧ R = none ∧ S.out.length ≤ 4399000000000 + m)
def KidI (H0 : Hp) (g gs ty : Nat) (A : Option Addr) (n c : Nat) (root cols : Int) (m : Nat) (f : Sv → Int → Option Sv) (N : Nat) (ks : List Int) (es : List EnM) (R : Option Sv) (k : Nat) (H : Hp) : Prop :=
  (∃ S oA oc, WkAt H0 g gs ty A n c root cols H S oA oc true ∧ S.seen.length = N ∧ unseen S.seen < m ∧ (pot S + 8 ≤ cap8 + min k es.length ∧ es.length ≤ 8) ∧ kidsV f (ks.drop k) (es.drop k) S = R) ∨ (∃ S oA oc, WkAt H0 g gs ty A n c root cols H S oA oc false ∧ R = none ∧ S.out.length ≤ 4399000000000 + (m + 1))
def shapeOk (b : NdM) (i root : Int) : Bool := if b.ks.length = 0 then decide (b.es.length ≤ 8) && (i == root || decide (3 ≤ b.es.length)) else nodeOk b i root
theorem leaf_ok {b : NdM} {i root leaf d : Int} (h : b.ks.length = 0) : leafOk b i root leaf d = (shapeOk b i root && (leaf == 0 || leaf == d)) := by
  unfold shapeOk leafOk
  rw [if_pos h, Bool.and_assoc]
section
variable {H0 H : Hp} {g gs ty : Nat} {A oA : Option Addr} {n c oc : Nat} {root cols : Int} {S : Sv} {ok : Bool} {Q : Value → Hp → Prop} {bl : List NdM}
theorem visit_hit {m : Nat} {i d : Int} {b : NdM} (h0 : 0 ≤ i) (hb : bl[i.toNat]? = some b) (hs : S.seen[i.toNat]? = some false) :
    visit bl root (m + 1) S i d = if b.ks.length = 0 then (if leafOk b i root S.leaf d then some ⟨S.seen.set i.toNat true, d, S.out ++ b.es⟩ else none)
      else if nodeOk b i root then kidsV (fun S k => visit bl root m S k (d + 1)) b.ks b.es ⟨S.seen.set i.toNat true, S.leaf, S.out⟩ else none := by
  show (if i < 0 then none else match bl[i.toNat]?, S.seen[i.toNat]? with
    | some b, some false =>
      if b.ks.length = 0 then (if leafOk b i root S.leaf d then some ⟨S.seen.set i.toNat true, d, S.out ++ b.es⟩ else none)
      else if nodeOk b i root then kidsV (fun S k => visit bl root m S k (d + 1)) b.ks b.es ⟨S.seen.set i.toNat true, S.leaf, S.out⟩ else none
    | _, _ => none) = _
  rw [if_neg (by omega), hb, hs]
theorem visit_miss {m : Nat} {i d : Int} (h : i < 0 ∨ bl[i.toNat]? = none ∨ S.seen[i.toNat]? = some true) : visit bl root (m + 1) S i d = none := by
  show (if i < 0 then none else match bl[i.toNat]?, S.seen[i.toNat]? with
    | some b, some false =>
      if b.ks.length = 0 then (if leafOk b i root S.leaf d then some ⟨S.seen.set i.toNat true, d, S.out ++ b.es⟩ else none)
      else if nodeOk b i root then kidsV (fun S k => visit bl root m S k (d + 1)) b.ks b.es ⟨S.seen.set i.toNat true, S.leaf, S.out⟩ else none
    | _, _ => none) = _
  by_cases h0 : i < 0
  · rw [if_pos h0]
  · rw [if_neg h0]
    rcases h with h | h | h
    · exact absurd h h0
    · rw [h]
    · rw [h]; split
      · rename_i e; cases e
      · rfl
/-- What a kid leaves: the loop may go on. -/
theorem KidI.step {m N : Nat} {f : Sv → Int → Option Sv} {ks : List Int} {es : List EnM} {R : Option Sv} {k : Nat} {x : Int} {T : Sv} (hx : ks[k]? = some x) (hN : S.seen.length = N) (hu : unseen S.seen < m) (hp : pot S + 8 ≤ cap8 + min k es.length ∧ es.length ≤ 8)
    (hR : kidsV f (ks.drop k) (es.drop k) S = R) (hf : f S x = some T) (hst : Step S T) {W : WkAt H0 g gs ty A n c root cols H T oA oc true} (hk : es[k]? = none) : KidI H0 g gs ty A n c root cols m f N ks es R (k + 1) H := by
  obtain ⟨s1, s2, s3⟩ := hst
  rw [kids_drop hx, hf, hk] at hR
  have hk' := List.getElem?_eq_none_iff.1 hk
  exact .inl ⟨T, oA, oc, W, s1.trans hN, by omega, ⟨by omega, hp.2⟩, hR⟩
theorem KidI.stepE {m N : Nat} {f : Sv → Int → Option Sv} {ks : List Int} {es : List EnM} {R : Option Sv} {k : Nat} {x : Int} {T : Sv} {e : EnM} (hx : ks[k]? = some x) (hN : S.seen.length = N) (hu : unseen S.seen < m) (hp : pot S + 8 ≤ cap8 + min k es.length ∧ es.length ≤ 8)
    (hR : kidsV f (ks.drop k) (es.drop k) S = R) (hf : f S x = some T) (hst : Step S T) (hk : es[k]? = some e) {W : WkAt H0 g gs ty A n c root cols H ⟨T.seen, T.leaf, T.out ++ [e]⟩ oA oc true} : KidI H0 g gs ty A n c root cols m f N ks es R (k + 1) H := by
  obtain ⟨s1, s2, s3⟩ := hst
  rw [kids_drop hx, hf, hk] at hR
  have hk' := (List.getElem?_eq_some_iff.1 hk).1
  refine .inl ⟨_, oA, oc, W, s1.trans hN, by show unseen T.seen < m; omega, ⟨?_, hp.2⟩, hR⟩
  unfold pot at *
  simp only [List.length_append, List.length_singleton]
  omega
theorem KidI.lost {m N : Nat} {f : Sv → Int → Option Sv} {ks : List Int} {es : List EnM} {R : Option Sv} {k j : Nat} {x : Int} {T : Sv} (hx : ks[k]? = some x) (hR : kidsV f (ks.drop k) (es.drop k) S = R) (hf : f S x = none)
    (W : WkAt H0 g gs ty A n c root cols H T oA oc false) (hB : T.out.length ≤ 4399000000000 + (m + 1)) : KidI H0 g gs ty A n c root cols m f N ks es R j H := by
  rw [kids_drop hx, hf] at hR
  exact .inr ⟨_, _, _, W, hR.symm, hB⟩
/-- One entry is put behind. -/
theorem WkAt.addOne {e : EnM} (W : WkAt H0 g gs ty A n c root cols H S oA oc ok) {b : Nat} (hb : H b = none) (hs : S.out.length < 4400000000000) {K : Option Addr → Nat → Nat → Hp → Prop}
    (hk : ∀ A' c' H', (∀ K', (∀ H'', WkAt H0 g gs ty A n c root cols H'' ⟨S.seen, S.leaf, S.out ++ [e]⟩ A' c' ok → K' H'') → storeF H' g (0 + 5) [.slice A' (S.out.length + 1) c'] K') → K A' (S.out.length + 1) c' H') :
    appendF (upd b (.cells (enC e).toArray 46 (0, 0)) H) 46 2 32 oA S.out.length oc (some ⟨b, 0, none⟩) 1 K :=
  (W.more (Ext.new hb)).addAll (m := 1) (es := [e]) (fresh_sl (l := [e]) (vs := enC e) (by simp) (by simp [huge])) (by simp; omega) hk
theorem c64 : ∀ {m : Nat} {H : Hp} {S : Sv} {oA : Option Addr} {oc : Nat} {i d : Int} {Q : Value → Hp → Prop}, TrAt H0 A n bl → Fewish bl → WkAt H0 g gs ty A n c root cols H S oA oc true → S.seen.length = bl.length → unseen S.seen < m → pot S ≤ cap8 → (0 ≤ d ∧ d + m ≤ 10000) →
    (∀ H', Fin H0 g gs ty A n c root cols m (visit bl root m S i d) H' → Q (.tuple #[]) H') → HCalls Tryz.prog 64 [.pointer (some ⟨g, 0, none⟩), .int .i64 i, .int .i64 d] H Q
  | 0, H, S, oA, oc, i, d, Q, _, _, _, _, hu, _, _, _ => absurd hu (Nat.not_lt_zero _)
  | m + 1, H, S, oA, oc, i, d, Q, hT, hF, W, hN, hu, hp, hd, hq => by
    refine f64.ok _ _ _ _ ?_
    unfold f64
    have hn : n = bl.length := hT.sl.len
    have hbig := hT.sl.small
    unfold huge at hbig
    refine jn_intro (fun J => ((i < 0 ∨ bl[i.toNat]? = none ∨ S.seen[i.toNat]? = some true) → J true) ∧ (∀ b, 0 ≤ i → bl[i.toNat]? = some b → S.seen[i.toNat]? = some false → J false))
      ⟨fun hm => cndT rfl (W.setOk fun H' W' => hq H' (.inr ⟨_, _, _, W', visit_miss hm, by unfold pot cap8 at hp; omega⟩)), fun b h0 hb hs => cndF rfl ?_⟩ fun J hJ => ⟨true, W.cl 6, cndF rfl (cndI (fun h => hJ.1 (.inl (of_decide_eq_true h))) fun h => ⟨_, _, _, W.cl 0, cndI (fun h2 => hJ.1 (.inr (.inl ?_))) fun h2 => ?_⟩)⟩
    rotate_left
    · have := of_decide_eq_true h2
      exact List.getElem?_eq_none_iff.2 (by omega)
    · have h := of_decide_eq_false h
      have h2 := of_decide_eq_false h2
      obtain ⟨b, hb⟩ := get_of (l := bl) (i := i.toNat) (by omega)
      obtain ⟨z, hz⟩ := get_of (l := S.seen) (i := i.toNat) (by omega)
      refine ⟨_, _, _, W.cl 3, by omega, by omega, z, W.sAt hz, ?_⟩
      cases z with
      | true => exact hJ.1 (.inr (.inr hz))
      | false => exact hJ.2 b (by omega) hb hz
    have hmem := List.mem_of_getElem? hb
    have hbn := hT.nd b hmem
    have hfew := hF b hmem
    have hksm := hbn.ks.small
    unfold huge at hksm
    have hil := (List.getElem?_eq_some_iff.1 hb).1
    have hu' := unseen_set hs
    have hv := visit_hit (root := root) (m := m) (d := d) h0 hb hs
    refine ⟨_, _, _, W.cl 3, by omega, by omega, onPtrI (W.setSeen (by omega) fun H11 W11 => ⟨_, _, _, W11.cl 0, by omega, by omega, rd_nd (hT.ext W11.ext).sl hb fun q o _ k1 k2 => ⟨_, _, _, k1, _, _, _, k2, ?_⟩⟩)⟩
    refine jn_intro (fun J => ∀ H' ok', WkAt H0 g gs ty A n c root cols H' ⟨S.seen.set i.toNat true, S.leaf, S.out⟩ oA oc ok' → ok' = shapeOk b i root → J H') (fun H25 ok' W25 hok => ?_) fun J hJ => ?_
    rotate_left
    · unfold shapeOk nodeOk at hJ
      have hw : IntKind.i64.wrap (((b.es.length : Nat) : Int) + 1) = ((b.es.length + 1 : Nat) : Int) := by rw [wrap_id (by omega) (by omega)]; rfl
      rw [hw]
      refine cndI (fun h8 => ⟨_, W11.cl 1, cndI (fun hr => cndI (fun hk => ?_) fun hk => cndI (fun h1 => ?_) fun h1 => ?_) fun hr => cndI (fun h3 => cndI (fun hk => ?_) fun hk => cndI (fun h1 => ?_) fun h1 => ?_) fun h3 => ?_⟩) fun h8 => ?_
      all_goals refine W11.setOk fun H' W' => hJ H' _ W' ?_
      all_goals simp only [decide_eq_true_eq, decide_eq_false_iff_not, beq_iff_eq, beq_eq_false_iff_ne, ne_eq, ge_iff_le] at *
      all_goals by_cases e0 : b.ks.length = 0
      all_goals try rw [if_pos e0]
      all_goals try rw [if_neg e0]
      all_goals try (exfalso; omega)
      all_goals rw [Bool.eq_iff_iff]
      all_goals simp only [Bool.and_eq_true, Bool.or_eq_true, decide_eq_true_eq, beq_iff_eq, Bool.false_eq_true, false_iff, true_iff]
      all_goals omega
    refine cndI (fun h0k => ?_) fun h0k => ?_
    · have hk0 : b.ks.length = 0 := by have := beq_iff_eq.1 h0k; omega
      rw [hv, if_pos hk0, leaf_ok hk0, ← hok] at hq
      refine jn_intro (fun J => ∀ H', WkAt H0 g gs ty A n c root cols H' ⟨S.seen.set i.toNat true, S.leaf, S.out⟩ oA oc (ok' && (S.leaf == 0 || S.leaf == d)) → J H') (fun H33 W33 => ?_) fun J hJ => ⟨_, W25.cl 6, cndI (fun ho => ⟨_, W25.cl 4, cndI (fun hl => ?_) fun hl => ⟨_, W25.cl 4, ?_⟩⟩) fun ho => ?_⟩
      · refine W33.setLeaf fun H35 W35 => ⟨_, _, _, W35.cl 5, W35.addAll (hbn.es.ext W35.ext) (by unfold pot cap8 at hp; show S.out.length + _ ≤ _; omega) fun A' c' H' fin => fin _ fun H'' W'' => hq H'' ?_⟩
        cases hz : (ok' && (S.leaf == 0 || S.leaf == d)) with
        | true => rw [hz] at W''; exact .inl ⟨_, _, _, W'', if_pos rfl⟩
        | false => rw [hz] at W''; exact .inr ⟨_, _, _, W'', if_neg (by decide), by unfold pot cap8 at hp; show (S.out ++ b.es).length ≤ _; rw [List.length_append]; omega⟩
      · refine W25.setOk fun H' W' => hJ H' ?_
        have hl : (S.leaf == 0) = true := hl
        rw [ho, hl]; exact W'
      · refine W25.setOk fun H' W' => hJ H' ?_
        have hl : (S.leaf == 0) = false := hl
        rw [ho, hl]; exact W'
      · refine W25.setOk fun H' W' => hJ H' ?_
        rw [ho]; exact W'
    · have hk0 : ¬ b.ks.length = 0 := by
        intro e
        have : ((b.ks.length : Nat) : Int) ≠ 0 := by simpa using h0k
        omega
      have hsh : shapeOk b i root = nodeOk b i root := by unfold shapeOk; rw [if_neg hk0]
      rw [hsh] at hok
      rw [hv, if_neg hk0, ← hok] at hq
      obtain ⟨R, hR⟩ : ∃ R, R = (if ok' = true then kidsV (fun S k => visit bl root m S k (d + 1)) b.ks b.es ⟨S.seen.set i.toNat true, S.leaf, S.out⟩ else none) := ⟨_, rfl⟩
      rw [← hR] at hq
      refine scan (n := b.ks.length) (by omega) (KidI H0 g gs ty A n c root cols m (fun S k => visit bl root m S k (d + 1)) bl.length b.ks b.es R) ?_ (fun k H2 next hk hI hnext => ?_) (fun H2 next hI => ?_)
      · cases ok' with
        | true =>
          rw [if_pos rfl] at hR
          have h := hok.symm
          unfold nodeOk at h
          simp only [Bool.and_eq_true, decide_eq_true_eq] at h
          refine .inl ⟨_, _, _, W25, by simpa using hN, by show unseen (S.seen.set _ true) < m; omega, ⟨?_, h.1⟩, hR.symm⟩
          unfold pot at hp ⊢
          show S.out.length + 8 * unseen (S.seen.set _ true) + 8 ≤ _
          omega
        | false =>
          rw [if_neg (by decide)] at hR
          exact .inr ⟨_, _, _, W25, hR, by unfold pot cap8 at hp; show S.out.length ≤ _; omega⟩
      · obtain ⟨x, hx⟩ := get_of hk
        dsimp only
        refine cndT (decide_eq_true (by omega)) (jn_intro (fun J => ∀ H', KidI H0 g gs ty A n c root cols m (fun S k => visit bl root m S k (d + 1)) bl.length b.ks b.es R (k + 1) H' → J H') (fun H' h => ⟨rfl, hnext H' h⟩) fun J hJ => ⟨by omega, by omega, ?_⟩)
        rcases hI with ⟨S2, o2, oc2, W2, hN2, hu2, hp2, hR2⟩ | ⟨S2, o2, oc2, W2, hR2, hB2⟩
        · have hpS : pot S2 ≤ cap8 := by omega
          have ewr : IntKind.i64.wrap (d + 1) = d + 1 := wrap_id (by omega) (by omega)
          refine rd_in (hbn.ks.ext W2.ext) hx fun q o _ kc => ⟨x, by simpa using kc, true, W2.cl 6, cndF rfl ?_⟩
          rw [ewr]
          refine c64 hT hF W2 hN2 hu2 hpS (by omega) fun H47 hfin => ⟨rfl, ?_⟩
          refine jn_intro (fun J50 => (∀ T oA' oc', WkAt H0 g gs ty A n c root cols H47 T oA' oc' true → visit bl root m S2 x (d + 1) = some T → J50 (decide ((k : Int) < ((b.es.length : Nat) : Int)))) ∧ (∀ T oA' oc', WkAt H0 g gs ty A n c root cols H47 T oA' oc' false → visit bl root m S2 x (d + 1) = none → T.out.length ≤ 4399000000000 + m → J50 false)) ⟨fun T o3 oc3 W3 h3 => cndI (fun hlt => ?_) fun hlt => ?_, fun T o3 oc3 W3 h3 hb3 => cndF rfl (hJ _ (KidI.lost hx hR2 h3 W3 (by omega)))⟩ fun J50 hJ50 => ?_
          · have hlt := of_decide_eq_true hlt
            obtain ⟨e, he⟩ := get_of (l := b.es) (i := k) (by omega)
            have hstp := visit_step h3
            refine ⟨_, _, _, W3.cl 5, by omega, by omega, rd_en (hbn.es.ext W3.ext) he fun q o _ k1 k2 => ⟨_, _, _, by simpa using k1, _, by simpa using k2, fun g55 hg => W3.addOne (e := e) hg ?_ fun A' c' H' fin => fin _ fun H'' W'' => hJ _ (KidI.stepE hx hN2 hu2 hp2 hR2 h3 hstp he (W := W''))⟩⟩
            have := hstp.2.2
            unfold pot cap8 at *
            omega
          · have hlt := of_decide_eq_false hlt
            exact hJ _ (KidI.step hx hN2 hu2 hp2 hR2 h3 (visit_step h3) (List.getElem?_eq_none_iff.2 (by omega)) (W := W3))
          · rcases hfin with ⟨T, o3, oc3, W3, h3⟩ | ⟨T, o3, oc3, W3, h3, hb3⟩
            · exact ⟨true, W3.cl 6, hJ50.1 T o3 oc3 W3 h3⟩
            · exact ⟨false, W3.cl 6, hJ50.2 T o3 oc3 W3 h3 hb3⟩
        · refine rd_in (hbn.ks.ext W2.ext) hx fun q o _ kc => ⟨x, by simpa using kc, false, W2.cl 6, cndT rfl (hq H2 (.inr ⟨_, _, _, W2, hR2, hB2⟩))⟩
      · dsimp only
        refine cndF (decide_eq_false (by omega)) (hq H2 ?_)
        rcases hI with ⟨S2, o2, oc2, W2, hN2, hu2, hp2, hR2⟩ | ⟨S2, o2, oc2, W2, hR2, hB2⟩
        · rw [List.drop_length] at hR2
          exact .inl ⟨_, _, _, W2, hR2.symm⟩
        · exact .inr ⟨_, _, _, W2, hR2, hB2⟩
theorem c67 : ∀ {m : Nat} {H : Hp} {S : Sv} {oA : Option Addr} {oc : Nat} {i d : Int} {Q : Value → Hp → Prop}, TrAt H0 A n bl → Fewish bl → WkAt H0 g gs ty A n c root cols H S oA oc true → S.seen.length = bl.length → unseen S.seen < m → pot S ≤ cap8 → (0 ≤ d ∧ d + m ≤ 10000) →
    (∀ H', Fin H0 g gs ty A n c root cols m (visit bl root m S i d) H' → Q (.tuple #[]) H') → HCalls Tryz.prog 67 [.pointer (some ⟨g, 0, none⟩), .int .i64 i, .int .i64 d] H Q
  | 0, H, S, oA, oc, i, d, Q, _, _, _, _, hu, _, _, _ => absurd hu (Nat.not_lt_zero _)
  | m + 1, H, S, oA, oc, i, d, Q, hT, hF, W, hN, hu, hp, hd, hq => by
    refine f67.ok _ _ _ _ ?_
    unfold f67
    have hn : n = bl.length := hT.sl.len
    have hbig := hT.sl.small
    unfold huge at hbig
    refine jn_intro (fun J => ((i < 0 ∨ bl[i.toNat]? = none ∨ S.seen[i.toNat]? = some true) → J true) ∧ (∀ b, 0 ≤ i → bl[i.toNat]? = some b → S.seen[i.toNat]? = some false → J false))
      ⟨fun hm => cndT rfl (W.setOk fun H' W' => hq H' (.inr ⟨_, _, _, W', visit_miss hm, by unfold pot cap8 at hp; omega⟩)), fun b h0 hb hs => cndF rfl ?_⟩ fun J hJ => cndI (fun h => hJ.1 (.inl (of_decide_eq_true h))) fun h => ⟨_, _, _, W.cl 0, cndI (fun h2 => hJ.1 (.inr (.inl ?_))) fun h2 => ?_⟩
    rotate_left
    · have := of_decide_eq_true h2
      exact List.getElem?_eq_none_iff.2 (by omega)
    · have h := of_decide_eq_false h
      have h2 := of_decide_eq_false h2
      obtain ⟨b, hb⟩ := get_of (l := bl) (i := i.toNat) (by omega)
      obtain ⟨z, hz⟩ := get_of (l := S.seen) (i := i.toNat) (by omega)
      refine ⟨_, _, _, W.cl 3, by omega, by omega, z, W.sAt hz, ?_⟩
      cases z with
      | true => exact hJ.1 (.inr (.inr hz))
      | false => exact hJ.2 b (by omega) hb hz
    have hmem := List.mem_of_getElem? hb
    have hbn := hT.nd b hmem
    have hfew := hF b hmem
    have hksm := hbn.ks.small
    unfold huge at hksm
    have hil := (List.getElem?_eq_some_iff.1 hb).1
    have hu' := unseen_set hs
    have hv := visit_hit (root := root) (m := m) (d := d) h0 hb hs
    refine ⟨_, _, _, W.cl 3, by omega, by omega, onPtrI (W.setSeen (by omega) fun H11 W11 => ⟨_, _, _, W11.cl 0, by omega, by omega, rd_nd (hT.ext W11.ext).sl hb fun q o _ k1 k2 => ⟨_, _, _, k1, _, _, _, k2, ?_⟩⟩)⟩
    refine jn_intro (fun J => ∀ fl : Int, fl = (if i = root then 1 else 3) → J fl) (fun fl hfl => ?_) fun J hJ => ⟨_, W11.cl 1, cndI (fun h => hJ _ ?_) fun h => hJ _ ?_⟩
    rotate_left
    · have h : (i == root) = true := h
      rw [if_pos (by simpa using h)]
    · have h : (i == root) = false := h
      rw [if_neg (by simpa using h)]
    have hroot : (i == root) = decide (i = root) := by rw [Bool.eq_iff_iff]; simp
    refine cndI (fun h0k => ?_) fun h0k => ?_
    · have hk0 : b.ks.length = 0 := by have := beq_iff_eq.1 h0k; omega
      rw [hv, if_pos hk0] at hq
      refine jn_intro (fun J => ∀ H' lf, WkAt H0 g gs ty A n c root cols H' ⟨S.seen.set i.toNat true, lf, S.out⟩ oA oc true → lf = (if S.leaf = 0 then d else S.leaf) → J H') (fun H20 lf W20 hlf => ?_) fun J hJ => ⟨_, W11.cl 4, cndI (fun hl => ?_) fun hl => ?_⟩
      rotate_left
      · have hl : (S.leaf == 0) = true := hl
        exact W11.setLeaf fun H' W' => hJ H' _ W' (by rw [if_pos (by simpa using hl)])
      · have hl : (S.leaf == 0) = false := hl
        exact hJ H11 _ W11 (by rw [if_neg (by simpa using hl)])
      refine jn_intro (fun J => ∀ H' ok', WkAt H0 g gs ty A n c root cols H' ⟨S.seen.set i.toNat true, lf, S.out⟩ oA oc ok' → ok' = leafOk b i root S.leaf d → J H') (fun H30 ok' W30 hok => ?_) fun J hJ => ⟨_, W20.cl 6, cndT rfl ⟨_, W20.cl 4, cndI (fun hl => cndI (fun h8 => ⟨_, W20.cl 1, cndI (fun hr => ?_) fun hr => ?_⟩) fun h8 => ?_) fun hl => ?_⟩⟩
      · refine ⟨_, _, _, W30.cl 5, W30.addAll (hbn.es.ext W30.ext) (by unfold pot cap8 at hp; show S.out.length + _ ≤ _; omega) fun A' c' H' fin => fin _ fun H'' W'' => hq H'' ?_⟩
        cases ok' with
        | true =>
          refine .inl ⟨_, _, _, W'', ?_⟩
          rw [if_pos hok.symm]
          have hl := hok.symm
          unfold leafOk at hl
          simp only [Bool.and_eq_true, Bool.or_eq_true, beq_iff_eq] at hl
          have : lf = d := by
            rw [hlf]
            rcases hl.2.2 with e | e
            · rw [if_pos e]
            · rw [e]; split <;> rfl
          rw [this]
        | false => exact .inr ⟨_, _, _, W'', by rw [← hok]; rfl, by unfold pot cap8 at hp; show (S.out ++ b.es).length ≤ _; rw [List.length_append]; omega⟩
      all_goals refine W20.setOk fun H' W' => hJ H' _ W' ?_
      all_goals unfold leafOk
      all_goals rw [Bool.eq_iff_iff]
      all_goals simp only [decide_eq_true_eq, decide_eq_false_iff_not, beq_iff_eq, beq_eq_false_iff_ne, ne_eq, ge_iff_le, Bool.and_eq_true, Bool.or_eq_true, Bool.false_eq_true, false_iff, true_iff] at *
      all_goals (try split at hlf) <;> (try split at hfl) <;> omega
    · have hk0 : ¬ b.ks.length = 0 := by
        intro e
        have : ((b.ks.length : Nat) : Int) ≠ 0 := by simpa using h0k
        omega
      rw [hv, if_neg hk0] at hq
      refine jn_intro (fun J => (nodeOk b i root = false → J true) ∧ (nodeOk b i root = true → J false)) ⟨fun hn => cndT rfl (W11.setOk fun H' W' => hq H' (.inr ⟨_, _, _, W', by rw [hn]; rfl, by unfold pot cap8 at hp; show S.out.length ≤ _; omega⟩)), fun hok => cndF rfl ?_⟩ fun J hJ => ?_
      rotate_left
      · have hw : IntKind.i64.wrap (((b.es.length : Nat) : Int) + 1) = ((b.es.length + 1 : Nat) : Int) := by rw [wrap_id (by omega) (by omega)]; rfl
        have hno : nodeOk b i root = decide (b.es.length ≤ 8 ∧ (i = root ∨ 3 ≤ b.es.length) ∧ 1 ≤ b.es.length ∧ b.ks.length = b.es.length + 1) := by
          unfold nodeOk
          rw [Bool.eq_iff_iff]
          simp
        rw [hw]
        refine cndI (fun h1 => hJ.1 ?_) fun h1 => cndI (fun h2 => hJ.1 ?_) fun h2 => ?_
        · have h1 := of_decide_eq_true h1
          rw [hno]
          refine decide_eq_false ?_
          split at hfl <;> omega
        · have h2 := of_decide_eq_true h2
          rw [hno]
          exact decide_eq_false (by omega)
        · have h1 := of_decide_eq_false h1
          have h2 := of_decide_eq_false h2
          cases h3 : (((b.ks.length : Nat) : Int) != ((b.es.length + 1 : Nat) : Int)) with
          | true =>
            have h3 := bne_iff_ne.1 h3
            refine hJ.1 ?_
            rw [hno]
            exact decide_eq_false (by omega)
          | false =>
            have h3 : ((b.ks.length : Nat) : Int) = ((b.es.length + 1 : Nat) : Int) := by simpa using h3
            refine hJ.2 ?_
            rw [hno]
            refine decide_eq_true ?_
            split at hfl <;> omega
      obtain ⟨R, hR⟩ : ∃ R, R = kidsV (fun S k => visit bl root m S k (d + 1)) b.ks b.es ⟨S.seen.set i.toNat true, S.leaf, S.out⟩ := ⟨_, rfl⟩
      rw [if_pos hok, ← hR] at hq
      refine scan (n := b.ks.length) (by omega) (KidI H0 g gs ty A n c root cols m (fun S k => visit bl root m S k (d + 1)) bl.length b.ks b.es R) ?_ (fun k H2 next hk hI hnext => ?_) (fun H2 next hI => ?_)
      · have h := hok
        unfold nodeOk at h
        simp only [Bool.and_eq_true, decide_eq_true_eq] at h
        refine .inl ⟨_, _, _, W11, by simpa using hN, by show unseen (S.seen.set _ true) < m; omega, ⟨?_, h.1⟩, hR.symm⟩
        unfold pot at hp ⊢
        show S.out.length + 8 * unseen (S.seen.set _ true) + 8 ≤ _
        omega
      · obtain ⟨x, hx⟩ := get_of hk
        dsimp only
        refine cndT (decide_eq_true (by omega)) (jn_intro (fun J => ∀ H', KidI H0 g gs ty A n c root cols m (fun S k => visit bl root m S k (d + 1)) bl.length b.ks b.es R (k + 1) H' → J H') (fun H' h => ⟨rfl, hnext H' h⟩) fun J hJ => ⟨by omega, by omega, ?_⟩)
        rcases hI with ⟨S2, o2, oc2, W2, hN2, hu2, hp2, hR2⟩ | ⟨S2, o2, oc2, W2, hR2, hB2⟩
        · have hpS : pot S2 ≤ cap8 := by omega
          have ewr : IntKind.i64.wrap (d + 1) = d + 1 := wrap_id (by omega) (by omega)
          refine rd_in (hbn.ks.ext W2.ext) hx fun q o _ kc => ⟨x, by simpa using kc, true, W2.cl 6, cndF rfl ?_⟩
          rw [ewr]
          refine c67 hT hF W2 hN2 hu2 hpS (by omega) fun H47 hfin => ⟨rfl, ?_⟩
          refine cndI (fun hlt => ?_) fun hlt => ?_
          · have hlt := of_decide_eq_true hlt
            obtain ⟨e, he⟩ := get_of (l := b.es) (i := k) (by omega)
            rcases hfin with ⟨T, o3, oc3, W3, h3⟩ | ⟨T, o3, oc3, W3, h3, hb3⟩
            · have hstp := visit_step h3
              refine ⟨_, _, _, W3.cl 5, by omega, by omega, rd_en (hbn.es.ext W3.ext) he fun q o _ k1 k2 => ⟨_, _, _, by simpa using k1, _, by simpa using k2, fun g55 hg => W3.addOne (e := e) hg ?_ fun A' c' H' fin => fin _ fun H'' W'' => hJ _ (KidI.stepE hx hN2 hu2 hp2 hR2 h3 hstp he (W := W''))⟩⟩
              have := hstp.2.2
              unfold pot cap8 at *
              omega
            · refine ⟨_, _, _, W3.cl 5, by omega, by omega, rd_en (hbn.es.ext W3.ext) he fun q o _ k1 k2 => ⟨_, _, _, by simpa using k1, _, by simpa using k2, fun g55 hg => W3.addOne (e := e) hg (by omega) fun A' c' H' fin => fin _ fun H'' W'' => hJ _ (KidI.lost hx hR2 h3 W'' ?_)⟩⟩
              show (T.out ++ [e]).length ≤ _
              rw [List.length_append, List.length_singleton]
              omega
          · have hlt := of_decide_eq_false hlt
            rcases hfin with ⟨T, o3, oc3, W3, h3⟩ | ⟨T, o3, oc3, W3, h3, hb3⟩
            · exact hJ _ (KidI.step hx hN2 hu2 hp2 hR2 h3 (visit_step h3) (List.getElem?_eq_none_iff.2 (by omega)) (W := W3))
            · exact hJ _ (KidI.lost hx hR2 h3 W3 (by omega))
        · refine rd_in (hbn.ks.ext W2.ext) hx fun q o _ kc => ⟨x, by simpa using kc, false, W2.cl 6, cndT rfl (hq H2 (.inr ⟨_, _, _, W2, hR2, hB2⟩))⟩
      · dsimp only
        refine cndF (decide_eq_false (by omega)) (hq H2 ?_)
        rcases hI with ⟨S2, o2, oc2, W2, hN2, hu2, hp2, hR2⟩ | ⟨S2, o2, oc2, W2, hR2, hB2⟩
        · rw [List.drop_length] at hR2
          exact .inl ⟨_, _, _, W2, hR2.symm⟩
        · exact .inr ⟨_, _, _, W2, hR2, hB2⟩
end
end Go.Proofs.YtmelbipidffmpaaGreatDoor.Hw
