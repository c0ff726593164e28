/- The pair: what lies in memory, and the functions that only look. -/
import Derived.Test.YtkkmoeimcedkgaaHwMem
import Derived.Test.YtkkmoeimcedkgaaHwFa
set_option linter.unusedVariables false
set_option linter.unusedSimpArgs false
namespace Go.Proofs.Ytkkmoeimcedkgaa.Hw
open Go Go.Proofs

/-- A side, and the slice in which its log lies. -/
structure RS where
  ph : Int
  up : Bool
  log : List Int
  A : Option Addr
  n : Nat
  c : Nat
structure Side where
  ph : Int
  up : Bool
  log : List Int
  deriving DecidableEq
structure PS where
  sides : List Side
  notes : List (Int × Int)
  deriving DecidableEq
def RS.side (r : RS) : Side := ⟨r.ph, r.up, r.log⟩
def RS.cells (r : RS) : List Value := [.int .i64 r.ph, .bool r.up, .slice r.A r.n r.c]
def noteC (n : Int × Int) : List Value := [.int .i64 n.1, .int .i64 n.2]
def big : Nat := 1000000000000
/-- What no slice is longer than. -/
def huge : Nat := 140737488355329
theorem lt_huge {n : Nat} (h : n < big) : n < huge := by unfold big at h; unfold huge; omega
structure SidesAt (H : Hp) (A : Option Addr) (n : Nat) (l : List RS) : Prop where
  len : n = l.length
  cells : cellsAt H A (l.flatMap RS.cells)
  logs : ∀ r ∈ l, r.n = r.log.length ∧ cellsAt H r.A (ints r.log) ∧ r.log.length < huge
structure NotesAt (H : Hp) (A : Option Addr) (n : Nat) (l : List (Int × Int)) : Prop where
  len : n = l.length
  cells : cellsAt H A (l.flatMap noteC)
structure PairAt (H : Hp) (A0 : Option Addr) (n0 : Nat) (A1 : Option Addr) (n1 : Nat) (l : List RS) (ns : List (Int × Int)) : Prop where
  sides : SidesAt H A0 n0 l
  notes : NotesAt H A1 n1 ns
  small : l.length < huge ∧ ns.length < huge
theorem SidesAt.ext {H H' : Hp} {A : Option Addr} {n : Nat} {l : List RS} (h : SidesAt H A n l) (hx : Ext H H') : SidesAt H' A n l := ⟨h.len, cellsAt_ext hx h.cells, fun r hr => ⟨(h.logs r hr).1, cellsAt_ext hx (h.logs r hr).2.1, (h.logs r hr).2.2⟩⟩
theorem NotesAt.ext {H H' : Hp} {A : Option Addr} {n : Nat} {l : List (Int × Int)} (h : NotesAt H A n l) (hx : Ext H H') : NotesAt H' A n l := ⟨h.len, cellsAt_ext hx h.cells⟩
theorem PairAt.ext {H H' : Hp} {A0 A1 : Option Addr} {n0 n1 : Nat} {l : List RS} {ns : List (Int × Int)} (h : PairAt H A0 n0 A1 n1 l ns) (hx : Ext H H') : PairAt H' A0 n0 A1 n1 l ns := ⟨h.sides.ext hx, h.notes.ext hx, h.small⟩

theorem rd_side {H : Hp} {A : Option Addr} {n : Nat} {l : List RS} {i : Nat} {r : RS} (h : SidesAt H A n l) (hi : l[i]? = some r) {K : Nat → Nat → Prop}
    (hk : ∀ b o, A = some ⟨b, o, none⟩ → cl H b (o + i * 3) = some (.int .i64 r.ph) → cl H b (o + i * 3 + 1) = some (.bool r.up) → cl H b (o + i * 3 + 1 + 1) = some (.slice r.A r.n r.c) → K b o) : onPtr A K := by
  have hlen : ∀ x ∈ l, (RS.cells x).length = 3 := fun x _ => rfl
  have hne : l ≠ [] := fun e => by subst e; simp at hi
  refine at_cells h.cells (flat_ne hlen (by omega) hne) fun b o hA hc => hk b o hA ?_ ?_ ?_
  · have := hc (i * 3 + 0) _ (flat_get hlen hi (by omega)); exact this
  · have := hc (i * 3 + 1) _ (flat_get hlen hi (by omega)); exact this
  · have := hc (i * 3 + 2) _ (flat_get hlen hi (by omega)); exact this
theorem rd_note {H : Hp} {A : Option Addr} {n : Nat} {l : List (Int × Int)} {i : Nat} {r : Int × Int} (h : NotesAt H A n l) (hi : l[i]? = some r) {K : Nat → Nat → Prop}
    (hk : ∀ b o, A = some ⟨b, o, none⟩ → cl H b (o + i * 2) = some (.int .i64 r.1) → cl H b (o + i * 2 + 1) = some (.int .i64 r.2) → K b o) : onPtr A K := by
  have hlen : ∀ x ∈ l, (noteC x).length = 2 := fun x _ => rfl
  have hne : l ≠ [] := fun e => by subst e; simp at hi
  refine at_cells h.cells (flat_ne hlen (by omega) hne) fun b o hA hc => hk b o hA ?_ ?_
  · have := hc (i * 2 + 0) _ (flat_get hlen hi (by omega)); exact this
  · have := hc (i * 2 + 1) _ (flat_get hlen hi (by omega)); exact this

theorem fnOk (f : Nat) {ts : List Nat} (h : look f tR = some ts) : FnOk Try.prog f := chkR_ok tR_ok f ts h
theorem any_take_succ {α : Type} {g : α → Bool} {l : List α} {i : Nat} {x : α} (hx : l[i]? = some x) : (l.take (i + 1)).any g = ((l.take i).any g || g x) := by
  rw [List.take_add_one, hx]; simp
theorem any_hit {α : Type} {g : α → Bool} {l : List α} {i : Nat} {x : α} (hx : l[i]? = some x) (hg : g x = true) : l.any g = true :=
  List.any_eq_true.2 ⟨x, List.mem_of_getElem? hx, hg⟩
theorem any_done {α : Type} {g : α → Bool} {l : List α} (h : (l.take l.length).any g = false) : l.any g = false := by
  rwa [List.take_length] at h

variable {H : Hp} {Q : Value → Hp → Prop}
theorem c68 {A : Option Addr} {n c : Nat} {l : List Int} {p : Int} (hA : cellsAt H A (ints l)) (hl : n = l.length) (hb : l.length < huge) (hq : ∀ r : Int, decide (r ≥ 0) = l.any (p == ·) → Q (.int .i64 r) H) :
    HCalls Try.prog 68 [.slice A n c, .int .i64 p] H Q := by
  refine f68.ok _ _ _ _ ?_
  unfold f68
  subst hl
  have hbig : l.length < 4611686018427387904 := by unfold huge at hb; omega
  refine scan hbig (fun i H' => H' = H ∧ (l.take i).any (p == ·) = false) ⟨rfl, by simp⟩ ?_ ?_
  · rintro i _ next hi ⟨rfl, hI⟩ hnext
    obtain ⟨x, hx⟩ : ∃ x, l[i]? = some x := ⟨_, List.getElem?_eq_getElem hi⟩
    refine cndT (by simpa using hi) ⟨by simp, by simpa using hi, rd_ints hA hx fun b o _ hc => ⟨x, by simpa using hc, cndI (fun h => ?_) (fun h => ⟨rfl, ?_⟩)⟩⟩
    · exact hq _ (by rw [any_hit hx h]; simp)
    · exact hnext _ ⟨rfl, by rw [any_take_succ hx, hI, h]; rfl⟩
  · rintro _ next ⟨rfl, hI⟩
    refine cndF (by simp) (hq _ ?_)
    rw [any_done hI]; rfl
theorem c58 {A : Option Addr} {n c : Nat} {l : List Int} {p : Int} (hA : cellsAt H A (ints l)) (hl : n = l.length) (hb : l.length < huge) (hq : Q (.bool (l.any (p == ·))) H) :
    HCalls Try.prog 58 [.slice A n c, .int .i64 p] H Q := by
  refine f58.ok _ _ _ _ ?_
  unfold f58
  exact c68 hA hl hb fun r hr => ⟨r, rfl, by rw [hr]; exact hq⟩
theorem c60 {A : Option Addr} {n c : Nat} {l : List Int} {f : Nat} {fa fc : Array Value} {g : Int → Bool} (hA : cellsAt H A (ints l)) (hl : n = l.length) (hb : l.length < huge) (hf : FnOk Try.prog f)
    (hg : ∀ x ∈ l, ∀ Q : Value → Hp → Prop, Q (.bool (g x)) H → HCalls Try.prog f (fa.toList ++ [.int .i64 x] ++ fc.toList) H Q) (hq : ∀ r : Int, decide (r ≥ 0) = l.any g → Q (.int .i64 r) H) :
    HCalls Try.prog 60 [.slice A n c, .func (.func f) fa fc] H Q := by
  refine f60.ok _ _ _ _ _ _ ?_
  unfold f60
  subst hl
  have hbig : l.length < 4611686018427387904 := by unfold huge at hb; omega
  refine scan hbig (fun i H' => H' = H ∧ (l.take i).any g = false) ⟨rfl, by simp⟩ ?_ ?_
  · rintro i _ next hi ⟨rfl, hI⟩ hnext
    obtain ⟨x, hx⟩ : ∃ x, l[i]? = some x := ⟨_, List.getElem?_eq_getElem hi⟩
    refine cndT (by simpa using hi) ⟨by simp, by simpa using hi, rd_ints hA hx fun b o _ hc => ⟨x, by simpa using hc, hf, hg x (List.mem_of_getElem? hx) _ ⟨g x, rfl, cndI (fun h => ?_) (fun h => ⟨rfl, ?_⟩)⟩⟩⟩
    · exact hq _ (by rw [any_hit hx h]; simp)
    · exact hnext _ ⟨rfl, by rw [any_take_succ hx, hI, h]; rfl⟩
  · rintro _ next ⟨rfl, hI⟩
    refine cndF (by simp) (hq _ ?_)
    rw [any_done hI]; rfl
theorem c61 {A : Option Addr} {n c : Nat} {l : List (Int × Int)} {f : Nat} {fa fc : Array Value} {g : Int × Int → Bool} (hA : NotesAt H A n l) (hb : l.length < huge) (hf : FnOk Try.prog f)
    (hg : ∀ x ∈ l, ∀ Q : Value → Hp → Prop, Q (.bool (g x)) H → HCalls Try.prog f (fa.toList ++ [.agg #[.int .i64 x.1, .int .i64 x.2]] ++ fc.toList) H Q) (hq : ∀ r : Int, decide (r ≥ 0) = l.any g → Q (.int .i64 r) H) :
    HCalls Try.prog 61 [.slice A n c, .func (.func f) fa fc] H Q := by
  refine f61.ok _ _ _ _ _ _ ?_
  unfold f61
  obtain rfl := hA.len
  have hbig : l.length < 4611686018427387904 := by unfold huge at hb; omega
  refine scan hbig (fun i H' => H' = H ∧ (l.take i).any g = false) ⟨rfl, by simp⟩ ?_ ?_
  · rintro i _ next hi ⟨rfl, hI⟩ hnext
    obtain ⟨x, hx⟩ : ∃ x, l[i]? = some x := ⟨_, List.getElem?_eq_getElem hi⟩
    refine cndT (by simpa using hi) ⟨by simp, by simpa using hi, rd_note hA hx fun b o _ hc hc2 => ⟨x.1, by simpa using hc, x.2, by simpa using hc2, hf, hg x (List.mem_of_getElem? hx) _ ⟨g x, rfl, cndI (fun h => ?_) (fun h => ⟨rfl, ?_⟩)⟩⟩⟩
    · exact hq _ (by rw [any_hit hx h]; simp)
    · exact hnext _ ⟨rfl, by rw [any_take_succ hx, hI, h]; rfl⟩
  · rintro _ next ⟨rfl, hI⟩
    refine cndF (by simp) (hq _ ?_)
    rw [any_done hI]; rfl
theorem c67 {A : Option Addr} {n c : Nat} {l : List RS} {f : Nat} {fa fc : Array Value} {g : RS → Bool} (hA : SidesAt H A n l) (hb : l.length < huge) (hf : FnOk Try.prog f)
    (hg : ∀ x ∈ l, ∀ Q : Value → Hp → Prop, Q (.bool (g x)) H → HCalls Try.prog f (fa.toList ++ [.agg #[.int .i64 x.ph, .bool x.up, .slice x.A x.n x.c]] ++ fc.toList) H Q) (hq : ∀ r : Int, decide (r ≥ 0) = l.any g → Q (.int .i64 r) H) :
    HCalls Try.prog 67 [.slice A n c, .func (.func f) fa fc] H Q := by
  refine f67.ok _ _ _ _ _ _ ?_
  unfold f67
  obtain rfl := hA.len
  have hbig : l.length < 4611686018427387904 := by unfold huge at hb; omega
  refine scan hbig (fun i H' => H' = H ∧ (l.take i).any g = false) ⟨rfl, by simp⟩ ?_ ?_
  · rintro i _ next hi ⟨rfl, hI⟩ hnext
    obtain ⟨x, hx⟩ : ∃ x, l[i]? = some x := ⟨_, List.getElem?_eq_getElem hi⟩
    refine cndT (by simpa using hi) ⟨by simp, by simpa using hi, rd_side hA hx fun b o _ hc hc2 hc3 => ⟨x.ph, by simpa using hc, x.up, by simpa using hc2, x.A, x.n, x.c, by simpa using hc3, hf, hg x (List.mem_of_getElem? hx) _ ⟨g x, rfl, cndI (fun h => ?_) (fun h => ⟨rfl, ?_⟩)⟩⟩⟩
    · exact hq _ (by rw [any_hit hx h]; simp)
    · exact hnext _ ⟨rfl, by rw [any_take_succ hx, hI, h]; rfl⟩
  · rintro _ next ⟨rfl, hI⟩
    refine cndF (by simp) (hq _ ?_)
    rw [any_done hI]; rfl
theorem c40 {A : Option Addr} {n c : Nat} {l : List Int} {f : Nat} {fa fc : Array Value} {g : Int → Bool} (hA : cellsAt H A (ints l)) (hl : n = l.length) (hb : l.length < huge) (hf : FnOk Try.prog f)
    (hg : ∀ x ∈ l, ∀ Q : Value → Hp → Prop, Q (.bool (g x)) H → HCalls Try.prog f (fa.toList ++ [.int .i64 x] ++ fc.toList) H Q) (hq : Q (.bool (l.any g)) H) : HCalls Try.prog 40 [.slice A n c, .func (.func f) fa fc] H Q := by
  refine f40.ok _ _ _ _ _ _ ?_
  unfold f40
  exact c60 hA hl hb hf hg fun r hr => ⟨r, rfl, by rw [hr]; exact hq⟩
theorem c42 {A : Option Addr} {n c : Nat} {l : List (Int × Int)} {f : Nat} {fa fc : Array Value} {g : Int × Int → Bool} (hA : NotesAt H A n l) (hb : l.length < huge) (hf : FnOk Try.prog f)
    (hg : ∀ x ∈ l, ∀ Q : Value → Hp → Prop, Q (.bool (g x)) H → HCalls Try.prog f (fa.toList ++ [.agg #[.int .i64 x.1, .int .i64 x.2]] ++ fc.toList) H Q) (hq : Q (.bool (l.any g)) H) : HCalls Try.prog 42 [.slice A n c, .func (.func f) fa fc] H Q := by
  refine f42.ok _ _ _ _ _ _ ?_
  unfold f42
  exact c61 hA hb hf hg fun r hr => ⟨r, rfl, by rw [hr]; exact hq⟩
theorem c56 {A : Option Addr} {n c : Nat} {l : List RS} {f : Nat} {fa fc : Array Value} {g : RS → Bool} (hA : SidesAt H A n l) (hb : l.length < huge) (hf : FnOk Try.prog f)
    (hg : ∀ x ∈ l, ∀ Q : Value → Hp → Prop, Q (.bool (g x)) H → HCalls Try.prog f (fa.toList ++ [.agg #[.int .i64 x.ph, .bool x.up, .slice x.A x.n x.c]] ++ fc.toList) H Q) (hq : Q (.bool (l.any g)) H) : HCalls Try.prog 56 [.slice A n c, .func (.func f) fa fc] H Q := by
  refine f56.ok _ _ _ _ _ _ ?_
  unfold f56
  exact c67 hA hb hf hg fun r hr => ⟨r, rfl, by rw [hr]; exact hq⟩

/-! ### what a pair's form is -/
def phOk (x : Int) : Bool := decide (0 ≤ x) && decide (x ≤ 4)
def noteOk (n : Int × Int) : Bool := decide (0 ≤ n.1) && decide (n.1 ≤ 1) && decide (1 ≤ n.2) && decide (n.2 ≤ 7)
def sideOk (s : Side) : Bool := phOk s.ph && s.log.all phOk
def formed (p : PS) : Bool := decide (p.sides.length = 2) && decide (p.notes.length ≤ 20) && p.sides.all sideOk && p.notes.all noteOk
def psOf (l : List RS) (ns : List (Int × Int)) : PS := ⟨l.map RS.side, ns⟩
theorem c39 {x : Int} (hq : Q (.bool (phOk x)) H) : HCalls Try.prog 39 [.int .i64 x] H Q := by
  refine f39.ok _ ?_
  unfold f39 jn
  unfold phOk at hq
  refine cndI (fun h => ?_) (fun h => ?_)
  · rw [show decide (0 ≤ x) = true by simpa using h, Bool.true_and] at hq; exact hq
  · rw [show decide (0 ≤ x) = false by simpa using h, Bool.false_and] at hq; exact hq
theorem c38 {x : Int} (hq : Q (.bool (phOk x)) H) : HCalls Try.prog 38 [.int .i64 x] H Q := by
  refine f38.ok _ ?_
  unfold f38 jn
  unfold phOk at hq
  refine cndI (fun h => ?_) (fun h => ?_)
  · rw [show decide (0 ≤ x) = true by simpa using h, Bool.true_and] at hq; exact hq
  · rw [show decide (0 ≤ x) = false by simpa using h, Bool.false_and] at hq; exact hq
theorem c41 {x : Int} (hq : Q (.bool (!phOk x)) H) : HCalls Try.prog 41 [.int .i64 x] H Q := by
  refine f41.ok _ ?_
  unfold f41
  exact c39 ⟨_, rfl, hq⟩
theorem c43 {n : Int × Int} (hq : Q (.bool (!noteOk n)) H) : HCalls Try.prog 43 [.agg #[.int .i64 n.1, .int .i64 n.2]] H Q := by
  refine f43.ok _ _ ?_
  unfold f43 jn
  have key : ∀ b : Bool, b = (!noteOk n) → Q (.bool b) H := fun b hb => by rw [hb]; exact hq
  unfold noteOk at key
  refine cndI (fun h => key _ ?_) (fun h => cndI (fun h2 => key _ ?_) (fun h2 => cndI (fun h3 => key _ ?_) (fun h3 => key _ ?_)))
  all_goals
    simp only [decide_eq_true_eq, decide_eq_false_iff_not] at *
  · rw [decide_eq_false (by omega : ¬ 0 ≤ n.1)]; simp
  · rw [decide_eq_false (by omega : ¬ n.1 ≤ 1)]; simp
  · rw [decide_eq_false (by omega : ¬ 1 ≤ n.2)]; simp
  · rw [decide_eq_true (by omega : 0 ≤ n.1), decide_eq_true (by omega : n.1 ≤ 1), decide_eq_true (by omega : 1 ≤ n.2)]
    by_cases h4 : n.2 ≤ 7
    · simp [h4]
    · simp [h4]; omega
end Go.Proofs.Ytkkmoeimcedkgaa.Hw
