/- The pair: what an act does, said of states. -/
import Derived.Test.YtkkmoeimcedkgaaPf
set_option linter.unusedVariables false
set_option linter.unusedSimpArgs false
namespace Go.Proofs.Ytkkmoeimcedkgaa.Hw
open Go Go.Proofs
structure ST where
  s0 : Side
  s1 : Side
  ns : List (Int × Int)
  deriving DecidableEq
namespace ST
def tot (s : ST) : Nat := s.s0.log.length + s.s1.log.length + s.ns.length
def write0 (s : ST) (p : Int) : ST := ⟨⟨p, s.s0.up, s.s0.log ++ [p]⟩, s.s1, s.ns⟩
def write1 (s : ST) (p : Int) : ST := ⟨s.s0, ⟨p, s.s1.up, s.s1.log ++ [p]⟩, s.ns⟩
def send (s : ST) (to k : Int) : ST := ⟨s.s0, s.s1, s.ns ++ [(to, k)]⟩
def in0 (s : ST) (l : List Int) : Bool := l.any (s.s0.ph == ·)
def in1 (s : ST) (l : List Int) : Bool := l.any (s.s1.ph == ·)
def part (s : ST) (k : Int) : ST :=
  if k == 1 then (if s.in1 [1] then (s.write1 2).send 0 2 else if s.in1 [2] then s.send 0 2 else s.send 0 3)
  else if k == 4 then (let t := if s.in1 [2] then s.write1 3 else s; if t.in1 [3] then t.send 0 7 else t)
  else if k == 5 then (let t := if s.in1 [2, 1] then s.write1 4 else s; if t.in1 [0, 4] then t.send 0 7 else t)
  else s
def refuse (s : ST) : ST := (if s.in0 [1, 0] then s.write0 4 else s).send 1 5
def lead (s : ST) (k : Int) : ST :=
  if k == 2 then (if s.in0 [2] then (s.write0 3).send 1 4 else if s.in0 [3] then s.send 1 4 else s.refuse)
  else if k == 3 then (if s.in0 [2, 1] then (s.write0 4).send 1 5 else s)
  else if k == 6 then (if s.in0 [3] then s.send 1 4 else if s.in0 [2] then s else s.refuse)
  else s
end ST
theorem tot_write0 {s : ST} {p : Int} : (s.write0 p).tot = s.tot + 1 := by simp [ST.tot, ST.write0]; omega
theorem tot_write1 {s : ST} {p : Int} : (s.write1 p).tot = s.tot + 1 := by simp [ST.tot, ST.write1]; omega
theorem tot_send {s : ST} {p k : Int} : (s.send p k).tot = s.tot + 1 := by simp [ST.tot, ST.send]; omega

def AS (H0 H : Hp) (g bs cS : Nat) (s : ST) : Prop := ∃ r0 r1 An cn, r0.side = s.s0 ∧ r1.side = s.s1 ∧ AA H0 H g bs cS r0 r1 An cn s.ns
section
variable {H0 H H' : Hp} {g bs cS : Nat} {s : ST} {Q : Value → Hp → Prop} {R : Prop}
theorem AS.fresh (h : AS H0 H g bs cS s) {b : Nat} {o : Obj} (hb : H b = none) : AS H0 (upd b o H) g bs cS s := by
  obtain ⟨r0, r1, An, cn, h0, h1, h⟩ := h
  exact ⟨r0, r1, An, cn, h0, h1, h.fresh hb⟩
theorem AS.ext (h : AS H0 H g bs cS s) : Ext H0 H := by
  obtain ⟨r0, r1, An, cn, h0, h1, h⟩ := h
  exact h.ext
theorem AS.small (h : AS H0 H g bs cS s) : s.s0.log.length < big ∧ s.s1.log.length < big ∧ s.ns.length < big := by
  obtain ⟨r0, r1, An, cn, h0, h1, h⟩ := h
  rw [← h0, ← h1]; exact h.small

/-! the methods of 'actor' -/
theorem d62_0 (h : AS H0 H g bs cS s) {p : Int} (hb : s.tot + 1 < big) (hq : ∀ H', AS H0 H' g bs cS (s.write0 p) → Q (.tuple #[]) H') : HCalls Try.prog 62 [.pointer (some ⟨g, 0, none⟩), .int .i64 0, .int .i64 p] H Q := by
  obtain ⟨r0, r1, An, cn, h0, h1, h⟩ := h
  have e := congrArg (fun s => s.log.length) h0
  simp only [RS.side] at e
  exact c62_0 h (by unfold ST.tot at hb; omega) fun A c H' h' => hq H' ⟨_, _, _, _, by unfold ST.write0 wr; rw [← h0]; rfl, h1, h'⟩
theorem d62_1 (h : AS H0 H g bs cS s) {p : Int} (hb : s.tot + 1 < big) (hq : ∀ H', AS H0 H' g bs cS (s.write1 p) → Q (.tuple #[]) H') : HCalls Try.prog 62 [.pointer (some ⟨g, 0, none⟩), .int .i64 1, .int .i64 p] H Q := by
  obtain ⟨r0, r1, An, cn, h0, h1, h⟩ := h
  have e := congrArg (fun s => s.log.length) h1
  simp only [RS.side] at e
  exact c62_1 h (by unfold ST.tot at hb; omega) fun A c H' h' => hq H' ⟨_, _, _, _, h0, by unfold ST.write1 wr; rw [← h1]; rfl, h'⟩
theorem d55_0 (h : AS H0 H g bs cS s) {p : Int} (hb : s.tot + 1 < big) (hq : ∀ H', AS H0 H' g bs cS (s.write0 p) → Q (.tuple #[]) H') : HCalls Try.prog 55 [.pointer (some ⟨g, 0, none⟩), .int .i64 0, .int .i64 p] H Q := by
  obtain ⟨r0, r1, An, cn, h0, h1, h⟩ := h
  have e := congrArg (fun s => s.log.length) h0
  simp only [RS.side] at e
  exact c55_0 h (by unfold ST.tot at hb; omega) fun A c H' h' => hq H' ⟨_, _, _, _, by unfold ST.write0 wr; rw [← h0]; rfl, h1, h'⟩
theorem d55_1 (h : AS H0 H g bs cS s) {p : Int} (hb : s.tot + 1 < big) (hq : ∀ H', AS H0 H' g bs cS (s.write1 p) → Q (.tuple #[]) H') : HCalls Try.prog 55 [.pointer (some ⟨g, 0, none⟩), .int .i64 1, .int .i64 p] H Q := by
  obtain ⟨r0, r1, An, cn, h0, h1, h⟩ := h
  have e := congrArg (fun s => s.log.length) h1
  simp only [RS.side] at e
  exact c55_1 h (by unfold ST.tot at hb; omega) fun A c H' h' => hq H' ⟨_, _, _, _, h0, by unfold ST.write1 wr; rw [← h1]; rfl, h'⟩
theorem d63 (h : AS H0 H g bs cS s) {to k : Int} (hb : s.tot + 1 < big) (hq : ∀ H', AS H0 H' g bs cS (s.send to k) → Q (.tuple #[]) H') : HCalls Try.prog 63 [.pointer (some ⟨g, 0, none⟩), .int .i64 to, .int .i64 k] H Q := by
  obtain ⟨r0, r1, An, cn, h0, h1, h⟩ := h
  exact c63 h (by unfold ST.tot at hb; omega) fun A c H' h' => hq H' ⟨_, _, _, _, h0, h1, h'⟩
theorem d51 (h : AS H0 H g bs cS s) {to k : Int} (hb : s.tot + 1 < big) (hq : ∀ H', AS H0 H' g bs cS (s.send to k) → Q (.tuple #[]) H') : HCalls Try.prog 51 [.pointer (some ⟨g, 0, none⟩), .int .i64 to, .int .i64 k] H Q := by
  obtain ⟨r0, r1, An, cn, h0, h1, h⟩ := h
  exact c51 h (by unfold ST.tot at hb; omega) fun A c H' h' => hq H' ⟨_, _, _, _, h0, h1, h'⟩
theorem cellN {g : Nat} {l : List Int} {H : Hp} : cellsAt (upd g (.cells (ints l).toArray 50 (0, 0)) H) (some ⟨g, 0, none⟩) (ints l) := .inr ⟨g, 0, rfl, fun j v hj => by rw [cl_cells upd_at, Nat.zero_add]; exact hj⟩
/-- 'is', and what follows. -/
theorem is66_0 (h : AS H0 H g bs cS s) (l : List Int) {n c : Nat} (hl : n = l.length) (hb : l.length < big) {A B : Hp → Prop} (hA : ∀ H2, AS H0 H2 g bs cS s → s.in0 l = true → A H2) (hB : ∀ H2, AS H0 H2 g bs cS s → s.in0 l = false → B H2) :
    newF H 50 (ints l) fun g1 H2 => HCalls Try.prog 66 [.pointer (some ⟨g, 0, none⟩), .int .i64 0, .slice (some ⟨g1, 0, none⟩) n c] H2 fun v H4 => ∃ x : Bool, v = .bool x ∧ cnd x (A H4) (B H4) := by
  obtain ⟨r0, r1, An, cn, h0, h1, h⟩ := h
  intro g1 hg1
  have e : s.in0 l = l.any (r0.ph == ·) := by unfold ST.in0; rw [← h0]; rfl
  have hs : AS H0 (upd g1 (.cells (ints l).toArray 50 (0, 0)) H) g bs cS s := ⟨r0, r1, An, cn, h0, h1, h.fresh hg1⟩
  exact c66_0 (h.fresh hg1) cellN hl hb ⟨_, rfl, cndI (fun g => hA _ hs (e.trans g)) (fun g => hB _ hs (e.trans g))⟩
theorem is66_1 (h : AS H0 H g bs cS s) (l : List Int) {n c : Nat} (hl : n = l.length) (hb : l.length < big) {A B : Hp → Prop} (hA : ∀ H2, AS H0 H2 g bs cS s → s.in1 l = true → A H2) (hB : ∀ H2, AS H0 H2 g bs cS s → s.in1 l = false → B H2) :
    newF H 50 (ints l) fun g1 H2 => HCalls Try.prog 66 [.pointer (some ⟨g, 0, none⟩), .int .i64 1, .slice (some ⟨g1, 0, none⟩) n c] H2 fun v H4 => ∃ x : Bool, v = .bool x ∧ cnd x (A H4) (B H4) := by
  obtain ⟨r0, r1, An, cn, h0, h1, h⟩ := h
  intro g1 hg1
  have e : s.in1 l = l.any (r1.ph == ·) := by unfold ST.in1; rw [← h1]; rfl
  have hs : AS H0 (upd g1 (.cells (ints l).toArray 50 (0, 0)) H) g bs cS s := ⟨r0, r1, An, cn, h0, h1, h.fresh hg1⟩
  exact c66_1 (h.fresh hg1) cellN hl hb ⟨_, rfl, cndI (fun g => hA _ hs (e.trans g)) (fun g => hB _ hs (e.trans g))⟩
theorem is50_0 (h : AS H0 H g bs cS s) (l : List Int) {n c : Nat} (hl : n = l.length) (hb : l.length < big) {A B : Hp → Prop} (hA : ∀ H2, AS H0 H2 g bs cS s → s.in0 l = true → A H2) (hB : ∀ H2, AS H0 H2 g bs cS s → s.in0 l = false → B H2) :
    newF H 50 (ints l) fun g1 H2 => HCalls Try.prog 50 [.pointer (some ⟨g, 0, none⟩), .int .i64 0, .slice (some ⟨g1, 0, none⟩) n c] H2 fun v H4 => ∃ x : Bool, v = .bool x ∧ cnd x (A H4) (B H4) := by
  obtain ⟨r0, r1, An, cn, h0, h1, h⟩ := h
  intro g1 hg1
  have e : s.in0 l = l.any (r0.ph == ·) := by unfold ST.in0; rw [← h0]; rfl
  have hs : AS H0 (upd g1 (.cells (ints l).toArray 50 (0, 0)) H) g bs cS s := ⟨r0, r1, An, cn, h0, h1, h.fresh hg1⟩
  exact c50_0 (h.fresh hg1) cellN hl hb ⟨_, rfl, cndI (fun g => hA _ hs (e.trans g)) (fun g => hB _ hs (e.trans g))⟩
theorem is50_1 (h : AS H0 H g bs cS s) (l : List Int) {n c : Nat} (hl : n = l.length) (hb : l.length < big) {A B : Hp → Prop} (hA : ∀ H2, AS H0 H2 g bs cS s → s.in1 l = true → A H2) (hB : ∀ H2, AS H0 H2 g bs cS s → s.in1 l = false → B H2) :
    newF H 50 (ints l) fun g1 H2 => HCalls Try.prog 50 [.pointer (some ⟨g, 0, none⟩), .int .i64 1, .slice (some ⟨g1, 0, none⟩) n c] H2 fun v H4 => ∃ x : Bool, v = .bool x ∧ cnd x (A H4) (B H4) := by
  obtain ⟨r0, r1, An, cn, h0, h1, h⟩ := h
  intro g1 hg1
  have e : s.in1 l = l.any (r1.ph == ·) := by unfold ST.in1; rw [← h1]; rfl
  have hs : AS H0 (upd g1 (.cells (ints l).toArray 50 (0, 0)) H) g bs cS s := ⟨r0, r1, An, cn, h0, h1, h.fresh hg1⟩
  exact c50_1 (h.fresh hg1) cellN hl hb ⟨_, rfl, cndI (fun g => hA _ hs (e.trans g)) (fun g => hB _ hs (e.trans g))⟩

theorem tiny1 : ([0] : List Int).length < big ∧ ([0, 0] : List Int).length < big := by unfold big; simp
theorem c65 (h : AS H0 H g bs cS s) {k : Int} (hb : s.tot + 2 < big) (hq : ∀ H', AS H0 H' g bs cS (s.part k) → Q (.tuple #[]) H') : HCalls Try.prog 65 [.pointer (some ⟨g, 0, none⟩), .int .i64 k] H Q := by
  refine f65.ok g 0 k ?_
  unfold f65 jn
  unfold ST.part at hq
  refine cndI (fun k1 => ?_) (fun k1 => cndI (fun k2 => ?_) (fun k2 => cndI (fun k3 => ?_) (fun k3 => ?_)))
  · simp only [k1, if_true] at hq
    refine is66_1 h [1] rfl tiny1.1 (fun H2 h2 e2 => ?_) (fun H2 h2 e2 => is66_1 h2 [2] rfl tiny1.1 (fun H3 h3 e3 => ?_) (fun H3 h3 e3 => ?_))
    · simp only [e2, if_true] at hq
      exact d62_1 h2 (by omega) fun H3 h3 => ⟨rfl, d63 h3 (by rw [tot_write1]; omega) fun H4 h4 => ⟨rfl, hq _ h4⟩⟩
    · simp only [e2, e3, if_true, Bool.false_eq_true, if_false] at hq
      exact d63 h3 (by omega) fun H4 h4 => ⟨rfl, hq _ h4⟩
    · simp only [e2, e3, Bool.false_eq_true, if_false] at hq
      exact d63 h3 (by omega) fun H4 h4 => ⟨rfl, hq _ h4⟩
  · simp only [k1, k2, if_true, Bool.false_eq_true, if_false] at hq
    have go : ∀ (t : ST) H2, AS H0 H2 g bs cS t → t.tot + 1 < big → (∀ H', AS H0 H' g bs cS (if t.in1 [3] then t.send 0 7 else t) → Q (.tuple #[]) H') → newF H2 50 [.int .i64 3] fun g28 H29 => HCalls Try.prog 66 [.pointer (some ⟨g, 0, none⟩), .int .i64 1, .slice (some ⟨g28, 0, none⟩) 1 1] H29 fun v30 H31 => ∃ x32 : Bool, v30 = .bool x32 ∧ cnd x32 (HCalls Try.prog 63 [.pointer (some ⟨g, 0, none⟩), .int .i64 0, .int .i64 7] H31 fun v33 H34 => v33 = .tuple #[] ∧ Q (.tuple #[]) H34) (Q (.tuple #[]) H31) := fun t H2 h2 hb hq =>
      is66_1 h2 [3] rfl tiny1.1 (fun H3 h3 e3 => d63 h3 hb fun H4 h4 => ⟨rfl, hq _ (by simp only [e3, if_true]; exact h4)⟩) (fun H3 h3 e3 => hq _ (by simp only [e3, Bool.false_eq_true, if_false]; exact h3))
    refine is66_1 h [2] rfl tiny1.1 (fun H2 h2 e2 => ?_) (fun H2 h2 e2 => ?_)
    · simp only [e2, if_true] at hq
      exact d62_1 h2 (by omega) fun H3 h3 => ⟨rfl, go _ _ h3 (by rw [tot_write1]; omega) hq⟩
    · simp only [e2, Bool.false_eq_true, if_false] at hq
      exact go _ _ h2 (by omega) hq
  · simp only [k1, k2, k3, if_true, Bool.false_eq_true, if_false] at hq
    have go : ∀ (t : ST) H2, AS H0 H2 g bs cS t → t.tot + 1 < big → (∀ H', AS H0 H' g bs cS (if t.in1 [0, 4] then t.send 0 7 else t) → Q (.tuple #[]) H') → newF H2 50 [.int .i64 0, .int .i64 4] fun g28 H29 => HCalls Try.prog 66 [.pointer (some ⟨g, 0, none⟩), .int .i64 1, .slice (some ⟨g28, 0, none⟩) 2 2] H29 fun v30 H31 => ∃ x32 : Bool, v30 = .bool x32 ∧ cnd x32 (HCalls Try.prog 63 [.pointer (some ⟨g, 0, none⟩), .int .i64 0, .int .i64 7] H31 fun v33 H34 => v33 = .tuple #[] ∧ Q (.tuple #[]) H34) (Q (.tuple #[]) H31) := fun t H2 h2 hb hq =>
      is66_1 h2 [0, 4] rfl tiny1.2 (fun H3 h3 e3 => d63 h3 hb fun H4 h4 => ⟨rfl, hq _ (by simp only [e3, if_true]; exact h4)⟩) (fun H3 h3 e3 => hq _ (by simp only [e3, Bool.false_eq_true, if_false]; exact h3))
    refine is66_1 h [2, 1] rfl tiny1.2 (fun H2 h2 e2 => ?_) (fun H2 h2 e2 => ?_)
    · simp only [e2, if_true] at hq
      exact d62_1 h2 (by omega) fun H3 h3 => ⟨rfl, go _ _ h3 (by rw [tot_write1]; omega) hq⟩
    · simp only [e2, Bool.false_eq_true, if_false] at hq
      exact go _ _ h2 (by omega) hq
  · simp only [k1, k2, k3, Bool.false_eq_true, if_false] at hq
    exact hq _ h
theorem c53 (h : AS H0 H g bs cS s) {k : Int} (hb : s.tot + 2 < big) (hq : ∀ H', AS H0 H' g bs cS (s.part k) → Q (.tuple #[]) H') : HCalls Try.prog 53 [.pointer (some ⟨g, 0, none⟩), .int .i64 k] H Q := by
  refine f53.ok g 0 k ?_
  unfold f53 jn
  unfold ST.part at hq
  refine cndI (fun k1 => ?_) (fun k1 => cndI (fun k2 => ?_) (fun k2 => cndI (fun k3 => ?_) (fun k3 => ?_)))
  · simp only [k1, if_true] at hq
    refine is50_1 h [1] rfl tiny1.1 (fun H2 h2 e2 => ?_) (fun H2 h2 e2 => is50_1 h2 [2] rfl tiny1.1 (fun H3 h3 e3 => ?_) (fun H3 h3 e3 => ?_))
    · simp only [e2, if_true] at hq
      exact d55_1 h2 (by omega) fun H3 h3 => ⟨rfl, d51 h3 (by rw [tot_write1]; omega) fun H4 h4 => ⟨rfl, hq _ h4⟩⟩
    · simp only [e2, e3, if_true, Bool.false_eq_true, if_false] at hq
      exact d51 h3 (by omega) fun H4 h4 => ⟨rfl, hq _ h4⟩
    · simp only [e2, e3, Bool.false_eq_true, if_false] at hq
      exact d51 h3 (by omega) fun H4 h4 => ⟨rfl, hq _ h4⟩
  · simp only [k1, k2, if_true, Bool.false_eq_true, if_false] at hq
    have go : ∀ (t : ST) H2, AS H0 H2 g bs cS t → t.tot + 1 < big → (∀ H', AS H0 H' g bs cS (if t.in1 [3] then t.send 0 7 else t) → Q (.tuple #[]) H') → newF H2 50 [.int .i64 3] fun g28 H29 => HCalls Try.prog 50 [.pointer (some ⟨g, 0, none⟩), .int .i64 1, .slice (some ⟨g28, 0, none⟩) 1 1] H29 fun v30 H31 => ∃ x32 : Bool, v30 = .bool x32 ∧ cnd x32 (HCalls Try.prog 51 [.pointer (some ⟨g, 0, none⟩), .int .i64 0, .int .i64 7] H31 fun v33 H34 => v33 = .tuple #[] ∧ Q (.tuple #[]) H34) (Q (.tuple #[]) H31) := fun t H2 h2 hb hq =>
      is50_1 h2 [3] rfl tiny1.1 (fun H3 h3 e3 => d51 h3 hb fun H4 h4 => ⟨rfl, hq _ (by simp only [e3, if_true]; exact h4)⟩) (fun H3 h3 e3 => hq _ (by simp only [e3, Bool.false_eq_true, if_false]; exact h3))
    refine is50_1 h [2] rfl tiny1.1 (fun H2 h2 e2 => ?_) (fun H2 h2 e2 => ?_)
    · simp only [e2, if_true] at hq
      exact d55_1 h2 (by omega) fun H3 h3 => ⟨rfl, go _ _ h3 (by rw [tot_write1]; omega) hq⟩
    · simp only [e2, Bool.false_eq_true, if_false] at hq
      exact go _ _ h2 (by omega) hq
  · simp only [k1, k2, k3, if_true, Bool.false_eq_true, if_false] at hq
    have go : ∀ (t : ST) H2, AS H0 H2 g bs cS t → t.tot + 1 < big → (∀ H', AS H0 H' g bs cS (if t.in1 [0, 4] then t.send 0 7 else t) → Q (.tuple #[]) H') → newF H2 50 [.int .i64 0, .int .i64 4] fun g28 H29 => HCalls Try.prog 50 [.pointer (some ⟨g, 0, none⟩), .int .i64 1, .slice (some ⟨g28, 0, none⟩) 2 2] H29 fun v30 H31 => ∃ x32 : Bool, v30 = .bool x32 ∧ cnd x32 (HCalls Try.prog 51 [.pointer (some ⟨g, 0, none⟩), .int .i64 0, .int .i64 7] H31 fun v33 H34 => v33 = .tuple #[] ∧ Q (.tuple #[]) H34) (Q (.tuple #[]) H31) := fun t H2 h2 hb hq =>
      is50_1 h2 [0, 4] rfl tiny1.2 (fun H3 h3 e3 => d51 h3 hb fun H4 h4 => ⟨rfl, hq _ (by simp only [e3, if_true]; exact h4)⟩) (fun H3 h3 e3 => hq _ (by simp only [e3, Bool.false_eq_true, if_false]; exact h3))
    refine is50_1 h [2, 1] rfl tiny1.2 (fun H2 h2 e2 => ?_) (fun H2 h2 e2 => ?_)
    · simp only [e2, if_true] at hq
      exact d55_1 h2 (by omega) fun H3 h3 => ⟨rfl, go _ _ h3 (by rw [tot_write1]; omega) hq⟩
    · simp only [e2, Bool.false_eq_true, if_false] at hq
      exact go _ _ h2 (by omega) hq
  · simp only [k1, k2, k3, Bool.false_eq_true, if_false] at hq
    exact hq _ h
theorem c69 (h : AS H0 H g bs cS s) (hb : s.tot + 2 < big) (hq : ∀ H', AS H0 H' g bs cS s.refuse → Q (.tuple #[]) H') : HCalls Try.prog 69 [.pointer (some ⟨g, 0, none⟩)] H Q := by
  refine f69.ok g 0 ?_
  unfold f69 jn
  unfold ST.refuse at hq
  refine is66_0 h [1, 0] rfl tiny1.2 (fun H2 h2 e2 => ?_) (fun H2 h2 e2 => ?_)
  · simp only [e2, if_true] at hq
    exact d62_0 h2 (by omega) fun H3 h3 => ⟨rfl, d63 h3 (by rw [tot_write0]; omega) fun H4 h4 => ⟨rfl, hq _ h4⟩⟩
  · simp only [e2, Bool.false_eq_true, if_false] at hq
    exact d63 h2 (by omega) fun H4 h4 => ⟨rfl, hq _ h4⟩
theorem c64 (h : AS H0 H g bs cS s) {k : Int} (hb : s.tot + 2 < big) (hq : ∀ H', AS H0 H' g bs cS (s.lead k) → Q (.tuple #[]) H') : HCalls Try.prog 64 [.pointer (some ⟨g, 0, none⟩), .int .i64 k] H Q := by
  refine f64.ok g 0 k ?_
  unfold f64
  unfold ST.lead at hq
  refine cndI (fun k1 => ?_) (fun k1 => cndI (fun k2 => ?_) (fun k2 => cndI (fun k3 => ?_) (fun k3 => ?_)))
  · simp only [k1, if_true] at hq
    refine is66_0 h [2] rfl tiny1.1 (fun H2 h2 e2 => ?_) (fun H2 h2 e2 => is66_0 h2 [3] rfl tiny1.1 (fun H3 h3 e3 => ?_) (fun H3 h3 e3 => ?_))
    · simp only [e2, if_true] at hq
      exact d62_0 h2 (by omega) fun H3 h3 => ⟨rfl, d63 h3 (by rw [tot_write0]; omega) fun H4 h4 => ⟨rfl, hq _ h4⟩⟩
    · simp only [e2, e3, if_true, Bool.false_eq_true, if_false] at hq
      exact d63 h3 (by omega) fun H4 h4 => ⟨rfl, hq _ h4⟩
    · simp only [e2, e3, Bool.false_eq_true, if_false] at hq
      exact c69 h3 hb fun H4 h4 => ⟨rfl, hq _ h4⟩
  · simp only [k1, k2, if_true, Bool.false_eq_true, if_false] at hq
    refine is66_0 h [2, 1] rfl tiny1.2 (fun H2 h2 e2 => ?_) (fun H2 h2 e2 => ?_)
    · simp only [e2, if_true] at hq
      exact d62_0 h2 (by omega) fun H3 h3 => ⟨rfl, d63 h3 (by rw [tot_write0]; omega) fun H4 h4 => ⟨rfl, hq _ h4⟩⟩
    · simp only [e2, Bool.false_eq_true, if_false] at hq
      exact hq _ h2
  · simp only [k1, k2, k3, if_true, Bool.false_eq_true, if_false] at hq
    refine is66_0 h [3] rfl tiny1.1 (fun H2 h2 e2 => ?_) (fun H2 h2 e2 => ?_)
    · simp only [e2, if_true] at hq
      exact d63 h2 (by omega) fun H4 h4 => ⟨rfl, hq _ h4⟩
    · simp only [e2, Bool.false_eq_true, if_false] at hq
      intro g2 hg2
      obtain ⟨r0, r1, An, cn, h0, h1, h2⟩ := h2
      have e : s.in0 [2] = [2].any (r0.ph == ·) := by unfold ST.in0; rw [← h0]; rfl
      have hs : AS H0 (upd g2 (.cells (ints [2]).toArray 50 (0, 0)) H2) g bs cS s := ⟨r0, r1, An, cn, h0, h1, h2.fresh hg2⟩
      refine c66_0 (l := [2]) (h2.fresh hg2) cellN rfl tiny1.1 ⟨_, rfl, cndI (fun e3 => ?_) (fun e3 => ?_)⟩
      · rw [← e, Bool.not_eq_true'] at e3
        simp only [e3, Bool.false_eq_true, if_false] at hq
        exact c69 hs hb fun H4 h4 => ⟨rfl, hq _ h4⟩
      · rw [← e, Bool.not_eq_false'] at e3
        simp only [e3, if_true] at hq
        exact hq _ hs
  · simp only [k1, k2, k3, Bool.false_eq_true, if_false] at hq
    exact hq _ h
end
end Go.Proofs.Ytkkmoeimcedkgaa.Hw
