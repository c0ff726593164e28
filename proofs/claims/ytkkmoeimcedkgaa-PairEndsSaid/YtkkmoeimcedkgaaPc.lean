/- The pair: its outcome, its doubt, whether it is settled; whether two are the same. -/
import Derived.Test.YtkkmoeimcedkgaaPb
set_option linter.unusedVariables false
set_option linter.unusedSimpArgs false
namespace Go.Proofs.Ytkkmoeimcedkgaa.Hw
open Go Go.Proofs
variable {H : Hp} {Q : Value → Hp → Prop}
section
variable {A0 A1 : Option Addr} {n0 c0 n1 c1 : Nat} {l : List RS} {ns : List (Int × Int)}
theorem two_of {l : List RS} (h : l.length = 2) : ∃ r0 r1, l = [r0, r1] := by
  match l, h with
  | [a, b], _ => exact ⟨a, b, rfl⟩

def offP (s : Side) : Bool := lastP s.log == 4 || (decide (s.log.length = 0) && s.ph == 0)
def settledP (a b : Side) : Bool := (lastP a.log == 3 && lastP b.log == 3) || (offP a && offP b)
theorem c59 {r : RS} (hr : r.n = r.log.length ∧ cellsAt H r.A (ints r.log) ∧ r.log.length < huge) (hq : Q (.bool (offP r.side)) H) : HCalls Try.prog 59 [.agg #[.int .i64 r.ph, .bool r.up, .slice r.A r.n r.c]] H Q := by
  refine f59.ok _ _ _ _ _ ?_
  unfold f59 jn
  refine c34 hr.2.1 hr.1 hr.2.2 ⟨_, rfl, cndI (fun h => ?_) (fun h => cndI (fun h2 => ?_) (fun h2 => ?_))⟩
  · have e : offP r.side = true := by unfold offP RS.side; simp only; rw [h]; rfl
    rw [e] at hq; exact hq
  · have e : offP r.side = (r.ph == 0) := by
      unfold offP RS.side; simp only; rw [h, decide_eq_true (by rw [hr.1] at h2; simpa using h2)]; simp
    rw [e] at hq; exact hq
  · have e : offP r.side = false := by
      unfold offP RS.side; simp only; rw [h, decide_eq_false (by rw [hr.1] at h2; simpa using h2)]; simp
    rw [e] at hq; exact hq
theorem c36 {r0 r1 : RS} (hp : PairAt H A0 n0 A1 n1 [r0, r1] ns) (hq : Q (.bool (settledP r0.side r1.side)) H) : HCalls Try.prog 36 [.agg #[.slice A0 n0 c0, .slice A1 n1 c1]] H Q := by
  refine f36.ok _ _ _ _ _ _ ?_
  unfold f36 jn
  have h0 := hp.sides.logs r0 (by simp)
  have h1 := hp.sides.logs r1 (by simp)
  have hn : n0 = 2 := hp.sides.len
  subst hn
  refine ⟨by simp, by simp, rd_side hp.sides (i := 0) rfl fun b o _ k1 k2 k3 => ⟨r0.ph, by simpa using k1, r0.up, by simpa using k2, r0.A, r0.n, r0.c, by simpa using k3, by simp, by simp, rd_side hp.sides (i := 1) rfl fun b o _ k1 k2 k3 => ⟨r1.ph, by simpa using k1, r1.up, by simpa using k2, r1.A, r1.n, r1.c, by simpa using k3, ?_⟩⟩⟩
  have offs : Q (.bool (offP r0.side && offP r1.side)) H → FnOk Try.prog 59 ∧ HCalls Try.prog 59 [.agg #[.int .i64 r0.ph, .bool r0.up, .slice r0.A r0.n r0.c]] H fun v26 H27 => ∃ x28 : Bool, v26 = .bool x28 ∧ cnd x28 (FnOk Try.prog 59 ∧ HCalls Try.prog 59 [.agg #[.int .i64 r1.ph, .bool r1.up, .slice r1.A r1.n r1.c]] H27 fun v29 H30 => ∃ x31 : Bool, v29 = .bool x31 ∧ Q (.bool x31) H30) (Q (.bool false) H27) := fun h => by
    refine ⟨fnOk 59 rfl, c59 h0 ⟨_, rfl, cndI (fun g => ⟨fnOk 59 rfl, c59 h1 ⟨_, rfl, ?_⟩⟩) (fun g => ?_)⟩⟩
    · rw [g, Bool.true_and] at h; exact h
    · rw [g, Bool.false_and] at h; exact h
  have key : HCalls Try.prog 34 [.agg #[.int .i64 r0.ph, .bool r0.up, .slice r0.A r0.n r0.c]] H fun v20 H21 => ∃ x22 : Int, v20 = .int .i64 x22 ∧ cnd ((x22 : Int) == 3) (HCalls Try.prog 34 [.agg #[.int .i64 r1.ph, .bool r1.up, .slice r1.A r1.n r1.c]] H21 fun v23 H24 => ∃ x25 : Int, v23 = .int .i64 x25 ∧ cnd ((x25 : Int) == 3) (Q (.bool true) H24) (FnOk Try.prog 59 ∧ HCalls Try.prog 59 [.agg #[.int .i64 r0.ph, .bool r0.up, .slice r0.A r0.n r0.c]] H24 fun v26 H27 => ∃ x28 : Bool, v26 = .bool x28 ∧ cnd x28 (FnOk Try.prog 59 ∧ HCalls Try.prog 59 [.agg #[.int .i64 r1.ph, .bool r1.up, .slice r1.A r1.n r1.c]] H27 fun v29 H30 => ∃ x31 : Bool, v29 = .bool x31 ∧ Q (.bool x31) H30) (Q (.bool false) H27))) (FnOk Try.prog 59 ∧ HCalls Try.prog 59 [.agg #[.int .i64 r0.ph, .bool r0.up, .slice r0.A r0.n r0.c]] H21 fun v32 H33 => ∃ x34 : Bool, v32 = .bool x34 ∧ cnd x34 (FnOk Try.prog 59 ∧ HCalls Try.prog 59 [.agg #[.int .i64 r1.ph, .bool r1.up, .slice r1.A r1.n r1.c]] H33 fun v35 H36 => ∃ x37 : Bool, v35 = .bool x37 ∧ Q (.bool x37) H36) (Q (.bool false) H33)) := by
    unfold settledP at hq
    refine c34 h0.2.1 h0.1 h0.2.2 ⟨_, rfl, cndI (fun h => c34 h1.2.1 h1.1 h1.2.2 ⟨_, rfl, cndI (fun h2 => ?_) (fun h2 => offs ?_)⟩) (fun h => offs ?_)⟩
    · rw [show (lastP r0.side.log == 3) = true from h, show (lastP r1.side.log == 3) = true from h2] at hq; exact hq
    · rw [show (lastP r1.side.log == 3) = false from h2, Bool.and_false, Bool.false_or] at hq; exact hq
    · rw [show (lastP r0.side.log == 3) = false from h, Bool.false_and, Bool.false_or] at hq; exact hq
  exact ⟨key, key⟩

def wroteP (p : PS) (x : Int) : Bool := p.sides.any fun s => s.log.any (x == ·)
theorem wroteP_eq {x : Int} : wroteP (psOf l ns) x = l.any (fun r => r.log.any (x == ·)) := by
  unfold wroteP psOf
  rw [List.any_map]; rfl
theorem c32 {x : Int} (hp : PairAt H A0 n0 A1 n1 l ns) (hq : ∀ H', Ext H H' → Q (.bool (wroteP (psOf l ns) x)) H') : HCalls Try.prog 32 [.agg #[.slice A0 n0 c0, .slice A1 n1 c1], .int .i64 x] H Q := by
  refine f32.ok _ _ _ _ _ _ _ ?_
  unfold f32
  intro g hg
  have hx : Ext H (upd g (.cells [Value.int .i64 x].toArray 50 (0, 0)) H) := Ext.new hg
  have hp2 := hp.ext hx
  rw [wroteP_eq] at hq
  refine c56 (g := fun r => r.log.any (x == ·)) hp2.sides hp.small.1 (fnOk 57 rfl) (fun r hr Q' hQ' => ?_) ⟨_, rfl, hq _ hx⟩
  refine f57.ok r.ph r.up r.A r.n r.c g 0 ?_
  unfold f57
  have hl := hp2.sides.logs r hr
  exact ⟨x, by rw [cl_cells upd_at]; rfl, c58 hl.2.1 hl.1 hl.2.2 ⟨_, rfl, hQ'⟩⟩
theorem c33 {x : Int} (hp : PairAt H A0 n0 A1 n1 l ns) (hq : Q (.bool (wroteP (psOf l ns) x)) H) : HCalls Try.prog 33 [.agg #[.slice A0 n0 c0, .slice A1 n1 c1], .int .i64 x] H Q := by
  refine f33.ok _ _ _ _ _ _ _ ?_
  unfold f33
  rw [wroteP_eq] at hq
  obtain rfl := hp.sides.len
  have hbig : l.length < 4611686018427387904 := by have := hp.small.1; unfold huge at this; omega
  refine scan hbig (fun i H' => H' = H ∧ (l.take i).any (fun r => r.log.any (x == ·)) = false) ⟨rfl, by simp⟩ ?_ ?_
  · rintro i H next hi ⟨rfl, hI⟩ hnext
    obtain ⟨r, hx⟩ : ∃ r, l[i]? = some r := ⟨_, List.getElem?_eq_getElem hi⟩
    have hxl := hp.sides.logs r (List.mem_of_getElem? hx)
    refine cndT (by simpa using hi) ⟨by simp, by simpa using hi, rd_side hp.sides hx fun b o _ hc hc2 hc3 => ⟨r.ph, by simpa using hc, r.up, by simpa using hc2, r.A, r.n, r.c, by simpa using hc3, ?_⟩⟩
    rw [hxl.1]
    refine scan (n := r.log.length) (by have := hxl.2.2; unfold huge at this; omega) (fun j H' => H' = _ ∧ (r.log.take j).any (x == ·) = false) ⟨rfl, by simp⟩ ?_ ?_
    · rintro j H next2 hj ⟨rfl, hJ⟩ hnext2
      obtain ⟨y, hy⟩ : ∃ y, r.log[j]? = some y := ⟨_, List.getElem?_eq_getElem hj⟩
      refine cndT (by simpa using hj) ⟨by simp, by simpa using hj, rd_ints hxl.2.1 hy fun b o _ hc => ⟨y, by simpa using hc, cndI (fun h4 => ?_) (fun h4 => ⟨rfl, hnext2 _ ⟨rfl, ?_⟩⟩)⟩⟩
      · rw [any_hit (g := fun r => r.log.any (x == ·)) hx (any_hit (g := (x == ·)) hy h4)] at hq
        exact hq
      · rw [any_take_succ hy, hJ, h4]; rfl
    · rintro H next2 ⟨rfl, hJ⟩
      refine cndF (by simp) ⟨rfl, hnext _ ⟨rfl, ?_⟩⟩
      rw [any_take_succ hx, hI]
      simp only [any_done hJ, Bool.or_self]
  · rintro H next ⟨rfl, hI⟩
    rw [any_done hI] at hq
    exact cndF (by simp) hq

def outcomeP (p : PS) : Int × Int := if formed p then (if wroteP p 3 then (3, 0) else if wroteP p 4 then (4, 0) else (0, 0)) else (0, 2)
theorem c14 (hp : PairAt H A0 n0 A1 n1 l ns) (hq : ∀ H', Ext H H' → Q (.tuple #[.int .i64 (outcomeP (psOf l ns)).1, .int .i64 (outcomeP (psOf l ns)).2]) H') : HCalls Try.prog 14 [.agg #[.slice A0 n0 c0, .slice A1 n1 c1]] H Q := by
  refine f14.ok _ _ _ _ _ _ ?_
  unfold f14
  unfold outcomeP at hq
  refine c28 hp ⟨_, rfl, cndI (fun h => ?_) (fun h => ?_)⟩
  · rw [show formed (psOf l ns) = false by simpa using h] at hq
    exact hq H (Ext.refl H)
  · rw [show formed (psOf l ns) = true by simpa using h] at hq
    refine c32 hp fun H' hx => ⟨_, rfl, cndI (fun h3 => ?_) (fun h3 => c32 (hp.ext hx) fun H'' hx' => ⟨_, rfl, cndI (fun h4 => ?_) (fun h4 => ?_)⟩)⟩
    · simp only [h3, if_true] at hq; exact hq _ hx
    · simp only [h3, h4, if_true, Bool.false_eq_true, if_false] at hq; exact hq _ (hx.trans hx')
    · simp only [h3, h4, if_true, Bool.false_eq_true, if_false] at hq; exact hq _ (hx.trans hx')
theorem c15 (hp : PairAt H A0 n0 A1 n1 l ns) (hq : Q (.tuple #[.int .i64 (outcomeP (psOf l ns)).1, .int .i64 (outcomeP (psOf l ns)).2]) H) : HCalls Try.prog 15 [.agg #[.slice A0 n0 c0, .slice A1 n1 c1]] H Q := by
  refine f15.ok _ _ _ _ _ _ ?_
  unfold f15
  unfold outcomeP at hq
  refine c21 hp ⟨_, rfl, cndI (fun h => ?_) (fun h => ?_)⟩
  · rw [show formed (psOf l ns) = false by simpa using h] at hq
    exact hq
  · rw [show formed (psOf l ns) = true by simpa using h] at hq
    refine c33 hp ⟨_, rfl, cndI (fun h3 => ?_) (fun h3 => c33 hp ⟨_, rfl, cndI (fun h4 => ?_) (fun h4 => ?_)⟩)⟩
    · simp only [h3, if_true] at hq; exact hq
    · simp only [h3, h4, if_true, Bool.false_eq_true, if_false] at hq; exact hq
    · simp only [h3, h4, if_true, Bool.false_eq_true, if_false] at hq; exact hq
def side1 (p : PS) : Side := p.sides.getD 1 ⟨0, false, []⟩
def side0 (p : PS) : Side := p.sides.getD 0 ⟨0, false, []⟩
def doubtP (p : PS) : Bool × Int := if formed p then (lastP (side1 p).log == 2, 0) else (false, 2)
def settledQ (p : PS) : Bool × Int := if formed p then (settledP (side0 p) (side1 p), 0) else (false, 2)
theorem c16 (hp : PairAt H A0 n0 A1 n1 l ns) (hq : Q (.tuple #[.bool (doubtP (psOf l ns)).1, .int .i64 (doubtP (psOf l ns)).2]) H) : HCalls Try.prog 16 [.agg #[.slice A0 n0 c0, .slice A1 n1 c1]] H Q := by
  refine f16.ok _ _ _ _ _ _ ?_
  unfold f16
  unfold doubtP at hq
  refine c28 hp ⟨_, rfl, cndI (fun h => ?_) (fun h => ?_)⟩
  · rw [show formed (psOf l ns) = false by simpa using h] at hq
    exact hq
  · have hf : formed (psOf l ns) = true := by simpa using h
    rw [hf] at hq
    obtain ⟨r0, r1, rfl⟩ := two_of (formed_two hf).1
    have h1 := hp.sides.logs r1 (by simp)
    have hn : n0 = 2 := hp.sides.len
    subst hn
    exact ⟨by simp, by simp, rd_side hp.sides (i := 1) rfl fun b o _ k1 k2 k3 => ⟨r1.ph, by simpa using k1, r1.up, by simpa using k2, r1.A, r1.n, r1.c, by simpa using k3, c34 h1.2.1 h1.1 h1.2.2 ⟨_, rfl, hq⟩⟩⟩
theorem c17 (hp : PairAt H A0 n0 A1 n1 l ns) (hq : Q (.tuple #[.bool (doubtP (psOf l ns)).1, .int .i64 (doubtP (psOf l ns)).2]) H) : HCalls Try.prog 17 [.agg #[.slice A0 n0 c0, .slice A1 n1 c1]] H Q := by
  refine f17.ok _ _ _ _ _ _ ?_
  unfold f17
  unfold doubtP at hq
  refine c21 hp ⟨_, rfl, cndI (fun h => ?_) (fun h => ?_)⟩
  · rw [show formed (psOf l ns) = false by simpa using h] at hq
    exact hq
  · have hf : formed (psOf l ns) = true := by simpa using h
    rw [hf] at hq
    obtain ⟨r0, r1, rfl⟩ := two_of (formed_two hf).1
    have h1 := hp.sides.logs r1 (by simp)
    have hn : n0 = 2 := hp.sides.len
    subst hn
    exact ⟨by simp, by simp, rd_side hp.sides (i := 1) rfl fun b o _ k1 k2 k3 => ⟨r1.ph, by simpa using k1, r1.up, by simpa using k2, r1.A, r1.n, r1.c, by simpa using k3, c35 h1.2.1 h1.1 h1.2.2 ⟨_, rfl, hq⟩⟩⟩
theorem c18 (hp : PairAt H A0 n0 A1 n1 l ns) (hq : Q (.tuple #[.bool (settledQ (psOf l ns)).1, .int .i64 (settledQ (psOf l ns)).2]) H) : HCalls Try.prog 18 [.agg #[.slice A0 n0 c0, .slice A1 n1 c1]] H Q := by
  refine f18.ok _ _ _ _ _ _ ?_
  unfold f18
  unfold settledQ at hq
  refine c28 hp ⟨_, rfl, cndI (fun h => ?_) (fun h => ?_)⟩
  · rw [show formed (psOf l ns) = false by simpa using h] at hq
    exact hq
  · have hf : formed (psOf l ns) = true := by simpa using h
    rw [hf] at hq
    obtain ⟨r0, r1, rfl⟩ := two_of (formed_two hf).1
    exact c36 hp ⟨_, rfl, hq⟩
theorem c19 (hp : PairAt H A0 n0 A1 n1 l ns) (hq : Q (.tuple #[.bool (settledQ (psOf l ns)).1, .int .i64 (settledQ (psOf l ns)).2]) H) : HCalls Try.prog 19 [.agg #[.slice A0 n0 c0, .slice A1 n1 c1]] H Q := by
  refine f19.ok _ _ _ _ _ _ ?_
  unfold f19 jn
  unfold settledQ at hq
  refine c21 hp ⟨_, rfl, cndI (fun h => ?_) (fun h => ?_)⟩
  · rw [show formed (psOf l ns) = false by simpa using h] at hq
    exact hq
  · have hf : formed (psOf l ns) = true := by simpa using h
    rw [hf] at hq
    obtain ⟨r0, r1, rfl⟩ := two_of (formed_two hf).1
    have h0 := hp.sides.logs r0 (by simp)
    have h1 := hp.sides.logs r1 (by simp)
    have hn : n0 = 2 := hp.sides.len
    subst hn
    have hq' : Q (.tuple #[.bool (settledP r0.side r1.side), .int .i64 0]) H := hq
    unfold settledP at hq'
    have loop : Q (.tuple #[.bool (offP r0.side && offP r1.side), .int .i64 0]) H → LoopF (σ := (Int × Unit) × Unit) ((0, ()), ()) H fun s21 H22 next23 => cnd (decide ((s21.1.1 : Int) < ((2 : Nat) : Int))) (0 ≤ (s21.1.1 : Int) ∧ (s21.1.1 : Int) < ((2 : Nat) : Int) ∧ onPtr A0 fun b24 o24 => ∃ x25 : Int, cl H22 b24 (o24 + (s21.1.1 : Int).toNat * 3) = some (.int .i64 x25) ∧ ∃ x26 : Bool, cl H22 b24 ((o24 + (s21.1.1 : Int).toNat * 3) + 1) = some (.bool x26) ∧ ∃ (A27 : Option Addr) (n27 c27 : Nat), cl H22 b24 (((o24 + (s21.1.1 : Int).toNat * 3) + 1) + 1) = some (.slice A27 n27 c27) ∧ HCalls Try.prog 35 [.agg #[.int .i64 x25, .bool x26, .slice A27 n27 c27]] H22 fun v28 H29 => ∃ x30 : Int, v28 = .int .i64 x30 ∧ cnd ((x30 : Int) != 4) (cnd (decide ((((n27 : Nat) : Int) : Int) > 0)) (cnd true (Q (.tuple #[.bool false, .int .i64 0]) H29) (KeepX [some (.v (.slice A0 2 c0)), some (.v (.int .i64 ((2 : Nat) : Int)))] [] ∧ next23 ((IntKind.i64.wrap (s21.1.1 + 1), ()), ()) H29)) (cnd ((x25 : Int) != 0) (Q (.tuple #[.bool false, .int .i64 0]) H29) (KeepX [some (.v (.slice A0 2 c0)), some (.v (.int .i64 ((2 : Nat) : Int)))] [] ∧ next23 ((IntKind.i64.wrap (s21.1.1 + 1), ()), ()) H29))) (cnd false (Q (.tuple #[.bool false, .int .i64 0]) H29) (KeepX [some (.v (.slice A0 2 c0)), some (.v (.int .i64 ((2 : Nat) : Int)))] [] ∧ next23 ((IntKind.i64.wrap (s21.1.1 + 1), ()), ()) H29))) (Q (.tuple #[.bool true, .int .i64 0]) H22) := fun hq => by
      have hall : ([r0, r1].all fun r => offP r.side) = (offP r0.side && offP r1.side) := by simp
      rw [← hall] at hq
      refine scan (n := 2) (by omega) (fun i H' => H' = H ∧ ([r0, r1].take i).all (fun r => offP r.side) = true) ⟨rfl, by simp⟩ ?_ ?_
      · rintro i H next hi ⟨rfl, hI⟩ hnext
        obtain ⟨r, hx⟩ : ∃ r, [r0, r1][i]? = some r := ⟨_, List.getElem?_eq_getElem hi⟩
        have hxl := hp.sides.logs r (List.mem_of_getElem? hx)
        have hno : offP r.side = false → Q (.tuple #[.bool false, .int .i64 0]) H := fun h => by
          rw [all_miss (g := fun r => offP r.side) hx h] at hq; exact hq
        have hyes : offP r.side = true → KeepX [some (.v (.slice A0 2 c0)), some (.v (.int .i64 ((2 : Nat) : Int)))] [] ∧ next ((IntKind.i64.wrap ((i : Int) + 1), ()), ()) H := fun h =>
          ⟨rfl, hnext _ ⟨rfl, by rw [all_take_succ hx, hI, h]; rfl⟩⟩
        unfold offP RS.side at hno hyes
        simp only at hno hyes
        refine cndT (by simp; omega) ⟨by simp, by simp; omega, rd_side hp.sides hx fun b o _ hc hc2 hc3 => ⟨r.ph, by simpa using hc, r.up, by simpa using hc2, r.A, r.n, r.c, by simpa using hc3, c35 hxl.2.1 hxl.1 hxl.2.2 ⟨_, rfl, cndI (fun g => cndI (fun g2 => cndT rfl (hno ?_)) (fun g2 => cndI (fun g3 => hno ?_) (fun g3 => hyes ?_))) (fun g => cndF rfl (hyes ?_))⟩⟩⟩
        · have e1 : (lastP r.log == 4) = false := by simpa using g
          have e2 : r.log.length ≠ 0 := by have := of_decide_eq_true g2; have := hxl.1; omega
          rw [e1, decide_eq_false e2]; rfl
        · have e1 : (lastP r.log == 4) = false := by simpa using g
          have e3 : (r.ph == 0) = false := by simpa using g3
          rw [e1, e3, Bool.and_false]; rfl
        · have e2 : r.log.length = 0 := by have := of_decide_eq_false g2; have := hxl.1; omega
          have e3 : (r.ph == 0) = true := by simpa using g3
          rw [decide_eq_true e2, e3]; simp
        · have e1 : (lastP r.log == 4) = true := by simpa using g
          rw [e1]; rfl
      · rintro H next ⟨rfl, hI⟩
        rw [all_done (l := [r0, r1]) hI] at hq
        exact cndF (by simp) hq
    refine ⟨by simp, by simp, rd_side hp.sides (i := 0) rfl fun b o _ k1 k2 k3 => ⟨r0.ph, by simpa using k1, r0.up, by simpa using k2, r0.A, r0.n, r0.c, by simpa using k3, c35 h0.2.1 h0.1 h0.2.2 ⟨_, rfl, cndI (fun g => ?_) (fun g => cndF rfl (loop ?_))⟩⟩⟩
    · refine ⟨by simp, by simp, rd_side hp.sides (i := 1) rfl fun b o _ k1 k2 k3 => ⟨r1.ph, by simpa using k1, r1.up, by simpa using k2, r1.A, r1.n, r1.c, by simpa using k3, c35 h1.2.1 h1.1 h1.2.2 ⟨_, rfl, cndI (fun g2 => ?_) (fun g2 => loop ?_)⟩⟩⟩
      · rw [show (lastP r0.side.log == 3) = true from g, show (lastP r1.side.log == 3) = true from g2] at hq'; exact hq'
      · rw [show (lastP r1.side.log == 3) = false from g2, Bool.and_false, Bool.false_or] at hq'; exact hq'
    · rw [show (lastP r0.side.log == 3) = false from g, Bool.false_and, Bool.false_or] at hq'; exact hq'
end
end Go.Proofs.Ytkkmoeimcedkgaa.Hw
