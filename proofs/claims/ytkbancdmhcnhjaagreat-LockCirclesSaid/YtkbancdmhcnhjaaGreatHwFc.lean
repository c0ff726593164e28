/- What functions of the program come to, by the evaluator: printed by a program of this session (gen.py) and checked here. -/
import Derived.Test.YtkbancdmhcnhjaaGreatHwTab
set_option linter.unusedVariables false
set_option maxRecDepth 100000
namespace Go.Proofs.YtkbancdmhcnhjaaGreat.Hw
open Go Go.Proofs

/-- justiciar justiciarref18.all -/
def f60 (pl_0_A : Option Addr) (pl_0_n pl_0_c : Nat) (pl_1_A : Option Addr) (pl_1_n pl_1_c : Nat) (pl_2_A : Option Addr) (pl_2_n pl_2_c : Nat) (H : Hp) (Q : Value → Hp → Prop) : Prop :=
  LoopF (σ := ((Option Addr × Nat × Nat) × (Int × Unit)) × Unit) (((none, 0, 0), (0, ())), ()) H fun s1 H2 next3 => cnd (decide ((s1.1.2.1 : Int) < ((pl_1_n : Nat) : Int))) (0 ≤ (s1.1.2.1 : Int) ∧ (s1.1.2.1 : Int) <
    ((pl_1_n : Nat) : Int) ∧ onPtr pl_1_A fun b4 o4 => ∃ x5 : Int, cl H2 b4 (o4 + (s1.1.2.1 : Int).toNat * 3) = some (.int .i64 x5) ∧ ∃ s6 : ByteArray, cl H2 b4 ((o4 + (s1.1.2.1 : Int).toNat * 3) + 1) = some (.string s6)
    ∧ ∃ x7 : Bool, cl H2 b4 (((o4 + (s1.1.2.1 : Int).toNat * 3) + 1) + 1) = some (.bool x7) ∧ HCalls Tryz.prog 86 [.slice s1.1.1.1 s1.1.1.2.1 s1.1.1.2.2, .int .i64 x5] H2 fun v8 H9 => ∃ (A10 : Option Addr) (n10 c10 :
    Nat), v8 = .slice A10 n10 c10 ∧ KeepX [some (.loc 1 0), some (.v (.slice pl_1_A pl_1_n pl_1_c)), some (.v (.int .i64 ((pl_1_n : Nat) : Int)))] [some (true, [.slice pl_0_A pl_0_n pl_0_c, .slice pl_1_A pl_1_n pl_1_c,
    .slice pl_2_A pl_2_n pl_2_c])] ∧ next3 (((A10, n10, c10), (IntKind.i64.wrap (s1.1.2.1 + 1), ())), ()) H9) (LoopF (σ := ((Option Addr × Nat × Nat) × (Int × Unit)) × Unit) (((s1.1.1.1, s1.1.1.2.1, s1.1.1.2.2), (0, ())),
    ()) H2 fun s11 H12 next13 => cnd (decide ((s11.1.2.1 : Int) < ((pl_2_n : Nat) : Int))) (0 ≤ (s11.1.2.1 : Int) ∧ (s11.1.2.1 : Int) < ((pl_2_n : Nat) : Int) ∧ onPtr pl_2_A fun b14 o14 => ∃ x15 : Int, cl H12 b14 (o14 +
    (s11.1.2.1 : Int).toNat * 2) = some (.int .i64 x15) ∧ ∃ x16 : Int, cl H12 b14 ((o14 + (s11.1.2.1 : Int).toNat * 2) + 1) = some (.int .i64 x16) ∧ 0 ≤ (0 : Int) ∧ (0 : Int) < ((2 : Nat) : Int) ∧ HCalls Tryz.prog 86
    [.slice s11.1.1.1 s11.1.1.2.1 s11.1.1.2.2, .int .i64 x15] H12 fun v17 H18 => ∃ (A19 : Option Addr) (n19 c19 : Nat), v17 = .slice A19 n19 c19 ∧ KeepX [some (.v (.slice pl_2_A pl_2_n pl_2_c)), some (.v (.int .i64
    ((pl_2_n : Nat) : Int)))] [] ∧ next13 (((A19, n19, c19), (IntKind.i64.wrap (s11.1.2.1 + 1), ())), ()) H18) (Q (.slice s11.1.1.1 s11.1.1.2.1 s11.1.1.2.2) H12))
noncomputable def fcx60 : Cx := cx 33 [(1, true), (5, true), (7, true)] [(3, ⟨[1, 9, 10], [1], [(3, .slice), (11, .int .i64)], []⟩), (8, ⟨[21, 22], [], [(3, .slice), (23, .int .i64)], []⟩)] [] []
theorem f60.eq (pl_0_A : Option Addr) (pl_0_n pl_0_c : Nat) (pl_1_A : Option Addr) (pl_1_n pl_1_c : Nat) (pl_2_A : Option Addr) (pl_2_n pl_2_c : Nat) (H : Hp) (Q : Value → Hp → Prop) : f60 pl_0_A pl_0_n pl_0_c pl_1_A pl_1_n pl_1_c pl_2_A pl_2_n pl_2_c H Q = wFun fcx60 Tryz.f60 [.agg #[.slice pl_0_A pl_0_n pl_0_c, .slice pl_1_A pl_1_n pl_1_c, .slice pl_2_A pl_2_n pl_2_c]] H Q := by kernel_rfl
theorem f60.ok (pl_0_A : Option Addr) (pl_0_n pl_0_c : Nat) (pl_1_A : Option Addr) (pl_1_n pl_1_c : Nat) (pl_2_A : Option Addr) (pl_2_n pl_2_c : Nat) {H : Hp} {Q : Value → Hp → Prop} (h : f60 pl_0_A pl_0_n pl_0_c pl_1_A pl_1_n pl_1_c pl_2_A pl_2_n pl_2_c H Q) : HCalls Tryz.prog 60 [.agg #[.slice pl_0_A pl_0_n pl_0_c, .slice pl_1_A pl_1_n pl_1_c, .slice pl_2_A pl_2_n pl_2_c]] H Q := hcalls_of (cxOk 33 [(1, true), (5, true), (7, true)] [(3, ⟨[1, 9, 10], [1], [(3, .slice), (11, .int .i64)], []⟩), (8, ⟨[21, 22], [], [(3, .slice), (23, .int .i64)], []⟩)] [] []) Tryz.func60 (Eq.mp (f60.eq pl_0_A pl_0_n pl_0_c pl_1_A pl_1_n pl_1_c pl_2_A pl_2_n pl_2_c H Q) h)

/-- justiciar justiciarref18.circle -/
def f61 (pl_0_A : Option Addr) (pl_0_n pl_0_c : Nat) (pl_1_A : Option Addr) (pl_1_n pl_1_c : Nat) (pl_2_A : Option Addr) (pl_2_n pl_2_c : Nat) (pfirst : Int) (pmost : Int) (H : Hp) (Q : Value → Hp → Prop) : Prop :=
  newF H 3 [.int .i64 pfirst] fun g1 H2 => newF H2 38 [.slice (some ⟨g1, 0, none⟩) 1 1] fun g3 H4 => LoopF (σ := ((Option Addr × Nat × Nat) × (Int × Unit)) × Unit) ((((some ⟨g3, 0, none⟩), 1, 1), (1, ())), ()) H4 fun s5 H6
    next7 => jn (fun (j8 : Bool) => cnd j8 (LoopF (σ := (Int × Unit) × Unit) ((0, ()), ()) H6 fun s10 H11 next12 => cnd (decide ((s10.1.1 : Int) < ((s5.1.1.2.1 : Nat) : Int))) (0 ≤ (s10.1.1 : Int) ∧ (s10.1.1 : Int) <
    ((s5.1.1.2.1 : Nat) : Int) ∧ onPtr s5.1.1.1 fun b13 o13 => ∃ (A14 : Option Addr) (n14 c14 : Nat), cl H11 b13 (o13 + (s10.1.1 : Int).toNat * 1) = some (.slice A14 n14 c14) ∧ 0 ≤ (IntKind.i64.wrap (((n14 : Nat) : Int) -
    1) : Int) ∧ (IntKind.i64.wrap (((n14 : Nat) : Int) - 1) : Int) < ((n14 : Nat) : Int) ∧ onPtr A14 fun b15 o15 => ∃ x16 : Int, cl H11 b15 (o15 + (IntKind.i64.wrap (((n14 : Nat) : Int) - 1) : Int).toNat * 1) = some (.int
    .i64 x16) ∧ HCalls Tryz.prog 55 [.agg #[.slice pl_0_A pl_0_n pl_0_c, .slice pl_1_A pl_1_n pl_1_c, .slice pl_2_A pl_2_n pl_2_c], .int .i64 x16] H11 fun v17 H18 => ∃ (A19 : Option Addr) (n19 c19 : Nat), v17 = .slice A19
    n19 c19 ∧ HCalls Tryz.prog 80 [.slice A19 n19 c19, .int .i64 pfirst] H18 fun v20 H21 => ∃ x22 : Bool, v20 = .bool x22 ∧ cnd x22 (Q (.slice A14 n14 c14) H21) (KeepX [some (.v (.int .i64 pfirst)), some (.v (.int .i64
    pmost)), some (.loc 3 0), some (.v (.slice s5.1.1.1 s5.1.1.2.1 s5.1.1.2.2)), some (.v (.int .i64 s5.1.2.1)), some (.v (.slice s5.1.1.1 s5.1.1.2.1 s5.1.1.2.2)), some (.v (.int .i64 ((s5.1.1.2.1 : Nat) : Int)))] [some
    (true, [.slice pl_0_A pl_0_n pl_0_c, .slice pl_1_A pl_1_n pl_1_c, .slice pl_2_A pl_2_n pl_2_c])] ∧ next12 ((IntKind.i64.wrap (s10.1.1 + 1), ()), ()) H21)) (LoopF (σ := ((Option Addr × Nat × Nat) × ((Option Addr × Nat
    × Nat) × (Int × Unit))) × Unit) (((none, 0, 0), ((none, 0, 0), (0, ()))), ()) H11 fun s23 H24 next25 => cnd (decide ((s23.1.2.2.1 : Int) < ((s5.1.1.2.1 : Nat) : Int))) (0 ≤ (s23.1.2.2.1 : Int) ∧ (s23.1.2.2.1 : Int) <
    ((s5.1.1.2.1 : Nat) : Int) ∧ onPtr s5.1.1.1 fun b26 o26 => ∃ (A27 : Option Addr) (n27 c27 : Nat), cl H24 b26 (o26 + (s23.1.2.2.1 : Int).toNat * 1) = some (.slice A27 n27 c27) ∧ 0 ≤ (IntKind.i64.wrap (((n27 : Nat) :
    Int) - 1) : Int) ∧ (IntKind.i64.wrap (((n27 : Nat) : Int) - 1) : Int) < ((n27 : Nat) : Int) ∧ onPtr A27 fun b28 o28 => ∃ x29 : Int, cl H24 b28 (o28 + (IntKind.i64.wrap (((n27 : Nat) : Int) - 1) : Int).toNat * 1) =
    some (.int .i64 x29) ∧ HCalls Tryz.prog 55 [.agg #[.slice pl_0_A pl_0_n pl_0_c, .slice pl_1_A pl_1_n pl_1_c, .slice pl_2_A pl_2_n pl_2_c], .int .i64 x29] H24 fun v30 H31 => ∃ (A32 : Option Addr) (n32 c32 : Nat), v30 =
    .slice A32 n32 c32 ∧ LoopF (σ := ((Option Addr × Nat × Nat) × ((Option Addr × Nat × Nat) × (Int × Unit))) × Unit) (((s23.1.1.1, s23.1.1.2.1, s23.1.1.2.2), ((s23.1.2.1.1, s23.1.2.1.2.1, s23.1.2.1.2.2), (0, ()))), ())
    H31 fun s33 H34 next35 => cnd (decide ((s33.1.2.2.1 : Int) < ((n32 : Nat) : Int))) (jn (fun (jA59 : Option Addr) (jn60 : Nat) (jc61 : Nat) (jA62 : Option Addr) (jn63 : Nat) (jc64 : Nat) (H65 : Hp) => KeepX [some (.v
    (.int .i64 pfirst)), some (.v (.int .i64 pmost)), some (.loc 3 0), some (.v (.int .i64 s5.1.2.1)), some (.v (.slice A27 n27 c27)), some (.v (.slice s5.1.1.1 s5.1.1.2.1 s5.1.1.2.2)), some (.v (.int .i64 ((s5.1.1.2.1 :
    Nat) : Int))), some (.v (.int .i64 s23.1.2.2.1)), some (.v (.slice A32 n32 c32)), some (.v (.int .i64 ((n32 : Nat) : Int)))] [some (true, [.slice pl_0_A pl_0_n pl_0_c, .slice pl_1_A pl_1_n pl_1_c, .slice pl_2_A pl_2_n
    pl_2_c])] ∧ next35 (((jA59, jn60, jc61), ((jA62, jn63, jc64), (IntKind.i64.wrap (s33.1.2.2.1 + 1), ()))), ()) H65) fun J66 => 0 ≤ (s33.1.2.2.1 : Int) ∧ (s33.1.2.2.1 : Int) < ((n32 : Nat) : Int) ∧ onPtr A32 fun b36 o36
    => ∃ x37 : Int, cl H34 b36 (o36 + (s33.1.2.2.1 : Int).toNat * 1) = some (.int .i64 x37) ∧ jn (fun (j44 : Bool) (H45 : Hp) => cnd j44 (newF H45 3 [.int .i64 x37] fun g47 H48 => appendF H48 3 1 8 s33.1.2.1.1
    s33.1.2.1.2.1 s33.1.2.1.2.2 (some ⟨g47, 0, none⟩) 1 fun A49 n49 c49 H50 => 0 ≤ (((n27 : Nat) : Int) : Int) ∧ (((n27 : Nat) : Int) : Int) ≤ ((c27 : Nat) : Int) ∧ 0 ≤ (((n27 : Nat) : Int) : Int) ∧ (((n27 : Nat) : Int) :
    Int) ≤ (((n27 : Nat) : Int) : Int) ∧ newF H50 3 [.int .i64 x37] fun g51 H52 => appendF H52 3 1 8 (cutA A27 (0 * 1) (decide (((((n27 : Nat) : Int) : Int).toNat) = 0))) (((((n27 : Nat) : Int) : Int).toNat) - 0) (((((n27
    : Nat) : Int) : Int).toNat) - 0) (some ⟨g51, 0, none⟩) 1 fun A53 n53 c53 H54 => newF H54 38 [.slice A53 n53 c53] fun g55 H56 => appendF H56 38 1 24 s33.1.1.1 s33.1.1.2.1 s33.1.1.2.2 (some ⟨g55, 0, none⟩) 1 fun A57 n57
    c57 H58 => J66 A57 n57 c57 A49 n49 c49 H58) (J66 s33.1.1.1 s33.1.1.2.1 s33.1.1.2.2 s33.1.2.1.1 s33.1.2.1.2.1 s33.1.2.1.2.2 H45)) fun J46 => cnd (decide ((x37 : Int) > pfirst)) (HCalls Tryz.prog 80 [.slice A27 n27 c27,
    .int .i64 x37] H34 fun v38 H39 => ∃ x40 : Bool, v38 = .bool x40 ∧ cnd (!x40) (HCalls Tryz.prog 80 [.slice s33.1.2.1.1 s33.1.2.1.2.1 s33.1.2.1.2.2, .int .i64 x37] H39 fun v41 H42 => ∃ x43 : Bool, v41 = .bool x43 ∧ J46
    (!x43) H42) (J46 false H39)) (J46 false H34)) (KeepX [some (.v (.int .i64 pfirst)), some (.v (.int .i64 pmost)), some (.loc 3 0), some (.v (.int .i64 s5.1.2.1)), some (.v (.slice s5.1.1.1 s5.1.1.2.1 s5.1.1.2.2)), some
    (.v (.int .i64 ((s5.1.1.2.1 : Nat) : Int)))] [some (true, [.slice pl_0_A pl_0_n pl_0_c, .slice pl_1_A pl_1_n pl_1_c, .slice pl_2_A pl_2_n pl_2_c])] ∧ next25 (((s33.1.1.1, s33.1.1.2.1, s33.1.1.2.2), ((s33.1.2.1.1,
    s33.1.2.1.2.1, s33.1.2.1.2.2), (IntKind.i64.wrap (s23.1.2.2.1 + 1), ()))), ()) H34)) (KeepX [some (.v (.int .i64 pfirst)), some (.v (.int .i64 pmost)), some (.loc 3 0)] [some (true, [.slice pl_0_A pl_0_n pl_0_c,
    .slice pl_1_A pl_1_n pl_1_c, .slice pl_2_A pl_2_n pl_2_c])] ∧ next7 (((s23.1.1.1, s23.1.1.2.1, s23.1.1.2.2), (IntKind.i64.wrap (s5.1.2.1 + 1), ())), ()) H24))) (Q (.slice none 0 0) H6)) fun J9 => cnd (decide
    ((s5.1.2.1 : Int) ≤ pmost)) (J9 (decide ((((s5.1.1.2.1 : Nat) : Int) : Int) > 0))) (J9 false)
noncomputable def fcx61 : Cx := cx 101 [(3, true)] [(3, ⟨[1, 2, 3], [3], [(7, .slice), (8, .int .i64)], []⟩), (6, ⟨[1, 2, 3, 7, 8, 30, 31], [3], [(32, .int .i64)], []⟩), (14, ⟨[1, 2, 3, 8, 48, 49], [3], [(11, .slice), (12, .slice), (50, .int .i64)], []⟩), (17, ⟨[1, 2, 3, 8, 14, 48, 49, 50, 61, 62], [3], [(11, .slice), (12, .slice), (63, .int .i64)], []⟩)] [(8, (.look 0 (.look 1 (.look 2 (.look 3 (.look 4 (.look 5 (.look 6 (.look 8 (.act 7 (.act 9 .done .done) .done)))))))))), (16, (.look 0 (.look 1 (.look 2 (.look 3 (.look 4 (.look 5 (.look 6 (.look 9 (.act 7 (.look 8 .done) .done))))))))))] []
theorem f61.eq (pl_0_A : Option Addr) (pl_0_n pl_0_c : Nat) (pl_1_A : Option Addr) (pl_1_n pl_1_c : Nat) (pl_2_A : Option Addr) (pl_2_n pl_2_c : Nat) (pfirst : Int) (pmost : Int) (H : Hp) (Q : Value → Hp → Prop) : f61 pl_0_A pl_0_n pl_0_c pl_1_A pl_1_n pl_1_c pl_2_A pl_2_n pl_2_c pfirst pmost H Q = wFun fcx61 Tryz.f61 [.agg #[.slice pl_0_A pl_0_n pl_0_c, .slice pl_1_A pl_1_n pl_1_c, .slice pl_2_A pl_2_n pl_2_c], .int .i64 pfirst, .int .i64 pmost] H Q := by kernel_rfl
theorem f61.ok (pl_0_A : Option Addr) (pl_0_n pl_0_c : Nat) (pl_1_A : Option Addr) (pl_1_n pl_1_c : Nat) (pl_2_A : Option Addr) (pl_2_n pl_2_c : Nat) (pfirst : Int) (pmost : Int) {H : Hp} {Q : Value → Hp → Prop} (h : f61 pl_0_A pl_0_n pl_0_c pl_1_A pl_1_n pl_1_c pl_2_A pl_2_n pl_2_c pfirst pmost H Q) : HCalls Tryz.prog 61 [.agg #[.slice pl_0_A pl_0_n pl_0_c, .slice pl_1_A pl_1_n pl_1_c, .slice pl_2_A pl_2_n pl_2_c], .int .i64 pfirst, .int .i64 pmost] H Q := hcalls_of (cxOk 101 [(3, true)] [(3, ⟨[1, 2, 3], [3], [(7, .slice), (8, .int .i64)], []⟩), (6, ⟨[1, 2, 3, 7, 8, 30, 31], [3], [(32, .int .i64)], []⟩), (14, ⟨[1, 2, 3, 8, 48, 49], [3], [(11, .slice), (12, .slice), (50, .int .i64)], []⟩), (17, ⟨[1, 2, 3, 8, 14, 48, 49, 50, 61, 62], [3], [(11, .slice), (12, .slice), (63, .int .i64)], []⟩)] [(8, (.look 0 (.look 1 (.look 2 (.look 3 (.look 4 (.look 5 (.look 6 (.look 8 (.act 7 (.act 9 .done .done) .done)))))))))), (16, (.look 0 (.look 1 (.look 2 (.look 3 (.look 4 (.look 5 (.look 6 (.look 9 (.act 7 (.look 8 .done) .done))))))))))] []) Tryz.func61 (Eq.mp (f61.eq pl_0_A pl_0_n pl_0_c pl_1_A pl_1_n pl_1_c pl_2_A pl_2_n pl_2_c pfirst pmost H Q) h)

/-- slices.ContainsFunc[[]justiciar api.Wait,justiciar api.Wait] -/
def f62 (ps_A : Option Addr) (ps_n ps_c : Nat) (pf_f : FuncId) (pf_a pf_c : Array Value) (H : Hp) (Q : Value → Hp → Prop) : Prop :=
  HCalls Tryz.prog 83 [.slice ps_A ps_n ps_c, .func (.func pf_f) pf_a pf_c] H fun v1 H2 => ∃ x3 : Int, v1 = .int .i64 x3 ∧ Q (.bool (decide ((x3 : Int) ≥ 0))) H2
noncomputable def fcx62 : Cx := cx 9 [] [] [] []
theorem f62.eq (ps_A : Option Addr) (ps_n ps_c : Nat) (pf_f : FuncId) (pf_a pf_c : Array Value) (H : Hp) (Q : Value → Hp → Prop) : f62 ps_A ps_n ps_c pf_f pf_a pf_c H Q = wFun fcx62 Tryz.f62 [.slice ps_A ps_n ps_c, .func (.func pf_f) pf_a pf_c] H Q := by kernel_rfl
theorem f62.ok (ps_A : Option Addr) (ps_n ps_c : Nat) (pf_f : FuncId) (pf_a pf_c : Array Value) {H : Hp} {Q : Value → Hp → Prop} (h : f62 ps_A ps_n ps_c pf_f pf_a pf_c H Q) : HCalls Tryz.prog 62 [.slice ps_A ps_n ps_c, .func (.func pf_f) pf_a pf_c] H Q := hcalls_of (cxOk 9 [] [] [] []) Tryz.func62 (Eq.mp (f62.eq ps_A ps_n ps_c pf_f pf_a pf_c H Q) h)

/-- justiciar lock.waiting$1 -/
def f63 (pw_0 : Int) (pw_1 : ByteArray) (pw_2 : Bool) (fra_b fra_o : Nat) (H : Hp) (Q : Value → Hp → Prop) : Prop :=
  ∃ x1 : Int, cl H fra_b fra_o = some (.int .i64 x1) ∧ Q (.bool ((pw_0 : Int) == x1)) H
noncomputable def fcx63 : Cx := cx 8 [(2, true)] [] [] []
theorem f63.eq (pw_0 : Int) (pw_1 : ByteArray) (pw_2 : Bool) (fra_b fra_o : Nat) (H : Hp) (Q : Value → Hp → Prop) : f63 pw_0 pw_1 pw_2 fra_b fra_o H Q = wFun fcx63 Tryz.f63 [.agg #[.int .i64 pw_0, .string pw_1, .bool pw_2], .pointer (some ⟨fra_b, fra_o, none⟩)] H Q := by kernel_rfl
theorem f63.ok (pw_0 : Int) (pw_1 : ByteArray) (pw_2 : Bool) (fra_b fra_o : Nat) {H : Hp} {Q : Value → Hp → Prop} (h : f63 pw_0 pw_1 pw_2 fra_b fra_o H Q) : HCalls Tryz.prog 63 [.agg #[.int .i64 pw_0, .string pw_1, .bool pw_2], .pointer (some ⟨fra_b, fra_o, none⟩)] H Q := hcalls_of (cxOk 8 [(2, true)] [] [] []) Tryz.func63 (Eq.mp (f63.eq pw_0 pw_1 pw_2 fra_b fra_o H Q) h)

/-- slices.IndexFunc[[][2]int,[2]int] -/
def f64 (ps_A : Option Addr) (ps_n ps_c : Nat) (pf_f : FuncId) (pf_a pf_c : Array Value) (H : Hp) (Q : Value → Hp → Prop) : Prop :=
  LoopF (σ := (Int × Unit) × Unit) ((0, ()), ()) H fun s1 H2 next3 => cnd (decide ((s1.1.1 : Int) < ((ps_n : Nat) : Int))) (0 ≤ (s1.1.1 : Int) ∧ (s1.1.1 : Int) < ((ps_n : Nat) : Int) ∧ onPtr ps_A fun b4 o4 => ∃ x5 : Int, cl
    H2 b4 (o4 + (s1.1.1 : Int).toNat * 2) = some (.int .i64 x5) ∧ ∃ x6 : Int, cl H2 b4 ((o4 + (s1.1.1 : Int).toNat * 2) + 1) = some (.int .i64 x6) ∧ FnOk Tryz.prog pf_f ∧ HCalls Tryz.prog pf_f (pf_a.toList ++ [.agg #[.int
    .i64 x5, .int .i64 x6]] ++ pf_c.toList) H2 fun v7 H8 => ∃ x9 : Bool, v7 = .bool x9 ∧ cnd x9 (Q (.int .i64 s1.1.1) H8) (KeepX [some (.v (.slice ps_A ps_n ps_c)), some (.v (.func (.func pf_f) pf_a pf_c)), some (.v (.int
    .i64 ((ps_n : Nat) : Int)))] [] ∧ next3 ((IntKind.i64.wrap (s1.1.1 + 1), ()), ()) H8)) (Q (.int .i64 (-1)) H2)
noncomputable def fcx64 : Cx := cx 19 [] [(2, ⟨[0, 1, 7], [], [(8, .int .i64)], []⟩)] [] []
theorem f64.eq (ps_A : Option Addr) (ps_n ps_c : Nat) (pf_f : FuncId) (pf_a pf_c : Array Value) (H : Hp) (Q : Value → Hp → Prop) : f64 ps_A ps_n ps_c pf_f pf_a pf_c H Q = wFun fcx64 Tryz.f64 [.slice ps_A ps_n ps_c, .func (.func pf_f) pf_a pf_c] H Q := by kernel_rfl
theorem f64.ok (ps_A : Option Addr) (ps_n ps_c : Nat) (pf_f : FuncId) (pf_a pf_c : Array Value) {H : Hp} {Q : Value → Hp → Prop} (h : f64 ps_A ps_n ps_c pf_f pf_a pf_c H Q) : HCalls Tryz.prog 64 [.slice ps_A ps_n ps_c, .func (.func pf_f) pf_a pf_c] H Q := hcalls_of (cxOk 19 [] [(2, ⟨[0, 1, 7], [], [(8, .int .i64)], []⟩)] [] []) Tryz.func64 (Eq.mp (f64.eq ps_A ps_n ps_c pf_f pf_a pf_c H Q) h)

/-- slices.Clone[[]justiciar api.Lock,justiciar api.Lock] -/
def f65 (ps_A : Option Addr) (ps_n ps_c : Nat) (H : Hp) (Q : Value → Hp → Prop) : Prop :=
  cnd ps_A.isNone (Q (.slice none 0 0) H) (newF H 55 [] fun g1 H2 => appendF H2 55 3 32 (some ⟨g1, 0, none⟩) 0 0 ps_A ps_n fun A3 n3 c3 H4 => Q (.slice A3 n3 c3) H4)
noncomputable def fcx65 : Cx := cx 8 [] [] [] []
theorem f65.eq (ps_A : Option Addr) (ps_n ps_c : Nat) (H : Hp) (Q : Value → Hp → Prop) : f65 ps_A ps_n ps_c H Q = wFun fcx65 Tryz.f65 [.slice ps_A ps_n ps_c] H Q := by kernel_rfl
theorem f65.ok (ps_A : Option Addr) (ps_n ps_c : Nat) {H : Hp} {Q : Value → Hp → Prop} (h : f65 ps_A ps_n ps_c H Q) : HCalls Tryz.prog 65 [.slice ps_A ps_n ps_c] H Q := hcalls_of (cxOk 8 [] [] [] []) Tryz.func65 (Eq.mp (f65.eq ps_A ps_n ps_c H Q) h)

/-- slices.Clone[[]justiciar api.Wait,justiciar api.Wait] -/
def f66 (ps_A : Option Addr) (ps_n ps_c : Nat) (H : Hp) (Q : Value → Hp → Prop) : Prop :=
  cnd ps_A.isNone (Q (.slice none 0 0) H) (newF H 62 [] fun g1 H2 => appendF H2 62 3 32 (some ⟨g1, 0, none⟩) 0 0 ps_A ps_n fun A3 n3 c3 H4 => Q (.slice A3 n3 c3) H4)
noncomputable def fcx66 : Cx := cx 8 [] [] [] []
theorem f66.eq (ps_A : Option Addr) (ps_n ps_c : Nat) (H : Hp) (Q : Value → Hp → Prop) : f66 ps_A ps_n ps_c H Q = wFun fcx66 Tryz.f66 [.slice ps_A ps_n ps_c] H Q := by kernel_rfl
theorem f66.ok (ps_A : Option Addr) (ps_n ps_c : Nat) {H : Hp} {Q : Value → Hp → Prop} (h : f66 ps_A ps_n ps_c H Q) : HCalls Tryz.prog 66 [.slice ps_A ps_n ps_c] H Q := hcalls_of (cxOk 8 [] [] [] []) Tryz.func66 (Eq.mp (f66.eq ps_A ps_n ps_c H Q) h)

/-- slices.Clone[[][2]int,[2]int] -/
def f67 (ps_A : Option Addr) (ps_n ps_c : Nat) (H : Hp) (Q : Value → Hp → Prop) : Prop :=
  cnd ps_A.isNone (Q (.slice none 0 0) H) (newF H 45 [] fun g1 H2 => appendF H2 45 2 16 (some ⟨g1, 0, none⟩) 0 0 ps_A ps_n fun A3 n3 c3 H4 => Q (.slice A3 n3 c3) H4)
noncomputable def fcx67 : Cx := cx 8 [] [] [] []
theorem f67.eq (ps_A : Option Addr) (ps_n ps_c : Nat) (H : Hp) (Q : Value → Hp → Prop) : f67 ps_A ps_n ps_c H Q = wFun fcx67 Tryz.f67 [.slice ps_A ps_n ps_c] H Q := by kernel_rfl
theorem f67.ok (ps_A : Option Addr) (ps_n ps_c : Nat) {H : Hp} {Q : Value → Hp → Prop} (h : f67 ps_A ps_n ps_c H Q) : HCalls Tryz.prog 67 [.slice ps_A ps_n ps_c] H Q := hcalls_of (cxOk 8 [] [] [] []) Tryz.func67 (Eq.mp (f67.eq ps_A ps_n ps_c H Q) h)

/-- slices.BinarySearchFunc[[]justiciar api.Lock,justiciar api.Lock,justiciar api.Lock] -/
def f68 (px_A : Option Addr) (px_n px_c : Nat) (ptarget_0 : ByteArray) (ptarget_1 : Int) (ptarget_2 : Bool) (pcmp_f : FuncId) (pcmp_a pcmp_c : Array Value) (H : Hp) (Q : Value → Hp → Prop) : Prop :=
  LoopF (σ := (Int × (Int × Unit)) × Unit) ((0, (((px_n : Nat) : Int), ())), ()) H fun s1 H2 next3 => jn (fun (j11 : Int) (j12 : Int) (H13 : Hp) => KeepX [some (.v (.slice px_A px_n px_c)), some (.v (.func (.func pcmp_f)
    pcmp_a pcmp_c)), some (.loc 4 0), some (.v (.int .i64 ((px_n : Nat) : Int)))] [some (true, [.string ptarget_0, .int .i64 ptarget_1, .bool ptarget_2])] ∧ next3 ((j11, (j12, ())), ()) H13) fun J14 => cnd (decide
    ((s1.1.1 : Int) < s1.1.2.1)) (0 ≤ (1 : Int) ∧ 0 ≤ (IntKind.i64.wrap (Int.fdiv (IntKind.u64.wrap (IntKind.i64.wrap (s1.1.1 + s1.1.2.1))) (2 ^ (min (1 : Int).toNat (IntKind.u64.bits)))) : Int) ∧ (IntKind.i64.wrap
    (Int.fdiv (IntKind.u64.wrap (IntKind.i64.wrap (s1.1.1 + s1.1.2.1))) (2 ^ (min (1 : Int).toNat (IntKind.u64.bits)))) : Int) < ((px_n : Nat) : Int) ∧ onPtr px_A fun b4 o4 => ∃ s5 : ByteArray, cl H2 b4 (o4 +
    (IntKind.i64.wrap (Int.fdiv (IntKind.u64.wrap (IntKind.i64.wrap (s1.1.1 + s1.1.2.1))) (2 ^ (min (1 : Int).toNat (IntKind.u64.bits)))) : Int).toNat * 3) = some (.string s5) ∧ ∃ x6 : Int, cl H2 b4 ((o4 +
    (IntKind.i64.wrap (Int.fdiv (IntKind.u64.wrap (IntKind.i64.wrap (s1.1.1 + s1.1.2.1))) (2 ^ (min (1 : Int).toNat (IntKind.u64.bits)))) : Int).toNat * 3) + 1) = some (.int .i64 x6) ∧ ∃ x7 : Bool, cl H2 b4 (((o4 +
    (IntKind.i64.wrap (Int.fdiv (IntKind.u64.wrap (IntKind.i64.wrap (s1.1.1 + s1.1.2.1))) (2 ^ (min (1 : Int).toNat (IntKind.u64.bits)))) : Int).toNat * 3) + 1) + 1) = some (.bool x7) ∧ FnOk Tryz.prog pcmp_f ∧ HCalls
    Tryz.prog pcmp_f (pcmp_a.toList ++ [.agg #[.string s5, .int .i64 x6, .bool x7], .agg #[.string ptarget_0, .int .i64 ptarget_1, .bool ptarget_2]] ++ pcmp_c.toList) H2 fun v8 H9 => ∃ x10 : Int, v8 = .int .i64 x10 ∧ cnd
    (decide ((x10 : Int) < 0)) (J14 (IntKind.i64.wrap ((IntKind.i64.wrap (Int.fdiv (IntKind.u64.wrap (IntKind.i64.wrap (s1.1.1 + s1.1.2.1))) (2 ^ (min (1 : Int).toNat (IntKind.u64.bits))))) + 1)) s1.1.2.1 H9) (J14 s1.1.1
    (IntKind.i64.wrap (Int.fdiv (IntKind.u64.wrap (IntKind.i64.wrap (s1.1.1 + s1.1.2.1))) (2 ^ (min (1 : Int).toNat (IntKind.u64.bits))))) H9)) (jn (fun (j22 : Bool) (H23 : Hp) => Q (.tuple #[.int .i64 s1.1.1, .bool j22])
    H23) fun J24 => cnd (decide ((s1.1.1 : Int) < ((px_n : Nat) : Int))) (0 ≤ (s1.1.1 : Int) ∧ (s1.1.1 : Int) < ((px_n : Nat) : Int) ∧ onPtr px_A fun b15 o15 => ∃ s16 : ByteArray, cl H2 b15 (o15 + (s1.1.1 : Int).toNat *
    3) = some (.string s16) ∧ ∃ x17 : Int, cl H2 b15 ((o15 + (s1.1.1 : Int).toNat * 3) + 1) = some (.int .i64 x17) ∧ ∃ x18 : Bool, cl H2 b15 (((o15 + (s1.1.1 : Int).toNat * 3) + 1) + 1) = some (.bool x18) ∧ FnOk Tryz.prog
    pcmp_f ∧ HCalls Tryz.prog pcmp_f (pcmp_a.toList ++ [.agg #[.string s16, .int .i64 x17, .bool x18], .agg #[.string ptarget_0, .int .i64 ptarget_1, .bool ptarget_2]] ++ pcmp_c.toList) H2 fun v19 H20 => ∃ x21 : Int, v19
    = .int .i64 x21 ∧ J24 ((x21 : Int) == 0) H20) (J24 false H2))
noncomputable def fcx68 : Cx := cx 49 [(4, true)] [(3, ⟨[0, 2, 4, 8], [4], [(9, .int .i64), (10, .int .i64)], []⟩)] [(5, (.look 0 (.look 1 (.look 2 (.look 3 (.look 4 (.look 5 (.act 6 (.look 7 .done) .done)))))))), (8, (.look 0 (.look 1 (.look 2 (.look 3 (.look 4 (.look 5 (.look 6 (.look 7 (.look 8 (.look 9 (.look 10 (.act 11 (.look 12 (.look 13 (.act 14 (.act 15 .done .done) .done))) .done)))))))))))))] []
theorem f68.eq (px_A : Option Addr) (px_n px_c : Nat) (ptarget_0 : ByteArray) (ptarget_1 : Int) (ptarget_2 : Bool) (pcmp_f : FuncId) (pcmp_a pcmp_c : Array Value) (H : Hp) (Q : Value → Hp → Prop) : f68 px_A px_n px_c ptarget_0 ptarget_1 ptarget_2 pcmp_f pcmp_a pcmp_c H Q = wFun fcx68 Tryz.f68 [.slice px_A px_n px_c, .agg #[.string ptarget_0, .int .i64 ptarget_1, .bool ptarget_2], .func (.func pcmp_f) pcmp_a pcmp_c] H Q := by kernel_rfl
theorem f68.ok (px_A : Option Addr) (px_n px_c : Nat) (ptarget_0 : ByteArray) (ptarget_1 : Int) (ptarget_2 : Bool) (pcmp_f : FuncId) (pcmp_a pcmp_c : Array Value) {H : Hp} {Q : Value → Hp → Prop} (h : f68 px_A px_n px_c ptarget_0 ptarget_1 ptarget_2 pcmp_f pcmp_a pcmp_c H Q) : HCalls Tryz.prog 68 [.slice px_A px_n px_c, .agg #[.string ptarget_0, .int .i64 ptarget_1, .bool ptarget_2], .func (.func pcmp_f) pcmp_a pcmp_c] H Q := hcalls_of (cxOk 49 [(4, true)] [(3, ⟨[0, 2, 4, 8], [4], [(9, .int .i64), (10, .int .i64)], []⟩)] [(5, (.look 0 (.look 1 (.look 2 (.look 3 (.look 4 (.look 5 (.act 6 (.look 7 .done) .done)))))))), (8, (.look 0 (.look 1 (.look 2 (.look 3 (.look 4 (.look 5 (.look 6 (.look 7 (.look 8 (.look 9 (.look 10 (.act 11 (.look 12 (.look 13 (.act 14 (.act 15 .done .done) .done))) .done)))))))))))))] []) Tryz.func68 (Eq.mp (f68.eq px_A px_n px_c ptarget_0 ptarget_1 ptarget_2 pcmp_f pcmp_a pcmp_c H Q) h)

/-- justiciar lock.order -/
def f69 (pa_0 : ByteArray) (pa_1 : Int) (pa_2 : Bool) (pb_0 : ByteArray) (pb_1 : Int) (pb_2 : Bool) (H : Hp) (Q : Value → Hp → Prop) : Prop :=
  HCalls Tryz.prog 88 [.string pa_0, .string pb_0] H fun v1 H2 => ∃ x3 : Int, v1 = .int .i64 x3 ∧ HCalls Tryz.prog 89 [.int .i64 pa_1, .int .i64 pb_1] H2 fun v4 H5 => ∃ x6 : Int, v4 = .int .i64 x6 ∧ newF H5 3 [.int .i64 x3,
    .int .i64 x6] fun g7 H8 => HCalls Tryz.prog 87 [.slice (some ⟨g7, 0, none⟩) 2 2] H8 fun v9 H10 => ∃ x11 : Int, v9 = .int .i64 x11 ∧ Q (.int .i64 x11) H10
noncomputable def fcx69 : Cx := cx 17 [(2, true), (3, true)] [] [(1, (.look 0 (.look 1 (.look 2 (.look 3 (.look 5 (.look 6 (.look 7 (.look 8 (.act 4 (.act 9 (.act 10 (.act 11 (.act 12 .done .done) .done) .done) .done) .done))))))))))] []
theorem f69.eq (pa_0 : ByteArray) (pa_1 : Int) (pa_2 : Bool) (pb_0 : ByteArray) (pb_1 : Int) (pb_2 : Bool) (H : Hp) (Q : Value → Hp → Prop) : f69 pa_0 pa_1 pa_2 pb_0 pb_1 pb_2 H Q = wFun fcx69 Tryz.f69 [.agg #[.string pa_0, .int .i64 pa_1, .bool pa_2], .agg #[.string pb_0, .int .i64 pb_1, .bool pb_2]] H Q := by kernel_rfl
theorem f69.ok (pa_0 : ByteArray) (pa_1 : Int) (pa_2 : Bool) (pb_0 : ByteArray) (pb_1 : Int) (pb_2 : Bool) {H : Hp} {Q : Value → Hp → Prop} (h : f69 pa_0 pa_1 pa_2 pb_0 pb_1 pb_2 H Q) : HCalls Tryz.prog 69 [.agg #[.string pa_0, .int .i64 pa_1, .bool pa_2], .agg #[.string pb_0, .int .i64 pb_1, .bool pb_2]] H Q := hcalls_of (cxOk 17 [(2, true), (3, true)] [] [(1, (.look 0 (.look 1 (.look 2 (.look 3 (.look 5 (.look 6 (.look 7 (.look 8 (.act 4 (.act 9 (.act 10 (.act 11 (.act 12 .done .done) .done) .done) .done) .done))))))))))] []) Tryz.func69 (Eq.mp (f69.eq pa_0 pa_1 pa_2 pb_0 pb_1 pb_2 H Q) h)

/-- justiciar lock.free$1 -/
def f70 (py_0 : ByteArray) (py_1 : Int) (py_2 : Bool) (fra_b fra_o : Nat) (H : Hp) (Q : Value → Hp → Prop) : Prop :=
  ∃ s1 : ByteArray, cl H fra_b fra_o = some (.string s1) ∧ ∃ x2 : Int, cl H fra_b (fra_o + 1) = some (.int .i64 x2) ∧ ∃ x3 : Bool, cl H fra_b ((fra_o + 1) + 1) = some (.bool x3) ∧ HCalls Tryz.prog 71 [.agg #[.string s1,
    .int .i64 x2, .bool x3], .agg #[.string py_0, .int .i64 py_1, .bool py_2]] H fun v4 H5 => ∃ x6 : Bool, v4 = .bool x6 ∧ Q (.bool x6) H5
noncomputable def fcx70 : Cx := cx 7 [(2, true)] [] [] []
theorem f70.eq (py_0 : ByteArray) (py_1 : Int) (py_2 : Bool) (fra_b fra_o : Nat) (H : Hp) (Q : Value → Hp → Prop) : f70 py_0 py_1 py_2 fra_b fra_o H Q = wFun fcx70 Tryz.f70 [.agg #[.string py_0, .int .i64 py_1, .bool py_2], .pointer (some ⟨fra_b, fra_o, none⟩)] H Q := by kernel_rfl
theorem f70.ok (py_0 : ByteArray) (py_1 : Int) (py_2 : Bool) (fra_b fra_o : Nat) {H : Hp} {Q : Value → Hp → Prop} (h : f70 py_0 py_1 py_2 fra_b fra_o H Q) : HCalls Tryz.prog 70 [.agg #[.string py_0, .int .i64 py_1, .bool py_2], .pointer (some ⟨fra_b, fra_o, none⟩)] H Q := hcalls_of (cxOk 7 [(2, true)] [] [] []) Tryz.func70 (Eq.mp (f70.eq py_0 py_1 py_2 fra_b fra_o H Q) h)

/-- justiciar lock.clash -/
def f71 (pa_0 : ByteArray) (pa_1 : Int) (pa_2 : Bool) (pb_0 : ByteArray) (pb_1 : Int) (pb_2 : Bool) (H : Hp) (Q : Value → Hp → Prop) : Prop :=
  jn (fun (j1 : Bool) => Q (.bool j1) H) fun J2 => cnd (pa_0.toList == pb_0.toList) (cnd ((pa_1 : Int) != pb_1) (cnd pa_2 (J2 (!pb_2)) (J2 true)) (J2 false)) (J2 false)
noncomputable def fcx71 : Cx := cx 26 [(2, true), (3, true)] [] [] []
theorem f71.eq (pa_0 : ByteArray) (pa_1 : Int) (pa_2 : Bool) (pb_0 : ByteArray) (pb_1 : Int) (pb_2 : Bool) (H : Hp) (Q : Value → Hp → Prop) : f71 pa_0 pa_1 pa_2 pb_0 pb_1 pb_2 H Q = wFun fcx71 Tryz.f71 [.agg #[.string pa_0, .int .i64 pa_1, .bool pa_2], .agg #[.string pb_0, .int .i64 pb_1, .bool pb_2]] H Q := by kernel_rfl
theorem f71.ok (pa_0 : ByteArray) (pa_1 : Int) (pa_2 : Bool) (pb_0 : ByteArray) (pb_1 : Int) (pb_2 : Bool) {H : Hp} {Q : Value → Hp → Prop} (h : f71 pa_0 pa_1 pa_2 pb_0 pb_1 pb_2 H Q) : HCalls Tryz.prog 71 [.agg #[.string pa_0, .int .i64 pa_1, .bool pa_2], .agg #[.string pb_0, .int .i64 pb_1, .bool pb_2]] H Q := hcalls_of (cxOk 26 [(2, true), (3, true)] [] [] []) Tryz.func71 (Eq.mp (f71.eq pa_0 pa_1 pa_2 pb_0 pb_1 pb_2 H Q) h)

/-- slices.ContainsFunc[[]justiciar api.Lock,justiciar api.Lock] -/
def f72 (ps_A : Option Addr) (ps_n ps_c : Nat) (pf_f : FuncId) (pf_a pf_c : Array Value) (H : Hp) (Q : Value → Hp → Prop) : Prop :=
  HCalls Tryz.prog 82 [.slice ps_A ps_n ps_c, .func (.func pf_f) pf_a pf_c] H fun v1 H2 => ∃ x3 : Int, v1 = .int .i64 x3 ∧ Q (.bool (decide ((x3 : Int) ≥ 0))) H2
noncomputable def fcx72 : Cx := cx 9 [] [] [] []
theorem f72.eq (ps_A : Option Addr) (ps_n ps_c : Nat) (pf_f : FuncId) (pf_a pf_c : Array Value) (H : Hp) (Q : Value → Hp → Prop) : f72 ps_A ps_n ps_c pf_f pf_a pf_c H Q = wFun fcx72 Tryz.f72 [.slice ps_A ps_n ps_c, .func (.func pf_f) pf_a pf_c] H Q := by kernel_rfl
theorem f72.ok (ps_A : Option Addr) (ps_n ps_c : Nat) (pf_f : FuncId) (pf_a pf_c : Array Value) {H : Hp} {Q : Value → Hp → Prop} (h : f72 ps_A ps_n ps_c pf_f pf_a pf_c H Q) : HCalls Tryz.prog 72 [.slice ps_A ps_n ps_c, .func (.func pf_f) pf_a pf_c] H Q := hcalls_of (cxOk 9 [] [] [] []) Tryz.func72 (Eq.mp (f72.eq ps_A ps_n ps_c pf_f pf_a pf_c H Q) h)

/-- justiciar lock.on -/
def f73 (pl_0_A : Option Addr) (pl_0_n pl_0_c : Nat) (pl_1_A : Option Addr) (pl_1_n pl_1_c : Nat) (pl_2_A : Option Addr) (pl_2_n pl_2_c : Nat) (pthing : ByteArray) (H : Hp) (Q : Value → Hp → Prop) : Prop :=
  HCalls Tryz.prog 91 [.slice pl_0_A pl_0_n pl_0_c, .string pthing, .func (.func 90) #[] #[]] H fun v1 H2 => ∃ x3 : Int, ∃ x4 : Bool, v1 = .tuple #[.int .i64 x3, .bool x4] ∧ LoopF (σ := (Int × Unit) × Unit) ((x3, ()), ())
    H2 fun s5 H6 next7 => jn (fun (j10 : Bool) => cnd j10 (KeepX [some (.v (.string pthing)), some (.loc 2 0), some (.v (.int .i64 x3))] [some (true, [.slice pl_0_A pl_0_n pl_0_c, .slice pl_1_A pl_1_n pl_1_c, .slice
    pl_2_A pl_2_n pl_2_c])] ∧ next7 ((IntKind.i64.wrap (s5.1.1 + 1), ()), ()) H6) (0 ≤ (s5.1.1 : Int) ∧ (s5.1.1 : Int) ≤ ((pl_0_c : Nat) : Int) ∧ 0 ≤ (x3 : Int) ∧ (x3 : Int) ≤ (s5.1.1 : Int) ∧ Q (.slice (cutA pl_0_A (((x3
    : Int).toNat) * 3) (decide (pl_0_c = ((x3 : Int).toNat)))) (((s5.1.1 : Int).toNat) - ((x3 : Int).toNat)) (pl_0_c - ((x3 : Int).toNat))) H6)) fun J11 => cnd (decide ((s5.1.1 : Int) < ((pl_0_n : Nat) : Int))) (0 ≤
    (s5.1.1 : Int) ∧ (s5.1.1 : Int) < ((pl_0_n : Nat) : Int) ∧ onPtr pl_0_A fun b8 o8 => ∃ s9 : ByteArray, cl H6 b8 ((o8 + (s5.1.1 : Int).toNat * 3) + 0) = some (.string s9) ∧ J11 (s9.toList == pthing.toList)) (J11 false)
noncomputable def fcx73 : Cx := cx 40 [(2, true)] [(4, ⟨[1, 2, 6], [2], [(8, .int .i64)], []⟩)] [] []
theorem f73.eq (pl_0_A : Option Addr) (pl_0_n pl_0_c : Nat) (pl_1_A : Option Addr) (pl_1_n pl_1_c : Nat) (pl_2_A : Option Addr) (pl_2_n pl_2_c : Nat) (pthing : ByteArray) (H : Hp) (Q : Value → Hp → Prop) : f73 pl_0_A pl_0_n pl_0_c pl_1_A pl_1_n pl_1_c pl_2_A pl_2_n pl_2_c pthing H Q = wFun fcx73 Tryz.f73 [.agg #[.slice pl_0_A pl_0_n pl_0_c, .slice pl_1_A pl_1_n pl_1_c, .slice pl_2_A pl_2_n pl_2_c], .string pthing] H Q := by kernel_rfl
theorem f73.ok (pl_0_A : Option Addr) (pl_0_n pl_0_c : Nat) (pl_1_A : Option Addr) (pl_1_n pl_1_c : Nat) (pl_2_A : Option Addr) (pl_2_n pl_2_c : Nat) (pthing : ByteArray) {H : Hp} {Q : Value → Hp → Prop} (h : f73 pl_0_A pl_0_n pl_0_c pl_1_A pl_1_n pl_1_c pl_2_A pl_2_n pl_2_c pthing H Q) : HCalls Tryz.prog 73 [.agg #[.slice pl_0_A pl_0_n pl_0_c, .slice pl_1_A pl_1_n pl_1_c, .slice pl_2_A pl_2_n pl_2_c], .string pthing] H Q := hcalls_of (cxOk 40 [(2, true)] [(4, ⟨[1, 2, 6], [2], [(8, .int .i64)], []⟩)] [] []) Tryz.func73 (Eq.mp (f73.eq pl_0_A pl_0_n pl_0_c pl_1_A pl_1_n pl_1_c pl_2_A pl_2_n pl_2_c pthing H Q) h)

/-- justiciar lock.free$2 -/
def f74 (pw_0 : Int) (pw_1 : ByteArray) (pw_2 : Bool) (fra_b fra_o : Nat) (H : Hp) (Q : Value → Hp → Prop) : Prop :=
  ∃ s1 : ByteArray, cl H fra_b fra_o = some (.string s1) ∧ ∃ x2 : Int, cl H fra_b (fra_o + 1) = some (.int .i64 x2) ∧ ∃ x3 : Bool, cl H fra_b ((fra_o + 1) + 1) = some (.bool x3) ∧ HCalls Tryz.prog 75 [.agg #[.int .i64 pw_0,
    .string pw_1, .bool pw_2]] H fun v4 H5 => ∃ s6 : ByteArray, ∃ x7 : Int, ∃ x8 : Bool, v4 = .agg #[.string s6, .int .i64 x7, .bool x8] ∧ H5 fra_b = H fra_b ∧ HCalls Tryz.prog 71 [.agg #[.string s1, .int .i64 x2, .bool
    x3], .agg #[.string s6, .int .i64 x7, .bool x8]] H5 fun v9 H10 => ∃ x11 : Bool, v9 = .bool x11 ∧ Q (.bool x11) H10
noncomputable def fcx74 : Cx := cx 8 [(2, true)] [] [(1, (.look 0 (.look 1 (.act 2 (.act 3 (.act 4 .done .done) .done) .done))))] []
theorem f74.eq (pw_0 : Int) (pw_1 : ByteArray) (pw_2 : Bool) (fra_b fra_o : Nat) (H : Hp) (Q : Value → Hp → Prop) : f74 pw_0 pw_1 pw_2 fra_b fra_o H Q = wFun fcx74 Tryz.f74 [.agg #[.int .i64 pw_0, .string pw_1, .bool pw_2], .pointer (some ⟨fra_b, fra_o, none⟩)] H Q := by kernel_rfl
theorem f74.ok (pw_0 : Int) (pw_1 : ByteArray) (pw_2 : Bool) (fra_b fra_o : Nat) {H : Hp} {Q : Value → Hp → Prop} (h : f74 pw_0 pw_1 pw_2 fra_b fra_o H Q) : HCalls Tryz.prog 74 [.agg #[.int .i64 pw_0, .string pw_1, .bool pw_2], .pointer (some ⟨fra_b, fra_o, none⟩)] H Q := hcalls_of (cxOk 8 [(2, true)] [] [(1, (.look 0 (.look 1 (.act 2 (.act 3 (.act 4 .done .done) .done) .done))))] []) Tryz.func74 (Eq.mp (f74.eq pw_0 pw_1 pw_2 fra_b fra_o H Q) h)

/-- justiciar lock.lock -/
def f75 (pw_0 : Int) (pw_1 : ByteArray) (pw_2 : Bool) (H : Hp) (Q : Value → Hp → Prop) : Prop :=
  Q (.agg #[.string pw_1, .int .i64 pw_0, .bool pw_2]) H
noncomputable def fcx75 : Cx := cx 10 [(1, true), (2, true)] [] [] []
theorem f75.eq (pw_0 : Int) (pw_1 : ByteArray) (pw_2 : Bool) (H : Hp) (Q : Value → Hp → Prop) : f75 pw_0 pw_1 pw_2 H Q = wFun fcx75 Tryz.f75 [.agg #[.int .i64 pw_0, .string pw_1, .bool pw_2]] H Q := by kernel_rfl
theorem f75.ok (pw_0 : Int) (pw_1 : ByteArray) (pw_2 : Bool) {H : Hp} {Q : Value → Hp → Prop} (h : f75 pw_0 pw_1 pw_2 H Q) : HCalls Tryz.prog 75 [.agg #[.int .i64 pw_0, .string pw_1, .bool pw_2]] H Q := hcalls_of (cxOk 10 [(1, true), (2, true)] [] [] []) Tryz.func75 (Eq.mp (f75.eq pw_0 pw_1 pw_2 H Q) h)

/-- slices.Insert[[]justiciar api.Lock,justiciar api.Lock] -/
def f76 (ps_A : Option Addr) (ps_n ps_c : Nat) (pi : Int) (pv_A : Option Addr) (pv_n pv_c : Nat) (H : Hp) (Q : Value → Hp → Prop) : Prop :=
  0 ≤ (pi : Int) ∧ (pi : Int) ≤ ((ps_n : Nat) : Int) ∧ cnd ((((pv_n : Nat) : Int) : Int) == 0) (Q (.slice ps_A ps_n ps_c) H) (cnd ((pi : Int) == ((ps_n : Nat) : Int)) (appendF H 55 3 32 ps_A ps_n ps_c pv_A pv_n fun A1 n1 c1
    H2 => Q (.slice A1 n1 c1) H2) (cnd (decide ((IntKind.i64.wrap (((ps_n : Nat) : Int) + ((pv_n : Nat) : Int)) : Int) > ((ps_c : Nat) : Int))) (0 ≤ (pi : Int) ∧ (pi : Int) ≤ ((ps_c : Nat) : Int) ∧ appendZF H 55 3 32
    [.string ByteArray.empty, .int .i64 0, .bool false] (cutA ps_A (0 * 3) (decide (ps_c = 0))) (((pi : Int).toNat) - 0) (ps_c - 0) (IntKind.i64.wrap ((IntKind.i64.wrap (((ps_n : Nat) : Int) + ((pv_n : Nat) : Int))) -
    pi)) fun A3 n3 c3 H4 => 0 ≤ (pi : Int) ∧ (pi : Int) ≤ ((n3 : Nat) : Int) ∧ copyF H4 3 (cutA A3 (((pi : Int).toNat) * 3) (decide (c3 = ((pi : Int).toNat)))) (n3 - ((pi : Int).toNat)) pv_A pv_n fun H5 => 0 ≤
    (IntKind.i64.wrap (pi + ((pv_n : Nat) : Int)) : Int) ∧ (IntKind.i64.wrap (pi + ((pv_n : Nat) : Int)) : Int) ≤ ((n3 : Nat) : Int) ∧ 0 ≤ (pi : Int) ∧ (pi : Int) ≤ ((ps_n : Nat) : Int) ∧ copyF H5 3 (cutA A3
    (((IntKind.i64.wrap (pi + ((pv_n : Nat) : Int)) : Int).toNat) * 3) (decide (c3 = ((IntKind.i64.wrap (pi + ((pv_n : Nat) : Int)) : Int).toNat)))) (n3 - ((IntKind.i64.wrap (pi + ((pv_n : Nat) : Int)) : Int).toNat))
    (cutA ps_A (((pi : Int).toNat) * 3) (decide (ps_c = ((pi : Int).toNat)))) (ps_n - ((pi : Int).toNat)) fun H6 => Q (.slice A3 n3 c3) H6) (0 ≤ (IntKind.i64.wrap (((ps_n : Nat) : Int) + ((pv_n : Nat) : Int)) : Int) ∧
    (IntKind.i64.wrap (((ps_n : Nat) : Int) + ((pv_n : Nat) : Int)) : Int) ≤ ((ps_c : Nat) : Int) ∧ 0 ≤ (IntKind.i64.wrap (pi + ((pv_n : Nat) : Int)) : Int) ∧ (IntKind.i64.wrap (pi + ((pv_n : Nat) : Int)) : Int) ≤
    ((((IntKind.i64.wrap (((ps_n : Nat) : Int) + ((pv_n : Nat) : Int)) : Int).toNat) - 0 : Nat) : Int) ∧ apartF H pv_A (cutA (cutA ps_A (0 * 3) (decide (ps_c = 0))) (((IntKind.i64.wrap (pi + ((pv_n : Nat) : Int)) :
    Int).toNat) * 3) (decide ((ps_c - 0) = ((IntKind.i64.wrap (pi + ((pv_n : Nat) : Int)) : Int).toNat)))) (0 ≤ (IntKind.i64.wrap (pi + ((pv_n : Nat) : Int)) : Int) ∧ (IntKind.i64.wrap (pi + ((pv_n : Nat) : Int)) : Int) ≤
    ((((IntKind.i64.wrap (((ps_n : Nat) : Int) + ((pv_n : Nat) : Int)) : Int).toNat) - 0 : Nat) : Int) ∧ 0 ≤ (pi : Int) ∧ (pi : Int) ≤ ((((IntKind.i64.wrap (((ps_n : Nat) : Int) + ((pv_n : Nat) : Int)) : Int).toNat) - 0 :
    Nat) : Int) ∧ copyF H 3 (cutA (cutA ps_A (0 * 3) (decide (ps_c = 0))) (((IntKind.i64.wrap (pi + ((pv_n : Nat) : Int)) : Int).toNat) * 3) (decide ((ps_c - 0) = ((IntKind.i64.wrap (pi + ((pv_n : Nat) : Int)) :
    Int).toNat)))) ((((IntKind.i64.wrap (((ps_n : Nat) : Int) + ((pv_n : Nat) : Int)) : Int).toNat) - 0) - ((IntKind.i64.wrap (pi + ((pv_n : Nat) : Int)) : Int).toNat)) (cutA (cutA ps_A (0 * 3) (decide (ps_c = 0))) (((pi
    : Int).toNat) * 3) (decide ((ps_c - 0) = ((pi : Int).toNat)))) ((((IntKind.i64.wrap (((ps_n : Nat) : Int) + ((pv_n : Nat) : Int)) : Int).toNat) - 0) - ((pi : Int).toNat)) fun H7 => 0 ≤ (pi : Int) ∧ (pi : Int) ≤
    ((((IntKind.i64.wrap (((ps_n : Nat) : Int) + ((pv_n : Nat) : Int)) : Int).toNat) - 0 : Nat) : Int) ∧ copyF H7 3 (cutA (cutA ps_A (0 * 3) (decide (ps_c = 0))) (((pi : Int).toNat) * 3) (decide ((ps_c - 0) = ((pi :
    Int).toNat)))) ((((IntKind.i64.wrap (((ps_n : Nat) : Int) + ((pv_n : Nat) : Int)) : Int).toNat) - 0) - ((pi : Int).toNat)) pv_A pv_n fun H8 => Q (.slice (cutA ps_A (0 * 3) (decide (ps_c = 0))) (((IntKind.i64.wrap
    (((ps_n : Nat) : Int) + ((pv_n : Nat) : Int)) : Int).toNat) - 0) (ps_c - 0)) H8))))
noncomputable def fcx76 : Cx := cx 95 [] [] [(11, (.look 0 (.look 1 (.look 2 (.look 3 (.look 4 (.look 5 (.look 6 (.look 7 (.act 8 .done .done)))))))))), (15, (.look 0 (.look 1 (.look 2 (.look 3 (.look 4 (.look 5 (.look 6 (.look 7 (.act 8 .done .done))))))))))] []
theorem f76.eq (ps_A : Option Addr) (ps_n ps_c : Nat) (pi : Int) (pv_A : Option Addr) (pv_n pv_c : Nat) (H : Hp) (Q : Value → Hp → Prop) : f76 ps_A ps_n ps_c pi pv_A pv_n pv_c H Q = wFun fcx76 Tryz.f76 [.slice ps_A ps_n ps_c, .int .i64 pi, .slice pv_A pv_n pv_c] H Q := by kernel_rfl
theorem f76.ok (ps_A : Option Addr) (ps_n ps_c : Nat) (pi : Int) (pv_A : Option Addr) (pv_n pv_c : Nat) {H : Hp} {Q : Value → Hp → Prop} (h : f76 ps_A ps_n ps_c pi pv_A pv_n pv_c H Q) : HCalls Tryz.prog 76 [.slice ps_A ps_n ps_c, .int .i64 pi, .slice pv_A pv_n pv_c] H Q := hcalls_of (cxOk 95 [] [] [(11, (.look 0 (.look 1 (.look 2 (.look 3 (.look 4 (.look 5 (.look 6 (.look 7 (.act 8 .done .done)))))))))), (15, (.look 0 (.look 1 (.look 2 (.look 3 (.look 4 (.look 5 (.look 6 (.look 7 (.act 8 .done .done))))))))))] []) Tryz.func76 (Eq.mp (f76.eq ps_A ps_n ps_c pi pv_A pv_n pv_c H Q) h)

/-- slices.ContainsFunc[[]int,int] -/
def f77 (ps_A : Option Addr) (ps_n ps_c : Nat) (pf_f : FuncId) (pf_a pf_c : Array Value) (H : Hp) (Q : Value → Hp → Prop) : Prop :=
  HCalls Tryz.prog 94 [.slice ps_A ps_n ps_c, .func (.func pf_f) pf_a pf_c] H fun v1 H2 => ∃ x3 : Int, v1 = .int .i64 x3 ∧ Q (.bool (decide ((x3 : Int) ≥ 0))) H2
noncomputable def fcx77 : Cx := cx 9 [] [] [] []
theorem f77.eq (ps_A : Option Addr) (ps_n ps_c : Nat) (pf_f : FuncId) (pf_a pf_c : Array Value) (H : Hp) (Q : Value → Hp → Prop) : f77 ps_A ps_n ps_c pf_f pf_a pf_c H Q = wFun fcx77 Tryz.f77 [.slice ps_A ps_n ps_c, .func (.func pf_f) pf_a pf_c] H Q := by kernel_rfl
theorem f77.ok (ps_A : Option Addr) (ps_n ps_c : Nat) (pf_f : FuncId) (pf_a pf_c : Array Value) {H : Hp} {Q : Value → Hp → Prop} (h : f77 ps_A ps_n ps_c pf_f pf_a pf_c H Q) : HCalls Tryz.prog 77 [.slice ps_A ps_n ps_c, .func (.func pf_f) pf_a pf_c] H Q := hcalls_of (cxOk 9 [] [] [] []) Tryz.func77 (Eq.mp (f77.eq ps_A ps_n ps_c pf_f pf_a pf_c H Q) h)

/-- justiciar lock.dead$1 -/
def f78 (pu : Int) (fra_b fra_o : Nat) (H : Hp) (Q : Value → Hp → Prop) : Prop :=
  ∃ r1 : Option Nat, cl H fra_b fra_o = some (.map r1) ∧ lookF H .i64 r1 pu (.slice none 0 0) fun v2 b3 => ∃ (A4 : Option Addr) (n4 c4 : Nat), v2 = .slice A4 n4 c4 ∧ Q (.bool (!A4.isNone)) H
noncomputable def fcx78 : Cx := cx 8 [] [] [] []
theorem f78.eq (pu : Int) (fra_b fra_o : Nat) (H : Hp) (Q : Value → Hp → Prop) : f78 pu fra_b fra_o H Q = wFun fcx78 Tryz.f78 [.int .i64 pu, .pointer (some ⟨fra_b, fra_o, none⟩)] H Q := by kernel_rfl
theorem f78.ok (pu : Int) (fra_b fra_o : Nat) {H : Hp} {Q : Value → Hp → Prop} (h : f78 pu fra_b fra_o H Q) : HCalls Tryz.prog 78 [.int .i64 pu, .pointer (some ⟨fra_b, fra_o, none⟩)] H Q := hcalls_of (cxOk 8 [] [] [] []) Tryz.func78 (Eq.mp (f78.eq pu fra_b fra_o H Q) h)

/-- justiciar justiciarref18.clashes -/
def f79 (ph_0 : ByteArray) (ph_1 : Int) (ph_2 : Bool) (ptxn : Int) (pthing : ByteArray) (pshare : Bool) (H : Hp) (Q : Value → Hp → Prop) : Prop :=
  jn (fun (j1 : Bool) => Q (.bool j1) H) fun J2 => cnd (ph_0.toList == pthing.toList) (cnd ((ph_1 : Int) != ptxn) (cnd ph_2 (J2 (!pshare)) (J2 true)) (J2 false)) (J2 false)
noncomputable def fcx79 : Cx := cx 27 [(4, true)] [] [] []
theorem f79.eq (ph_0 : ByteArray) (ph_1 : Int) (ph_2 : Bool) (ptxn : Int) (pthing : ByteArray) (pshare : Bool) (H : Hp) (Q : Value → Hp → Prop) : f79 ph_0 ph_1 ph_2 ptxn pthing pshare H Q = wFun fcx79 Tryz.f79 [.agg #[.string ph_0, .int .i64 ph_1, .bool ph_2], .int .i64 ptxn, .string pthing, .bool pshare] H Q := by kernel_rfl
theorem f79.ok (ph_0 : ByteArray) (ph_1 : Int) (ph_2 : Bool) (ptxn : Int) (pthing : ByteArray) (pshare : Bool) {H : Hp} {Q : Value → Hp → Prop} (h : f79 ph_0 ph_1 ph_2 ptxn pthing pshare H Q) : HCalls Tryz.prog 79 [.agg #[.string ph_0, .int .i64 ph_1, .bool ph_2], .int .i64 ptxn, .string pthing, .bool pshare] H Q := hcalls_of (cxOk 27 [(4, true)] [] [] []) Tryz.func79 (Eq.mp (f79.eq ph_0 ph_1 ph_2 ptxn pthing pshare H Q) h)

/-- justiciar justiciarref18.has -/
def f80 (pl_A : Option Addr) (pl_n pl_c : Nat) (pn : Int) (H : Hp) (Q : Value → Hp → Prop) : Prop :=
  LoopF (σ := (Int × Unit) × Unit) ((0, ()), ()) H fun s1 H2 next3 => cnd (decide ((s1.1.1 : Int) < ((pl_n : Nat) : Int))) (0 ≤ (s1.1.1 : Int) ∧ (s1.1.1 : Int) < ((pl_n : Nat) : Int) ∧ onPtr pl_A fun b4 o4 => ∃ x5 : Int, cl
    H2 b4 (o4 + (s1.1.1 : Int).toNat * 1) = some (.int .i64 x5) ∧ cnd ((x5 : Int) == pn) (Q (.bool true) H2) (KeepX [some (.v (.int .i64 pn)), some (.v (.slice pl_A pl_n pl_c)), some (.v (.int .i64 ((pl_n : Nat) : Int)))]
    [] ∧ next3 ((IntKind.i64.wrap (s1.1.1 + 1), ()), ()) H2)) (Q (.bool false) H2)
noncomputable def fcx80 : Cx := cx 17 [] [(2, ⟨[1, 7, 8], [], [(9, .int .i64)], []⟩)] [] []
theorem f80.eq (pl_A : Option Addr) (pl_n pl_c : Nat) (pn : Int) (H : Hp) (Q : Value → Hp → Prop) : f80 pl_A pl_n pl_c pn H Q = wFun fcx80 Tryz.f80 [.slice pl_A pl_n pl_c, .int .i64 pn] H Q := by kernel_rfl
theorem f80.ok (pl_A : Option Addr) (pl_n pl_c : Nat) (pn : Int) {H : Hp} {Q : Value → Hp → Prop} (h : f80 pl_A pl_n pl_c pn H Q) : HCalls Tryz.prog 80 [.slice pl_A pl_n pl_c, .int .i64 pn] H Q := hcalls_of (cxOk 17 [] [(2, ⟨[1, 7, 8], [], [(9, .int .i64)], []⟩)] [] []) Tryz.func80 (Eq.mp (f80.eq pl_A pl_n pl_c pn H Q) h)

/-- justiciar justiciarref18.reached -/
def f81 (pl_0_A : Option Addr) (pl_0_n pl_0_c : Nat) (pl_1_A : Option Addr) (pl_1_n pl_1_c : Nat) (pl_2_A : Option Addr) (pl_2_n pl_2_c : Nat) (ptxn : Int) (H : Hp) (Q : Value → Hp → Prop) : Prop :=
  HCalls Tryz.prog 55 [.agg #[.slice pl_0_A pl_0_n pl_0_c, .slice pl_1_A pl_1_n pl_1_c, .slice pl_2_A pl_2_n pl_2_c], .int .i64 ptxn] H fun v1 H2 => ∃ (A3 : Option Addr) (n3 c3 : Nat), v1 = .slice A3 n3 c3 ∧ LoopF (σ :=
    ((Option Addr × Nat × Nat) × (Int × Unit)) × Unit) (((A3, n3, c3), (0, ())), ()) H2 fun s4 H5 next6 => cnd (decide ((s4.1.2.1 : Int) < ((s4.1.1.2.1 : Nat) : Int))) (0 ≤ (s4.1.2.1 : Int) ∧ (s4.1.2.1 : Int) <
    ((s4.1.1.2.1 : Nat) : Int) ∧ onPtr s4.1.1.1 fun b7 o7 => ∃ x8 : Int, cl H5 b7 (o7 + (s4.1.2.1 : Int).toNat * 1) = some (.int .i64 x8) ∧ HCalls Tryz.prog 55 [.agg #[.slice pl_0_A pl_0_n pl_0_c, .slice pl_1_A pl_1_n
    pl_1_c, .slice pl_2_A pl_2_n pl_2_c], .int .i64 x8] H5 fun v9 H10 => ∃ (A11 : Option Addr) (n11 c11 : Nat), v9 = .slice A11 n11 c11 ∧ LoopF (σ := ((Option Addr × Nat × Nat) × (Int × Unit)) × Unit) (((s4.1.1.1,
    s4.1.1.2.1, s4.1.1.2.2), (0, ())), ()) H10 fun s12 H13 next14 => cnd (decide ((s12.1.2.1 : Int) < ((n11 : Nat) : Int))) (jn (fun (jA24 : Option Addr) (jn25 : Nat) (jc26 : Nat) (H27 : Hp) => KeepX [some (.loc 2 0),
    some (.v (.int .i64 s4.1.2.1)), some (.v (.slice A11 n11 c11)), some (.v (.int .i64 ((n11 : Nat) : Int)))] [some (true, [.slice pl_0_A pl_0_n pl_0_c, .slice pl_1_A pl_1_n pl_1_c, .slice pl_2_A pl_2_n pl_2_c])] ∧
    next14 (((jA24, jn25, jc26), (IntKind.i64.wrap (s12.1.2.1 + 1), ())), ()) H27) fun J28 => 0 ≤ (s12.1.2.1 : Int) ∧ (s12.1.2.1 : Int) < ((n11 : Nat) : Int) ∧ onPtr A11 fun b15 o15 => ∃ x16 : Int, cl H13 b15 (o15 +
    (s12.1.2.1 : Int).toNat * 1) = some (.int .i64 x16) ∧ HCalls Tryz.prog 80 [.slice s12.1.1.1 s12.1.1.2.1 s12.1.1.2.2, .int .i64 x16] H13 fun v17 H18 => ∃ x19 : Bool, v17 = .bool x19 ∧ cnd (!x19) (newF H18 3 [.int .i64
    x16] fun g20 H21 => appendF H21 3 1 8 s12.1.1.1 s12.1.1.2.1 s12.1.1.2.2 (some ⟨g20, 0, none⟩) 1 fun A22 n22 c22 H23 => J28 A22 n22 c22 H23) (J28 s12.1.1.1 s12.1.1.2.1 s12.1.1.2.2 H18)) (KeepX [some (.loc 2 0)] [some
    (true, [.slice pl_0_A pl_0_n pl_0_c, .slice pl_1_A pl_1_n pl_1_c, .slice pl_2_A pl_2_n pl_2_c])] ∧ next6 (((s12.1.1.1, s12.1.1.2.1, s12.1.1.2.2), (IntKind.i64.wrap (s4.1.2.1 + 1), ())), ()) H13)) (Q (.slice s4.1.1.1
    s4.1.1.2.1 s4.1.1.2.2) H5)
noncomputable def fcx81 : Cx := cx 39 [(2, true)] [(3, ⟨[2], [2], [(5, .slice), (6, .int .i64)], []⟩), (6, ⟨[2, 6, 23, 24], [2], [(5, .slice), (25, .int .i64)], []⟩)] [(5, (.look 0 (.look 1 (.look 2 (.look 3 (.look 4 (.look 7 (.act 5 (.look 6 .done) .done))))))))] []
theorem f81.eq (pl_0_A : Option Addr) (pl_0_n pl_0_c : Nat) (pl_1_A : Option Addr) (pl_1_n pl_1_c : Nat) (pl_2_A : Option Addr) (pl_2_n pl_2_c : Nat) (ptxn : Int) (H : Hp) (Q : Value → Hp → Prop) : f81 pl_0_A pl_0_n pl_0_c pl_1_A pl_1_n pl_1_c pl_2_A pl_2_n pl_2_c ptxn H Q = wFun fcx81 Tryz.f81 [.agg #[.slice pl_0_A pl_0_n pl_0_c, .slice pl_1_A pl_1_n pl_1_c, .slice pl_2_A pl_2_n pl_2_c], .int .i64 ptxn] H Q := by kernel_rfl
theorem f81.ok (pl_0_A : Option Addr) (pl_0_n pl_0_c : Nat) (pl_1_A : Option Addr) (pl_1_n pl_1_c : Nat) (pl_2_A : Option Addr) (pl_2_n pl_2_c : Nat) (ptxn : Int) {H : Hp} {Q : Value → Hp → Prop} (h : f81 pl_0_A pl_0_n pl_0_c pl_1_A pl_1_n pl_1_c pl_2_A pl_2_n pl_2_c ptxn H Q) : HCalls Tryz.prog 81 [.agg #[.slice pl_0_A pl_0_n pl_0_c, .slice pl_1_A pl_1_n pl_1_c, .slice pl_2_A pl_2_n pl_2_c], .int .i64 ptxn] H Q := hcalls_of (cxOk 39 [(2, true)] [(3, ⟨[2], [2], [(5, .slice), (6, .int .i64)], []⟩), (6, ⟨[2, 6, 23, 24], [2], [(5, .slice), (25, .int .i64)], []⟩)] [(5, (.look 0 (.look 1 (.look 2 (.look 3 (.look 4 (.look 7 (.act 5 (.look 6 .done) .done))))))))] []) Tryz.func81 (Eq.mp (f81.eq pl_0_A pl_0_n pl_0_c pl_1_A pl_1_n pl_1_c pl_2_A pl_2_n pl_2_c ptxn H Q) h)

/-- slices.IndexFunc[[]justiciar api.Lock,justiciar api.Lock] -/
def f82 (ps_A : Option Addr) (ps_n ps_c : Nat) (pf_f : FuncId) (pf_a pf_c : Array Value) (H : Hp) (Q : Value → Hp → Prop) : Prop :=
  LoopF (σ := (Int × Unit) × Unit) ((0, ()), ()) H fun s1 H2 next3 => cnd (decide ((s1.1.1 : Int) < ((ps_n : Nat) : Int))) (0 ≤ (s1.1.1 : Int) ∧ (s1.1.1 : Int) < ((ps_n : Nat) : Int) ∧ onPtr ps_A fun b4 o4 => ∃ s5 :
    ByteArray, cl H2 b4 (o4 + (s1.1.1 : Int).toNat * 3) = some (.string s5) ∧ ∃ x6 : Int, cl H2 b4 ((o4 + (s1.1.1 : Int).toNat * 3) + 1) = some (.int .i64 x6) ∧ ∃ x7 : Bool, cl H2 b4 (((o4 + (s1.1.1 : Int).toNat * 3) + 1)
    + 1) = some (.bool x7) ∧ FnOk Tryz.prog pf_f ∧ HCalls Tryz.prog pf_f (pf_a.toList ++ [.agg #[.string s5, .int .i64 x6, .bool x7]] ++ pf_c.toList) H2 fun v8 H9 => ∃ x10 : Bool, v8 = .bool x10 ∧ cnd x10 (Q (.int .i64
    s1.1.1) H9) (KeepX [some (.v (.slice ps_A ps_n ps_c)), some (.v (.func (.func pf_f) pf_a pf_c)), some (.v (.int .i64 ((ps_n : Nat) : Int)))] [] ∧ next3 ((IntKind.i64.wrap (s1.1.1 + 1), ()), ()) H9)) (Q (.int .i64
    (-1)) H2)
noncomputable def fcx82 : Cx := cx 19 [] [(2, ⟨[0, 1, 7], [], [(8, .int .i64)], []⟩)] [] []
theorem f82.eq (ps_A : Option Addr) (ps_n ps_c : Nat) (pf_f : FuncId) (pf_a pf_c : Array Value) (H : Hp) (Q : Value → Hp → Prop) : f82 ps_A ps_n ps_c pf_f pf_a pf_c H Q = wFun fcx82 Tryz.f82 [.slice ps_A ps_n ps_c, .func (.func pf_f) pf_a pf_c] H Q := by kernel_rfl
theorem f82.ok (ps_A : Option Addr) (ps_n ps_c : Nat) (pf_f : FuncId) (pf_a pf_c : Array Value) {H : Hp} {Q : Value → Hp → Prop} (h : f82 ps_A ps_n ps_c pf_f pf_a pf_c H Q) : HCalls Tryz.prog 82 [.slice ps_A ps_n ps_c, .func (.func pf_f) pf_a pf_c] H Q := hcalls_of (cxOk 19 [] [(2, ⟨[0, 1, 7], [], [(8, .int .i64)], []⟩)] [] []) Tryz.func82 (Eq.mp (f82.eq ps_A ps_n ps_c pf_f pf_a pf_c H Q) h)

/-- slices.IndexFunc[[]justiciar api.Wait,justiciar api.Wait] -/
def f83 (ps_A : Option Addr) (ps_n ps_c : Nat) (pf_f : FuncId) (pf_a pf_c : Array Value) (H : Hp) (Q : Value → Hp → Prop) : Prop :=
  LoopF (σ := (Int × Unit) × Unit) ((0, ()), ()) H fun s1 H2 next3 => cnd (decide ((s1.1.1 : Int) < ((ps_n : Nat) : Int))) (0 ≤ (s1.1.1 : Int) ∧ (s1.1.1 : Int) < ((ps_n : Nat) : Int) ∧ onPtr ps_A fun b4 o4 => ∃ x5 : Int, cl
    H2 b4 (o4 + (s1.1.1 : Int).toNat * 3) = some (.int .i64 x5) ∧ ∃ s6 : ByteArray, cl H2 b4 ((o4 + (s1.1.1 : Int).toNat * 3) + 1) = some (.string s6) ∧ ∃ x7 : Bool, cl H2 b4 (((o4 + (s1.1.1 : Int).toNat * 3) + 1) + 1) =
    some (.bool x7) ∧ FnOk Tryz.prog pf_f ∧ HCalls Tryz.prog pf_f (pf_a.toList ++ [.agg #[.int .i64 x5, .string s6, .bool x7]] ++ pf_c.toList) H2 fun v8 H9 => ∃ x10 : Bool, v8 = .bool x10 ∧ cnd x10 (Q (.int .i64 s1.1.1)
    H9) (KeepX [some (.v (.slice ps_A ps_n ps_c)), some (.v (.func (.func pf_f) pf_a pf_c)), some (.v (.int .i64 ((ps_n : Nat) : Int)))] [] ∧ next3 ((IntKind.i64.wrap (s1.1.1 + 1), ()), ()) H9)) (Q (.int .i64 (-1)) H2)
noncomputable def fcx83 : Cx := cx 19 [] [(2, ⟨[0, 1, 7], [], [(8, .int .i64)], []⟩)] [] []
theorem f83.eq (ps_A : Option Addr) (ps_n ps_c : Nat) (pf_f : FuncId) (pf_a pf_c : Array Value) (H : Hp) (Q : Value → Hp → Prop) : f83 ps_A ps_n ps_c pf_f pf_a pf_c H Q = wFun fcx83 Tryz.f83 [.slice ps_A ps_n ps_c, .func (.func pf_f) pf_a pf_c] H Q := by kernel_rfl
theorem f83.ok (ps_A : Option Addr) (ps_n ps_c : Nat) (pf_f : FuncId) (pf_a pf_c : Array Value) {H : Hp} {Q : Value → Hp → Prop} (h : f83 ps_A ps_n ps_c pf_f pf_a pf_c H Q) : HCalls Tryz.prog 83 [.slice ps_A ps_n ps_c, .func (.func pf_f) pf_a pf_c] H Q := hcalls_of (cxOk 19 [] [(2, ⟨[0, 1, 7], [], [(8, .int .i64)], []⟩)] [] []) Tryz.func83 (Eq.mp (f83.eq ps_A ps_n ps_c pf_f pf_a pf_c H Q) h)

/-- justiciar justiciarref18.add -/
def f86 (pl_A : Option Addr) (pl_n pl_c : Nat) (pn : Int) (H : Hp) (Q : Value → Hp → Prop) : Prop :=
  LoopF (σ := (Int × Unit) × Unit) ((((pl_n : Nat) : Int), ()), ()) H fun s1 H2 next3 => jn (fun (j6 : Bool) => cnd j6 (KeepX [some (.v (.slice pl_A pl_n pl_c)), some (.v (.int .i64 pn))] [] ∧ next3 ((IntKind.i64.wrap
    (s1.1.1 - 1), ()), ()) H2) (jn (fun (j10 : Bool) => cnd j10 (Q (.slice pl_A pl_n pl_c) H2) (0 ≤ (s1.1.1 : Int) ∧ (s1.1.1 : Int) ≤ ((pl_c : Nat) : Int) ∧ 0 ≤ (s1.1.1 : Int) ∧ (s1.1.1 : Int) ≤ (s1.1.1 : Int) ∧ 0 ≤
    (s1.1.1 : Int) ∧ (s1.1.1 : Int) ≤ ((pl_n : Nat) : Int) ∧ newF H2 3 [.int .i64 pn] fun g12 H13 => appendF H13 3 1 8 (some ⟨g12, 0, none⟩) 1 1 (cutA pl_A (((s1.1.1 : Int).toNat) * 1) (decide (pl_c = ((s1.1.1 :
    Int).toNat)))) (pl_n - ((s1.1.1 : Int).toNat)) fun A14 n14 c14 H15 => appendF H15 3 1 8 (cutA pl_A (0 * 1) (decide (((s1.1.1 : Int).toNat) = 0))) (((s1.1.1 : Int).toNat) - 0) (((s1.1.1 : Int).toNat) - 0) A14 n14 fun
    A16 n16 c16 H17 => Q (.slice A16 n16 c16) H17)) fun J11 => cnd (decide ((s1.1.1 : Int) < ((pl_n : Nat) : Int))) (0 ≤ (s1.1.1 : Int) ∧ (s1.1.1 : Int) < ((pl_n : Nat) : Int) ∧ onPtr pl_A fun b8 o8 => ∃ x9 : Int, cl H2
    b8 (o8 + (s1.1.1 : Int).toNat * 1) = some (.int .i64 x9) ∧ J11 ((x9 : Int) == pn)) (J11 false))) fun J7 => cnd (decide ((s1.1.1 : Int) > 0)) (0 ≤ (IntKind.i64.wrap (s1.1.1 - 1) : Int) ∧ (IntKind.i64.wrap (s1.1.1 - 1)
    : Int) < ((pl_n : Nat) : Int) ∧ onPtr pl_A fun b4 o4 => ∃ x5 : Int, cl H2 b4 (o4 + (IntKind.i64.wrap (s1.1.1 - 1) : Int).toNat * 1) = some (.int .i64 x5) ∧ J7 (decide ((x5 : Int) ≥ pn))) (J7 false)
noncomputable def fcx86 : Cx := cx 45 [] [(2, ⟨[0, 1], [], [(5, .int .i64)], []⟩)] [(6, (.look 0 (.look 1 (.look 2 (.look 3 (.look 4 (.look 6 (.look 7 (.look 8 (.act 5 (.act 9 (.act 10 (.act 11 .done .done) .done) .done) .done))))))))))] []
theorem f86.eq (pl_A : Option Addr) (pl_n pl_c : Nat) (pn : Int) (H : Hp) (Q : Value → Hp → Prop) : f86 pl_A pl_n pl_c pn H Q = wFun fcx86 Tryz.f86 [.slice pl_A pl_n pl_c, .int .i64 pn] H Q := by kernel_rfl
theorem f86.ok (pl_A : Option Addr) (pl_n pl_c : Nat) (pn : Int) {H : Hp} {Q : Value → Hp → Prop} (h : f86 pl_A pl_n pl_c pn H Q) : HCalls Tryz.prog 86 [.slice pl_A pl_n pl_c, .int .i64 pn] H Q := hcalls_of (cxOk 45 [] [(2, ⟨[0, 1], [], [(5, .int .i64)], []⟩)] [(6, (.look 0 (.look 1 (.look 2 (.look 3 (.look 4 (.look 6 (.look 7 (.look 8 (.act 5 (.act 9 (.act 10 (.act 11 .done .done) .done) .done) .done))))))))))] []) Tryz.func86 (Eq.mp (f86.eq pl_A pl_n pl_c pn H Q) h)

/-- cmp.Or[int] -/
def f87 (pvals_A : Option Addr) (pvals_n pvals_c : Nat) (H : Hp) (Q : Value → Hp → Prop) : Prop :=
  LoopF (σ := (Int × Unit) × Unit) ((0, ()), ()) H fun s1 H2 next3 => cnd (decide ((s1.1.1 : Int) < ((pvals_n : Nat) : Int))) (0 ≤ (s1.1.1 : Int) ∧ (s1.1.1 : Int) < ((pvals_n : Nat) : Int) ∧ onPtr pvals_A fun b4 o4 => ∃ x5
    : Int, cl H2 b4 (o4 + (s1.1.1 : Int).toNat * 1) = some (.int .i64 x5) ∧ cnd ((x5 : Int) != 0) (Q (.int .i64 x5) H2) (KeepX [some (.v (.int .i64 0)), some (.v (.slice pvals_A pvals_n pvals_c)), some (.v (.int .i64
    ((pvals_n : Nat) : Int)))] [] ∧ next3 ((IntKind.i64.wrap (s1.1.1 + 1), ()), ()) H2)) (Q (.int .i64 0) H2)
noncomputable def fcx87 : Cx := cx 18 [] [(3, ⟨[3, 6, 7], [], [(8, .int .i64)], []⟩)] [] []
theorem f87.eq (pvals_A : Option Addr) (pvals_n pvals_c : Nat) (H : Hp) (Q : Value → Hp → Prop) : f87 pvals_A pvals_n pvals_c H Q = wFun fcx87 Tryz.f87 [.slice pvals_A pvals_n pvals_c] H Q := by kernel_rfl
theorem f87.ok (pvals_A : Option Addr) (pvals_n pvals_c : Nat) {H : Hp} {Q : Value → Hp → Prop} (h : f87 pvals_A pvals_n pvals_c H Q) : HCalls Tryz.prog 87 [.slice pvals_A pvals_n pvals_c] H Q := hcalls_of (cxOk 18 [] [(3, ⟨[3, 6, 7], [], [(8, .int .i64)], []⟩)] [] []) Tryz.func87 (Eq.mp (f87.eq pvals_A pvals_n pvals_c H Q) h)

/-- cmp.Compare[string] -/
def f88 (px : ByteArray) (py : ByteArray) (H : Hp) (Q : Value → Hp → Prop) : Prop :=
  HCalls Tryz.prog 97 [.string px] H fun v1 H2 => ∃ x3 : Bool, v1 = .bool x3 ∧ HCalls Tryz.prog 97 [.string py] H2 fun v4 H5 => ∃ x6 : Bool, v4 = .bool x6 ∧ cnd x3 (cnd x6 (Q (.int .i64 0) H5) (Q (.int .i64 (-1)) H5)) (cnd
    x6 (Q (.int .i64 1) H5) (cnd (Op.bytesLess px.toList py.toList) (Q (.int .i64 (-1)) H5) (cnd (!(Op.bytesLess px.toList py.toList || px.toList == py.toList)) (Q (.int .i64 1) H5) (Q (.int .i64 0) H5))))
noncomputable def fcx88 : Cx := cx 20 [] [] [] []
theorem f88.eq (px : ByteArray) (py : ByteArray) (H : Hp) (Q : Value → Hp → Prop) : f88 px py H Q = wFun fcx88 Tryz.f88 [.string px, .string py] H Q := by kernel_rfl
theorem f88.ok (px : ByteArray) (py : ByteArray) {H : Hp} {Q : Value → Hp → Prop} (h : f88 px py H Q) : HCalls Tryz.prog 88 [.string px, .string py] H Q := hcalls_of (cxOk 20 [] [] [] []) Tryz.func88 (Eq.mp (f88.eq px py H Q) h)

/-- cmp.Compare[int] -/
def f89 (px : Int) (py : Int) (H : Hp) (Q : Value → Hp → Prop) : Prop :=
  HCalls Tryz.prog 98 [.int .i64 px] H fun v1 H2 => ∃ x3 : Bool, v1 = .bool x3 ∧ HCalls Tryz.prog 98 [.int .i64 py] H2 fun v4 H5 => ∃ x6 : Bool, v4 = .bool x6 ∧ cnd x3 (cnd x6 (Q (.int .i64 0) H5) (Q (.int .i64 (-1)) H5))
    (cnd x6 (Q (.int .i64 1) H5) (cnd (decide ((px : Int) < py)) (Q (.int .i64 (-1)) H5) (cnd (decide ((px : Int) > py)) (Q (.int .i64 1) H5) (Q (.int .i64 0) H5))))
noncomputable def fcx89 : Cx := cx 20 [] [] [] []
theorem f89.eq (px : Int) (py : Int) (H : Hp) (Q : Value → Hp → Prop) : f89 px py H Q = wFun fcx89 Tryz.f89 [.int .i64 px, .int .i64 py] H Q := by kernel_rfl
theorem f89.ok (px : Int) (py : Int) {H : Hp} {Q : Value → Hp → Prop} (h : f89 px py H Q) : HCalls Tryz.prog 89 [.int .i64 px, .int .i64 py] H Q := hcalls_of (cxOk 20 [] [] [] []) Tryz.func89 (Eq.mp (f89.eq px py H Q) h)

/-- justiciar lock.on$1 -/
def f90 (pa_0 : ByteArray) (pa_1 : Int) (pa_2 : Bool) (ps : ByteArray) (H : Hp) (Q : Value → Hp → Prop) : Prop :=
  HCalls Tryz.prog 88 [.string pa_0, .string ps] H fun v1 H2 => ∃ x3 : Int, v1 = .int .i64 x3 ∧ Q (.int .i64 x3) H2
noncomputable def fcx90 : Cx := cx 9 [(2, true)] [] [] []
theorem f90.eq (pa_0 : ByteArray) (pa_1 : Int) (pa_2 : Bool) (ps : ByteArray) (H : Hp) (Q : Value → Hp → Prop) : f90 pa_0 pa_1 pa_2 ps H Q = wFun fcx90 Tryz.f90 [.agg #[.string pa_0, .int .i64 pa_1, .bool pa_2], .string ps] H Q := by kernel_rfl
theorem f90.ok (pa_0 : ByteArray) (pa_1 : Int) (pa_2 : Bool) (ps : ByteArray) {H : Hp} {Q : Value → Hp → Prop} (h : f90 pa_0 pa_1 pa_2 ps H Q) : HCalls Tryz.prog 90 [.agg #[.string pa_0, .int .i64 pa_1, .bool pa_2], .string ps] H Q := hcalls_of (cxOk 9 [(2, true)] [] [] []) Tryz.func90 (Eq.mp (f90.eq pa_0 pa_1 pa_2 ps H Q) h)

/-- slices.BinarySearchFunc[[]justiciar api.Lock,justiciar api.Lock,string] -/
def f91 (px_A : Option Addr) (px_n px_c : Nat) (ptarget : ByteArray) (pcmp_f : FuncId) (pcmp_a pcmp_c : Array Value) (H : Hp) (Q : Value → Hp → Prop) : Prop :=
  LoopF (σ := (Int × (Int × Unit)) × Unit) ((0, (((px_n : Nat) : Int), ())), ()) H fun s1 H2 next3 => jn (fun (j11 : Int) (j12 : Int) (H13 : Hp) => KeepX [some (.v (.slice px_A px_n px_c)), some (.v (.string ptarget)), some
    (.v (.func (.func pcmp_f) pcmp_a pcmp_c)), some (.v (.int .i64 ((px_n : Nat) : Int)))] [] ∧ next3 ((j11, (j12, ())), ()) H13) fun J14 => cnd (decide ((s1.1.1 : Int) < s1.1.2.1)) (0 ≤ (1 : Int) ∧ 0 ≤ (IntKind.i64.wrap
    (Int.fdiv (IntKind.u64.wrap (IntKind.i64.wrap (s1.1.1 + s1.1.2.1))) (2 ^ (min (1 : Int).toNat (IntKind.u64.bits)))) : Int) ∧ (IntKind.i64.wrap (Int.fdiv (IntKind.u64.wrap (IntKind.i64.wrap (s1.1.1 + s1.1.2.1))) (2 ^
    (min (1 : Int).toNat (IntKind.u64.bits)))) : Int) < ((px_n : Nat) : Int) ∧ onPtr px_A fun b4 o4 => ∃ s5 : ByteArray, cl H2 b4 (o4 + (IntKind.i64.wrap (Int.fdiv (IntKind.u64.wrap (IntKind.i64.wrap (s1.1.1 + s1.1.2.1)))
    (2 ^ (min (1 : Int).toNat (IntKind.u64.bits)))) : Int).toNat * 3) = some (.string s5) ∧ ∃ x6 : Int, cl H2 b4 ((o4 + (IntKind.i64.wrap (Int.fdiv (IntKind.u64.wrap (IntKind.i64.wrap (s1.1.1 + s1.1.2.1))) (2 ^ (min (1 :
    Int).toNat (IntKind.u64.bits)))) : Int).toNat * 3) + 1) = some (.int .i64 x6) ∧ ∃ x7 : Bool, cl H2 b4 (((o4 + (IntKind.i64.wrap (Int.fdiv (IntKind.u64.wrap (IntKind.i64.wrap (s1.1.1 + s1.1.2.1))) (2 ^ (min (1 :
    Int).toNat (IntKind.u64.bits)))) : Int).toNat * 3) + 1) + 1) = some (.bool x7) ∧ FnOk Tryz.prog pcmp_f ∧ HCalls Tryz.prog pcmp_f (pcmp_a.toList ++ [.agg #[.string s5, .int .i64 x6, .bool x7], .string ptarget] ++
    pcmp_c.toList) H2 fun v8 H9 => ∃ x10 : Int, v8 = .int .i64 x10 ∧ cnd (decide ((x10 : Int) < 0)) (J14 (IntKind.i64.wrap ((IntKind.i64.wrap (Int.fdiv (IntKind.u64.wrap (IntKind.i64.wrap (s1.1.1 + s1.1.2.1))) (2 ^ (min
    (1 : Int).toNat (IntKind.u64.bits))))) + 1)) s1.1.2.1 H9) (J14 s1.1.1 (IntKind.i64.wrap (Int.fdiv (IntKind.u64.wrap (IntKind.i64.wrap (s1.1.1 + s1.1.2.1))) (2 ^ (min (1 : Int).toNat (IntKind.u64.bits))))) H9)) (jn
    (fun (j22 : Bool) (H23 : Hp) => Q (.tuple #[.int .i64 s1.1.1, .bool j22]) H23) fun J24 => cnd (decide ((s1.1.1 : Int) < ((px_n : Nat) : Int))) (0 ≤ (s1.1.1 : Int) ∧ (s1.1.1 : Int) < ((px_n : Nat) : Int) ∧ onPtr px_A
    fun b15 o15 => ∃ s16 : ByteArray, cl H2 b15 (o15 + (s1.1.1 : Int).toNat * 3) = some (.string s16) ∧ ∃ x17 : Int, cl H2 b15 ((o15 + (s1.1.1 : Int).toNat * 3) + 1) = some (.int .i64 x17) ∧ ∃ x18 : Bool, cl H2 b15 (((o15
    + (s1.1.1 : Int).toNat * 3) + 1) + 1) = some (.bool x18) ∧ FnOk Tryz.prog pcmp_f ∧ HCalls Tryz.prog pcmp_f (pcmp_a.toList ++ [.agg #[.string s16, .int .i64 x17, .bool x18], .string ptarget] ++ pcmp_c.toList) H2 fun
    v19 H20 => ∃ x21 : Int, v19 = .int .i64 x21 ∧ J24 ((x21 : Int) == 0) H20) (J24 false H2))
noncomputable def fcx91 : Cx := cx 49 [] [(3, ⟨[0, 1, 2, 8], [], [(9, .int .i64), (10, .int .i64)], []⟩)] [] []
theorem f91.eq (px_A : Option Addr) (px_n px_c : Nat) (ptarget : ByteArray) (pcmp_f : FuncId) (pcmp_a pcmp_c : Array Value) (H : Hp) (Q : Value → Hp → Prop) : f91 px_A px_n px_c ptarget pcmp_f pcmp_a pcmp_c H Q = wFun fcx91 Tryz.f91 [.slice px_A px_n px_c, .string ptarget, .func (.func pcmp_f) pcmp_a pcmp_c] H Q := by kernel_rfl
theorem f91.ok (px_A : Option Addr) (px_n px_c : Nat) (ptarget : ByteArray) (pcmp_f : FuncId) (pcmp_a pcmp_c : Array Value) {H : Hp} {Q : Value → Hp → Prop} (h : f91 px_A px_n px_c ptarget pcmp_f pcmp_a pcmp_c H Q) : HCalls Tryz.prog 91 [.slice px_A px_n px_c, .string ptarget, .func (.func pcmp_f) pcmp_a pcmp_c] H Q := hcalls_of (cxOk 49 [] [(3, ⟨[0, 1, 2, 8], [], [(9, .int .i64), (10, .int .i64)], []⟩)] [] []) Tryz.func91 (Eq.mp (f91.eq px_A px_n px_c ptarget pcmp_f pcmp_a pcmp_c H Q) h)

/-- cmp.isNaN[string] -/
def f97 (px : ByteArray) (H : Hp) (Q : Value → Hp → Prop) : Prop :=
  Q (.bool (!(px.toList == px.toList))) H
noncomputable def fcx97 : Cx := cx 6 [] [] [] []
theorem f97.eq (px : ByteArray) (H : Hp) (Q : Value → Hp → Prop) : f97 px H Q = wFun fcx97 Tryz.f97 [.string px] H Q := by kernel_rfl
theorem f97.ok (px : ByteArray) {H : Hp} {Q : Value → Hp → Prop} (h : f97 px H Q) : HCalls Tryz.prog 97 [.string px] H Q := hcalls_of (cxOk 6 [] [] [] []) Tryz.func97 (Eq.mp (f97.eq px H Q) h)

/-- cmp.isNaN[int] -/
def f98 (px : Int) (H : Hp) (Q : Value → Hp → Prop) : Prop :=
  Q (.bool ((px : Int) != px)) H
noncomputable def fcx98 : Cx := cx 6 [] [] [] []
theorem f98.eq (px : Int) (H : Hp) (Q : Value → Hp → Prop) : f98 px H Q = wFun fcx98 Tryz.f98 [.int .i64 px] H Q := by kernel_rfl
theorem f98.ok (px : Int) {H : Hp} {Q : Value → Hp → Prop} (h : f98 px H Q) : HCalls Tryz.prog 98 [.int .i64 px] H Q := hcalls_of (cxOk 6 [] [] [] []) Tryz.func98 (Eq.mp (f98.eq px H Q) h)

end Go.Proofs.YtkbancdmhcnhjaaGreat.Hw
