/- HwFc Bf Bg Bh Bi Bj Bk Bl (joined by merge.py) -/
import Derived.Test.YtmelbipidffmpaaGreatDoorTm3
import Derived.Test.YtmelbipidffmpaaGreatDoorTm4
/- What functions of the program come to, by the evaluator: printed by a program of this session (gen.py) and checked here. -/
set_option linter.unusedVariables false
set_option maxRecDepth 100000
namespace Go.Proofs.YtmelbipidffmpaaGreatDoor.Hw
open Go Go.Proofs

/-- justiciar tree.Find -/
def f20 (pt_0_A : Option Addr) (pt_0_n pt_0_c : Nat) (pt_1 : Int) (pt_2 : Int) (pkey_A : Option Addr) (pkey_n pkey_c : Nat) (H : Hp) (Q : Value → Hp → Prop) : Prop :=
  cnd ((((pkey_n : Nat) : Int) : Int) == 0) (Q (.tuple #[.slice none 0 0, .int .i64 2]) H) (HCalls Tryz.prog 23 [.agg #[.slice pt_0_A pt_0_n pt_0_c, .int .i64 pt_1, .int .i64 pt_2], .slice pkey_A pkey_n pkey_c, .slice
    pkey_A pkey_n pkey_c, .bool false] H fun v1 H2 => ∃ (A3 : Option Addr) (n3 c3 : Nat), ∃ x4 : Int, v1 = .tuple #[.slice A3 n3 c3, .int .i64 x4] ∧ Q (.tuple #[.slice A3 n3 c3, .int .i64 x4]) H2)
noncomputable def fcx20 : Cx := cx 15 [(2, true)] [] [] []
theorem f20.eq (pt_0_A : Option Addr) (pt_0_n pt_0_c : Nat) (pt_1 : Int) (pt_2 : Int) (pkey_A : Option Addr) (pkey_n pkey_c : Nat) (H : Hp) (Q : Value → Hp → Prop) : f20 pt_0_A pt_0_n pt_0_c pt_1 pt_2 pkey_A pkey_n pkey_c H Q = wFun fcx20 Tryz.f20 [.agg #[.slice pt_0_A pt_0_n pt_0_c, .int .i64 pt_1, .int .i64 pt_2], .slice pkey_A pkey_n pkey_c] H Q := by kernel_rfl
theorem f20.ok (pt_0_A : Option Addr) (pt_0_n pt_0_c : Nat) (pt_1 : Int) (pt_2 : Int) (pkey_A : Option Addr) (pkey_n pkey_c : Nat) {H : Hp} {Q : Value → Hp → Prop} (h : f20 pt_0_A pt_0_n pt_0_c pt_1 pt_2 pkey_A pkey_n pkey_c H Q) : HCalls Tryz.prog 20 [.agg #[.slice pt_0_A pt_0_n pt_0_c, .int .i64 pt_1, .int .i64 pt_2], .slice pkey_A pkey_n pkey_c] H Q := hcalls_of (cxOk _ _ _ _ _) Tryz.func20 (Eq.mp (f20.eq pt_0_A pt_0_n pt_0_c pt_1 pt_2 pkey_A pkey_n pkey_c H Q) h)

/-- justiciar justiciarref17.Find -/
def f21 (pt_0_A : Option Addr) (pt_0_n pt_0_c : Nat) (pt_1 : Int) (pt_2 : Int) (pkey_A : Option Addr) (pkey_n pkey_c : Nat) (H : Hp) (Q : Value → Hp → Prop) : Prop :=
  jn (fun (j7 : Bool) (H8 : Hp) => cnd j7 (Q (.tuple #[.slice none 0 0, .int .i64 2]) H8) (HCalls Tryz.prog 24 [.agg #[.slice pt_0_A pt_0_n pt_0_c, .int .i64 pt_1, .int .i64 pt_2], .slice pkey_A pkey_n pkey_c, .slice pkey_A
    pkey_n pkey_c, .bool false] H8 fun v10 H11 => ∃ (A12 : Option Addr) (n12 c12 : Nat), ∃ x13 : Int, v10 = .tuple #[.slice A12 n12 c12, .int .i64 x13] ∧ Q (.tuple #[.slice A12 n12 c12, .int .i64 x13]) H11)) fun J9 =>
    HCalls Tryz.prog 14 [.agg #[.slice pt_0_A pt_0_n pt_0_c, .int .i64 pt_1, .int .i64 pt_2]] H fun v1 H2 => ∃ x3 : Bool, v1 = .bool x3 ∧ cnd (!x3) (J9 true H2) (HCalls Tryz.prog 43 [.slice pkey_A pkey_n pkey_c, .int .i64
    1, .int .i64 pt_2] H2 fun v4 H5 => ∃ x6 : Bool, v4 = .bool x6 ∧ J9 (!x6) H5)
/-- justiciar tree.Between -/
def f23 (pt_0_A : Option Addr) (pt_0_n pt_0_c : Nat) (pt_1 : Int) (pt_2 : Int) (plow_A : Option Addr) (plow_n plow_c : Nat) (phigh_A : Option Addr) (phigh_n phigh_c : Nat) (pback : Bool) (H : Hp) (Q : Value → Hp → Prop) : Prop :=
  HCalls Tryz.prog 36 [.agg #[.slice pt_0_A pt_0_n pt_0_c, .int .i64 pt_1, .int .i64 pt_2]] H fun v1 H2 => ∃ p3 : Option Addr, ∃ x4 : Bool, v1 = .tuple #[.pointer p3, .bool x4] ∧ jn (fun (j11 : Bool) (H12 : Hp) => cnd j11
    (Q (.tuple #[.slice none 0 0, .int .i64 2]) H12) (onPtr p3 fun b14 o14 => ∃ (A15 : Option Addr) (n15 c15 : Nat), cl H12 b14 (o14 + 5) = some (.slice A15 n15 c15) ∧ HCalls Tryz.prog 45 [.slice A15 n15 c15, .slice
    plow_A plow_n plow_c, .func (.func 46) #[] #[]] H12 fun v16 H17 => ∃ x18 : Int, ∃ x19 : Bool, v16 = .tuple #[.int .i64 x18, .bool x19] ∧ onPtr p3 fun b20 o20 => ∃ (A21 : Option Addr) (n21 c21 : Nat), cl H17 b20 (o20 +
    5) = some (.slice A21 n21 c21) ∧ HCalls Tryz.prog 45 [.slice A21 n21 c21, .slice phigh_A phigh_n phigh_c, .func (.func 47) #[] #[]] H17 fun v22 H23 => ∃ x24 : Int, ∃ x25 : Bool, v22 = .tuple #[.int .i64 x24, .bool
    x25] ∧ LoopF (σ := ((Option Addr × Nat × Nat) × (Int × Unit)) × Unit) (((none, 0, 0), (x18, ())), ()) H23 fun s26 H27 next28 => cnd (decide ((s26.1.2.1 : Int) < x24)) (onPtr p3 fun b29 o29 => ∃ (A30 : Option Addr)
    (n30 c30 : Nat), cl H27 b29 (o29 + 5) = some (.slice A30 n30 c30) ∧ 0 ≤ (s26.1.2.1 : Int) ∧ (s26.1.2.1 : Int) < ((n30 : Nat) : Int) ∧ onPtr A30 fun b31 o31 => ∃ x32 : Int, cl H27 b31 ((o31 + (s26.1.2.1 : Int).toNat *
    2) + 1) = some (.int .i64 x32) ∧ newF H27 3 [.int .i64 x32] fun g33 H34 => appendF H34 3 1 8 s26.1.1.1 s26.1.1.2.1 s26.1.1.2.2 (some ⟨g33, 0, none⟩) 1 fun A35 n35 c35 H36 => KeepX [some (.v (.bool pback)), some (.v
    (.pointer p3)), some (.v (.int .i64 x24))] [] ∧ next28 (((A35, n35, c35), (IntKind.i64.wrap (s26.1.2.1 + 1), ())), ()) H36) (jn (fun (H39 : Hp) => Q (.tuple #[.slice s26.1.1.1 s26.1.1.2.1 s26.1.1.2.2, .int .i64 0])
    H39) fun J40 => cnd pback (HCalls Tryz.prog 48 [.slice s26.1.1.1 s26.1.1.2.1 s26.1.1.2.2] H27 fun v37 H38 => v37 = .tuple #[] ∧ J40 H38) (J40 H27)))) fun J13 => cnd (!x4) (J13 true H2) (cnd (decide ((((plow_n : Nat) :
    Int) : Int) > pt_2)) (J13 true H2) (cnd (decide ((((phigh_n : Nat) : Int) : Int) > pt_2)) (J13 true H2) (HCalls Tryz.prog 40 [.slice plow_A plow_n plow_c] H2 fun v5 H6 => ∃ x7 : Bool, v5 = .bool x7 ∧ cnd (!x7) (J13
    true H6) (HCalls Tryz.prog 40 [.slice phigh_A phigh_n phigh_c] H6 fun v8 H9 => ∃ x10 : Bool, v8 = .bool x10 ∧ J13 (!x10) H9))))
noncomputable def fcx23 : Cx := cx 88 [(4, true)] [(8, ⟨[3, 10, 14], [], [(16, .slice), (17, .int .i64)], []⟩)] [] []
theorem f23.eq (pt_0_A : Option Addr) (pt_0_n pt_0_c : Nat) (pt_1 : Int) (pt_2 : Int) (plow_A : Option Addr) (plow_n plow_c : Nat) (phigh_A : Option Addr) (phigh_n phigh_c : Nat) (pback : Bool) (H : Hp) (Q : Value → Hp → Prop) : f23 pt_0_A pt_0_n pt_0_c pt_1 pt_2 plow_A plow_n plow_c phigh_A phigh_n phigh_c pback H Q = wFun fcx23 Tryz.f23 [.agg #[.slice pt_0_A pt_0_n pt_0_c, .int .i64 pt_1, .int .i64 pt_2], .slice plow_A plow_n plow_c, .slice phigh_A phigh_n phigh_c, .bool pback] H Q := by kernel_rfl
theorem f23.ok (pt_0_A : Option Addr) (pt_0_n pt_0_c : Nat) (pt_1 : Int) (pt_2 : Int) (plow_A : Option Addr) (plow_n plow_c : Nat) (phigh_A : Option Addr) (phigh_n phigh_c : Nat) (pback : Bool) {H : Hp} {Q : Value → Hp → Prop} (h : f23 pt_0_A pt_0_n pt_0_c pt_1 pt_2 plow_A plow_n plow_c phigh_A phigh_n phigh_c pback H Q) : HCalls Tryz.prog 23 [.agg #[.slice pt_0_A pt_0_n pt_0_c, .int .i64 pt_1, .int .i64 pt_2], .slice plow_A plow_n plow_c, .slice phigh_A phigh_n phigh_c, .bool pback] H Q := hcalls_of (cxOk _ _ _ _ _) Tryz.func23 (Eq.mp (f23.eq pt_0_A pt_0_n pt_0_c pt_1 pt_2 plow_A plow_n plow_c phigh_A phigh_n phigh_c pback H Q) h)

/-- justiciar justiciarref17.Between -/
def f24 (pt_0_A : Option Addr) (pt_0_n pt_0_c : Nat) (pt_1 : Int) (pt_2 : Int) (plow_A : Option Addr) (plow_n plow_c : Nat) (phigh_A : Option Addr) (phigh_n phigh_c : Nat) (pback : Bool) (H : Hp) (Q : Value → Hp → Prop) : Prop :=
  HCalls Tryz.prog 38 [.agg #[.slice pt_0_A pt_0_n pt_0_c, .int .i64 pt_1, .int .i64 pt_2]] H fun v1 H2 => ∃ (A3 : Option Addr) (n3 c3 : Nat), ∃ x4 : Int, ∃ x5 : Bool, v1 = .tuple #[.slice A3 n3 c3, .int .i64 x4, .bool x5]
    ∧ jn (fun (j12 : Bool) (H13 : Hp) => cnd j12 (Q (.tuple #[.slice none 0 0, .int .i64 2]) H13) (LoopF (σ := ((Option Addr × Nat × Nat) × (Int × Unit)) × Unit) (((none, 0, 0), (0, ())), ()) H13 fun s15 H16 next17 => cnd
    (decide ((s15.1.2.1 : Int) < ((n3 : Nat) : Int))) (jn (fun (jA38 : Option Addr) (jn39 : Nat) (jc40 : Nat) (H41 : Hp) => KeepX [some (.v (.slice plow_A plow_n plow_c)), some (.v (.slice phigh_A phigh_n phigh_c)), some
    (.v (.bool pback)), some (.v (.slice A3 n3 c3)), some (.v (.int .i64 ((n3 : Nat) : Int)))] [] ∧ next17 (((jA38, jn39, jc40), (IntKind.i64.wrap (s15.1.2.1 + 1), ())), ()) H41) fun J42 => 0 ≤ (s15.1.2.1 : Int) ∧
    (s15.1.2.1 : Int) < ((n3 : Nat) : Int) ∧ onPtr A3 fun b18 o18 => ∃ (A19 : Option Addr) (n19 c19 : Nat), cl H16 b18 (o18 + (s15.1.2.1 : Int).toNat * 2) = some (.slice A19 n19 c19) ∧ ∃ x20 : Int, cl H16 b18 ((o18 +
    (s15.1.2.1 : Int).toNat * 2) + 1) = some (.int .i64 x20) ∧ jn (fun (j27 : Bool) (H28 : Hp) => cnd j27 (J42 s15.1.1.1 s15.1.1.2.1 s15.1.1.2.2 H28) (cnd pback (newF H28 3 [.int .i64 x20] fun g30 H31 => appendF H31 3 1 8
    (some ⟨g30, 0, none⟩) 1 1 s15.1.1.1 s15.1.1.2.1 fun A32 n32 c32 H33 => J42 A32 n32 c32 H33) (newF H28 3 [.int .i64 x20] fun g34 H35 => appendF H35 3 1 8 s15.1.1.1 s15.1.1.2.1 s15.1.1.2.2 (some ⟨g34, 0, none⟩) 1 fun
    A36 n36 c36 H37 => J42 A36 n36 c36 H37))) fun J29 => HCalls Tryz.prog 44 [.slice A19 n19 c19, .slice plow_A plow_n plow_c] H16 fun v21 H22 => ∃ x23 : Int, v21 = .int .i64 x23 ∧ cnd (decide ((x23 : Int) < 0)) (J29 true
    H22) (HCalls Tryz.prog 44 [.slice A19 n19 c19, .slice phigh_A phigh_n phigh_c] H22 fun v24 H25 => ∃ x26 : Int, v24 = .int .i64 x26 ∧ J29 (decide ((x26 : Int) > 0)) H25)) (Q (.tuple #[.slice s15.1.1.1 s15.1.1.2.1
    s15.1.1.2.2, .int .i64 0]) H16))) fun J14 => cnd (!x5) (J14 true H2) (HCalls Tryz.prog 43 [.slice plow_A plow_n plow_c, .int .i64 0, .int .i64 pt_2] H2 fun v6 H7 => ∃ x8 : Bool, v6 = .bool x8 ∧ cnd (!x8) (J14 true H7)
    (HCalls Tryz.prog 43 [.slice phigh_A phigh_n phigh_c, .int .i64 0, .int .i64 pt_2] H7 fun v9 H10 => ∃ x11 : Bool, v9 = .bool x11 ∧ J14 (!x11) H10))
/-- slices.BinarySearchFunc[[]justiciar api.Entry,justiciar api.Entry,[]justiciar api.Value] -/
def f45 (px_A : Option Addr) (px_n px_c : Nat) (ptarget_A : Option Addr) (ptarget_n ptarget_c : Nat) (pcmp_f : FuncId) (pcmp_a pcmp_c : Array Value) (H : Hp) (Q : Value → Hp → Prop) : Prop :=
  LoopF (σ := (Int × (Int × Unit)) × Unit) ((0, (((px_n : Nat) : Int), ())), ()) H fun s1 H2 next3 => jn (fun (j10 : Int) (j11 : Int) (H12 : Hp) => KeepX [some (.v (.slice px_A px_n px_c)), some (.v (.slice ptarget_A
    ptarget_n ptarget_c)), some (.v (.func (.func pcmp_f) pcmp_a pcmp_c)), some (.v (.int .i64 ((px_n : Nat) : Int)))] [] ∧ next3 ((j10, (j11, ())), ()) H12) fun J13 => cnd (decide ((s1.1.1 : Int) < s1.1.2.1)) (0 ≤ (1 :
    Int) ∧ 0 ≤ (IntKind.i64.wrap (Int.fdiv (IntKind.u64.wrap (IntKind.i64.wrap (s1.1.1 + s1.1.2.1))) (2 ^ (min (1 : Int).toNat (IntKind.u64.bits)))) : Int) ∧ (IntKind.i64.wrap (Int.fdiv (IntKind.u64.wrap (IntKind.i64.wrap
    (s1.1.1 + s1.1.2.1))) (2 ^ (min (1 : Int).toNat (IntKind.u64.bits)))) : Int) < ((px_n : Nat) : Int) ∧ onPtr px_A fun b4 o4 => ∃ (A5 : Option Addr) (n5 c5 : Nat), cl H2 b4 (o4 + (IntKind.i64.wrap (Int.fdiv
    (IntKind.u64.wrap (IntKind.i64.wrap (s1.1.1 + s1.1.2.1))) (2 ^ (min (1 : Int).toNat (IntKind.u64.bits)))) : Int).toNat * 2) = some (.slice A5 n5 c5) ∧ ∃ x6 : Int, cl H2 b4 ((o4 + (IntKind.i64.wrap (Int.fdiv
    (IntKind.u64.wrap (IntKind.i64.wrap (s1.1.1 + s1.1.2.1))) (2 ^ (min (1 : Int).toNat (IntKind.u64.bits)))) : Int).toNat * 2) + 1) = some (.int .i64 x6) ∧ FnOk Tryz.prog pcmp_f ∧ HCalls Tryz.prog pcmp_f (pcmp_a.toList
    ++ [.agg #[.slice A5 n5 c5, .int .i64 x6], .slice ptarget_A ptarget_n ptarget_c] ++ pcmp_c.toList) H2 fun v7 H8 => ∃ x9 : Int, v7 = .int .i64 x9 ∧ cnd (decide ((x9 : Int) < 0)) (J13 (IntKind.i64.wrap
    ((IntKind.i64.wrap (Int.fdiv (IntKind.u64.wrap (IntKind.i64.wrap (s1.1.1 + s1.1.2.1))) (2 ^ (min (1 : Int).toNat (IntKind.u64.bits))))) + 1)) s1.1.2.1 H8) (J13 s1.1.1 (IntKind.i64.wrap (Int.fdiv (IntKind.u64.wrap
    (IntKind.i64.wrap (s1.1.1 + s1.1.2.1))) (2 ^ (min (1 : Int).toNat (IntKind.u64.bits))))) H8)) (jn (fun (j20 : Bool) (H21 : Hp) => Q (.tuple #[.int .i64 s1.1.1, .bool j20]) H21) fun J22 => cnd (decide ((s1.1.1 : Int) <
    ((px_n : Nat) : Int))) (0 ≤ (s1.1.1 : Int) ∧ (s1.1.1 : Int) < ((px_n : Nat) : Int) ∧ onPtr px_A fun b14 o14 => ∃ (A15 : Option Addr) (n15 c15 : Nat), cl H2 b14 (o14 + (s1.1.1 : Int).toNat * 2) = some (.slice A15 n15
    c15) ∧ ∃ x16 : Int, cl H2 b14 ((o14 + (s1.1.1 : Int).toNat * 2) + 1) = some (.int .i64 x16) ∧ FnOk Tryz.prog pcmp_f ∧ HCalls Tryz.prog pcmp_f (pcmp_a.toList ++ [.agg #[.slice A15 n15 c15, .int .i64 x16], .slice
    ptarget_A ptarget_n ptarget_c] ++ pcmp_c.toList) H2 fun v17 H18 => ∃ x19 : Int, v17 = .int .i64 x19 ∧ J22 ((x19 : Int) == 0) H18) (J22 false H2))
noncomputable def fcx45 : Cx := cx 49 [] [(3, ⟨[0, 1, 2, 8], [], [(9, .int .i64), (10, .int .i64)], []⟩)] [] []
theorem f45.eq (px_A : Option Addr) (px_n px_c : Nat) (ptarget_A : Option Addr) (ptarget_n ptarget_c : Nat) (pcmp_f : FuncId) (pcmp_a pcmp_c : Array Value) (H : Hp) (Q : Value → Hp → Prop) : f45 px_A px_n px_c ptarget_A ptarget_n ptarget_c pcmp_f pcmp_a pcmp_c H Q = wFun fcx45 Tryz.f45 [.slice px_A px_n px_c, .slice ptarget_A ptarget_n ptarget_c, .func (.func pcmp_f) pcmp_a pcmp_c] H Q := by kernel_rfl
theorem f45.ok (px_A : Option Addr) (px_n px_c : Nat) (ptarget_A : Option Addr) (ptarget_n ptarget_c : Nat) (pcmp_f : FuncId) (pcmp_a pcmp_c : Array Value) {H : Hp} {Q : Value → Hp → Prop} (h : f45 px_A px_n px_c ptarget_A ptarget_n ptarget_c pcmp_f pcmp_a pcmp_c H Q) : HCalls Tryz.prog 45 [.slice px_A px_n px_c, .slice ptarget_A ptarget_n ptarget_c, .func (.func pcmp_f) pcmp_a pcmp_c] H Q := hcalls_of (cxOk _ _ _ _ _) Tryz.func45 (Eq.mp (f45.eq px_A px_n px_c ptarget_A ptarget_n ptarget_c pcmp_f pcmp_a pcmp_c H Q) h)

/-- justiciar tree.Between$1 -/
def f46 (pe_0_A : Option Addr) (pe_0_n pe_0_c : Nat) (pe_1 : Int) (pk_A : Option Addr) (pk_n pk_c : Nat) (H : Hp) (Q : Value → Hp → Prop) : Prop :=
  HCalls Tryz.prog 42 [.agg #[.slice pe_0_A pe_0_n pe_0_c, .int .i64 pe_1], .int .i64 ((pk_n : Nat) : Int)] H fun v1 H2 => ∃ (A3 : Option Addr) (n3 c3 : Nat), v1 = .slice A3 n3 c3 ∧ HCalls Tryz.prog 41 [.slice A3 n3 c3,
    .slice pk_A pk_n pk_c] H2 fun v4 H5 => ∃ x6 : Int, v4 = .int .i64 x6 ∧ cnd (decide ((x6 : Int) < 0)) (Q (.int .i64 (-1)) H5) (Q (.int .i64 1) H5)
noncomputable def fcx46 : Cx := cx 12 [(2, true)] [] [] []
theorem f46.eq (pe_0_A : Option Addr) (pe_0_n pe_0_c : Nat) (pe_1 : Int) (pk_A : Option Addr) (pk_n pk_c : Nat) (H : Hp) (Q : Value → Hp → Prop) : f46 pe_0_A pe_0_n pe_0_c pe_1 pk_A pk_n pk_c H Q = wFun fcx46 Tryz.f46 [.agg #[.slice pe_0_A pe_0_n pe_0_c, .int .i64 pe_1], .slice pk_A pk_n pk_c] H Q := by kernel_rfl
theorem f46.ok (pe_0_A : Option Addr) (pe_0_n pe_0_c : Nat) (pe_1 : Int) (pk_A : Option Addr) (pk_n pk_c : Nat) {H : Hp} {Q : Value → Hp → Prop} (h : f46 pe_0_A pe_0_n pe_0_c pe_1 pk_A pk_n pk_c H Q) : HCalls Tryz.prog 46 [.agg #[.slice pe_0_A pe_0_n pe_0_c, .int .i64 pe_1], .slice pk_A pk_n pk_c] H Q := hcalls_of (cxOk _ _ _ _ _) Tryz.func46 (Eq.mp (f46.eq pe_0_A pe_0_n pe_0_c pe_1 pk_A pk_n pk_c H Q) h)

/-- justiciar tree.Between$2 -/
def f47 (pe_0_A : Option Addr) (pe_0_n pe_0_c : Nat) (pe_1 : Int) (pk_A : Option Addr) (pk_n pk_c : Nat) (H : Hp) (Q : Value → Hp → Prop) : Prop :=
  HCalls Tryz.prog 42 [.agg #[.slice pe_0_A pe_0_n pe_0_c, .int .i64 pe_1], .int .i64 ((pk_n : Nat) : Int)] H fun v1 H2 => ∃ (A3 : Option Addr) (n3 c3 : Nat), v1 = .slice A3 n3 c3 ∧ HCalls Tryz.prog 41 [.slice A3 n3 c3,
    .slice pk_A pk_n pk_c] H2 fun v4 H5 => ∃ x6 : Int, v4 = .int .i64 x6 ∧ cnd (decide ((x6 : Int) ≤ 0)) (Q (.int .i64 (-1)) H5) (Q (.int .i64 1) H5)
noncomputable def fcx47 : Cx := cx 12 [(2, true)] [] [] []
theorem f47.eq (pe_0_A : Option Addr) (pe_0_n pe_0_c : Nat) (pe_1 : Int) (pk_A : Option Addr) (pk_n pk_c : Nat) (H : Hp) (Q : Value → Hp → Prop) : f47 pe_0_A pe_0_n pe_0_c pe_1 pk_A pk_n pk_c H Q = wFun fcx47 Tryz.f47 [.agg #[.slice pe_0_A pe_0_n pe_0_c, .int .i64 pe_1], .slice pk_A pk_n pk_c] H Q := by kernel_rfl
theorem f47.ok (pe_0_A : Option Addr) (pe_0_n pe_0_c : Nat) (pe_1 : Int) (pk_A : Option Addr) (pk_n pk_c : Nat) {H : Hp} {Q : Value → Hp → Prop} (h : f47 pe_0_A pe_0_n pe_0_c pe_1 pk_A pk_n pk_c H Q) : HCalls Tryz.prog 47 [.agg #[.slice pe_0_A pe_0_n pe_0_c, .int .i64 pe_1], .slice pk_A pk_n pk_c] H Q := hcalls_of (cxOk _ _ _ _ _) Tryz.func47 (Eq.mp (f47.eq pe_0_A pe_0_n pe_0_c pe_1 pk_A pk_n pk_c H Q) h)

/-- slices.Reverse[[]int,int] -/
def f48 (ps_A : Option Addr) (ps_n ps_c : Nat) (H : Hp) (Q : Value → Hp → Prop) : Prop :=
  LoopF (σ := (Int × (Int × Unit)) × Unit) ((0, (IntKind.i64.wrap (((ps_n : Nat) : Int) - 1), ())), ()) H fun s1 H2 next3 => cnd (decide ((s1.1.1 : Int) < s1.1.2.1)) (0 ≤ (s1.1.2.1 : Int) ∧ (s1.1.2.1 : Int) < ((ps_n : Nat)
    : Int) ∧ onPtr ps_A fun b4 o4 => ∃ x5 : Int, cl H2 b4 (o4 + (s1.1.2.1 : Int).toNat * 1) = some (.int .i64 x5) ∧ 0 ≤ (s1.1.1 : Int) ∧ (s1.1.1 : Int) < ((ps_n : Nat) : Int) ∧ onPtr ps_A fun b6 o6 => ∃ x7 : Int, cl H2 b6
    (o6 + (s1.1.1 : Int).toNat * 1) = some (.int .i64 x7) ∧ 0 ≤ (s1.1.1 : Int) ∧ (s1.1.1 : Int) < ((ps_n : Nat) : Int) ∧ onPtr ps_A fun b8 o8 => storeF H2 b8 (o8 + (s1.1.1 : Int).toNat * 1) [.int .i64 x5] fun H9 => 0 ≤
    (s1.1.2.1 : Int) ∧ (s1.1.2.1 : Int) < ((ps_n : Nat) : Int) ∧ onPtr ps_A fun b10 o10 => storeF H9 b10 (o10 + (s1.1.2.1 : Int).toNat * 1) [.int .i64 x7] fun H11 => KeepX [some (.v (.slice ps_A ps_n ps_c))] [] ∧ next3
    ((IntKind.i64.wrap (s1.1.1 + 1), (IntKind.i64.wrap (s1.1.2.1 - 1), ())), ()) H11) (Q (.tuple #[]) H2)
noncomputable def fcx48 : Cx := cx 28 [] [(1, ⟨[0], [], [(2, .int .i64), (3, .int .i64)], []⟩)] [(3, (.look 0 (.look 1 (.look 2 (.look 3 (.look 4 (.look 5 (.look 6 (.look 7 (.look 8 (.look 9 (.look 10 (.look 11 (.look 12 (.act 13 (.look 14 (.act 15 .done .done)) .done)))))))))))))))] []
theorem f48.eq (ps_A : Option Addr) (ps_n ps_c : Nat) (H : Hp) (Q : Value → Hp → Prop) : f48 ps_A ps_n ps_c H Q = wFun fcx48 Tryz.f48 [.slice ps_A ps_n ps_c] H Q := by kernel_rfl
theorem f48.ok (ps_A : Option Addr) (ps_n ps_c : Nat) {H : Hp} {Q : Value → Hp → Prop} (h : f48 ps_A ps_n ps_c H Q) : HCalls Tryz.prog 48 [.slice ps_A ps_n ps_c] H Q := hcalls_of (cxOk _ _ _ _ _) Tryz.func48 (Eq.mp (f48.eq ps_A ps_n ps_c H Q) h)

/-- slices.BinarySearchFunc[[]justiciar api.Entry,justiciar api.Entry,justiciar api.Entry] -/
def f50 (px_A : Option Addr) (px_n px_c : Nat) (ptarget_0_A : Option Addr) (ptarget_0_n ptarget_0_c : Nat) (ptarget_1 : Int) (pcmp_f : FuncId) (pcmp_a pcmp_c : Array Value) (H : Hp) (Q : Value → Hp → Prop) : Prop :=
  LoopF (σ := (Int × (Int × Unit)) × Unit) ((0, (((px_n : Nat) : Int), ())), ()) H fun s1 H2 next3 => jn (fun (j10 : Int) (j11 : Int) (H12 : Hp) => KeepX [some (.v (.slice px_A px_n px_c)), some (.v (.func (.func pcmp_f)
    pcmp_a pcmp_c)), some (.loc 4 0), some (.v (.int .i64 ((px_n : Nat) : Int)))] [some (true, [.slice ptarget_0_A ptarget_0_n ptarget_0_c, .int .i64 ptarget_1])] ∧ next3 ((j10, (j11, ())), ()) H12) fun J13 => cnd (decide
    ((s1.1.1 : Int) < s1.1.2.1)) (0 ≤ (1 : Int) ∧ 0 ≤ (IntKind.i64.wrap (Int.fdiv (IntKind.u64.wrap (IntKind.i64.wrap (s1.1.1 + s1.1.2.1))) (2 ^ (min (1 : Int).toNat (IntKind.u64.bits)))) : Int) ∧ (IntKind.i64.wrap
    (Int.fdiv (IntKind.u64.wrap (IntKind.i64.wrap (s1.1.1 + s1.1.2.1))) (2 ^ (min (1 : Int).toNat (IntKind.u64.bits)))) : Int) < ((px_n : Nat) : Int) ∧ onPtr px_A fun b4 o4 => ∃ (A5 : Option Addr) (n5 c5 : Nat), cl H2 b4
    (o4 + (IntKind.i64.wrap (Int.fdiv (IntKind.u64.wrap (IntKind.i64.wrap (s1.1.1 + s1.1.2.1))) (2 ^ (min (1 : Int).toNat (IntKind.u64.bits)))) : Int).toNat * 2) = some (.slice A5 n5 c5) ∧ ∃ x6 : Int, cl H2 b4 ((o4 +
    (IntKind.i64.wrap (Int.fdiv (IntKind.u64.wrap (IntKind.i64.wrap (s1.1.1 + s1.1.2.1))) (2 ^ (min (1 : Int).toNat (IntKind.u64.bits)))) : Int).toNat * 2) + 1) = some (.int .i64 x6) ∧ FnOk Tryz.prog pcmp_f ∧ HCalls
    Tryz.prog pcmp_f (pcmp_a.toList ++ [.agg #[.slice A5 n5 c5, .int .i64 x6], .agg #[.slice ptarget_0_A ptarget_0_n ptarget_0_c, .int .i64 ptarget_1]] ++ pcmp_c.toList) H2 fun v7 H8 => ∃ x9 : Int, v7 = .int .i64 x9 ∧ cnd
    (decide ((x9 : Int) < 0)) (J13 (IntKind.i64.wrap ((IntKind.i64.wrap (Int.fdiv (IntKind.u64.wrap (IntKind.i64.wrap (s1.1.1 + s1.1.2.1))) (2 ^ (min (1 : Int).toNat (IntKind.u64.bits))))) + 1)) s1.1.2.1 H8) (J13 s1.1.1
    (IntKind.i64.wrap (Int.fdiv (IntKind.u64.wrap (IntKind.i64.wrap (s1.1.1 + s1.1.2.1))) (2 ^ (min (1 : Int).toNat (IntKind.u64.bits))))) H8)) (jn (fun (j20 : Bool) (H21 : Hp) => Q (.tuple #[.int .i64 s1.1.1, .bool j20])
    H21) fun J22 => cnd (decide ((s1.1.1 : Int) < ((px_n : Nat) : Int))) (0 ≤ (s1.1.1 : Int) ∧ (s1.1.1 : Int) < ((px_n : Nat) : Int) ∧ onPtr px_A fun b14 o14 => ∃ (A15 : Option Addr) (n15 c15 : Nat), cl H2 b14 (o14 +
    (s1.1.1 : Int).toNat * 2) = some (.slice A15 n15 c15) ∧ ∃ x16 : Int, cl H2 b14 ((o14 + (s1.1.1 : Int).toNat * 2) + 1) = some (.int .i64 x16) ∧ FnOk Tryz.prog pcmp_f ∧ HCalls Tryz.prog pcmp_f (pcmp_a.toList ++ [.agg
    #[.slice A15 n15 c15, .int .i64 x16], .agg #[.slice ptarget_0_A ptarget_0_n ptarget_0_c, .int .i64 ptarget_1]] ++ pcmp_c.toList) H2 fun v17 H18 => ∃ x19 : Int, v17 = .int .i64 x19 ∧ J22 ((x19 : Int) == 0) H18) (J22
    false H2))
noncomputable def fcx50 : Cx := cx 49 [(4, true)] [(3, ⟨[0, 2, 4, 8], [4], [(9, .int .i64), (10, .int .i64)], []⟩)] [(5, (.look 0 (.look 1 (.look 2 (.look 3 (.look 4 (.look 5 (.act 6 (.look 7 .done) .done)))))))), (8, (.look 0 (.look 1 (.look 2 (.look 3 (.look 4 (.look 5 (.look 6 (.look 7 (.look 8 (.look 9 (.look 10 (.act 11 (.look 12 (.look 13 (.act 14 (.act 15 .done .done) .done))) .done)))))))))))))] []
theorem f50.eq (px_A : Option Addr) (px_n px_c : Nat) (ptarget_0_A : Option Addr) (ptarget_0_n ptarget_0_c : Nat) (ptarget_1 : Int) (pcmp_f : FuncId) (pcmp_a pcmp_c : Array Value) (H : Hp) (Q : Value → Hp → Prop) : f50 px_A px_n px_c ptarget_0_A ptarget_0_n ptarget_0_c ptarget_1 pcmp_f pcmp_a pcmp_c H Q = wFun fcx50 Tryz.f50 [.slice px_A px_n px_c, .agg #[.slice ptarget_0_A ptarget_0_n ptarget_0_c, .int .i64 ptarget_1], .func (.func pcmp_f) pcmp_a pcmp_c] H Q := by kernel_rfl
theorem f50.ok (px_A : Option Addr) (px_n px_c : Nat) (ptarget_0_A : Option Addr) (ptarget_0_n ptarget_0_c : Nat) (ptarget_1 : Int) (pcmp_f : FuncId) (pcmp_a pcmp_c : Array Value) {H : Hp} {Q : Value → Hp → Prop} (h : f50 px_A px_n px_c ptarget_0_A ptarget_0_n ptarget_0_c ptarget_1 pcmp_f pcmp_a pcmp_c H Q) : HCalls Tryz.prog 50 [.slice px_A px_n px_c, .agg #[.slice ptarget_0_A ptarget_0_n ptarget_0_c, .int .i64 ptarget_1], .func (.func pcmp_f) pcmp_a pcmp_c] H Q := hcalls_of (cxOk _ _ _ _ _) Tryz.func50 (Eq.mp (f50.eq px_A px_n px_c ptarget_0_A ptarget_0_n ptarget_0_c ptarget_1 pcmp_f pcmp_a pcmp_c H Q) h)

/-- justiciar justiciarlaw17.few -/
def f30 (pl_A : Option Addr) (pl_n pl_c : Nat) (H : Hp) (Q : Value → Hp → Prop) : Prop :=
  LoopF (σ := (Int × (Int × Unit)) × Unit) ((((pl_n : Nat) : Int), (0, ())), ()) H fun s1 H2 next3 => cnd (decide ((s1.1.2.1 : Int) < ((pl_n : Nat) : Int))) (0 ≤ (s1.1.2.1 : Int) ∧ (s1.1.2.1 : Int) < ((pl_n : Nat) : Int) ∧
    onPtr pl_A fun b4 o4 => ∃ (A5 : Option Addr) (n5 c5 : Nat), cl H2 b4 (o4 + (s1.1.2.1 : Int).toNat * 2) = some (.slice A5 n5 c5) ∧ ∃ x6 : Int, cl H2 b4 ((o4 + (s1.1.2.1 : Int).toNat * 2) + 1) = some (.int .i64 x6) ∧
    cnd (decide ((IntKind.i64.wrap (s1.1.1 + ((n5 : Nat) : Int)) : Int) > 2500)) (Q (.bool false) H2) (KeepX [some (.v (.slice pl_A pl_n pl_c)), some (.v (.int .i64 ((pl_n : Nat) : Int)))] [] ∧ next3 ((IntKind.i64.wrap
    (s1.1.1 + ((n5 : Nat) : Int)), (IntKind.i64.wrap (s1.1.2.1 + 1), ())), ()) H2)) (Q (.bool (decide ((s1.1.1 : Int) ≤ 2500))) H2)
noncomputable def fcx30 : Cx := cx 24 [(5, true)] [(3, ⟨[8, 9], [], [(3, .int .i64), (10, .int .i64)], []⟩)] [] []
theorem f30.eq (pl_A : Option Addr) (pl_n pl_c : Nat) (H : Hp) (Q : Value → Hp → Prop) : f30 pl_A pl_n pl_c H Q = wFun fcx30 Tryz.f30 [.slice pl_A pl_n pl_c] H Q := by kernel_rfl
theorem f30.ok (pl_A : Option Addr) (pl_n pl_c : Nat) {H : Hp} {Q : Value → Hp → Prop} (h : f30 pl_A pl_n pl_c H Q) : HCalls Tryz.prog 30 [.slice pl_A pl_n pl_c] H Q := hcalls_of (cxOk _ _ _ _ _) Tryz.func30 (Eq.mp (f30.eq pl_A pl_n pl_c H Q) h)

/-- justiciar justiciarref17.Put -/
def f57 (pl_A : Option Addr) (pl_n pl_c : Nat) (pe_0_A : Option Addr) (pe_0_n pe_0_c : Nat) (pe_1 : Int) (H : Hp) (Q : Value → Hp → Prop) : Prop :=
  LoopF (σ := (Int × Unit) × Unit) ((((pl_n : Nat) : Int), ()), ()) H fun s1 H2 next3 => jn (fun (j10 : Bool) (H11 : Hp) => cnd j10 (KeepX [some (.v (.slice pl_A pl_n pl_c)), some (.loc 3 0)] [some (true, [.slice pe_0_A
    pe_0_n pe_0_c, .int .i64 pe_1])] ∧ next3 ((IntKind.i64.wrap (s1.1.1 - 1), ()), ()) H11) (jn (fun (j19 : Bool) (H20 : Hp) => cnd j19 (Q (.tuple #[.slice pl_A pl_n pl_c, .bool false]) H20) (0 ≤ (s1.1.1 : Int) ∧ (s1.1.1
    : Int) ≤ ((pl_c : Nat) : Int) ∧ 0 ≤ (s1.1.1 : Int) ∧ (s1.1.1 : Int) ≤ (s1.1.1 : Int) ∧ 0 ≤ (s1.1.1 : Int) ∧ (s1.1.1 : Int) ≤ ((pl_n : Nat) : Int) ∧ newF H20 46 [.slice pe_0_A pe_0_n pe_0_c, .int .i64 pe_1] fun g22 H23
    => appendF H23 46 2 32 (some ⟨g22, 0, none⟩) 1 1 (cutA pl_A (((s1.1.1 : Int).toNat) * 2) (decide (pl_c = ((s1.1.1 : Int).toNat)))) (pl_n - ((s1.1.1 : Int).toNat)) fun A24 n24 c24 H25 => appendF H25 46 2 32 (cutA pl_A
    (0 * 2) (decide (((s1.1.1 : Int).toNat) = 0))) (((s1.1.1 : Int).toNat) - 0) (((s1.1.1 : Int).toNat) - 0) A24 n24 fun A26 n26 c26 H27 => Q (.tuple #[.slice A26 n26 c26, .bool true]) H27)) fun J21 => cnd (decide
    ((s1.1.1 : Int) < ((pl_n : Nat) : Int))) (0 ≤ (s1.1.1 : Int) ∧ (s1.1.1 : Int) < ((pl_n : Nat) : Int) ∧ onPtr pl_A fun b13 o13 => ∃ (A14 : Option Addr) (n14 c14 : Nat), cl H11 b13 (o13 + (s1.1.1 : Int).toNat * 2) =
    some (.slice A14 n14 c14) ∧ ∃ x15 : Int, cl H11 b13 ((o13 + (s1.1.1 : Int).toNat * 2) + 1) = some (.int .i64 x15) ∧ HCalls Tryz.prog 59 [.agg #[.slice A14 n14 c14, .int .i64 x15], .agg #[.slice pe_0_A pe_0_n pe_0_c,
    .int .i64 pe_1]] H11 fun v16 H17 => ∃ x18 : Int, v16 = .int .i64 x18 ∧ J21 ((x18 : Int) == 0) H17) (J21 false H11))) fun J12 => cnd (decide ((s1.1.1 : Int) > 0)) (0 ≤ (IntKind.i64.wrap (s1.1.1 - 1) : Int) ∧
    (IntKind.i64.wrap (s1.1.1 - 1) : Int) < ((pl_n : Nat) : Int) ∧ onPtr pl_A fun b4 o4 => ∃ (A5 : Option Addr) (n5 c5 : Nat), cl H2 b4 (o4 + (IntKind.i64.wrap (s1.1.1 - 1) : Int).toNat * 2) = some (.slice A5 n5 c5) ∧ ∃
    x6 : Int, cl H2 b4 ((o4 + (IntKind.i64.wrap (s1.1.1 - 1) : Int).toNat * 2) + 1) = some (.int .i64 x6) ∧ HCalls Tryz.prog 59 [.agg #[.slice A5 n5 c5, .int .i64 x6], .agg #[.slice pe_0_A pe_0_n pe_0_c, .int .i64 pe_1]]
    H2 fun v7 H8 => ∃ x9 : Int, v7 = .int .i64 x9 ∧ J12 (decide ((x9 : Int) ≥ 0)) H8) (J12 false H2)
noncomputable def fcx57 : Cx := cx 48 [(3, true)] [(2, ⟨[0, 3], [3], [(6, .int .i64)], []⟩)] [(2, (.look 0 (.look 1 (.look 2 (.look 3 (.look 4 (.look 5 (.look 6 (.look 7 (.look 8 (.act 9 (.look 10 (.look 11 .done)) .done))))))))))), (4, (.look 0 (.look 1 (.look 2 (.look 3 (.look 4 (.look 5 (.look 6 (.look 7 (.look 8 (.look 9 (.act 10 (.look 11 (.look 12 .done)) .done)))))))))))), (6, (.look 0 (.look 1 (.look 2 (.look 3 (.look 4 (.look 6 (.look 7 (.look 8 (.act 5 (.act 9 (.act 10 (.act 11 (.act 12 .done .done) .done) .done) .done) .done))))))))))] []
theorem f57.eq (pl_A : Option Addr) (pl_n pl_c : Nat) (pe_0_A : Option Addr) (pe_0_n pe_0_c : Nat) (pe_1 : Int) (H : Hp) (Q : Value → Hp → Prop) : f57 pl_A pl_n pl_c pe_0_A pe_0_n pe_0_c pe_1 H Q = wFun fcx57 Tryz.f57 [.slice pl_A pl_n pl_c, .agg #[.slice pe_0_A pe_0_n pe_0_c, .int .i64 pe_1]] H Q := by kernel_rfl
theorem f57.ok (pl_A : Option Addr) (pl_n pl_c : Nat) (pe_0_A : Option Addr) (pe_0_n pe_0_c : Nat) (pe_1 : Int) {H : Hp} {Q : Value → Hp → Prop} (h : f57 pl_A pl_n pl_c pe_0_A pe_0_n pe_0_c pe_1 H Q) : HCalls Tryz.prog 57 [.slice pl_A pl_n pl_c, .agg #[.slice pe_0_A pe_0_n pe_0_c, .int .i64 pe_1]] H Q := hcalls_of (cxOk _ _ _ _ _) Tryz.func57 (Eq.mp (f57.eq pl_A pl_n pl_c pe_0_A pe_0_n pe_0_c pe_1 H Q) h)

/-- justiciar justiciarref17.Inserted -/
def f26 (pt_0_A : Option Addr) (pt_0_n pt_0_c : Nat) (pt_1 : Int) (pt_2 : Int) (pe_0_A : Option Addr) (pe_0_n pe_0_c : Nat) (pe_1 : Int) (H : Hp) (Q : Value → Hp → Prop) : Prop :=
  HCalls Tryz.prog 38 [.agg #[.slice pt_0_A pt_0_n pt_0_c, .int .i64 pt_1, .int .i64 pt_2]] H fun v1 H2 => ∃ (A3 : Option Addr) (n3 c3 : Nat), ∃ x4 : Int, ∃ x5 : Bool, v1 = .tuple #[.slice A3 n3 c3, .int .i64 x4, .bool x5]
    ∧ jn (fun (j9 : Bool) (H10 : Hp) => cnd j9 (Q (.tuple #[.slice none 0 0, .int .i64 2]) H10) (HCalls Tryz.prog 57 [.slice A3 n3 c3, .agg #[.slice pe_0_A pe_0_n pe_0_c, .int .i64 pe_1]] H10 fun v12 H13 => ∃ (A14 :
    Option Addr) (n14 c14 : Nat), ∃ x15 : Bool, v12 = .tuple #[.slice A14 n14 c14, .bool x15] ∧ cnd (!x15) (Q (.tuple #[.slice none 0 0, .int .i64 14]) H13) (cnd (decide ((((n3 : Nat) : Int) : Int) ≥ 4000)) (Q (.tuple
    #[.slice none 0 0, .int .i64 3]) H13) (Q (.tuple #[.slice A14 n14 c14, .int .i64 0]) H13)))) fun J11 => cnd (!x5) (J11 true H2) (HCalls Tryz.prog 56 [.int .i64 pt_2, .agg #[.slice pe_0_A pe_0_n pe_0_c, .int .i64
    pe_1]] H2 fun v6 H7 => ∃ x8 : Bool, v6 = .bool x8 ∧ J11 (!x8) H7)
/-- justiciar justiciarref17.Deleted -/
def f29 (pt_0_A : Option Addr) (pt_0_n pt_0_c : Nat) (pt_1 : Int) (pt_2 : Int) (pe_0_A : Option Addr) (pe_0_n pe_0_c : Nat) (pe_1 : Int) (H : Hp) (Q : Value → Hp → Prop) : Prop :=
  HCalls Tryz.prog 38 [.agg #[.slice pt_0_A pt_0_n pt_0_c, .int .i64 pt_1, .int .i64 pt_2]] H fun v1 H2 => ∃ (A3 : Option Addr) (n3 c3 : Nat), ∃ x4 : Int, ∃ x5 : Bool, v1 = .tuple #[.slice A3 n3 c3, .int .i64 x4, .bool x5]
    ∧ jn (fun (j9 : Bool) (H10 : Hp) => cnd j9 (Q (.tuple #[.slice none 0 0, .int .i64 2]) H10) (LoopF (σ := (Int × Unit) × Unit) ((0, ()), ()) H10 fun s12 H13 next14 => cnd (decide ((s12.1.1 : Int) < ((n3 : Nat) : Int)))
    (0 ≤ (s12.1.1 : Int) ∧ (s12.1.1 : Int) < ((n3 : Nat) : Int) ∧ onPtr A3 fun b15 o15 => ∃ (A16 : Option Addr) (n16 c16 : Nat), cl H13 b15 (o15 + (s12.1.1 : Int).toNat * 2) = some (.slice A16 n16 c16) ∧ ∃ x17 : Int, cl
    H13 b15 ((o15 + (s12.1.1 : Int).toNat * 2) + 1) = some (.int .i64 x17) ∧ HCalls Tryz.prog 59 [.agg #[.slice A16 n16 c16, .int .i64 x17], .agg #[.slice pe_0_A pe_0_n pe_0_c, .int .i64 pe_1]] H13 fun v18 H19 => ∃ x20 :
    Int, v18 = .int .i64 x20 ∧ cnd ((x20 : Int) == 0) (0 ≤ (s12.1.1 : Int) ∧ (s12.1.1 : Int) ≤ ((c3 : Nat) : Int) ∧ 0 ≤ (s12.1.1 : Int) ∧ (s12.1.1 : Int) ≤ (s12.1.1 : Int) ∧ 0 ≤ (IntKind.i64.wrap (s12.1.1 + 1) : Int) ∧
    (IntKind.i64.wrap (s12.1.1 + 1) : Int) ≤ ((n3 : Nat) : Int) ∧ appendF H19 46 2 32 (cutA A3 (0 * 2) (decide (((s12.1.1 : Int).toNat) = 0))) (((s12.1.1 : Int).toNat) - 0) (((s12.1.1 : Int).toNat) - 0) (cutA A3
    (((IntKind.i64.wrap (s12.1.1 + 1) : Int).toNat) * 2) (decide (c3 = ((IntKind.i64.wrap (s12.1.1 + 1) : Int).toNat)))) (n3 - ((IntKind.i64.wrap (s12.1.1 + 1) : Int).toNat)) fun A21 n21 c21 H22 => Q (.tuple #[.slice A21
    n21 c21, .int .i64 0]) H22) (KeepX [some (.loc 3 0), some (.v (.slice A3 n3 c3)), some (.v (.slice A3 n3 c3)), some (.v (.int .i64 ((n3 : Nat) : Int)))] [some (true, [.slice pe_0_A pe_0_n pe_0_c, .int .i64 pe_1])] ∧
    next14 ((IntKind.i64.wrap (s12.1.1 + 1), ()), ()) H19)) (Q (.tuple #[.slice none 0 0, .int .i64 4]) H13))) fun J11 => cnd (!x5) (J11 true H2) (HCalls Tryz.prog 56 [.int .i64 pt_2, .agg #[.slice pe_0_A pe_0_n pe_0_c,
    .int .i64 pe_1]] H2 fun v6 H7 => ∃ x8 : Bool, v6 = .bool x8 ∧ J11 (!x8) H7)
/-- justiciar justiciarlaw17.fits -/
def f27 (pt_0_A : Option Addr) (pt_0_n pt_0_c : Nat) (pt_1 : Int) (pt_2 : Int) (pl_A : Option Addr) (pl_n pl_c : Nat) (pcols : Int) (pe : Int) (H : Hp) (Q : Value → Hp → Prop) : Prop :=
  cnd ((pe : Int) != 0) (jn (fun (j1 : Bool) => Q (.bool j1) H) fun J2 => cnd ((((pt_0_n : Nat) : Int) : Int) == 0) (cnd ((pt_2 : Int) == 0) (J2 ((pt_1 : Int) == 0)) (J2 false)) (J2 false)) (HCalls Tryz.prog 12 [.agg
    #[.slice pt_0_A pt_0_n pt_0_c, .int .i64 pt_1, .int .i64 pt_2]] H fun v3 H4 => ∃ (A5 : Option Addr) (n5 c5 : Nat), ∃ x6 : Int, v3 = .tuple #[.slice A5 n5 c5, .int .i64 x6] ∧ jn (fun (j10 : Bool) (H11 : Hp) => Q (.bool
    j10) H11) fun J12 => cnd ((x6 : Int) == 0) (cnd ((pt_2 : Int) == pcols) (HCalls Tryz.prog 15 [.slice pl_A pl_n pl_c, .slice A5 n5 c5] H4 fun v7 H8 => ∃ x9 : Bool, v7 = .bool x9 ∧ J12 x9 H8) (J12 false H4)) (J12 false
    H4))
noncomputable def fcx27 : Cx := cx 45 [(4, true)] [] [] []
theorem f27.eq (pt_0_A : Option Addr) (pt_0_n pt_0_c : Nat) (pt_1 : Int) (pt_2 : Int) (pl_A : Option Addr) (pl_n pl_c : Nat) (pcols : Int) (pe : Int) (H : Hp) (Q : Value → Hp → Prop) : f27 pt_0_A pt_0_n pt_0_c pt_1 pt_2 pl_A pl_n pl_c pcols pe H Q = wFun fcx27 Tryz.f27 [.agg #[.slice pt_0_A pt_0_n pt_0_c, .int .i64 pt_1, .int .i64 pt_2], .slice pl_A pl_n pl_c, .int .i64 pcols, .int .i64 pe] H Q := by kernel_rfl
theorem f27.ok (pt_0_A : Option Addr) (pt_0_n pt_0_c : Nat) (pt_1 : Int) (pt_2 : Int) (pl_A : Option Addr) (pl_n pl_c : Nat) (pcols : Int) (pe : Int) {H : Hp} {Q : Value → Hp → Prop} (h : f27 pt_0_A pt_0_n pt_0_c pt_1 pt_2 pl_A pl_n pl_c pcols pe H Q) : HCalls Tryz.prog 27 [.agg #[.slice pt_0_A pt_0_n pt_0_c, .int .i64 pt_1, .int .i64 pt_2], .slice pl_A pl_n pl_c, .int .i64 pcols, .int .i64 pe] H Q := hcalls_of (cxOk _ _ _ _ _) Tryz.func27 (Eq.mp (f27.eq pt_0_A pt_0_n pt_0_c pt_1 pt_2 pl_A pl_n pl_c pcols pe H Q) h)

/-- justiciar justiciarref17.Made -/
def f32 (pcols : Int) (pl_A : Option Addr) (pl_n pl_c : Nat) (H : Hp) (Q : Value → Hp → Prop) : Prop :=
  jn (fun (j1 : Bool) => cnd j1 (Q (.tuple #[.slice none 0 0, .int .i64 2]) H) (LoopF (σ := (Int × Unit) × Unit) ((0, ()), ()) H fun s3 H4 next5 => cnd (decide ((s3.1.1 : Int) < ((pl_n : Nat) : Int))) (0 ≤ (s3.1.1 : Int) ∧
    (s3.1.1 : Int) < ((pl_n : Nat) : Int) ∧ onPtr pl_A fun b6 o6 => ∃ (A7 : Option Addr) (n7 c7 : Nat), cl H4 b6 (o6 + (s3.1.1 : Int).toNat * 2) = some (.slice A7 n7 c7) ∧ ∃ x8 : Int, cl H4 b6 ((o6 + (s3.1.1 : Int).toNat
    * 2) + 1) = some (.int .i64 x8) ∧ HCalls Tryz.prog 56 [.int .i64 pcols, .agg #[.slice A7 n7 c7, .int .i64 x8]] H4 fun v9 H10 => ∃ x11 : Bool, v9 = .bool x11 ∧ cnd (!x11) (Q (.tuple #[.slice none 0 0, .int .i64 2])
    H10) (KeepX [some (.v (.int .i64 pcols)), some (.v (.slice pl_A pl_n pl_c)), some (.v (.slice pl_A pl_n pl_c)), some (.v (.int .i64 ((pl_n : Nat) : Int)))] [] ∧ next5 ((IntKind.i64.wrap (s3.1.1 + 1), ()), ()) H10))
    (LoopF (σ := ((Option Addr × Nat × Nat) × (Int × Unit)) × Unit) (((none, 0, 0), (0, ())), ()) H4 fun s12 H13 next14 => cnd (decide ((s12.1.2.1 : Int) < ((pl_n : Nat) : Int))) (0 ≤ (s12.1.2.1 : Int) ∧ (s12.1.2.1 : Int)
    < ((pl_n : Nat) : Int) ∧ onPtr pl_A fun b15 o15 => ∃ (A16 : Option Addr) (n16 c16 : Nat), cl H13 b15 (o15 + (s12.1.2.1 : Int).toNat * 2) = some (.slice A16 n16 c16) ∧ ∃ x17 : Int, cl H13 b15 ((o15 + (s12.1.2.1 :
    Int).toNat * 2) + 1) = some (.int .i64 x17) ∧ HCalls Tryz.prog 57 [.slice s12.1.1.1 s12.1.1.2.1 s12.1.1.2.2, .agg #[.slice A16 n16 c16, .int .i64 x17]] H13 fun v18 H19 => ∃ (A20 : Option Addr) (n20 c20 : Nat), ∃ x21 :
    Bool, v18 = .tuple #[.slice A20 n20 c20, .bool x21] ∧ cnd (!x21) (Q (.tuple #[.slice none 0 0, .int .i64 14]) H19) (KeepX [some (.v (.slice pl_A pl_n pl_c)), some (.v (.slice pl_A pl_n pl_c)), some (.v (.int .i64
    ((pl_n : Nat) : Int)))] [] ∧ next14 (((A20, n20, c20), (IntKind.i64.wrap (s12.1.2.1 + 1), ())), ()) H19)) (cnd (decide ((((pl_n : Nat) : Int) : Int) > 4000)) (Q (.tuple #[.slice none 0 0, .int .i64 3]) H13) (Q (.tuple
    #[.slice s12.1.1.1 s12.1.1.2.1 s12.1.1.2.2, .int .i64 0]) H13))))) fun J2 => cnd (decide ((pcols : Int) < 1)) (J2 true) (J2 (decide ((pcols : Int) > 20)))
noncomputable def fcx32 : Cx := cx 50 [(7, true), (10, true)] [(4, ⟨[0, 1, 19, 20], [], [(21, .int .i64)], []⟩), (11, ⟨[1, 30, 31], [], [(8, .slice), (32, .int .i64)], []⟩)] [] []
theorem f32.eq (pcols : Int) (pl_A : Option Addr) (pl_n pl_c : Nat) (H : Hp) (Q : Value → Hp → Prop) : f32 pcols pl_A pl_n pl_c H Q = wFun fcx32 Tryz.f32 [.int .i64 pcols, .slice pl_A pl_n pl_c] H Q := by kernel_rfl
theorem f32.ok (pcols : Int) (pl_A : Option Addr) (pl_n pl_c : Nat) {H : Hp} {Q : Value → Hp → Prop} (h : f32 pcols pl_A pl_n pl_c H Q) : HCalls Tryz.prog 32 [.int .i64 pcols, .slice pl_A pl_n pl_c] H Q := hcalls_of (cxOk _ _ _ _ _) Tryz.func32 (Eq.mp (f32.eq pcols pl_A pl_n pl_c H Q) h)

end Go.Proofs.YtmelbipidffmpaaGreatDoor.Hw

/- Trees of blocks: what is a good tree; the program's check and the document's. -/
set_option linter.unusedVariables false
set_option linter.unusedSimpArgs false
set_option linter.unusedSectionVars false
set_option maxRecDepth 20000
namespace Go.Proofs.YtmelbipidffmpaaGreatDoor.Hw
open Go Go.Proofs
def entB (cols : Int) (e : EnM) : Bool := (((e.key.length : Nat) : Int) == cols) && (validL e.key && idB e.id)
def ordE (a b : EnM) : Int := orI (ordL a.key b.key) (cmpI a.id b.id)
def okAt (cols : Int) (l : List EnM) (i : Nat) : Bool := match l[i]? with
  | none => true
  | some e => entB cols e && (if i = 0 then true else match l[i - 1]? with
    | none => true
    | some p => decide (ordE p e < 0))
def goodE (cols : Int) (l : List EnM) : Bool := (List.range l.length).all (okAt cols l)
def Shape (n : Nat) (cols : Int) : Prop := 1 ≤ cols ∧ cols ≤ 20 ∧ 1 ≤ n ∧ n ≤ 2000
instance (n : Nat) (cols : Int) : Decidable (Shape n cols) := by unfold Shape; exact inferInstance
def start (n : Nat) : Sv := ⟨List.replicate n false, 0, []⟩
def treeV (bl : List NdM) (root cols : Int) : Option Sv :=
  if Shape bl.length cols then match visit bl root (bl.length + 1) (start bl.length) root 1 with
    | none => none
    | some S => if (S.seen.all id && goodE cols S.out) = true then some S else none
  else none
theorem range_succ_all {p : Nat → Bool} {i : Nat} : (List.range (i + 1)).all p = ((List.range i).all p && p i) := by rw [List.range_succ]; simp
theorem range_all_miss {p : Nat → Bool} {i n : Nat} (h : i < n) (hp : p i = false) : (List.range n).all p = false := by
  cases hh : (List.range n).all p with
  | false => rfl
  | true => have := List.all_eq_true.1 hh i (List.mem_range.2 h); rw [hp] at this; cases this
theorem kids_all {P : EnM → Prop} {f : Sv → Int → Option Sv} (hf : ∀ S k S', f S k = some S' → (∀ e ∈ S.out, P e) → ∀ e ∈ S'.out, P e) : ∀ {ks : List Int} {es : List EnM} {S S' : Sv}, kidsV f ks es S = some S' → (∀ e ∈ es, P e) → (∀ e ∈ S.out, P e) → ∀ e ∈ S'.out, P e
  | [], es, S, S', h, _, hS => by cases h; exact hS
  | k :: ks, es, S, S', h, he, hS => by
    unfold kidsV at h
    cases hv : f S k with
    | none => rw [hv] at h; cases h
    | some T =>
      rw [hv] at h
      have hT := hf S k T hv hS
      cases es with
      | nil => exact kids_all hf h he hT
      | cons e es =>
        refine kids_all hf h (fun e' h' => he e' (List.mem_cons_of_mem _ h')) fun e' h' => ?_
        rcases List.mem_append.1 h' with h' | h'
        · exact hT e' h'
        · obtain rfl := List.mem_singleton.1 h'
          exact he _ (List.mem_cons_self ..)
theorem visit_all {P : EnM → Prop} {bl : List NdM} {root : Int} (hb : ∀ b ∈ bl, ∀ e ∈ b.es, P e) : ∀ {m : Nat} {S S' : Sv} {i d : Int}, visit bl root m S i d = some S' → (∀ e ∈ S.out, P e) → ∀ e ∈ S'.out, P e
  | 0, S, S', i, d, h, _ => by cases h
  | m + 1, S, S', i, d, h, hS => by
    unfold visit at h
    split at h
    · cases h
    · split at h
      · rename_i b hbi hs
        have hm := List.mem_of_getElem? hbi
        split at h
        · split at h
          · cases h
            intro e he
            rcases List.mem_append.1 he with he | he
            · exact hS e he
            · exact hb _ hm e he
          · cases h
        · split at h
          · exact kids_all (fun S k S' hv => visit_all hb hv) h (hb _ hm) hS
          · cases h
      · cases h
theorem unseen_start {n : Nat} : unseen (start n).seen = n := by
  show ((List.replicate n false).filter _).length = n
  simp
section
variable {H0 H : Hp} {g gs ty : Nat} {A oA : Option Addr} {n c oc : Nat} {root cols : Int} {S : Sv} {ok : Bool} {Q : Value → Hp → Prop} {bl : List NdM}
theorem outAt (W : WkAt H0 g gs ty A n c root cols H S oA oc ok) (h : S.out.length < huge) : SlAt enC H oA S.out.length S.out := ⟨rfl, W.out.cells, h⟩
theorem seenAt (W : WkAt H0 g gs ty A n c root cols H S oA oc ok) (h : n < big) : SlAt (fun b => [Value.bool b]) H (some ⟨gs, 0, none⟩) S.seen.length S.seen :=
  ⟨rfl, .inr ⟨gs, 0, rfl, fun j v hj => by
    rw [cl_cells W.seen, Nat.zero_add]
    rw [← hj]
    congr 1
    induction S.seen with
    | nil => rfl
    | cons a r ih => simp [ih]⟩, by have := W.num; unfold big at h; unfold huge; omega⟩
theorem rd_b {H : Hp} {A : Option Addr} {n : Nat} {l : List Bool} {i : Nat} {x : Bool} (h : SlAt (fun b => [Value.bool b]) H A n l) (hi : l[i]? = some x) {K : Nat → Nat → Prop}
    (hk : ∀ p o, A = some ⟨p, o, none⟩ → cl H p (o + i) = some (.bool x) → K p o) : onPtr A K := by
  have hlen : ∀ x ∈ l, ((fun b => [Value.bool b]) x).length = 1 := fun x _ => rfl
  have hne : l ≠ [] := fun e => by subst e; simp at hi
  refine at_cells h.cells (flat_ne hlen (by omega) hne) fun p o hA hc => hk p o hA ?_
  have := hc (i * 1 + 0) _ (flat_get hlen hi (by omega))
  rw [Nat.mul_one, Nat.add_zero] at this
  exact this
theorem c89 {l : List Bool} (hA : SlAt (fun b => [Value.bool b]) H A n l) (hq : ∀ r : Int, decide (r ≥ 0) = !l.all id → Q (.int .i64 r) H) : HCalls Tryz.prog 89 [.slice A n c, .bool false] H Q := by
  refine f89.ok _ _ _ _ ?_
  unfold f89
  obtain rfl := hA.len
  refine scan hA.lt (fun i H' => H' = H ∧ (l.take i).all id = true) ⟨rfl, by simp⟩ (fun i H2 next hi hI hnext => ?_) (fun H2 next hI => ?_)
  · obtain ⟨rfl, hall⟩ := hI
    obtain ⟨x, hx⟩ := get_of hi
    dsimp only
    refine cndT (decide_eq_true (by omega)) ⟨by omega, by omega, rd_b hA hx fun q o _ kc => ⟨x, by simpa using kc, ?_⟩⟩
    cases x with
    | false =>
      refine cndT rfl (hq _ ?_)
      rw [all_miss hx rfl, decide_eq_true (by omega)]; rfl
    | true => exact cndF rfl ⟨rfl, hnext H2 ⟨rfl, by rw [all_take_succ hx, hall]; rfl⟩⟩
  · obtain ⟨rfl, hall⟩ := hI
    rw [List.take_length] at hall
    dsimp only
    refine cndF (decide_eq_false (by omega)) (hq _ ?_)
    rw [hall]; rfl
theorem c65 {l : List Bool} (hA : SlAt (fun b => [Value.bool b]) H A n l) (hq : Q (.bool (!l.all id)) H) : HCalls Tryz.prog 65 [.slice A n c, .bool false] H Q := by
  refine f65.ok _ _ _ _ ?_
  unfold f65
  exact c89 hA fun r hr => ⟨r, rfl, by rw [hr]; exact hq⟩
theorem c49 {e : EnM} (N : NullAt H) (hK : KeyAt H e) (hq : Q (.bool (entB cols e)) H) : HCalls Tryz.prog 49 [enA e, .int .i64 cols] H Q := by
  refine f49.ok _ _ _ _ _ ?_
  unfold f49
  unfold entB at hq
  refine jn_intro (fun J => J ((((e.key.length : Nat) : Int) == cols) && (validL e.key && idB e.id)) H) hq fun J hJ => cndI (fun h => c40 N hK.sl ⟨_, rfl, cndI (fun h2 => c75 ⟨_, rfl, ?_⟩) fun h2 => ?_⟩) fun h => ?_
  · have h : (((e.key.length : Nat) : Int) == cols) = true := h
    rw [h, h2] at hJ; exact hJ
  · have h : (((e.key.length : Nat) : Int) == cols) = true := h
    rw [h, h2] at hJ; exact hJ
  · have h : (((e.key.length : Nat) : Int) == cols) = false := h
    rw [h] at hJ; exact hJ
theorem c51 {a b : EnM} (ha : KeyAt H a) (hb : KeyAt H b) (hq : ∀ H', Ext H H' → Q (.int .i64 (ordE a b)) H') : HCalls Tryz.prog 51 [enA a, enA b] H Q := by
  refine f51.ok _ _ _ _ _ _ _ _ ?_
  unfold f51
  refine c41 ha.sl hb.sl fun H2 x2 => ⟨_, rfl, c77 ⟨_, rfl, fun g7 hg7 => ?_⟩⟩
  have s := fresh_sl (H := H2) (g := g7) (ty := 3) (f := inC) (l := [ordL a.key b.key, cmpI a.id b.id]) (vs := [Value.int .i64 (ordL a.key b.key), .int .i64 (cmpI a.id b.id)]) rfl (by simp [huge])
  refine c76 s ⟨_, rfl, ?_⟩
  rw [orL_two]
  exact hq _ (x2.trans (Ext.new hg7))
theorem c56 {e : EnM} (hK : KeyAt H e) (hc : cols ≤ 20) (hq : Q (.bool (entB cols e)) H) : HCalls Tryz.prog 56 [.int .i64 cols, enA e] H Q := by
  refine f56.ok _ _ _ _ _ ?_
  unfold f56
  unfold entB at hq
  refine jn_intro (fun J => J ((((e.key.length : Nat) : Int) == cols) && (validL e.key && idB e.id)) H) hq fun J hJ => cndI (fun h => c73 hK.tx hK.sl ⟨_, rfl, ?_⟩) fun h => ?_
  · have h : (((e.key.length : Nat) : Int) == cols) = true := h
    have h' := beq_iff_eq.1 h
    have hr : rowB' e.key = validL e.key := by unfold rowB'; rw [decide_eq_true (by omega)]; rfl
    rw [hr]
    rw [h, Bool.true_and] at hJ
    unfold idB at hJ
    refine cndI (fun h2 => cndI (fun h3 => ?_) fun h3 => ?_) fun h2 => ?_
    · rw [h2, h3] at hJ; exact hJ
    · rw [h2, h3] at hJ; exact hJ
    · rw [h2] at hJ; exact hJ
  · have h : (((e.key.length : Nat) : Int) == cols) = false := h
    rw [h] at hJ; exact hJ
theorem c59 {a b : EnM} (ha : KeyAt H a) (hb : KeyAt H b) (va : entB cols a = true) (vb : entB cols b = true) (hq : Q (.int .i64 (ordE a b)) H) : HCalls Tryz.prog 59 [enA a, enA b] H Q := by
  refine f59.ok _ _ _ _ _ _ _ _ ?_
  unfold f59
  unfold entB at va vb
  simp only [Bool.and_eq_true, beq_iff_eq] at va vb
  have hk := key_ord va.2.1 vb.2.1 (by omega)
  unfold ordE orI at hq
  refine c44 ha.sl hb.sl ha.tx hb.tx ⟨_, rfl, ?_⟩
  rw [hk]
  refine cndI (fun h => ?_) fun h => ?_
  · have h : ordL a.key b.key ≠ 0 := by simpa using h
    rw [if_neg (by simpa using h)] at hq; exact hq
  · have h : ordL a.key b.key = 0 := by simpa using h
    rw [h] at hq
    unfold cmpI at hq
    simp only [beq_self_eq_true, if_true] at hq
    refine cndI (fun h1 => ?_) fun h1 => cndI (fun h2 => ?_) fun h2 => ?_
    · have := of_decide_eq_true h1
      rw [if_pos this] at hq; exact hq
    · have := of_decide_eq_false h1
      have h2 := of_decide_eq_true h2
      rw [if_neg this, if_pos h2] at hq; exact hq
    · have := of_decide_eq_false h1
      have h2 := of_decide_eq_false h2
      rw [if_neg this, if_neg h2] at hq; exact hq
/-- A walker at its start. -/
theorem wk_start (hT : TrAt H A n bl) (hg3 : H gs = none) (hg5 : upd gs (.cells (List.replicate n [Value.bool false]).flatten.toArray 4 (0, 0)) H g = none) :
    WkAt H g gs ty A n c root cols (upd g (.cells [.slice A n c, .int .i64 root, .int .i64 cols, .slice (some ⟨gs, 0, none⟩) n n, .int .i64 0, .slice none 0 0, .bool true].toArray ty (0, 0)) (upd gs (.cells (List.replicate n [Value.bool false]).flatten.toArray 4 (0, 0)) H)) (start bl.length) none 0 true := by
  have hn := hT.sl.len
  have hne : g ≠ gs := fun e => by subst e; rw [upd_at] at hg5; cases hg5
  have h0 : H g = none := by rw [upd_off hne] at hg5; exact hg5
  refine ⟨(Ext.new hg3).trans (Ext.new hg5), ?_, ?_, Row.nil, h0, hg3, hne, fun ⟨o, q, h⟩ => (by cases h), fun ⟨o, q, h⟩ => (by cases h), by simp [start, hn]⟩
  · rw [upd_at]
    show _ = some (Obj.cells (wkC A n c root cols gs (List.replicate bl.length false).length 0 none 0 0 true).toArray ty (0, 0))
    rw [List.length_replicate, ← hn]; rfl
  · rw [upd_off hne.symm, upd_at]
    congr 3
    show _ = (List.replicate bl.length false).map Value.bool
    rw [← hn, List.map_replicate]
    induction n with
    | zero => rfl
    | succ n ih => simp [List.replicate_succ]
theorem c36 (N : NullAt H) (hT : TrAt H A n bl) (hF : Fewish bl)
    (h0 : treeV bl root cols = none → ∀ H', Ext H H' → Q (.tuple #[.pointer none, .bool false]) H')
    (h1 : ∀ S, treeV bl root cols = some S → S.out.length ≤ 800000 → (∀ e ∈ S.out, KeyAt H e) → ∀ g gs oA oc H', WkAt H g gs 70 A n c root cols H' S oA oc true → Q (.tuple #[.pointer (some ⟨g, 0, none⟩), .bool true]) H') :
    HCalls Tryz.prog 36 [.agg #[.slice A n c, .int .i64 root, .int .i64 cols]] H Q := by
  refine f36.ok _ _ _ _ _ ?_
  unfold f36
  have hn := hT.sl.len
  refine jn_intro (fun J => (¬ Shape bl.length cols → J true) ∧ (Shape bl.length cols → J false)) ⟨fun hs => cndT rfl (h0 (by unfold treeV; rw [if_neg hs]) H (Ext.refl _)), fun hs => cndF rfl ?_⟩ fun J hJ => ?_
  rotate_left
  · unfold Shape at hJ
    refine cndI (fun h => hJ.1 ?_) fun h => cndI (fun h2 => hJ.1 ?_) fun h2 => cndI (fun h3 => hJ.1 ?_) fun h3 => ?_
    · have := of_decide_eq_true h; omega
    · have := of_decide_eq_true h2; omega
    · have := of_decide_eq_true h3; omega
    · have := of_decide_eq_false h; have := of_decide_eq_false h2; have := of_decide_eq_false h3
      cases h4 : decide (((n : Nat) : Int) > 2000) with
      | true => have := of_decide_eq_true h4; exact hJ.1 (by omega)
      | false => have := of_decide_eq_false h4; exact hJ.2 (by omega)
  obtain ⟨hs1, hs2, hs3, hs4⟩ := id hs
  refine ⟨rfl, by omega, by omega, fun gs hg3 g hg5 => ?_⟩
  have W0 : WkAt H g gs 70 A n c root cols _ (start bl.length) none 0 true := wk_start hT hg3 hg5
  refine c64 (m := bl.length + 1) hT hF W0 (by simp [start]) (by rw [unseen_start]; omega) (by unfold pot; rw [unseen_start]; unfold cap8; simp only [start, List.length_nil]; omega) (by omega) fun H8 hfin => ⟨rfl, ?_⟩
  have hvn : visit bl root (bl.length + 1) (start bl.length) root 1 = none → treeV bl root cols = none := fun e => by unfold treeV; rw [if_pos hs, e]
  rcases hfin with ⟨S, oA, oc, W, hv⟩ | ⟨S, oA, oc, W, hv, hB⟩
  · have hst := visit_step hv
    have hot : S.out.length ≤ 800000 := by
      have := hst.2.2
      unfold pot at this
      rw [unseen_start] at this
      simp only [start, List.length_nil] at this
      omega
    have hkey : ∀ e ∈ S.out, KeyAt H e := visit_all (fun b hb => (hT.nd b hb).key) hv (fun e he => by simp [start] at he)
    have htv : treeV bl root cols = if (S.seen.all id && goodE cols S.out) = true then some S else none := by unfold treeV; rw [if_pos hs, hv]
    have hnb : n < big := by unfold big; omega
    have hob : S.out.length < huge := by unfold huge; omega
    have hol : S.out.length < 4611686018427387904 := by omega
    refine jn_intro (fun J => (S.seen.all id = false → ∀ H', WkAt H g gs 70 A n c root cols H' S oA oc true → J true H') ∧ (S.seen.all id = true → ∀ H', WkAt H g gs 70 A n c root cols H' S oA oc true → J false H')) ⟨fun ha H15 W15 => cndT rfl (h0 (by rw [htv, ha]; rfl) H15 W15.ext), fun ha H15 W15 => cndF rfl ⟨_, _, _, W15.cl 5, ?_⟩⟩ fun J hJ => ⟨true, W.cl 6, cndF rfl ⟨_, _, _, W.cl 3, c65 (seenAt W hnb) ⟨_, rfl, ?_⟩⟩⟩
    rotate_left
    · cases ha : S.seen.all id with
      | true => exact hJ.2 ha H8 W
      | false => exact hJ.1 ha H8 W
    rw [ha, Bool.true_and] at htv
    refine scan (n := S.out.length) hol (fun i H' => WkAt H g gs 70 A n c root cols H' S oA oc true ∧ (List.range i).all (okAt cols S.out) = true) ⟨W15, by simp⟩ (fun i H2 next hi hI hnext => ?_) (fun H2 next hI => ?_)
    · obtain ⟨W2, hall⟩ := hI
      obtain ⟨e, he⟩ := get_of hi
      have hek := hkey e (List.mem_of_getElem? he)
      dsimp only
      refine cndT (decide_eq_true (by omega)) ⟨by omega, by omega, rd_en (outAt W2 hob) he fun q o _ k1 k2 => ⟨_, _, _, by simpa using k1, _, by simpa using k2, ?_⟩⟩
      refine jn_intro (fun J => (okAt cols S.out i = false → ∀ H', WkAt H g gs 70 A n c root cols H' S oA oc true → J true H') ∧ (okAt cols S.out i = true → ∀ H', WkAt H g gs 70 A n c root cols H' S oA oc true → J false H')) ⟨fun ho H' W' => cndT rfl (h0 ?_ H' W'.ext), fun ho H' W' => cndF rfl ⟨rfl, hnext H' ⟨W', by rw [range_succ_all, hall, ho]; rfl⟩⟩⟩ fun J hJ => ?_
      · rw [htv]
        unfold goodE
        rw [range_all_miss hi ho]; rfl
      have hok : okAt cols S.out i = (entB cols e && (if i = 0 then true else match S.out[i - 1]? with
        | none => true
        | some p => decide (ordE p e < 0))) := by unfold okAt; rw [he]
      refine c49 (N.ext W2.ext) (hek.ext W2.ext) ⟨_, rfl, cndI (fun h => hJ.1 ?_ H2 W2) fun h => ?_⟩
      · rw [hok]; rw [Bool.not_eq_true'] at h; rw [h]; rfl
      rw [Bool.not_eq_false'] at h
      rw [h, Bool.true_and] at hok
      refine cndI (fun hp => ?_) fun hp => hJ.2 ?_ H2 W2
      · have hp := of_decide_eq_true hp
        rw [if_neg (by omega)] at hok
        have ew : IntKind.i64.wrap ((i : Int) - 1) = ((i - 1 : Nat) : Int) := by rw [wrap_id (by omega) (by omega)]; omega
        obtain ⟨p, hpp⟩ := get_of (l := S.out) (i := i - 1) (by omega)
        rw [hpp] at hok
        have hpk := hkey p (List.mem_of_getElem? hpp)
        rw [ew]
        refine ⟨_, _, _, W2.cl 5, by omega, by omega, rd_en (outAt W2 hob) hpp fun q o _ k1 k2 => ⟨_, _, _, by simpa using k1, _, by simpa using k2, c51 (hpk.ext W2.ext) (hek.ext W2.ext) fun H32 x32 => ⟨_, rfl, ?_⟩⟩⟩
        have hok : okAt cols S.out i = decide (ordE p e < 0) := hok
        by_cases hlt : ordE p e < 0
        · rw [decide_eq_false (by omega)]
          exact hJ.2 (by rw [hok, decide_eq_true hlt]) H32 (W2.more x32)
        · rw [decide_eq_true (by omega)]
          exact hJ.1 (by rw [hok, decide_eq_false hlt]) H32 (W2.more x32)
      · have hp := of_decide_eq_false hp
        rw [hok, if_pos (by omega)]
    · obtain ⟨W2, hall⟩ := hI
      dsimp only
      refine cndF (decide_eq_false (by omega)) (h1 S ?_ hot hkey g gs oA oc H2 W2)
      rw [htv]
      exact if_pos hall
  · refine jn_intro (fun J => J true H8) (cndT rfl (h0 (hvn hv) H8 W.ext)) fun J hJ => ⟨false, W.cl 6, cndT rfl hJ⟩
end
end Go.Proofs.YtmelbipidffmpaaGreatDoor.Hw

/- Trees of blocks: the document's check; what leans on both. -/
set_option linter.unusedVariables false
set_option linter.unusedSimpArgs false
set_option linter.unusedSectionVars false
set_option maxRecDepth 20000
namespace Go.Proofs.YtmelbipidffmpaaGreatDoor.Hw
open Go Go.Proofs
theorem okAt_ent {cols : Int} {l : List EnM} {i : Nat} {e : EnM} (he : l[i]? = some e) (h : okAt cols l i = true) : entB cols e = true := by
  unfold okAt at h
  rw [he] at h
  exact (Bool.and_eq_true _ _ ▸ h : _ ∧ _).1
section
variable {H0 H : Hp} {g gs ty : Nat} {A oA : Option Addr} {n c oc : Nat} {root cols : Int} {S : Sv} {ok : Bool} {Q : Value → Hp → Prop} {bl : List NdM}
theorem c38 (hT : TrAt H A n bl) (hF : Fewish bl)
    (h0 : treeV bl root cols = none → ∀ A' n' c' x H', Ext H H' → Q (.tuple #[.slice A' n' c', .int .i64 x, .bool false]) H')
    (h1 : ∀ S, treeV bl root cols = some S → S.out.length ≤ 800000 → (∀ e ∈ S.out, KeyAt H e) → ∀ oA oc H', Ext H H' → Row H H' oA S.out.length oc 2 (S.out.flatMap enC) → Q (.tuple #[.slice oA S.out.length oc, .int .i64 S.leaf, .bool true]) H') :
    HCalls Tryz.prog 38 [.agg #[.slice A n c, .int .i64 root, .int .i64 cols]] H Q := by
  refine f38.ok _ _ _ _ _ ?_
  unfold f38
  have hn := hT.sl.len
  refine jn_intro (fun J => (¬ Shape bl.length cols → J true) ∧ (Shape bl.length cols → J false)) ⟨fun hs => cndT rfl (h0 (by unfold treeV; rw [if_neg hs]) _ _ _ _ H (Ext.refl _)), fun hs => cndF rfl ?_⟩ fun J hJ => ?_
  rotate_left
  · unfold Shape at hJ
    refine cndI (fun h => hJ.1 ?_) fun h => cndI (fun h2 => hJ.1 ?_) fun h2 => cndI (fun h3 => hJ.1 ?_) fun h3 => ?_
    · have := of_decide_eq_true h; omega
    · have := of_decide_eq_true h2; omega
    · have := of_decide_eq_true h3; omega
    · have := of_decide_eq_false h; have := of_decide_eq_false h2; have := of_decide_eq_false h3
      cases h4 : decide (((n : Nat) : Int) > 2000) with
      | true => have := of_decide_eq_true h4; exact hJ.1 (by omega)
      | false => have := of_decide_eq_false h4; exact hJ.2 (by omega)
  obtain ⟨hs1, hs2, hs3, hs4⟩ := id hs
  refine ⟨rfl, by omega, by omega, fun gs hg3 g hg5 => ?_⟩
  have W0 : WkAt H g gs 107 A n c root cols _ (start bl.length) none 0 true := wk_start hT hg3 hg5
  refine c67 (m := bl.length + 1) hT hF W0 (by simp [start]) (by rw [unseen_start]; omega) (by unfold pot; rw [unseen_start]; unfold cap8; simp only [start, List.length_nil]; omega) (by omega) fun H8 hfin => ⟨rfl, ?_⟩
  obtain ⟨S, oA, oc, ok0, W, hot, hv⟩ : ∃ S oA oc ok0, WkAt H g gs 107 A n c root cols H8 S oA oc ok0 ∧ S.out.length ≤ 4399900000000 ∧ visit bl root (bl.length + 1) (start bl.length) root 1 = (if ok0 = true then some S else none) := by
    rcases hfin with ⟨S, oA, oc, W, hv⟩ | ⟨S, oA, oc, W, hv, hB⟩
    · have := (visit_step hv).2.2
      unfold pot at this
      rw [unseen_start] at this
      simp only [start, List.length_nil] at this
      exact ⟨S, oA, oc, true, W, by omega, hv⟩
    · exact ⟨S, oA, oc, false, W, by omega, hv⟩
  have hnb : n < big := by unfold big; omega
  have hob : S.out.length < huge := by unfold huge; omega
  have hnum := W.num
  have hkey : ok0 = true → ∀ e ∈ S.out, KeyAt H e := fun h => visit_all (fun b hb => (hT.nd b hb).key) (by rw [hv, if_pos h]) (fun e he => by simp [start] at he)
  have htv : treeV bl root cols = if (ok0 && S.seen.all id && goodE cols S.out) = true then some S else none := by
    unfold treeV
    rw [if_pos hs, hv]
    cases ok0 with
    | true => rw [Bool.true_and]; rfl
    | false => rfl
  refine ⟨_, _, _, W.cl 3, ?_⟩
  refine scan (n := S.seen.length) (by omega) (fun i H' => WkAt H g gs 107 A n c root cols H' S oA oc (ok0 && (S.seen.take i).all id)) (by simpa using W) (fun i H2 next hi hI hnext => ?_) (fun H2 next hI => ?_)
  · obtain ⟨x, hx⟩ := get_of hi
    dsimp only
    refine cndT (decide_eq_true (by omega)) (jn_intro (fun J => ∀ H', WkAt H g gs 107 A n c root cols H' S oA oc (ok0 && (S.seen.take (i + 1)).all id) → J H') (fun H' W' => ⟨rfl, hnext H' W'⟩) fun J hJ => ⟨by omega, by omega, rd_b (seenAt hI hnb) hx fun q o _ kc => ⟨x, by simpa using kc, _, hI.cl 6, ?_⟩⟩)
    rw [all_take_succ hx, ← Bool.and_assoc] at hJ
    refine cndI (fun h => hI.setOk fun H' W' => hJ H' ?_) fun h => hI.setOk fun H' W' => hJ H' ?_
    · rw [h]; exact W'
    · rw [h]; exact W'
  · rw [List.take_length] at hI
    dsimp only
    obtain ⟨ok1, hok1⟩ : ∃ ok1, ok1 = (ok0 && S.seen.all id) := ⟨_, rfl⟩
    rw [← hok1] at hI
    rw [← hok1] at htv
    have h10 : ok1 = true → ok0 = true := fun h => by rw [h] at hok1; exact (Bool.and_eq_true _ _ ▸ hok1.symm : _ ∧ _).1
    refine cndF (decide_eq_false (by omega)) ⟨_, _, _, hI.cl 5, ?_⟩
    refine scan (n := S.out.length) (by omega) (fun i H' => WkAt H g gs 107 A n c root cols H' S oA oc (ok1 && (List.range i).all (okAt cols S.out))) (by simpa using hI) (fun i H3 next hi hI hnext => ?_) (fun H3 next hI => ?_)
    · obtain ⟨e, he⟩ := get_of hi
      dsimp only
      refine cndT (decide_eq_true (by omega)) (jn_intro (fun J => ∀ H', WkAt H g gs 107 A n c root cols H' S oA oc (ok1 && (List.range (i + 1)).all (okAt cols S.out)) → J H') (fun H' W' => ⟨rfl, hnext H' W'⟩) fun J hJ => ⟨by omega, by omega, rd_en (outAt hI hob) he fun q o _ k1 k2 => ⟨_, _, _, by simpa using k1, _, by simpa using k2, _, hI.cl 6, ?_⟩⟩)
      rw [range_succ_all, ← Bool.and_assoc] at hJ
      refine cndI (fun h => ?_) fun h => hI.setOk fun H' W' => hJ H' (by rw [h]; exact W')
      rw [h] at hJ hI
      rw [Bool.and_eq_true] at h
      have hkk := hkey (h10 h.1)
      have hek := hkk e (List.mem_of_getElem? he)
      have hok : okAt cols S.out i = (entB cols e && (if i = 0 then true else match S.out[i - 1]? with
        | none => true
        | some p => decide (ordE p e < 0))) := by unfold okAt; rw [he] <;> rfl
      refine c56 (hek.ext hI.ext) hs2 ⟨_, rfl, cndI (fun he1 => cndI (fun hz => ?_) fun hz => ?_) fun he1 => ?_⟩
      · have hz := beq_iff_eq.1 hz
        refine hI.setOk fun H' W' => hJ H' ?_
        rw [hok, he1, if_pos (show i = 0 by omega)]; exact W'
      · have hz : ¬ (i : Int) = 0 := by simpa using hz
        have ew : IntKind.i64.wrap ((i : Int) - 1) = ((i - 1 : Nat) : Int) := by rw [wrap_id (by omega) (by omega)]; omega
        obtain ⟨p, hpp⟩ := get_of (l := S.out) (i := i - 1) (by omega)
        rw [if_neg (by omega), hpp, he1] at hok
        have hpk := hkk p (List.mem_of_getElem? hpp)
        have hpo := okAt_ent hpp (List.all_eq_true.1 h.2 (i - 1) (List.mem_range.2 (by omega)))
        rw [ew]
        refine ⟨_, _, _, hI.cl 5, by omega, by omega, rd_en (outAt hI hob) hpp fun q o _ k1 k2 => ⟨_, _, _, by simpa using k1, _, by simpa using k2, c59 (hpk.ext hI.ext) (hek.ext hI.ext) hpo he1 ⟨_, rfl, hI.setOk fun H' W' => hJ H' ?_⟩⟩⟩
        rw [hok]; exact W'
      · refine hI.setOk fun H' W' => hJ H' ?_
        rw [hok, he1]; exact W'
    · dsimp only
      refine cndF (decide_eq_false (by omega)) ⟨_, _, _, hI.cl 5, _, hI.cl 4, _, hI.cl 6, ?_⟩
      change WkAt H g gs 107 A n c root cols H3 S oA oc (ok1 && goodE cols S.out) at hI
      show Q (.tuple #[.slice oA S.out.length oc, .int .i64 S.leaf, .bool (ok1 && goodE cols S.out)]) H3
      cases hg : ok1 && goodE cols S.out with
      | true =>
        rw [hg] at htv
        rw [Bool.and_eq_true] at hg
        have := (visit_step (hv.trans (if_pos (h10 hg.1)))).2.2
        unfold pot at this
        rw [unseen_start] at this
        simp only [start, List.length_nil] at this
        exact h1 S htv (by omega) (hkey (h10 hg.1)) oA oc H3 hI.ext hI.out
      | false =>
        rw [hg] at htv
        exact h0 htv _ _ _ _ H3 hI.ext
theorem c13 (N : NullAt H) (hT : TrAt H A n bl) (hF : Fewish bl) (hq : ∀ H', Ext H H' → Q (.bool (treeV bl root cols).isSome) H') : HCalls Tryz.prog 13 [.agg #[.slice A n c, .int .i64 root, .int .i64 cols]] H Q := by
  refine f13.ok _ _ _ _ _ ?_
  unfold f13
  refine c36 N hT hF (fun h H' hx => ⟨_, _, rfl, ?_⟩) fun S h hl hk g gs oA oc H' W => ⟨_, _, rfl, ?_⟩
  · rw [h] at hq; exact hq H' hx
  · rw [h] at hq; exact hq H' W.ext
theorem c14 (hT : TrAt H A n bl) (hF : Fewish bl) (hq : ∀ H', Ext H H' → Q (.bool (treeV bl root cols).isSome) H') : HCalls Tryz.prog 14 [.agg #[.slice A n c, .int .i64 root, .int .i64 cols]] H Q := by
  refine f14.ok _ _ _ _ _ ?_
  unfold f14
  refine c38 hT hF (fun h A' n' c' x H' hx => ⟨_, _, _, _, _, rfl, ?_⟩) fun S h hl hk oA oc H' hx hr => ⟨_, _, _, _, _, rfl, ?_⟩
  · rw [h] at hq; exact hq H' hx
  · rw [h] at hq; exact hq H' hx
/-- Depth, of both. -/
def depT (t : Option Sv) : Int × Int := match t with | none => (0, 2) | some S => (S.leaf, 0)
theorem c16 (N : NullAt H) (hT : TrAt H A n bl) (hF : Fewish bl) (hq : ∀ H', Ext H H' → Q (.tuple #[.int .i64 (depT (treeV bl root cols)).1, .int .i64 (depT (treeV bl root cols)).2]) H') : HCalls Tryz.prog 16 [.agg #[.slice A n c, .int .i64 root, .int .i64 cols]] H Q := by
  refine f16.ok _ _ _ _ _ ?_
  unfold f16
  refine c36 N hT hF (fun h H' hx => ⟨_, _, rfl, cndT rfl ?_⟩) fun S h hl hk g gs oA oc H' W => ⟨_, _, rfl, cndF rfl ⟨_, W.cl 4, ?_⟩⟩
  · rw [h] at hq; exact hq H' hx
  · rw [h] at hq; exact hq H' W.ext
theorem c17 (hT : TrAt H A n bl) (hF : Fewish bl) (hq : ∀ H', Ext H H' → Q (.tuple #[.int .i64 (depT (treeV bl root cols)).1, .int .i64 (depT (treeV bl root cols)).2]) H') : HCalls Tryz.prog 17 [.agg #[.slice A n c, .int .i64 root, .int .i64 cols]] H Q := by
  refine f17.ok _ _ _ _ _ ?_
  unfold f17
  refine c38 hT hF (fun h A' n' c' x H' hx => ⟨_, _, _, _, _, rfl, cndT rfl ?_⟩) fun S h hl hk oA oc H' hx hr => ⟨_, _, _, _, _, rfl, cndF rfl ?_⟩
  · rw [h] at hq; exact hq H' hx
  · rw [h] at hq; exact hq H' hx
/-- Entries in a slice, by what they say alone. -/
structure EsAt (H : Hp) (A : Option Addr) (n : Nat) (l : List EnM) : Prop where
  sl : SlAt enC H A n l
  key : ∀ e ∈ l, KeyAt H e
theorem EsAt.ext {H H' : Hp} {A : Option Addr} {n : Nat} {l : List EnM} (h : EsAt H A n l) (hx : Ext H H') : EsAt H' A n l := ⟨h.sl.ext hx, fun e he => (h.key e he).ext hx⟩
def sayE (e : EnM) : List Vl × Int := (e.key, e.id)
end
end Go.Proofs.YtmelbipidffmpaaGreatDoor.Hw

/- Trees of blocks: a good walk tells a tree; plain. -/
set_option linter.unusedVariables false
set_option linter.unusedSimpArgs false
set_option linter.unusedSectionVars false
set_option maxRecDepth 20000
namespace Go.Proofs.YtmelbipidffmpaaGreatDoor.Hw
open Go Go.Proofs
inductive BT where
  | mk (es : List EnM) (ks : List BT)
def BT.es : BT → List EnM | .mk es _ => es
def BT.ks : BT → List BT | .mk _ ks => ks
def inter {α : Type} : List (List α) → List α → List α
  | [], _ => []
  | k :: ks, [] => k ++ inter ks []
  | k :: ks, e :: es => k ++ e :: inter ks es
def flatB : Nat → BT → List EnM
  | 0, t => t.es
  | h + 1, t => inter (t.ks.map (flatB h)) t.es
/-- The tree that lies at a block. -/
def AtB (bl : List NdM) : Nat → Int → BT → Prop
  | 0, i, t => 0 ≤ i ∧ t.ks = [] ∧ ∃ b, bl[i.toNat]? = some b ∧ b.es = t.es ∧ b.ks = []
  | h + 1, i, t => 0 ≤ i ∧ ∃ b, bl[i.toNat]? = some b ∧ b.es = t.es ∧ b.ks.length = t.ks.length ∧ ∀ (k : Nat) (x : Int) (u : BT), b.ks[k]? = some x → t.ks[k]? = some u → AtB bl h x u
/-- All leaves are so deep, all blocks so full. -/
def FullB (root : Bool) : Nat → BT → Prop
  | 0, t => t.ks = [] ∧ t.es.length ≤ 8 ∧ (root = true ∨ 3 ≤ t.es.length)
  | h + 1, t => t.ks.length = t.es.length + 1 ∧ t.es.length ≤ 8 ∧ (root = true ∨ 3 ≤ t.es.length) ∧ 1 ≤ t.es.length ∧ ∀ u ∈ t.ks, FullB false h u
def KidOk (bl : List NdM) (D : Int) (m : Nat) (S : Sv) (x : Int) (T : Sv) : Prop :=
  ∃ h t, h < m ∧ AtB bl h x t ∧ FullB false h t ∧ T.out = S.out ++ flatB h t ∧ T.leaf = D + h ∧ (S.leaf = 0 ∨ S.leaf = T.leaf)
theorem kids_tree {bl : List NdM} {D : Int} {m : Nat} (hD : 1 ≤ D) {f : Sv → Int → Option Sv} {r : Nat} (hf : ∀ S x T, f S x = some T → S.seen[r]? = some true → T.seen[r]? = some true ∧ KidOk bl D m S x T) : ∀ {ks : List Int} {es : List EnM} {S T : Sv}, kidsV f ks es S = some T → S.seen[r]? = some true → ks.length = es.length + 1 →
    T.seen[r]? = some true ∧ ∃ (h : Nat) (ts : List BT), h < m ∧ ts.length = ks.length ∧ (∀ (k : Nat) (x : Int) (u : BT), ks[k]? = some x → ts[k]? = some u → AtB bl h x u) ∧ (∀ u ∈ ts, FullB false h u) ∧ T.out = S.out ++ inter (ts.map (flatB h)) es ∧ T.leaf = D + h ∧ (S.leaf = 0 ∨ S.leaf = T.leaf)
  | [], es, S, T, h, _, hl => by simp at hl
  | k :: ks, es, S, T, h, hs, hl => by
    unfold kidsV at h
    cases hv : f S k with
    | none => rw [hv] at h; cases h
    | some U =>
      rw [hv] at h
      obtain ⟨hsU, g, u, a0, a1, a2, a3, a4, a5⟩ := hf S k U hv hs
      cases es with
      | nil =>
        have hks : ks = [] := List.eq_nil_of_length_eq_zero (by simpa using hl)
        subst hks
        cases h
        refine ⟨hsU, g, [u], a0, rfl, fun j x v hx hu => ?_, fun v hv => ?_, by simp [inter, a3], a4, a5⟩
        · cases j with
          | zero => cases hx; cases hu; exact a1
          | succ j => simp at hx
        · obtain rfl := List.mem_singleton.1 hv; exact a2
      | cons e es =>
        obtain ⟨hsT, g', ts, b0, b1, b2, b3, b4, b5, b6⟩ := kids_tree hD hf h hsU (by simpa using hl)
        have b6 : U.leaf = 0 ∨ U.leaf = T.leaf := b6
        have hg : g' = g := by omega
        subst hg
        refine ⟨hsT, g', u :: ts, b0, by simp [b1], fun j x v hx hu => ?_, fun v hv => ?_, ?_, b5, by omega⟩
        · cases j with
          | zero => cases hx; cases hu; exact a1
          | succ j => exact b2 j x v (by simpa using hx) (by simpa using hu)
        · rcases List.mem_cons.1 hv with rfl | hv
          · exact a2
          · exact b3 v hv
        · have b4 : T.out = U.out ++ [e] ++ inter (ts.map (flatB g')) es := b4
          rw [b4, a3]
          simp [inter, List.append_assoc]
theorem visit_tree {bl : List NdM} {root : Int} : ∀ {m : Nat} {S T : Sv} {i d : Int}, visit bl root m S i d = some T → 1 ≤ d → (i = root ∨ S.seen[root.toNat]? = some true) → 0 ≤ root →
    T.seen[root.toNat]? = some true ∧ ∃ h t, h < m ∧ AtB bl h i t ∧ FullB (decide (i = root)) h t ∧ T.out = S.out ++ flatB h t ∧ T.leaf = d + h ∧ (S.leaf = 0 ∨ S.leaf = T.leaf)
  | 0, S, T, i, d, h, _, _, _ => by cases h
  | m + 1, S, T, i, d, h, hd, hr, hr0 => by
    unfold visit at h
    split at h
    · cases h
    · rename_i hi0
      split at h
      · rename_i b hb hs
        have hseen : (S.seen.set i.toNat true)[root.toNat]? = some true := by
          rw [List.getElem?_set]
          by_cases e : i.toNat = root.toNat
          · rw [if_pos e, if_pos (List.getElem?_eq_some_iff.1 hs).1]
          · rw [if_neg e]
            rcases hr with rfl | hr
            · exact absurd rfl e
            · exact hr
        split at h
        · rename_i hk0
          split at h
          · rename_i hl
            cases h
            unfold leafOk at hl
            simp only [Bool.and_eq_true, Bool.or_eq_true, decide_eq_true_eq, beq_iff_eq] at hl
            refine ⟨hseen, 0, .mk b.es [], by omega, ⟨by omega, rfl, b, hb, rfl, List.eq_nil_of_length_eq_zero hk0⟩, ⟨rfl, hl.1, ?_⟩, rfl, by simp, hl.2.2⟩
            rcases hl.2.1 with e | e
            · exact .inl (decide_eq_true e)
            · exact .inr e
          · cases h
        · split at h
          · rename_i hn
            unfold nodeOk at hn
            simp only [Bool.and_eq_true, Bool.or_eq_true, decide_eq_true_eq, beq_iff_eq] at hn
            obtain ⟨hsT, g, ts, c0, c1, c2, c3, c4, c5, c6⟩ := kids_tree (bl := bl) (D := d + 1) (m := m) (r := root.toNat) (by omega) (fun S' x T' hv hs' => by
              obtain ⟨q1, h', t', q0, q2, q3, q4, q5, q6⟩ := visit_tree hv (by omega) (.inr hs') hr0
              refine ⟨q1, h', t', q0, q2, ?_, q4, q5, q6⟩
              by_cases e : x = root
              · exfalso
                subst e
                cases m with
                | zero => cases hv
                | succ m =>
                  rw [visit_miss (.inr (.inr hs'))] at hv; cases hv
              · rw [decide_eq_false e] at q3; exact q3) h hseen hn.2.2.2
            refine ⟨hsT, g + 1, .mk b.es ts, by omega, ⟨by omega, b, hb, rfl, c1.symm, c2⟩, ⟨by show ts.length = _; rw [c1]; exact hn.2.2.2, hn.1, ?_, hn.2.2.1, c3⟩, c4, by rw [c5]; omega, c6⟩
            rcases hn.2.1 with e | e
            · exact .inl (decide_eq_true e)
            · exact .inr e
          · cases h
      · cases h
/-- A good tree. -/
theorem tree_of {bl : List NdM} {root cols : Int} {S : Sv} (h : treeV bl root cols = some S) :
    Shape bl.length cols ∧ goodE cols S.out = true ∧ ∃ h t, AtB bl h root t ∧ FullB true h t ∧ S.out = flatB h t ∧ S.leaf = 1 + h ∧ h ≤ 2000 := by
  unfold treeV at h
  split at h
  · rename_i hs
    split at h
    · cases h
    · rename_i T hv
      split at h
      · rename_i hg
        cases h
        rw [Bool.and_eq_true] at hg
        have h0 : 0 ≤ root := by
          refine Classical.byContradiction fun hn => ?_
          rw [visit_miss (.inl (by omega))] at hv; cases hv
        obtain ⟨_, g, t, a0, a1, a2, a3, a4, _⟩ := visit_tree hv (by omega) (.inl rfl) h0
        rw [decide_eq_true rfl] at a2
        exact ⟨hs, hg.2, g, t, a1, a2, by simpa [start] using a3, a4, by have := hs.2.2.2; omega⟩
      · cases h
  · cases h
theorem inter_mem {α : Type} {x : α} : ∀ {ks : List (List α)} {es : List α}, ks.length = es.length + 1 → (x ∈ inter ks es ↔ x ∈ es ∨ ∃ k ∈ ks, x ∈ k)
  | [], es, h => by simp at h
  | k :: ks, [], h => by
    have : ks = [] := List.eq_nil_of_length_eq_zero (by simpa using h)
    subst this
    simp [inter]
  | k :: ks, e :: es, h => by
    unfold inter
    rw [List.mem_append, List.mem_cons, inter_mem (ks := ks) (es := es) (by simpa using h)]
    simp only [List.mem_cons, exists_eq_or_imp]
    constructor
    · rintro (h | rfl | h | h)
      · exact .inr (.inl h)
      · exact .inl (.inl rfl)
      · exact .inl (.inr h)
      · exact .inr (.inr h)
    · rintro ((rfl | h) | h | h)
      · exact .inr (.inl rfl)
      · exact .inr (.inr (.inl h))
      · exact .inl h
      · exact .inr (.inr (.inr h))
end Go.Proofs.YtmelbipidffmpaaGreatDoor.Hw

/- Trees: rows of entries; All; comparing; Few. -/
set_option linter.unusedVariables false
set_option linter.unusedSimpArgs false
set_option linter.unusedSectionVars false
set_option maxRecDepth 20000
namespace Go.Proofs.YtmelbipidffmpaaGreatDoor.Hw
open Go Go.Proofs
theorem KeyAt.stay {H H' : Hp} {e : EnM} (h : KeyAt H e) (hk : e.key ≠ [] → ∀ b, rowB e.A b → H b ≠ none → H' b = H b) : KeyAt H' e := by
  by_cases h0 : e.key = []
  · refine ⟨⟨by rw [h0], .inl (by rw [h0]; rfl), by rw [h0]; simp [huge]⟩, h.cap, h.tx⟩
  · exact ⟨h.sl.stay (hk h0), h.cap, h.tx⟩
/-- Entries on a block of their own, their keys elsewhere. -/
structure RowE (H0 H : Hp) (A : Option Addr) (c : Nat) (l : List EnM) : Prop where
  row : Row H0 H A l.length c 2 (l.flatMap enC)
  key : ∀ e ∈ l, KeyAt H e
  sep : ∀ e ∈ l, e.key ≠ [] → ∀ b, rowB e.A b → ¬ rowB A b
theorem RowE.nil {H0 H : Hp} : RowE H0 H none 0 [] := ⟨Row.nil, fun e he => (by cases he), fun e he => (by cases he)⟩
theorem RowE.more {H0 H H' : Hp} {A : Option Addr} {c : Nat} {l : List EnM} (R : RowE H0 H A c l) (hx : Ext H H') : RowE H0 H' A c l := ⟨Row.keep R.row fun b hb => ext_at hx (R.row.lt hb).1, fun e he => (R.key e he).ext hx, R.sep⟩
theorem RowE.at {H0 H : Hp} {A : Option Addr} {c : Nat} {l : List EnM} (R : RowE H0 H A c l) (h : l.length < huge) : EsAt H A l.length l := ⟨⟨rfl, R.row.cells, h⟩, R.key⟩
theorem RowE.base {H0 H1 H : Hp} {A : Option Addr} {c : Nat} {l : List EnM} (R : RowE H1 H A c l) (hx : Ext H0 H1) : RowE H0 H A c l := ⟨R.row.base hx, R.key, R.sep⟩
theorem RowE.push {H0 H : Hp} {A : Option Addr} {c g : Nat} {l : List EnM} {e : EnM} {K : Option Addr → Nat → Nat → Hp → Prop} (R : RowE H0 H A c l) (hx : Ext H0 H) (hs : l.length < big) (he : KeyAt H e) (hsep : e.key ≠ [] → ∀ b, rowB e.A b → ¬ rowB A b) (hg : H g = none)
    (hk : ∀ A' c' H', RowE H0 H' A' c' (l ++ [e]) → Ext H0 H' → (∀ b, H' b ≠ H b → rowB A b ∨ H b = none) → (∀ b, rowB A' b → rowB A b ∨ H b = none) → K A' (l ++ [e]).length c' H') :
    appendF (upd g (.cells (enC e).toArray 46 (0, 0)) H) 46 2 32 A l.length c (some ⟨g, 0, none⟩) 1 K := by
  refine Row.push1 enC_len enC_one (by omega) R.row hx hs hg fun A' c' H' R' x' ch nw => hk A' c' H' ⟨R', fun a ha => ?_, fun a ha h0 b hb hA => ?_⟩ x' ch nw
  · have hka : KeyAt H a ∧ (a.key ≠ [] → ∀ b, rowB a.A b → ¬ rowB A b) := by
      rcases List.mem_append.1 ha with ha | ha
      · exact ⟨R.key a ha, R.sep a ha⟩
      · obtain rfl := List.mem_singleton.1 ha; exact ⟨he, hsep⟩
    refine hka.1.stay fun h0 b hb hn => Classical.byContradiction fun hne => ?_
    rcases ch b hne with h | h
    · exact hka.2 h0 b hb h
    · exact hn h
  · have hka : KeyAt H a ∧ (a.key ≠ [] → ∀ b, rowB a.A b → ¬ rowB A b) := by
      rcases List.mem_append.1 ha with ha | ha
      · exact ⟨R.key a ha, R.sep a ha⟩
      · obtain rfl := List.mem_singleton.1 ha; exact ⟨he, hsep⟩
    rcases nw b hA with h | h
    · exact hka.2 h0 b hb h
    · exact hka.1.sl.live vlC_len (by omega) h0 hb h
/-- A key lies on blocks that there are. -/
theorem KeyAt.live {H : Hp} {e : EnM} (h : KeyAt H e) (h0 : e.key ≠ []) {b : Nat} (hb : rowB e.A b) : H b ≠ none := h.sl.live vlC_len (by omega) h0 hb
section
variable {H0 H : Hp} {g gs ty : Nat} {A oA : Option Addr} {n c oc : Nat} {root cols : Int} {S : Sv} {ok : Bool} {Q : Value → Hp → Prop} {bl : List NdM}
theorem c90n {l : List Vl} {k : Nat} (hA : SlAt vlC H A n l) (hl : l.length < big) (hq : ∀ A' c' H', Ext H H' → SlAt vlC H' A' n l → n ≤ c' → (∀ b, rowB A' b → H b = none) → Q (.slice A' n c') H') : HCalls Tryz.prog 90 [.slice A n k] H Q := by
  refine f90.ok _ _ _ ?_
  unfold f90
  have hn := hA.len
  refine cndI (fun h => ?_) fun h g1 hg1 => ?_
  · have hA0 : A = none := by cases A with | none => rfl | some a => cases h
    have hl0 : l = [] := by
      rcases hA.cells with h' | ⟨b, o, e, _⟩
      · cases l with
        | nil => rfl
        | cons x r => rw [List.flatMap_cons] at h'; exact absurd h' (by simp [vlC])
      · rw [hA0] at e; cases e
    subst hl0
    have hn0 : n = 0 := hn
    subst hn0
    subst hA0
    exact hq none 0 H (Ext.refl _) hA (Nat.le_refl _) fun b ⟨o, q, h⟩ => by cases h
  · have x1 : Ext H (upd g1 (Obj.cells [].toArray 64 (0, 0)) H) := Ext.new hg1
    refine appendF_slx (l := []) vlC_len vlC_one (by omega) (fresh_sl (l := []) rfl (by simp [huge])) (hA.ext x1) (by omega) (by simp) (by omega) fun A' c' H' x' s' hc nw => ?_
    rw [Nat.zero_add] at s' hc
    rw [List.nil_append] at s'
    have := hq A' c' H' (x1.trans x') s' hc fun b hb => by
      rcases nw b hb with ⟨o, q, h⟩ | h
      · cases h; exact hg1
      · exact x1.none h
    rw [Nat.zero_add]
    exact this
theorem c66n {l : List Vl} {k : Nat} (hA : SlAt vlC H A n l) (hl : l.length < big) (hq : ∀ A' c' H', Ext H H' → SlAt vlC H' A' n l → n ≤ c' → (∀ b, rowB A' b → H b = none) → Q (.slice A' n c') H') : HCalls Tryz.prog 66 [.slice A n k] H Q := by
  refine f66.ok _ _ _ ?_
  unfold f66
  exact c90n hA hl fun A' c' H' x s hc nw => ⟨_, _, _, rfl, hq A' c' H' x s hc nw⟩
theorem c37n {e : EnM} (hK : KeyAt H e) (hl : e.key.length < big) (hq : ∀ e' H', Ext H H' → sayE e' = sayE e → KeyAt H' e' → (∀ b, rowB e'.A b → H b = none) → Q (enA e') H') : HCalls Tryz.prog 37 [enA e] H Q := by
  refine f37.ok _ _ _ _ ?_
  unfold f37
  refine c66n hK.sl hl fun A' c' H' x s hc nw => ⟨_, _, _, rfl, hq ⟨A', c', e.key, e.id⟩ H' x rfl ⟨s, hc, hK.tx⟩ nw⟩
/-- What All says. -/
def allT (t : Option Sv) : List (List Vl × Int) × Int := match t with | none => ([], 2) | some S => (S.out.map sayE, 0)
theorem good_ent {cols : Int} {l : List EnM} (h : goodE cols l = true) : ∀ e ∈ l, entB cols e = true := fun e he => by
  obtain ⟨i, hi⟩ := List.mem_iff_getElem?.1 he
  have hlt := (List.getElem?_eq_some_iff.1 hi).1
  exact okAt_ent hi (List.all_eq_true.1 h i (List.mem_range.2 hlt))
theorem ent_len {cols : Int} {e : EnM} (h : entB cols e = true) : ((e.key.length : Nat) : Int) = cols ∧ validL e.key = true := by
  unfold entB at h
  simp only [Bool.and_eq_true, beq_iff_eq] at h
  exact ⟨h.1, h.2.1⟩
theorem c11 (N : NullAt H) (hT : TrAt H A n bl) (hF : Fewish bl) (hq : ∀ A' c' l' H', Ext H H' → RowE H H' A' c' l' → l'.length ≤ 800000 → l'.map sayE = (allT (treeV bl root cols)).1 → Q (.tuple #[.slice A' l'.length c', .int .i64 (allT (treeV bl root cols)).2]) H') : HCalls Tryz.prog 11 [.agg #[.slice A n c, .int .i64 root, .int .i64 cols]] H Q := by
  refine f11.ok _ _ _ _ _ ?_
  unfold f11
  refine c36 N hT hF (fun h H' hx => ⟨_, _, rfl, cndT rfl ?_⟩) fun S h hl hk g gs oA oc H2 W => ⟨_, _, rfl, cndF rfl ⟨_, _, _, W.cl 5, ?_⟩⟩
  · rw [h] at hq
    exact hq none 0 [] H' hx RowE.nil (by simp) rfl
  have hW := W.ext
  rw [h] at hq
  have hob : S.out.length < huge := by unfold huge; omega
  obtain ⟨hs, hgd, _⟩ := tree_of h
  have hent := good_ent hgd
  have hso := outAt W hob
  refine loop_to S.out.length (fun i st H' => ∃ A' c' l', st = (((A', l'.length, c'), ((i : Int), ())), ()) ∧ Ext H2 H' ∧ RowE H2 H' A' c' l' ∧ l'.map sayE = (S.out.take i).map sayE) ⟨none, 0, [], rfl, Ext.refl _, RowE.nil, rfl⟩ ?_
  rintro i st H8 next hi ⟨A', c', l', rfl, x8, R, hm⟩ hnext
  have hll : l'.length = i := by have := congrArg List.length hm; simp at this; omega
  dsimp only
  refine cndI (fun hlt => ?_) fun hlt => ?_
  · have hlt := of_decide_eq_true hlt
    obtain ⟨e, he⟩ := get_of (l := S.out) (i := i) (by omega)
    have hmem := List.mem_of_getElem? he
    have hke := (hk e hmem).ext (hW.trans x8)
    have hlen := (ent_len (hent e hmem)).1
    have hc := hs.2.1
    refine ⟨by omega, by omega, rd_en (hso.ext x8) he fun q o _ k1 k2 => ⟨_, _, _, by simpa using k1, _, by simpa using k2, c37n hke (by unfold big; omega) fun e' H14 x14 hsay hk' nw => ⟨_, _, _, _, rfl, fun g17 hg17 => ?_⟩⟩⟩
    refine (R.more x14).push (x8.trans x14) (by unfold big; omega) hk' (fun _ b hb hA => (R.row.lt hA).1 (nw b hb)) hg17 fun A19 c19 H20 R20 x20 _ _ => ⟨rfl, ?_⟩
    refine hnext _ _ (by omega) ⟨A19, c19, l' ++ [e'], ?_, x20, R20, ?_⟩
    · rw [wrap_id (by omega) (by omega)]; rfl
    · rw [List.map_append, hm, List.take_add_one, he]
      simp [hsay]
  · have hlt := of_decide_eq_false hlt
    have : i = S.out.length := by omega
    rw [this, List.take_length] at hm
    exact hq A' c' l' H8 (hW.trans x8) (R.base hW) (by omega) hm
theorem c12 (hT : TrAt H A n bl) (hF : Fewish bl) (hq : ∀ A' c' l' H', Ext H H' → RowE H H' A' c' l' → l'.length ≤ 800000 → l'.map sayE = (allT (treeV bl root cols)).1 → Q (.tuple #[.slice A' l'.length c', .int .i64 (allT (treeV bl root cols)).2]) H') : HCalls Tryz.prog 12 [.agg #[.slice A n c, .int .i64 root, .int .i64 cols]] H Q := by
  refine f12.ok _ _ _ _ _ ?_
  unfold f12
  refine c38 hT hF (fun h A' n' c' x H' hx => ⟨_, _, _, _, _, rfl, cndT rfl ?_⟩) fun S h hl hk oA oc H' hx hr => ⟨_, _, _, _, _, rfl, cndF rfl ?_⟩
  · rw [h] at hq
    exact hq none 0 [] H' hx RowE.nil (by simp) rfl
  · rw [h] at hq
    exact hq oA oc S.out H' hx ⟨hr, fun e he => (hk e he).ext hx, fun e he h0 b hb hA => (hk e he).live h0 hb (hr.lt hA).2⟩ hl rfl
theorem c39 {A B : Option Addr} {n m ca cb : Nat} {x : List Vl} (hA : SlAt vlC H A n x) (hB : SlAt vlC H B m x) (hq : Q (.bool true) H) : HCalls Tryz.prog 39 [.slice A n ca, .slice B m cb] H Q := by
  refine f39.ok _ _ _ _ _ _ ?_
  unfold f39
  obtain rfl := hA.len
  obtain rfl := hB.len
  refine cndF (by simp) (scan hA.lt (fun i H' => H' = H) rfl (fun i H2 next hi hI hnext => ?_) (fun H2 next hI => ?_))
  · obtain rfl := hI
    obtain ⟨v, hv⟩ := get_of hi
    dsimp only
    refine cndT (decide_eq_true (by omega)) ⟨by omega, by omega, rd_vl hA hv fun q o _ k1 k2 k3 => ⟨_, by simpa using k1, _, by simpa using k2, _, by simpa using k3, by omega, by omega, rd_vl hB hv fun q o _ k1 k2 k3 => ⟨_, by simpa using k1, _, by simpa using k2, _, by simpa using k3, cndF ?_ ⟨rfl, hnext H2 rfl⟩⟩⟩⟩
    simp
  · obtain rfl := hI
    dsimp only
    exact cndF (decide_eq_false (by omega)) hq
theorem c15 {A B : Option Addr} {n m ca cb : Nat} {x y : List EnM} (hA : EsAt H A n x) (hB : EsAt H B m y) (he : x.map sayE = y.map sayE) (hq : Q (.bool true) H) : HCalls Tryz.prog 15 [.slice A n ca, .slice B m cb] H Q := by
  refine f15.ok _ _ _ _ _ _ ?_
  unfold f15
  obtain rfl := hA.sl.len
  obtain rfl := hB.sl.len
  have hlen : x.length = y.length := by have := congrArg List.length he; simpa using this
  refine cndF (by rw [hlen]; simp) (scan hA.sl.lt (fun i H' => H' = H) rfl (fun i H2 next hi hI hnext => ?_) (fun H2 next hI => ?_))
  · obtain rfl := hI
    obtain ⟨a, ha⟩ := get_of hi
    obtain ⟨b, hb⟩ := get_of (l := y) (i := i) (by omega)
    have hab : sayE a = sayE b := by
      have := congrArg (fun l => l[i]?) he
      simp only [List.getElem?_map, ha, hb, Option.map_some, Option.some.injEq] at this
      exact this
    have hk : a.key = b.key := congrArg Prod.fst hab
    have hid : a.id = b.id := congrArg Prod.snd hab
    dsimp only
    refine cndT (decide_eq_true (by omega)) (jn_intro (fun J => J false H2) (cndF rfl ⟨rfl, hnext H2 rfl⟩) fun J hJ => ⟨by omega, by omega, rd_en hA.sl ha fun q o _ k1 k2 => ⟨_, by simpa using k2, by omega, by omega, rd_en hB.sl hb fun q' o' _ k1' k2' => ⟨_, by simpa using k2', cndF (by rw [hid]; simp) ⟨by omega, by omega, rd_en hA.sl ha fun q o _ k1 k2 => ⟨_, _, _, by simpa using k1, by omega, by omega, rd_en hB.sl hb fun q' o' _ k1' k2' => ⟨_, _, _, by simpa using k1', ?_⟩⟩⟩⟩⟩⟩)
    have h1 := (hA.key a (List.mem_of_getElem? ha)).sl
    have h2 := (hB.key b (List.mem_of_getElem? hb)).sl
    rw [← hk] at h2 ⊢
    exact c39 h1 h2 ⟨_, rfl, hJ⟩
  · obtain rfl := hI
    dsimp only
    exact cndF (decide_eq_false (by omega)) hq
/-- Few: whatever it says. -/
theorem c9 (hT : TrAt H A n bl) (hq : ∀ b, Q (.bool b) H) : HCalls Tryz.prog 9 [.agg #[.slice A n c, .int .i64 root, .int .i64 cols]] H Q := by
  refine f9.ok _ _ _ _ _ ?_
  unfold f9
  obtain rfl := hT.sl.len
  have hsm := hT.sl.lt
  refine loop_to bl.length (fun i st H' => H' = H ∧ ∃ s : Int, st = ((s, ((i : Int), ())), ())) ⟨rfl, _, rfl⟩ ?_
  rintro i st H2 next hi ⟨rfl, s, rfl⟩ hnext
  dsimp only
  refine jn_intro (fun J => (i < bl.length → J true) ∧ J false) ⟨fun hlt => cndT rfl ?_, cndF rfl (hq _)⟩ fun J hJ => cndI (fun h => ?_) fun h => hJ.2
  · obtain ⟨b, hb⟩ := get_of hlt
    have hnd := hT.nd b (List.mem_of_getElem? hb)
    have hesm := hnd.es.lt
    refine ⟨by omega, by omega, rd_nd hT.sl hb fun q o _ k1 k2 => ⟨_, _, _, by simpa using k2, by omega, by omega, rd_nd hT.sl hb fun q o _ k1 k2 => ⟨_, _, _, by simpa using k1, ?_⟩⟩⟩
    refine loop_to b.es.length (fun k st H' => H' = H2 ∧ ∃ s : Int, st = ((s, ((k : Int), ())), ())) ⟨rfl, _, rfl⟩ ?_
    rintro k st H11 next12 hk ⟨rfl, s', rfl⟩ hnext12
    dsimp only
    refine cndI (fun h => ?_) fun h => ⟨rfl, hnext _ _ hlt ⟨rfl, s', ?_⟩⟩
    · have h := of_decide_eq_true h
      obtain ⟨e, he⟩ := get_of (l := b.es) (i := k) (by omega)
      refine ⟨by omega, by omega, rd_en hnd.es he fun q o _ k1 k2 => ⟨_, _, _, by simpa using k1, _, by simpa using k2, rfl, hnext12 _ _ (by omega) ⟨rfl, IntKind.i64.wrap (s' + IntKind.i64.wrap (1 + ((e.key.length : Nat) : Int))), ?_⟩⟩⟩
      rw [wrap_id (x := (k : Int) + 1) (by omega) (by omega)]; rfl
    · rw [wrap_id (x := (i : Int) + 1) (by omega) (by omega)]; rfl
  · have h := of_decide_eq_true h
    cases h4 : decide (s < 4000) with
    | true => exact hJ.1 (by omega)
    | false => exact hJ.2
end
end Go.Proofs.YtmelbipidffmpaaGreatDoor.Hw

/- Trees: the order; Touched. -/
set_option linter.unusedVariables false
set_option linter.unusedSimpArgs false
set_option linter.unusedSectionVars false
set_option maxRecDepth 20000
namespace Go.Proofs.YtmelbipidffmpaaGreatDoor.Hw
open Go Go.Proofs
/-! ### orders -/
structure CmpOk {α : Type} (c : α → α → Int) : Prop where
  anti : ∀ a b, c b a = - c a b
  tr : ∀ a b d, c a b ≤ 0 → c b d ≤ 0 → c a d ≤ 0
theorem CmpOk.self {α : Type} {c : α → α → Int} (h : CmpOk c) (a : α) : c a a = 0 := by have := h.anti a a; omega
theorem CmpOk.lt_of {α : Type} {c : α → α → Int} (h : CmpOk c) {a b d : α} (h1 : c a b < 0) (h2 : c b d ≤ 0) : c a d < 0 := by
  refine Classical.byContradiction fun hn => ?_
  have h3 : c d a ≤ 0 := by have := h.anti a d; omega
  have h4 := h.tr b d a h2 h3
  have := h.anti a b
  omega
theorem CmpOk.lt_of' {α : Type} {c : α → α → Int} (h : CmpOk c) {a b d : α} (h1 : c a b ≤ 0) (h2 : c b d < 0) : c a d < 0 := by
  refine Classical.byContradiction fun hn => ?_
  have h3 : c d a ≤ 0 := by have := h.anti a d; omega
  have h4 := h.tr d a b h3 h1
  have := h.anti b d
  omega
theorem cmpI_le {x y : Int} : cmpI x y ≤ 0 ↔ x ≤ y := by
  unfold cmpI
  by_cases h : x < y
  · rw [if_pos h]; omega
  · rw [if_neg h]
    by_cases h2 : x > y
    · rw [if_pos h2]; omega
    · rw [if_neg h2]; omega
theorem cmpI_val (x y : Int) : (x < y ∧ cmpI x y = -1) ∨ (x = y ∧ cmpI x y = 0) ∨ (x > y ∧ cmpI x y = 1) := by
  unfold cmpI
  by_cases h : x < y
  · exact .inl ⟨h, if_pos h⟩
  · by_cases h2 : x > y
    · exact .inr (.inr ⟨h2, by rw [if_neg h, if_pos h2]⟩)
    · exact .inr (.inl ⟨by omega, by rw [if_neg h, if_neg h2]⟩)
theorem cmpI_ok : CmpOk cmpI := ⟨fun a b => by
  rcases cmpI_val a b with ⟨h, e⟩ | ⟨h, e⟩ | ⟨h, e⟩ <;> rcases cmpI_val b a with ⟨h', e'⟩ | ⟨h', e'⟩ | ⟨h', e'⟩ <;> omega, fun a b d h1 h2 => by
  rw [cmpI_le] at *; omega⟩
theorem bl_irr : ∀ l : List UInt8, Op.bytesLess l l = false
  | [] => rfl
  | x :: r => by unfold Op.bytesLess; simp [bl_irr r]
theorem bl_tot : ∀ a b : List UInt8, Op.bytesLess a b = false → Op.bytesLess b a = false → a = b
  | [], [], _, _ => rfl
  | [], _ :: _, h, _ => by simp [Op.bytesLess] at h
  | _ :: _, [], _, h => by simp [Op.bytesLess] at h
  | x :: a, y :: b, h1, h2 => by
    unfold Op.bytesLess at h1 h2
    by_cases h : x = y
    · subst h
      simp at h1 h2
      rw [bl_tot a b h1 h2]
    · exfalso
      simp only [Bool.or_eq_false_iff, decide_eq_false_iff_not] at h1 h2
      apply h
      have a1 := h1.1
      have a2 := h2.1
      exact UInt8.le_antisymm (UInt8.not_lt.1 a2) (UInt8.not_lt.1 a1)
theorem bl_tr : ∀ a b d : List UInt8, Op.bytesLess a b = true → Op.bytesLess b d = true → Op.bytesLess a d = true
  | [], _, [], h1, h2 => by cases ‹List UInt8› <;> simp [Op.bytesLess] at h2
  | [], _, _ :: _, _, _ => by simp [Op.bytesLess]
  | _ :: _, [], _, h1, _ => by simp [Op.bytesLess] at h1
  | _ :: _, _ :: _, [], _, h2 => by simp [Op.bytesLess] at h2
  | x :: a, y :: b, z :: d, h1, h2 => by
    unfold Op.bytesLess at h1 h2 ⊢
    simp only [Bool.or_eq_true, decide_eq_true_eq, Bool.and_eq_true, beq_iff_eq] at h1 h2 ⊢
    rcases h1 with h1 | ⟨rfl, h1⟩
    · rcases h2 with h2 | ⟨rfl, h2⟩
      · exact .inl (UInt8.lt_trans h1 h2)
      · exact .inl h1
    · rcases h2 with h2 | ⟨rfl, h2⟩
      · exact .inl h2
      · exact .inr ⟨rfl, bl_tr a b d h1 h2⟩
theorem cmpS_val (a b : ByteArray) : (lessS a b = true ∧ lessS b a = false ∧ cmpS a b = -1) ∨ (lessS a b = false ∧ lessS b a = false ∧ a.toList = b.toList ∧ cmpS a b = 0) ∨ (lessS a b = false ∧ lessS b a = true ∧ cmpS a b = 1) := by
  unfold cmpS lessS
  cases h1 : Op.bytesLess a.toList b.toList with
  | true =>
    cases h2 : Op.bytesLess b.toList a.toList with
    | true => have := bl_tr _ _ _ h1 h2; rw [bl_irr] at this; cases this
    | false => exact .inl ⟨rfl, rfl, rfl⟩
  | false =>
    cases h2 : Op.bytesLess b.toList a.toList with
    | true =>
      refine .inr (.inr ⟨rfl, rfl, ?_⟩)
      have : (a.toList == b.toList) = false := by
        rw [beq_eq_false_iff_ne]
        intro e
        rw [e, bl_irr] at h2; cases h2
      rw [this]; rfl
    | false =>
      have e := bl_tot _ _ h1 h2
      refine .inr (.inl ⟨rfl, rfl, e, ?_⟩)
      rw [e]; simp
theorem cmpS_ok : CmpOk cmpS := ⟨fun a b => by
  rcases cmpS_val a b with ⟨h1, h2, h3⟩ | ⟨h1, h2, h4, h3⟩ | ⟨h1, h2, h3⟩ <;> rcases cmpS_val b a with ⟨g1, g2, g3⟩ | ⟨g1, g2, g4, g3⟩ | ⟨g1, g2, g3⟩ <;> (first | omega | (rw [h1] at g2; rw [h2] at g1; first | exact absurd g1 (by decide) | exact absurd g2 (by decide))), fun a b d h1 h2 => by
  rcases cmpS_val a d with ⟨g1, g2, g3⟩ | ⟨g1, g2, g4, g3⟩ | ⟨g1, g2, g3⟩
  · omega
  · omega
  · exfalso
    rcases cmpS_val a b with ⟨a1, a2, a3⟩ | ⟨a1, a2, a4, a3⟩ | ⟨a1, a2, a3⟩
    · rcases cmpS_val b d with ⟨b1, b2, b3⟩ | ⟨b1, b2, b4, b3⟩ | ⟨b1, b2, b3⟩
      · have := bl_tr _ _ _ a1 b1
        unfold lessS at g1
        rw [this] at g1; cases g1
      · unfold lessS at g1 a1
        rw [b4] at a1; rw [a1] at g1; cases g1
      · omega
    · rcases cmpS_val b d with ⟨b1, b2, b3⟩ | ⟨b1, b2, b4, b3⟩ | ⟨b1, b2, b3⟩
      · unfold lessS at g1 b1
        rw [← a4] at b1; rw [b1] at g1; cases g1
      · unfold lessS at g2
        rw [a4, b4, bl_irr] at g2; cases g2
      · omega
    · omega⟩
theorem or_ok {α : Type} {c d : α → α → Int} (hc : CmpOk c) (hd : CmpOk d) : CmpOk fun a b => orI (c a b) (d a b) := ⟨fun a b => by
  have h1 := hc.anti a b
  have h2 := hd.anti a b
  unfold orI
  rw [h1]
  by_cases h : c a b = 0
  · rw [h]; simpa using h2
  · rw [if_neg (by simpa using h), if_neg (by simpa using h)], fun a b e h1 h2 => by
  unfold orI at h1 h2 ⊢
  by_cases ha : c a b = 0
  · rw [ha] at h1
    simp only [beq_self_eq_true, if_true] at h1
    by_cases hb : c b e = 0
    · rw [hb] at h2
      simp only [beq_self_eq_true, if_true] at h2
      have h3 : c a e = 0 := by
        have q1 := hc.tr a b e (by omega) (by omega)
        have q2 := hc.tr e b a (by have := hc.anti b e; omega) (by have := hc.anti a b; omega)
        have := hc.anti a e
        omega
      rw [h3]
      simpa using hd.tr a b e h1 h2
    · rw [if_neg (by simpa using hb)] at h2
      have h3 := hc.lt_of' (a := a) (b := b) (d := e) (by omega) (by omega)
      rw [if_neg (by simp; omega)]; omega
  · rw [if_neg (by simpa using ha)] at h1
    have h4 : c b e ≤ 0 := by
      by_cases hb : c b e = 0
      · omega
      · rw [if_neg (by simpa using hb)] at h2; exact h2
    have h3 := hc.lt_of (a := a) (b := b) (d := e) (by omega) h4
    rw [if_neg (by simp; omega)]; omega⟩
theorem pull_ok {α β : Type} {c : β → β → Int} (hc : CmpOk c) (f : α → β) : CmpOk fun a b => c (f a) (f b) := ⟨fun a b => hc.anti _ _, fun a b d => hc.tr _ _ _⟩
def kdC (a b : Int) : Int := if a == b then 0 else if a == 0 then 1 else if b == 0 then -1 else cmpI a b
theorem kdC_ok : CmpOk kdC := by
  have h : ∀ a b, kdC a b = orI (cmpI (if a = 0 then 1 else 0) (if b = 0 then 1 else 0)) (cmpI a b) := fun a b => by
    unfold kdC orI cmpI
    simp only [beq_iff_eq]
    by_cases ha : a = 0 <;> by_cases hb : b = 0 <;> simp [ha, hb]
    · intro h; exact absurd h.symm hb
    · by_cases e : a = b
      · simp [e]
      · simp [e]
  have : kdC = fun a b => orI (cmpI (if a = 0 then 1 else 0) (if b = 0 then 1 else 0)) (cmpI a b) := by funext a b; exact h a b
  rw [this]
  exact or_ok (pull_ok cmpI_ok fun a => if a = 0 then 1 else 0) cmpI_ok
theorem ordV_eq (a b : Vl) : ordV a b = orI (kdC a.kind b.kind) (orI (cmpI a.num b.num) (cmpS a.txt b.txt)) := by
  unfold ordV kdC
  by_cases h : a.kind = b.kind
  · have h' : (a.kind == b.kind) = true := by simpa using h
    rw [h']; rfl
  · have h' : (a.kind == b.kind) = false := by simpa using h
    have hc : (cmpI a.kind b.kind == 0) = false := by
      rw [beq_eq_false_iff_ne]; exact fun e => h (cmpI_eq.1 e)
    rw [h']
    cases h0 : a.kind == 0 with
    | true => rfl
    | false =>
      cases h1 : b.kind == 0 with
      | true => rfl
      | false =>
        show cmpI a.kind b.kind = if cmpI a.kind b.kind == 0 then _ else cmpI a.kind b.kind
        rw [hc]; rfl
theorem ordV_ok : CmpOk ordV := by
  have : ordV = fun a b => orI (kdC a.kind b.kind) (orI (cmpI a.num b.num) (cmpS a.txt b.txt)) := by funext a b; exact ordV_eq a b
  rw [this]
  exact or_ok (pull_ok kdC_ok Vl.kind) (or_ok (pull_ok cmpI_ok Vl.num) (pull_ok cmpS_ok Vl.txt))
theorem ordL_cons (a b : Vl) (x y : List Vl) : ordL (a :: x) (b :: y) = orI (ordV a b) (ordL x y) := by
  unfold orI
  show (if ordV a b != 0 then ordV a b else ordL x y) = _
  by_cases h : ordV a b = 0
  · rw [h]; rfl
  · rw [if_pos (by simpa using h), if_neg (by simpa using h)]
theorem ordL_anti : ∀ a b, ordL b a = - ordL a b
  | [], [] => rfl
  | [], _ :: _ => rfl
  | _ :: _, [] => rfl
  | a :: x, b :: y => by
    rw [ordL_cons, ordL_cons, ordV_ok.anti a b, ordL_anti x y]
    unfold orI
    by_cases h : ordV a b = 0
    · rw [h]; rfl
    · rw [if_neg (by simpa using h), if_neg (by simpa using h)]
theorem ordL_tr : ∀ a b d, ordL a b ≤ 0 → ordL b d ≤ 0 → ordL a d ≤ 0
  | [], _, [], _, _ => by show (0 : Int) ≤ 0; omega
  | [], _, _ :: _, _, _ => by show (-1 : Int) ≤ 0; omega
  | _ :: _, [], _, h, _ => by have h : (1 : Int) ≤ 0 := h; omega
  | _ :: _, _ :: _, [], _, h => by have h : (1 : Int) ≤ 0 := h; omega
  | a :: x, b :: y, d :: z, h1, h2 => by
    rw [ordL_cons] at h1 h2 ⊢
    have ih := ordL_tr x y z
    unfold orI at h1 h2 ⊢
    have hc := ordV_ok
    by_cases ha : ordV a b = 0
    · rw [ha] at h1
      simp only [beq_self_eq_true, if_true] at h1
      by_cases hb : ordV b d = 0
      · rw [hb] at h2
        simp only [beq_self_eq_true, if_true] at h2
        have h3 : ordV a d = 0 := by
          have q1 := hc.tr a b d (by omega) (by omega)
          have q2 := hc.tr d b a (by have := hc.anti b d; omega) (by have := hc.anti a b; omega)
          have := hc.anti a d
          omega
        rw [h3]
        simpa using ih h1 h2
      · rw [if_neg (by simpa using hb)] at h2
        have h3 := hc.lt_of' (a := a) (b := b) (d := d) (by omega) (by omega)
        rw [if_neg (by simp; omega)]; omega
    · rw [if_neg (by simpa using ha)] at h1
      have h4 : ordV b d ≤ 0 := by
        by_cases hb : ordV b d = 0
        · omega
        · rw [if_neg (by simpa using hb)] at h2; exact h2
      have h3 := hc.lt_of (a := a) (b := b) (d := d) (by omega) h4
      rw [if_neg (by simp; omega)]; omega
theorem ordL_ok : CmpOk ordL := ⟨ordL_anti, ordL_tr⟩
theorem ordE_ok : CmpOk ordE := or_ok (pull_ok ordL_ok EnM.key) (pull_ok cmpI_ok EnM.id)
theorem ordL_take : ∀ (k : Nat) (a b : List Vl), ordL a b ≤ 0 → ordL (a.take k) (b.take k) ≤ 0
  | 0, a, b, _ => by simp [ordL]
  | k + 1, [], [], _ => by simp [ordL]
  | k + 1, [], _ :: _, _ => by simp [ordL]
  | k + 1, _ :: _, [], h => by have h : (1 : Int) ≤ 0 := h; omega
  | k + 1, a :: x, b :: y, h => by
    rw [List.take_succ_cons, List.take_succ_cons, ordL_cons]
    rw [ordL_cons] at h
    unfold orI at h ⊢
    by_cases ha : ordV a b = 0
    · rw [ha] at h ⊢
      simp only [beq_self_eq_true, if_true] at h ⊢
      exact ordL_take k x y h
    · rw [if_neg (by simpa using ha)] at h ⊢; exact h
/-- A key, against the beginning of an entry's. -/
def cmpK (e : EnM) (key : List Vl) : Int := ordL (e.key.take key.length) key
theorem keyR_take : ∀ {x y : List Vl}, keyR x y = keyR (x.take y.length) y
  | [], [] => rfl
  | [], _ :: _ => rfl
  | _ :: _, [] => rfl
  | a :: x, b :: y => by
    rw [List.length_cons, List.take_succ_cons]
    show (if valR a b != 0 then valR a b else keyR x y) = if valR a b != 0 then valR a b else keyR (x.take y.length) y
    rw [← keyR_take]
theorem keyK {e : EnM} {key : List Vl} (h1 : validL e.key = true) (h2 : validL key = true) (hl : key.length ≤ e.key.length) : keyR e.key key = cmpK e key := by
  unfold cmpK
  rw [keyR_take, key_ord _ h2 (by rw [List.length_take]; omega)]
  unfold validL at h1 ⊢
  rw [List.all_eq_true] at h1 ⊢
  exact fun x hx => h1 x (List.mem_of_mem_take hx)
theorem cmpK_mono {a b : EnM} {key : List Vl} (h : ordE a b ≤ 0) : (cmpK b key < 0 → cmpK a key < 0) ∧ (cmpK b key ≤ 0 → cmpK a key ≤ 0) := by
  have h1 : ordL a.key b.key ≤ 0 := by
    unfold ordE orI at h
    by_cases h0 : ordL a.key b.key = 0
    · omega
    · rw [if_neg (by simpa using h0)] at h; exact h
  have h2 := ordL_take key.length _ _ h1
  exact ⟨fun h3 => ordL_ok.lt_of' h2 h3, fun h3 => ordL_ok.tr _ _ _ h2 h3⟩
end Go.Proofs.YtmelbipidffmpaaGreatDoor.Hw

/- Trees: Touched, of both. -/
set_option linter.unusedVariables false
set_option linter.unusedSimpArgs false
set_option linter.unusedSectionVars false
set_option maxRecDepth 20000
namespace Go.Proofs.YtmelbipidffmpaaGreatDoor.Hw
open Go Go.Proofs
def atN (es : List EnM) (key : List Vl) : Nat := (es.takeWhile fun e => decide (cmpK e key < 0)).length
def hitB (es : List EnM) (key : List Vl) : Bool := match es[atN es key]? with | some e => cmpK e key == 0 | none => false
def touchB (key : List Vl) : Nat → BT → Int → Int
  | 0, _, n => n
  | h + 1, t, n => if hitB t.es key = true then n else match t.ks[atN t.es key]? with | some u => touchB key h u (n + 1) | none => n
def keyG (lo cols : Int) (key : List Vl) : Bool := decide (lo ≤ ((key.length : Nat) : Int)) && (decide (((key.length : Nat) : Int) ≤ cols) && validL key)
def touT (lo cols : Int) (key : List Vl) (h : Nat) (t : BT) : Int × Int := if keyG lo cols key = true then (touchB key h t 1, 0) else (0, 2)
theorem at_is {es : List EnM} {key : List Vl} {k : Nat} (h1 : ∀ e ∈ es.take k, cmpK e key < 0) (h2 : ∀ e, es[k]? = some e → ¬ cmpK e key < 0) (hk : k ≤ es.length) : atN es key = k := by
  unfold atN
  conv => lhs; rw [← List.take_append_drop k es]
  rw [List.takeWhile_append_of_pos (fun e he => decide_eq_true (h1 e he))]
  rw [List.length_append, List.length_take]
  have : (es.drop k).takeWhile (fun e => decide (cmpK e key < 0)) = [] := by
    cases hd : es.drop k with
    | nil => rfl
    | cons e r =>
      have he : es[k]? = some e := by
        have := congrArg (fun l => l[0]?) hd
        simpa using this
      rw [List.takeWhile_cons, decide_eq_false (h2 e he)]; rfl
  rw [this]
  simp; omega
/-- A block, opened. -/
theorem at_open {bl : List NdM} {g : Nat} {i : Int} {u : BT} {r : Bool} {F : List EnM} (hA : AtB bl g i u) (hF : FullB r g u) (hin : ∀ e ∈ flatB g u, e ∈ F) : 0 ≤ i ∧ ∃ b, bl[i.toNat]? = some b ∧ b.es = u.es ∧ b.es.length ≤ 8 ∧ (∀ e ∈ b.es, e ∈ F) ∧
    ((g = 0 ∧ b.ks = []) ∨ ∃ g', g = g' + 1 ∧ b.ks.length = b.es.length + 1 ∧ ∀ (k : Nat) (x : Int), b.ks[k]? = some x → ∃ v, u.ks[k]? = some v ∧ AtB bl g' x v ∧ FullB false g' v ∧ ∀ e ∈ flatB g' v, e ∈ F) := by
  cases g with
  | zero =>
    obtain ⟨h0, hk, b, hb, he, hbk⟩ := hA
    exact ⟨h0, b, hb, he, by rw [he]; exact hF.2.1, fun e h => hin e (by rw [he] at h; exact h), .inl ⟨rfl, hbk⟩⟩
  | succ g =>
    obtain ⟨h0, b, hb, he, hl, hkid⟩ := hA
    obtain ⟨f1, f2, f3, f4, f5⟩ := hF
    have hmem : ∀ x, x ∈ flatB (g + 1) u ↔ x ∈ u.es ∨ ∃ k ∈ u.ks.map (flatB g), x ∈ k := fun x => inter_mem (by rw [List.length_map]; exact f1)
    refine ⟨h0, b, hb, he, by rw [he]; exact f2, fun e h => hin e ((hmem e).2 (.inl (by rw [← he]; exact h))), .inr ⟨g, rfl, by rw [hl, f1, he], fun k x hx => ?_⟩⟩
    obtain ⟨v, hv⟩ := get_of (l := u.ks) (i := k) (by have := (List.getElem?_eq_some_iff.1 hx).1; omega)
    have hvm := List.mem_of_getElem? hv
    exact ⟨v, hv, hkid k x v hx hv, f5 v hvm, fun e h => hin e ((hmem e).2 (.inr ⟨_, List.mem_map_of_mem hvm, h⟩))⟩
section
variable {H0 H : Hp} {A oA kA : Option Addr} {n c oc kn kc : Nat} {root cols : Int} {S : Sv} {Q : Value → Hp → Prop} {bl : List NdM} {key : List Vl}
theorem c42 {e : EnM} {k : Nat} (hK : KeyAt H e) (hk : k ≤ e.key.length) (hq : ∀ A' c', SlAt vlC H A' k (e.key.take k) → Q (.slice A' k c') H) : HCalls Tryz.prog 42 [enA e, .int .i64 ((k : Nat) : Int)] H Q := by
  refine f42.ok _ _ _ _ _ ?_
  unfold f42
  have h := SlAt.cut vlC_len (p := 0) (m := k) hK.sl hK.cap (by omega)
  have hc := hK.cap
  refine ⟨by omega, by omega, ?_⟩
  exact hq _ _ h
theorem c43 {lo hi : Int} (hT : TxS key) (hS : SlAt vlC H kA kn key) (hc : hi ≤ 20) (hq : Q (.bool (keyG lo hi key)) H) : HCalls Tryz.prog 43 [.slice kA kn kc, .int .i64 lo, .int .i64 hi] H Q := by
  refine f43.ok _ _ _ _ _ ?_
  unfold f43
  obtain rfl := hS.len
  unfold keyG at hq
  refine jn_intro (fun J => J (decide (lo ≤ ((key.length : Nat) : Int)) && (decide (((key.length : Nat) : Int) ≤ hi) && validL key)) H) hq fun J hJ => cndI (fun h => cndI (fun h2 => c73 hT hS ⟨_, rfl, ?_⟩) fun h2 => ?_) fun h => ?_
  · have h : decide (lo ≤ ((key.length : Nat) : Int)) = true := h
    have h2' := of_decide_eq_true h2
    have hr : rowB' key = validL key := by unfold rowB'; rw [decide_eq_true (by omega)]; rfl
    rw [hr]
    rw [h, h2] at hJ; exact hJ
  · have h : decide (lo ≤ ((key.length : Nat) : Int)) = true := h
    rw [h, h2] at hJ; exact hJ
  · have h : decide (lo ≤ ((key.length : Nat) : Int)) = false := h
    rw [h] at hJ; exact hJ
theorem c18 (N : NullAt H) (hT : TrAt H A n bl) (hF : Fewish bl) (hS : SlAt vlC H kA kn key) {h : Nat} {t : BT} (hv : treeV bl root cols = some S) (hA : AtB bl h root t) (hFu : FullB true h t) (ho : S.out = flatB h t) (hh : h ≤ 2000)
    (hq : ∀ H', Ext H H' → Q (.tuple #[.int .i64 (touT 1 cols key h t).1, .int .i64 (touT 1 cols key h t).2]) H') : HCalls Tryz.prog 18 [.agg #[.slice A n c, .int .i64 root, .int .i64 cols], .slice kA kn kc] H Q := by
  refine f18.ok _ _ _ _ _ _ _ _ ?_
  unfold f18
  obtain ⟨hs, hgd, _⟩ := tree_of hv
  have hent := good_ent hgd
  have hn := hT.sl.len
  have hsm := hT.sl.small
  unfold huge at hsm
  obtain rfl := hS.len
  obtain ⟨hs1, hs2, hs3, hs4⟩ := id hs
  unfold touT at hq
  refine jn_intro (fun J => (keyG 1 cols key = false → ∀ H', Ext H H' → J true H') ∧ (keyG 1 cols key = true → ∀ H', Ext H H' → J false H')) ⟨fun hg H8 x8 => cndT rfl (by rw [if_neg (by rw [hg]; decide)] at hq; exact hq H8 x8), fun hg H8 x8 => cndF rfl ?_⟩ fun J hJ => ?_
  rotate_left
  · unfold keyG at hJ
    refine c13 N hT hF fun H2 x2 => ⟨_, rfl, ?_⟩
    rw [hv]
    refine cndF rfl (cndI (fun h1 => ?_) fun h1 => cndI (fun h2 => ?_) fun h2 => c40 (N.ext x2) (hS.ext x2) ⟨_, rfl, ?_⟩)
    · have h1 := of_decide_eq_true h1
      exact hJ.1 (by rw [decide_eq_false (by omega)]; rfl) H2 x2
    · have h1 := of_decide_eq_false h1
      have h2 := of_decide_eq_true h2
      exact hJ.1 (by rw [decide_eq_true (by omega), decide_eq_false (by omega)]; rfl) H2 x2
    · have h1 := of_decide_eq_false h1
      have h2 := of_decide_eq_false h2
      rw [decide_eq_true (by omega), decide_eq_true (by omega)] at hJ
      cases hk : validL key with
      | true => exact hJ.2 (by rw [hk]; rfl) H2 x2
      | false => exact hJ.1 (by rw [hk]; rfl) H2 x2
  rw [if_pos hg] at hq
  have hkc : ((key.length : Nat) : Int) ≤ cols := by
    unfold keyG at hg
    simp only [Bool.and_eq_true, decide_eq_true_eq] at hg
    exact hg.2.1
  refine loop_to h (fun j st H' => Ext H H' ∧ ∃ i u g r, g + j = h ∧ AtB bl g i u ∧ FullB r g u ∧ (∀ e ∈ flatB g u, e ∈ S.out) ∧ st = ((i, (1 + (j : Int), ())), ()) ∧ touchB key h t 1 = touchB key g u (1 + (j : Int))) ⟨x8, root, t, h, true, rfl, hA, hFu, fun e he => by rw [ho]; exact he, rfl, rfl⟩ ?_
  rintro j st H11 next hj ⟨x11, i, u, g, r, hgj, hA', hF', hin, rfl, htou⟩ hnext
  obtain ⟨hi0, b, hb, hbe, hb8, hbin, hkids⟩ := at_open hA' hF' hin
  have hnd := hT.nd b (List.mem_of_getElem? hb)
  have hil := (List.getElem?_eq_some_iff.1 hb).1
  have hksm := hnd.ks.small
  unfold huge at hksm
  dsimp only
  refine ⟨by omega, by omega, rd_nd (hT.ext x11).sl hb fun q o _ k1 k2 => ⟨_, _, _, k1, _, _, _, k2, ?_⟩⟩
  refine loop_to b.es.length (fun k st H' => Ext H11 H' ∧ st = (((k : Int), ()), ()) ∧ ∀ e ∈ b.es.take k, cmpK e key < 0) ⟨Ext.refl _, rfl, by simp⟩ ?_
  rintro k st H17 next18 hk ⟨x17, rfl, hall⟩ hnext18
  dsimp only
  have hek : ∀ e ∈ b.es, key.length ≤ e.key.length := fun e he => by have := (ent_len (hent e (hbin e he))).1; omega
  refine jn_intro (fun J => (∀ e H', b.es[k]? = some e → cmpK e key < 0 → Ext H11 H' → J true H') ∧ (∀ H', (∀ e, b.es[k]? = some e → ¬ cmpK e key < 0) → Ext H11 H' → J false H')) ⟨fun e H29 he hlt x29 => cndT rfl ⟨rfl, hnext18 _ _ (List.getElem?_eq_some_iff.1 he).1 ⟨x29, ?_, fun e' he' => ?_⟩⟩, fun H29 hge x29 => cndF rfl ?_⟩ fun J hJ => cndI (fun hlt => ?_) fun hlt => ?_
  · rw [wrap_id (x := (k : Int) + 1) (by omega) (by omega)]; rfl
  · rw [take_snoc he] at he'
    rcases List.mem_append.1 he' with he' | he'
    · exact hall e' he'
    · obtain rfl := List.mem_singleton.1 he'; exact hlt
  rotate_left
  · have hlt := of_decide_eq_true hlt
    obtain ⟨e, he⟩ := get_of (l := b.es) (i := k) (by omega)
    have hm := List.mem_of_getElem? he
    have hke := ((hnd.key e hm).ext x11).ext x17
    refine ⟨by omega, by omega, rd_en ((hnd.es.ext x11).ext x17) he fun q o _ k1 k2 => ⟨_, _, _, by simpa using k1, _, by simpa using k2, ?_⟩⟩
    refine c42 hke (hek e hm) fun A' c' s => ⟨_, _, _, rfl, c41 s (((hS.ext x11).ext x17)) fun H26 x26 => ⟨_, rfl, ?_⟩⟩
    show J (decide (cmpK e key < 0)) H26
    by_cases hc : cmpK e key < 0
    · rw [decide_eq_true hc]; exact hJ.1 e H26 he hc (x17.trans x26)
    · rw [decide_eq_false hc]; exact hJ.2 H26 (fun e' he' => by rw [he] at he'; cases he'; exact hc) (x17.trans x26)
  · have hlt := of_decide_eq_false hlt
    exact hJ.2 H17 (fun e he => by have := (List.getElem?_eq_some_iff.1 he).1; omega) x17
  have hat := at_is hall hge hk
  refine jn_intro (fun J => (∀ H', Ext H11 H' → (hitB b.es key = true ∨ b.ks = []) → J true H') ∧ (∀ H', Ext H11 H' → hitB b.es key = false → b.ks ≠ [] → J false H')) ⟨fun H41 x41 hst => cndT rfl ?_, fun H41 x41 hnh hnk => cndF rfl ?_⟩ fun J hJ => cndI (fun hlt => ?_) fun hlt => ?_
  · have : touchB key g u (1 + (j : Int)) = 1 + (j : Int) := by
      cases g with
      | zero => rfl
      | succ g =>
        have hh : hitB u.es key = true := by
          rcases hst with hst | hst
          · rw [← hbe]; exact hst
          · exfalso
            rcases hkids with ⟨h0, _⟩ | ⟨g', _, hl, _⟩
            · cases h0
            · rw [hst] at hl; simp at hl
        unfold touchB
        rw [if_pos hh]
    rw [htou, this] at hq
    exact hq H41 (x11.trans x41)
  · rcases hkids with ⟨_, h0⟩ | ⟨g', rfl, hl, hkk⟩
    · exact absurd h0 hnk
    obtain ⟨x, hx⟩ := get_of (l := b.ks) (i := k) (by omega)
    obtain ⟨v, hv', a1, a2, a3⟩ := hkk k x hx
    refine ⟨by omega, by omega, rd_in ((hnd.ks.ext x11).ext x41) hx fun q o _ kc => ⟨x, by simpa using kc, rfl, hnext _ _ (by omega) ⟨x11.trans x41, x, v, g', false, by omega, a1, a2, a3, ?_, ?_⟩⟩⟩
    · rw [wrap_id (x := 1 + (j : Int) + 1) (by omega) (by omega)]
      rw [show (1 + (j : Int) + 1) = 1 + ((j + 1 : Nat) : Int) by omega]
    · rw [htou]
      show (if hitB u.es key = true then _ else match u.ks[atN u.es key]? with | some u => touchB key g' u (1 + (j : Int) + 1) | none => _) = _
      rw [← hbe, if_neg (by rw [hnh]; decide), hat, hv']
      show touchB key g' v (1 + (j : Int) + 1) = touchB key g' v (1 + ((j + 1 : Nat) : Int))
      rw [show (1 + (j : Int) + 1) = 1 + ((j + 1 : Nat) : Int) by omega]
  · have hlt := of_decide_eq_true hlt
    obtain ⟨e, he⟩ := get_of (l := b.es) (i := k) (by omega)
    have hm := List.mem_of_getElem? he
    have hke := ((hnd.key e hm).ext x11).ext x29
    have hhit : hitB b.es key = (cmpK e key == 0) := by unfold hitB; rw [hat, he]
    refine ⟨by omega, by omega, rd_en ((hnd.es.ext x11).ext x29) he fun q o _ k1 k2 => ⟨_, _, _, by simpa using k1, _, by simpa using k2, ?_⟩⟩
    refine c42 hke (hek e hm) fun A' c' s => ⟨_, _, _, rfl, c41 s (((hS.ext x11).ext x29)) fun H38 x38 => ⟨_, rfl, cndI (fun hz => ?_) fun hz => ?_⟩⟩
    · exact hJ.1 H38 (x29.trans x38) (.inl (by rw [hhit]; exact hz))
    · cases hk0 : (((b.ks.length : Nat) : Int) == 0) with
      | true => exact hJ.1 H38 (x29.trans x38) (.inr (List.eq_nil_of_length_eq_zero (by have := beq_iff_eq.1 hk0; omega)))
      | false => exact hJ.2 H38 (x29.trans x38) (by rw [hhit]; exact hz) (fun e0 => by rw [e0] at hk0; simp at hk0)
  · have hlt := of_decide_eq_false hlt
    have hhit : hitB b.es key = false := by unfold hitB; rw [hat, List.getElem?_eq_none_iff.2 (by omega)]
    cases hk0 : (((b.ks.length : Nat) : Int) == 0) with
    | true => exact hJ.1 H29 x29 (.inr (List.eq_nil_of_length_eq_zero (by have := beq_iff_eq.1 hk0; omega)))
    | false => exact hJ.2 H29 x29 hhit (fun e0 => by rw [e0] at hk0; simp at hk0)
theorem c19 (hTx : TxS key) (hT : TrAt H A n bl) (hF : Fewish bl) (hS : SlAt vlC H kA kn key) {h : Nat} {t : BT} (hv : treeV bl root cols = some S) (hA : AtB bl h root t) (hFu : FullB true h t) (ho : S.out = flatB h t) (hh : h ≤ 2000)
    (hq : ∀ H', Ext H H' → Q (.tuple #[.int .i64 (touT 1 cols key h t).1, .int .i64 (touT 1 cols key h t).2]) H') : HCalls Tryz.prog 19 [.agg #[.slice A n c, .int .i64 root, .int .i64 cols], .slice kA kn kc] H Q := by
  refine f19.ok _ _ _ _ _ _ _ _ ?_
  unfold f19
  obtain ⟨hs, hgd, _⟩ := tree_of hv
  have hent := good_ent hgd
  have hn := hT.sl.len
  have hsm := hT.sl.small
  unfold huge at hsm
  obtain rfl := hS.len
  obtain ⟨hs1, hs2, hs3, hs4⟩ := id hs
  unfold touT at hq
  refine jn_intro (fun J => (keyG 1 cols key = false → ∀ H', Ext H H' → J true H') ∧ (keyG 1 cols key = true → ∀ H', Ext H H' → J false H')) ⟨fun hg H8 x8 => cndT rfl (by rw [if_neg (by rw [hg]; decide)] at hq; exact hq H8 x8), fun hg H8 x8 => cndF rfl ?_⟩ fun J hJ => ?_
  rotate_left
  · refine c14 hT hF fun H2 x2 => ⟨_, rfl, ?_⟩
    rw [hv]
    refine cndF rfl (c43 hTx (hS.ext x2) hs2 ⟨_, rfl, ?_⟩)
    cases hk : keyG 1 cols key with
    | true => exact hJ.2 hk H2 x2
    | false => exact hJ.1 hk H2 x2
  rw [if_pos hg] at hq
  have hkv : validL key = true := by
    unfold keyG at hg
    simp only [Bool.and_eq_true, decide_eq_true_eq] at hg
    exact hg.2.2
  have hkc : ((key.length : Nat) : Int) ≤ cols := by
    unfold keyG at hg
    simp only [Bool.and_eq_true, decide_eq_true_eq] at hg
    exact hg.2.1
  refine loop_to h (fun j st H' => Ext H H' ∧ ∃ i u g r, g + j = h ∧ AtB bl g i u ∧ FullB r g u ∧ (∀ e ∈ flatB g u, e ∈ S.out) ∧ st = ((i, (1 + (j : Int), ())), ()) ∧ touchB key h t 1 = touchB key g u (1 + (j : Int))) ⟨x8, root, t, h, true, rfl, hA, hFu, fun e he => by rw [ho]; exact he, rfl, rfl⟩ ?_
  rintro j st H11 next hj ⟨x11, i, u, g, r, hgj, hA', hF', hin, rfl, htou⟩ hnext
  obtain ⟨hi0, b, hb, hbe, hb8, hbin, hkids⟩ := at_open hA' hF' hin
  have hnd := hT.nd b (List.mem_of_getElem? hb)
  have hil := (List.getElem?_eq_some_iff.1 hb).1
  have hksm := hnd.ks.small
  unfold huge at hksm
  dsimp only
  refine ⟨by omega, by omega, rd_nd (hT.ext x11).sl hb fun q o _ k1 k2 => ⟨_, _, _, k1, _, _, _, k2, ?_⟩⟩
  refine loop_to b.es.length (fun k st H' => Ext H11 H' ∧ st = (((k : Int), ()), ()) ∧ ∀ e ∈ b.es.take k, cmpK e key < 0) ⟨Ext.refl _, rfl, by simp⟩ ?_
  rintro k st H17 next18 hk ⟨x17, rfl, hall⟩ hnext18
  dsimp only
  have hek : ∀ e ∈ b.es, key.length ≤ e.key.length := fun e he => by have := (ent_len (hent e (hbin e he))).1; omega
  refine jn_intro (fun J => (∀ e H', b.es[k]? = some e → cmpK e key < 0 → Ext H11 H' → J true H') ∧ (∀ H', (∀ e, b.es[k]? = some e → ¬ cmpK e key < 0) → Ext H11 H' → J false H')) ⟨fun e H29 he hlt x29 => cndT rfl ⟨rfl, hnext18 _ _ (List.getElem?_eq_some_iff.1 he).1 ⟨x29, ?_, fun e' he' => ?_⟩⟩, fun H29 hge x29 => cndF rfl ?_⟩ fun J hJ => cndI (fun hlt => ?_) fun hlt => ?_
  · rw [wrap_id (x := (k : Int) + 1) (by omega) (by omega)]; rfl
  · rw [take_snoc he] at he'
    rcases List.mem_append.1 he' with he' | he'
    · exact hall e' he'
    · obtain rfl := List.mem_singleton.1 he'; exact hlt
  rotate_left
  · have hlt := of_decide_eq_true hlt
    obtain ⟨e, he⟩ := get_of (l := b.es) (i := k) (by omega)
    have hm := List.mem_of_getElem? he
    have hke := ((hnd.key e hm).ext x11).ext x17
    refine ⟨by omega, by omega, rd_en ((hnd.es.ext x11).ext x17) he fun q o _ k1 k2 => ⟨_, _, _, by simpa using k1, c44 hke.sl ((hS.ext x11).ext x17) hke.tx hTx ⟨_, rfl, ?_⟩⟩⟩
    rw [keyK (ent_len (hent e (hbin e hm))).2 hkv (hek e hm)]
    by_cases hc : cmpK e key < 0
    · rw [decide_eq_true hc]; exact hJ.1 e H17 he hc x17
    · rw [decide_eq_false hc]; exact hJ.2 H17 (fun e' he' => by rw [he] at he'; cases he'; exact hc) x17
  · have hlt := of_decide_eq_false hlt
    exact hJ.2 H17 (fun e he => by have := (List.getElem?_eq_some_iff.1 he).1; omega) x17
  have hat := at_is hall hge hk
  refine jn_intro (fun J => (∀ H', Ext H11 H' → (hitB b.es key = true ∨ b.ks = []) → J true H') ∧ (∀ H', Ext H11 H' → hitB b.es key = false → b.ks ≠ [] → J false H')) ⟨fun H41 x41 hst => cndT rfl ?_, fun H41 x41 hnh hnk => cndF rfl ?_⟩ fun J hJ => cndI (fun hk0 => hJ.1 H29 x29 (.inr (List.eq_nil_of_length_eq_zero (by have := beq_iff_eq.1 hk0; omega)))) fun hk0 => cndI (fun hlt => ?_) fun hlt => ?_
  · have : touchB key g u (1 + (j : Int)) = 1 + (j : Int) := by
      cases g with
      | zero => rfl
      | succ g =>
        have hh : hitB u.es key = true := by
          rcases hst with hst | hst
          · rw [← hbe]; exact hst
          · exfalso
            rcases hkids with ⟨h0, _⟩ | ⟨g', _, hl, _⟩
            · cases h0
            · rw [hst] at hl; simp at hl
        unfold touchB
        rw [if_pos hh]
    rw [htou, this] at hq
    exact hq H41 (x11.trans x41)
  · rcases hkids with ⟨_, h0⟩ | ⟨g', rfl, hl, hkk⟩
    · exact absurd h0 hnk
    obtain ⟨x, hx⟩ := get_of (l := b.ks) (i := k) (by omega)
    obtain ⟨v, hv', a1, a2, a3⟩ := hkk k x hx
    refine ⟨by omega, by omega, rd_in ((hnd.ks.ext x11).ext x41) hx fun q o _ kc => ⟨x, by simpa using kc, rfl, hnext _ _ (by omega) ⟨x11.trans x41, x, v, g', false, by omega, a1, a2, a3, ?_, ?_⟩⟩⟩
    · rw [wrap_id (x := 1 + (j : Int) + 1) (by omega) (by omega)]
      rw [show (1 + (j : Int) + 1) = 1 + ((j + 1 : Nat) : Int) by omega]
    · rw [htou]
      show (if hitB u.es key = true then _ else match u.ks[atN u.es key]? with | some u => touchB key g' u (1 + (j : Int) + 1) | none => _) = _
      rw [← hbe, if_neg (by rw [hnh]; decide), hat, hv']
      show touchB key g' v (1 + (j : Int) + 1) = touchB key g' v (1 + ((j + 1 : Nat) : Int))
      rw [show (1 + (j : Int) + 1) = 1 + ((j + 1 : Nat) : Int) by omega]
  · have hlt := of_decide_eq_true hlt
    obtain ⟨e, he⟩ := get_of (l := b.es) (i := k) (by omega)
    have hm := List.mem_of_getElem? he
    have hke := ((hnd.key e hm).ext x11).ext x29
    have hhit : hitB b.es key = (cmpK e key == 0) := by unfold hitB; rw [hat, he]
    refine ⟨by omega, by omega, rd_en ((hnd.es.ext x11).ext x29) he fun q o _ k1 k2 => ⟨_, _, _, by simpa using k1, c44 hke.sl ((hS.ext x11).ext x29) hke.tx hTx ⟨_, rfl, ?_⟩⟩⟩
    rw [keyK (ent_len (hent e (hbin e hm))).2 hkv (hek e hm)]
    cases hz : cmpK e key == 0 with
    | true => exact hJ.1 H29 x29 (.inl (by rw [hhit]; exact hz))
    | false => exact hJ.2 H29 x29 (by rw [hhit]; exact hz) (fun e0 => by rw [e0] at hk0; simp at hk0)
  · have hlt := of_decide_eq_false hlt
    have hhit : hitB b.es key = false := by unfold hitB; rw [hat, List.getElem?_eq_none_iff.2 (by omega)]
    exact hJ.2 H29 x29 hhit (fun e0 => by rw [e0] at hk0; simp at hk0)
end
end Go.Proofs.YtmelbipidffmpaaGreatDoor.Hw

/- Trees: Find and Between, of both. -/
set_option linter.unusedVariables false
set_option linter.unusedSimpArgs false
set_option linter.unusedSectionVars false
set_option maxRecDepth 20000
namespace Go.Proofs.YtmelbipidffmpaaGreatDoor.Hw
open Go Go.Proofs
/-- A number of a row is set. -/
theorem RowI.set {H0 H : Hp} {A : Option Addr} {c : Nat} {L : List Int} {x v : Int} {K : Hp → Prop} (R : RowI H0 H A c L) (hx : Ext H0 H) (h0 : 0 ≤ x) (h1 : x < L.length) (hk : ∀ H', RowI H0 H' A c (L.set x.toNat v) → Ext H0 H' → (∀ b, H' b ≠ H b → rowB A b ∨ H b = none) → K H') :
    onPtr A fun b o => storeF H b (o + x.toNat * 1) [.int .i64 v] K := by
  obtain ⟨r1, r2, ⟨r3, r4⟩ | ⟨b, cs, ty, rfl, r4, r5, r6, r7⟩⟩ := R
  · omega
  · have hl : L.length ≤ cs.length := by omega
    refine onPtrI ⟨cs, ty, r4, by simp; omega, hk _ ⟨by rw [inC_len], by rw [List.length_set]; exact r2, .inr ⟨b, _, ty, rfl, upd_at, ?_, ?_, r7⟩⟩ (hx.upd r7) fun q hq => .inl ?_⟩
    · rw [setR_length (by simp; omega)]; exact r5
    · rw [Nat.zero_add, Nat.mul_one, List.length_set, Nat.mul_one]
      rw [Nat.mul_one] at r6
      apply List.ext_getElem?
      intro j
      rw [inC_get, List.getElem?_set, List.getElem?_take]
      have hcs : ∀ j, j < L.length → cs[j]? = (L[j]?).map (fun x => Value.int .i64 x) := fun j hj => by
        have : (cs.take L.length)[j]? = (L.flatMap inC)[j]? := by rw [r6]
        rw [List.getElem?_take_of_lt hj, inC_get] at this
        exact this
      by_cases hj : j < L.length
      · rw [if_pos hj]
        unfold setR
        by_cases e : x.toNat = j
        · subst e
          rw [if_pos rfl, if_pos hj, List.append_assoc, List.getElem?_append_right (by simp; omega), List.length_take]
          rw [show x.toNat - min x.toNat cs.length = 0 by omega]
          rfl
        · rw [if_neg e, ← hcs j hj, List.append_assoc]
          by_cases e2 : j < x.toNat
          · rw [List.getElem?_append_left (by simp; omega), List.getElem?_take_of_lt e2]
          · rw [List.getElem?_append_right (by simp; omega), List.length_take, List.getElem?_append_right (by simp; omega), List.getElem?_drop]
            congr 1
            simp
            omega
      · rw [if_neg hj]
        by_cases e : x.toNat = j
        · omega
        · rw [if_neg e, List.getElem?_eq_none (by omega)]; rfl
    · by_cases e : q = b
      · subst e; exact ⟨_, _, rfl⟩
      · exact absurd (upd_off e) hq

/-- In the middle. -/
theorem mid_eq {a b : Nat} (h : a + b < 4611686018427387904) : IntKind.i64.wrap (Int.fdiv (IntKind.u64.wrap (IntKind.i64.wrap ((a : Int) + (b : Int)))) (2 ^ (min (1 : Int).toNat (IntKind.u64.bits)))) = (((a + b) / 2 : Nat) : Int) := by
  rw [wrap_id (x := (a : Int) + b) (by omega) (by omega)]
  have h1 : IntKind.u64.wrap ((a : Int) + b) = (a : Int) + b := by
    unfold IntKind.wrap
    simp [IntKind.bits, IntKind.signed]
    omega
  rw [h1]
  have h2 : (2 : Int) ^ (min (1 : Int).toNat (IntKind.u64.bits)) = 2 := by decide
  rw [h2, Int.fdiv_eq_ediv_of_nonneg _ (by omega)]
  rw [wrap_id (by omega) (by omega)]
  omega
theorem take_is {α : Type} {l : List α} {p : α → Bool} {k : Nat} (h1 : ∀ i a, i < k → l[i]? = some a → p a = true) (h2 : ∀ a, l[k]? = some a → p a = false) (hk : k ≤ l.length) : (l.takeWhile p).length = k := by
  conv => lhs; rw [← List.take_append_drop k l]
  rw [List.takeWhile_append_of_pos (fun e he => by
    obtain ⟨i, hi⟩ := List.mem_iff_getElem?.1 he
    have hlt := (List.getElem?_eq_some_iff.1 hi).1
    rw [List.length_take] at hlt
    rw [List.getElem?_take_of_lt (by omega)] at hi
    exact h1 i e (by omega) hi)]
  rw [List.length_append, List.length_take]
  have : (l.drop k).takeWhile p = [] := by
    cases hd : l.drop k with
    | nil => rfl
    | cons e r =>
      have he : l[k]? = some e := by
        have := congrArg (fun l => l[0]?) hd
        simpa using this
      rw [List.takeWhile_cons, h2 e he]; rfl
  rw [this]
  simp; omega
section
variable {H0 H : Hp} {A oA kA lA : Option Addr} {n c oc kn kc ln lc : Nat} {root cols : Int} {S : Sv} {Q : Value → Hp → Prop} {bl : List NdM} {key low : List Vl}
theorem c18N (N : NullAt H) (hT : TrAt H A n bl) (hF : Fewish bl) (hv : treeV bl root cols = none)
    (hq : ∀ H', Ext H H' → Q (.tuple #[.int .i64 0, .int .i64 2]) H') : HCalls Tryz.prog 18 [.agg #[.slice A n c, .int .i64 root, .int .i64 cols], .slice kA kn kc] H Q := by
  refine f18.ok _ _ _ _ _ _ _ _ ?_
  unfold f18
  refine jn_intro (fun J => ∀ H', Ext H H' → J true H') (fun H8 x8 => cndT rfl (hq H8 x8)) fun J hJ => ?_
  refine c13 N hT hF fun H2 x2 => ⟨_, rfl, ?_⟩
  rw [hv]
  exact cndT rfl (hJ H2 x2)
theorem c19N (hT : TrAt H A n bl) (hF : Fewish bl) (hv : treeV bl root cols = none)
    (hq : ∀ H', Ext H H' → Q (.tuple #[.int .i64 0, .int .i64 2]) H') : HCalls Tryz.prog 19 [.agg #[.slice A n c, .int .i64 root, .int .i64 cols], .slice kA kn kc] H Q := by
  refine f19.ok _ _ _ _ _ _ _ _ ?_
  unfold f19
  refine jn_intro (fun J => ∀ H', Ext H H' → J true H') (fun H8 x8 => cndT rfl (hq H8 x8)) fun J hJ => ?_
  refine c14 hT hF fun H2 x2 => ⟨_, rfl, ?_⟩
  rw [hv]
  exact cndT rfl (hJ H2 x2)
theorem c46 {e : EnM} (hK : KeyAt H e) (hS : SlAt vlC H kA kn key) (hl : key.length ≤ e.key.length) (hq : ∀ H', Ext H H' → Q (.int .i64 (if decide (cmpK e key < 0) = true then -1 else 1)) H') : HCalls Tryz.prog 46 [enA e, .slice kA kn kc] H Q := by
  refine f46.ok _ _ _ _ _ _ _ ?_
  unfold f46
  obtain rfl := hS.len
  refine c42 hK hl fun A' c' s => ⟨_, _, _, rfl, c41 s hS fun H5 x5 => ⟨_, rfl, cndI (fun h => ?_) fun h => ?_⟩⟩
  · have h : decide (cmpK e key < 0) = true := h
    rw [h] at hq; exact hq H5 x5
  · have h : decide (cmpK e key < 0) = false := h
    rw [h] at hq; exact hq H5 x5
theorem c47 {e : EnM} (hK : KeyAt H e) (hS : SlAt vlC H kA kn key) (hl : key.length ≤ e.key.length) (hq : ∀ H', Ext H H' → Q (.int .i64 (if decide (cmpK e key ≤ 0) = true then -1 else 1)) H') : HCalls Tryz.prog 47 [enA e, .slice kA kn kc] H Q := by
  refine f47.ok _ _ _ _ _ _ _ ?_
  unfold f47
  obtain rfl := hS.len
  refine c42 hK hl fun A' c' s => ⟨_, _, _, rfl, c41 s hS fun H5 x5 => ⟨_, rfl, cndI (fun h => ?_) fun h => ?_⟩⟩
  · have h : decide (cmpK e key ≤ 0) = true := h
    rw [h] at hq; exact hq H5 x5
  · have h : decide (cmpK e key ≤ 0) = false := h
    rw [h] at hq; exact hq H5 x5
theorem c45 {l : List EnM} {f : Nat} {p : EnM → Bool} (hl : SlAt enC H A n l) (hs : l.length < big) (hok : FnOk Tryz.prog f)
    (hmono : ∀ (i j : Nat) (a b : EnM), i ≤ j → l[i]? = some a → l[j]? = some b → p b = true → p a = true)
    (hcmp : ∀ e ∈ l, ∀ H' (Q' : Value → Hp → Prop), Ext H H' → (∀ H'', Ext H' H'' → Q' (.int .i64 (if p e = true then -1 else 1)) H'') → HCalls Tryz.prog f [enA e, .slice kA kn kc] H' Q')
    (hq : ∀ b H', Ext H H' → Q (.tuple #[.int .i64 (((l.takeWhile p).length : Nat) : Int), .bool b]) H') : HCalls Tryz.prog 45 [.slice A n c, .slice kA kn kc, .func (.func f) #[] #[]] H Q := by
  refine f45.ok _ _ _ _ _ _ _ _ _ ?_
  unfold f45
  obtain rfl := hl.len
  unfold big at hs
  refine loop_to l.length (fun j st H' => Ext H H' ∧ ∃ lo hi : Nat, st = (((lo : Int), ((hi : Int), ())), ()) ∧ lo ≤ hi ∧ hi ≤ l.length ∧ hi - lo + j ≤ l.length ∧ (∀ i a, i < lo → l[i]? = some a → p a = true) ∧ (∀ i a, hi ≤ i → l[i]? = some a → p a = false)) ⟨Ext.refl _, 0, l.length, rfl, by omega, by omega, by omega, fun i a h => by omega, fun i a h hi => by have := (List.getElem?_eq_some_iff.1 hi).1; omega⟩ ?_
  rintro j st H2 next hj ⟨x2, lo, hi, rfl, h1, h2, h3, h4, h5⟩ hnext
  dsimp only
  refine jn_intro (fun J => ∀ lo' hi' : Nat, ∀ H', Ext H H' → lo' ≤ hi' → hi' ≤ l.length → hi' - lo' + (j + 1) ≤ l.length → (∀ i a, i < lo' → l[i]? = some a → p a = true) → (∀ i a, hi' ≤ i → l[i]? = some a → p a = false) → j < l.length → J (lo' : Int) (hi' : Int) H') (fun lo' hi' H' x' g1 g2 g3 g4 g5 g6 => ⟨rfl, hnext _ _ g6 ⟨x', lo', hi', rfl, g1, g2, g3, g4, g5⟩⟩) fun J hJ => cndI (fun hlt => ?_) fun hlt => ?_
  · have hlt := of_decide_eq_true hlt
    rw [mid_eq (by omega)]
    obtain ⟨e, he⟩ := get_of (l := l) (i := (lo + hi) / 2) (by omega)
    have hm := List.mem_of_getElem? he
    refine ⟨by omega, by omega, by omega, rd_en (hl.ext x2) he fun q o _ k1 k2 => ⟨_, _, _, k1, _, k2, hok, ?_⟩⟩
    refine hcmp e hm H2 _ x2 fun H8 x8 => ⟨_, rfl, ?_⟩
    cases hp : p e with
    | true =>
      refine cndT (by decide) ?_
      rw [wrap_id (by omega) (by omega)]
      exact hJ ((lo + hi) / 2 + 1) hi H8 (x2.trans x8) (by omega) h2 (by omega) (fun i a hi' ha => hmono i _ a e (by omega) ha he hp) h5 (by omega)
    | false =>
      refine cndF (by decide) (hJ lo ((lo + hi) / 2) H8 (x2.trans x8) (by omega) (by omega) (by omega) h4 (fun i a hi' ha => ?_) (by omega))
      cases hpa : p a with
      | false => rfl
      | true => have := hmono _ i e a hi' he ha hpa; rw [hp] at this; cases this
  · have hlt := of_decide_eq_false hlt
    have hcnt : (l.takeWhile p).length = lo := take_is h4 (fun a ha => h5 lo a (by omega) ha) (by omega)
    rw [hcnt] at hq
    refine jn_intro (fun J => ∀ b H', Ext H H' → J b H') (fun b H' x' => hq b H' x') fun J hJ => cndI (fun hlt => ?_) fun hlt => hJ _ H2 x2
    have hlt := of_decide_eq_true hlt
    obtain ⟨e, he⟩ := get_of (l := l) (i := lo) (by omega)
    refine ⟨by omega, by omega, rd_en (hl.ext x2) he fun q o _ k1 k2 => ⟨_, _, _, by simpa using k1, _, by simpa using k2, hok, ?_⟩⟩
    exact hcmp e (List.mem_of_getElem? he) H2 _ x2 fun H8 x8 => ⟨_, rfl, hJ _ H8 (x2.trans x8)⟩
theorem c22 {B : Option Addr} {m ca cb : Nat} {x : List Int} (hA : SlAt inC H A n x) (hB : SlAt inC H B m x) (hq : Q (.bool true) H) : HCalls Tryz.prog 22 [.slice A n ca, .slice B m cb] H Q := by
  refine f22.ok _ _ _ _ _ _ ?_
  unfold f22
  obtain rfl := hA.len
  obtain rfl := hB.len
  refine cndF (by simp) (scan hA.lt (fun i H' => H' = H) rfl (fun i H2 next hi hI hnext => ?_) (fun H2 next hI => ?_))
  · obtain rfl := hI
    obtain ⟨v, hv⟩ := get_of hi
    dsimp only
    refine cndT (decide_eq_true (by omega)) ⟨by omega, by omega, rd_in hA hv fun q o _ k1 => ⟨_, by simpa using k1, by omega, by omega, rd_in hB hv fun q o _ k1 => ⟨_, by simpa using k1, cndF (by simp) ⟨rfl, hnext H2 rfl⟩⟩⟩⟩
  · obtain rfl := hI
    dsimp only
    exact cndF (decide_eq_false (by omega)) hq
/-- Turned round so far. -/
def turnI (l : List Int) (k : Nat) : List Int := (List.range l.length).map fun i => if i < k ∨ l.length - k ≤ i then l.getD (l.length - 1 - i) 0 else l.getD i 0
theorem turn_len {l : List Int} {k : Nat} : (turnI l k).length = l.length := by unfold turnI; simp
theorem turn_get {l : List Int} {k i : Nat} (h : i < l.length) : (turnI l k)[i]? = some (if i < k ∨ l.length - k ≤ i then l.getD (l.length - 1 - i) 0 else l.getD i 0) := by
  unfold turnI
  rw [List.getElem?_map, List.getElem?_range h]; rfl
theorem getD_get {l : List Int} {i : Nat} (h : i < l.length) : l[i]? = some (l.getD i 0) := by
  rw [List.getD_eq_getElem?_getD, List.getElem?_eq_getElem h]; rfl
theorem turn_zero {l : List Int} : turnI l 0 = l := by
  apply List.ext_getElem?
  intro i
  by_cases h : i < l.length
  · rw [turn_get h, if_neg (by omega), ← getD_get h]
  · rw [List.getElem?_eq_none (by rw [turn_len]; omega), List.getElem?_eq_none (by omega)]
theorem turn_done {l : List Int} {k : Nat} (h : l.length ≤ 2 * k + 1) (hk : 2 * k ≤ l.length) : turnI l k = l.reverse := by
  apply List.ext_getElem?
  intro i
  by_cases hi : i < l.length
  · rw [turn_get hi, List.getElem?_reverse hi, getD_get (by omega)]
    by_cases e : i < k ∨ l.length - k ≤ i
    · rw [if_pos e]
    · rw [if_neg e]; rw [show l.length - 1 - i = i by omega]
  · rw [List.getElem?_eq_none (by rw [turn_len]; omega), List.getElem?_eq_none (by simp; omega)]
theorem turn_step {l : List Int} {k : Nat} (h : 2 * k + 1 < l.length) : ((turnI l k).set k (l.getD (l.length - 1 - k) 0)).set (l.length - 1 - k) (l.getD k 0) = turnI l (k + 1) := by
  apply List.ext_getElem?
  intro i
  rw [List.getElem?_set, List.getElem?_set, List.length_set, turn_len]
  by_cases hi : i < l.length
  · rw [turn_get hi, turn_get hi]
    by_cases e1 : l.length - 1 - k = i
    · subst e1
      rw [if_pos rfl, if_pos (by omega), if_pos (by omega)]
      rw [show l.length - 1 - (l.length - 1 - k) = k by omega]
    · rw [if_neg e1]
      by_cases e2 : k = i
      · subst e2
        rw [if_pos rfl, if_pos (by omega), if_pos (by omega)]
      · rw [if_neg e2]
        by_cases e3 : i < k ∨ l.length - k ≤ i
        · rw [if_pos e3, if_pos (by omega)]
        · rw [if_neg e3, if_neg (by omega)]
  · rw [List.getElem?_eq_none (by rw [turn_len]; omega), List.getElem?_eq_none (by rw [turn_len]; omega)]
    by_cases e1 : l.length - 1 - k = i
    · omega
    · rw [if_neg e1]
      by_cases e2 : k = i
      · omega
      · rw [if_neg e2]
theorem c48 {l : List Int} (R : RowI H0 H A c l) (hx : Ext H0 H) (hs : l.length < big) (hq : ∀ H', Ext H0 H' → RowI H0 H' A c l.reverse → (∀ b, H' b ≠ H b → rowB A b ∨ H b = none) → Q (.tuple #[]) H') : HCalls Tryz.prog 48 [.slice A l.length c] H Q := by
  refine f48.ok _ _ _ ?_
  unfold f48
  unfold big at hs
  refine loop_to l.length (fun k st H' => Ext H0 H' ∧ 2 * k ≤ l.length ∧ st = (((k : Int), (((l.length : Nat) : Int) - 1 - (k : Int), ())), ()) ∧ RowI H0 H' A c (turnI l k) ∧ (∀ b, H' b ≠ H b → rowB A b ∨ H b = none)) ⟨hx, by omega, by rw [wrap_id (by omega) (by omega)]; simp, by rw [turn_zero]; exact R, fun b h => absurd rfl h⟩ ?_
  rintro k st H2 next hk ⟨x2, h2k, rfl, R2, ch⟩ hnext
  dsimp only
  refine cndI (fun hlt => ?_) fun hlt => ?_
  · have hlt := of_decide_eq_true hlt
    have et : (((l.length : Nat) : Int) - 1 - (k : Int)).toNat = l.length - 1 - k := by omega
    have h1 : (turnI l k)[l.length - 1 - k]? = some (l.getD (l.length - 1 - k) 0) := by rw [turn_get (by omega), if_neg (by omega)]
    have h2 : (turnI l k)[k]? = some (l.getD k 0) := by rw [turn_get (by omega), if_neg (by omega)]
    have s2 := R2.at (by rw [turn_len]; unfold big; omega)
    refine ⟨by omega, by omega, rd_in s2 h1 fun q o _ kc => ⟨_, by rw [et]; simpa using kc, by omega, by omega, rd_in s2 h2 fun q o _ kc => ⟨_, by simpa using kc, by omega, by omega, ?_⟩⟩⟩
    refine RowI.set R2 x2 (by omega) (by rw [turn_len]; omega) fun H9 R9 x9 ch9 => ⟨by omega, by omega, ?_⟩
    refine RowI.set R9 x9 (by omega) (by rw [List.length_set, turn_len]; omega) fun H11 R11 x11 ch11 => ⟨rfl, hnext _ _ (by omega) ⟨x11, by omega, ?_, ?_, ?_⟩⟩
    · rw [wrap_id (by omega) (by omega), wrap_id (by omega) (by omega)]
      congr 2
      congr 1
      omega
    · rw [et] at R11
      have e := turn_step (l := l) (k := k) (by omega)
      simp only [Int.toNat_natCast] at R11
      rw [List.getD_eq_getElem?_getD, List.getD_eq_getElem?_getD] at e
      rw [e] at R11; exact R11
    · intro b hb
      by_cases e1 : H11 b = H9 b
      · by_cases e2 : H9 b = H2 b
        · exact ch b (by rw [← e2, ← e1]; exact hb)
        · rcases ch9 b e2 with h | h
          · exact .inl h
          · by_cases e3 : H2 b = H b
            · exact .inr (by rw [← e3]; exact h)
            · exact ch b e3
      · rcases ch11 b e1 with h | h
        · exact .inl h
        · by_cases e2 : H9 b = H2 b
          · by_cases e3 : H2 b = H b
            · exact .inr (by rw [← e3, ← e2]; exact h)
            · exact ch b e3
          · rcases ch9 b e2 with h' | h'
            · exact .inl h'
            · by_cases e3 : H2 b = H b
              · exact .inr (by rw [← e3]; exact h')
              · exact ch b e3
  · have hlt := of_decide_eq_false hlt
    rw [turn_done (by omega) (by omega)] at R2
    exact hq H2 x2 R2 ch
end
end Go.Proofs.YtmelbipidffmpaaGreatDoor.Hw
