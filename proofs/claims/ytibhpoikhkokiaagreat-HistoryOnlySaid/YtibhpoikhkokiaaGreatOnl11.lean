/- HwFg Wa (joined by merge.py) -/
import Derived.Test.YtibhpoikhkokiaaGreatOnl3
import Derived.Test.YtibhpoikhkokiaaGreatOnl10
/- What functions of the program come to, by the evaluator: printed by a program of this session (gen.py) and checked here. -/
set_option linter.unusedVariables false
set_option maxRecDepth 100000
namespace Go.Proofs.YtibhpoikhkokiaaGreat.Hw
open Go Go.Proofs

/-- justiciar justiciarlaw29.HistoryTells -/
def f5 (pl_A : Option Addr) (pl_n pl_c : Nat) (H : Hp) (Q : Value → Hp → Prop) : Prop :=
  HCalls Tryz.prog 10 [.slice pl_A pl_n pl_c] H fun v1 H2 => ∃ x3 : Bool, v1 = .bool x3 ∧ cnd x3 (HCalls Tryz.prog 11 [] H2 fun v4 H5 => ∃ x6 : Bool, v4 = .bool x6 ∧ Q (.bool x6) H5) (HCalls Tryz.prog 18 [.slice pl_A pl_n
    pl_c] H2 fun v7 H8 => ∃ (A9 : Option Addr) (n9 c9 : Nat), ∃ x10 : Int, v7 = .tuple #[.slice A9 n9 c9, .int .i64 x10] ∧ HCalls Tryz.prog 19 [.slice pl_A pl_n pl_c] H8 fun v11 H12 => ∃ (A13 : Option Addr) (n13 c13 :
    Nat), ∃ x14 : Int, v11 = .tuple #[.slice A13 n13 c13, .int .i64 x14] ∧ jn (fun (j24 : Bool) (H25 : Hp) => cnd j24 (Q (.bool false) H25) (HCalls Tryz.prog 13 [.slice pl_A pl_n pl_c] H25 fun v27 H28 => ∃ (A29 : Option
    Addr) (n29 c29 : Nat), ∃ x30 : Int, v27 = .tuple #[.slice A29 n29 c29, .int .i64 x30] ∧ HCalls Tryz.prog 22 [.slice pl_A pl_n pl_c] H28 fun v31 H32 => ∃ (A33 : Option Addr) (n33 c33 : Nat), ∃ x34 : Int, v31 = .tuple
    #[.slice A33 n33 c33, .int .i64 x34] ∧ jn (fun (j38 : Bool) (H39 : Hp) => cnd j38 (Q (.bool false) H39) (HCalls Tryz.prog 23 [.slice pl_A pl_n pl_c] H39 fun v41 H42 => ∃ (A43 : Option Addr) (n43 c43 : Nat), ∃ x44 :
    Int, v41 = .tuple #[.slice A43 n43 c43, .int .i64 x44] ∧ HCalls Tryz.prog 24 [.slice pl_A pl_n pl_c] H42 fun v45 H46 => ∃ (A47 : Option Addr) (n47 c47 : Nat), ∃ x48 : Int, v45 = .tuple #[.slice A47 n47 c47, .int .i64
    x48] ∧ jn (fun (j55 : Bool) (H56 : Hp) => Q (.bool j55) H56) fun J57 => HCalls Tryz.prog 25 [.slice A43 n43 c43, .slice A47 n47 c47] H46 fun v49 H50 => ∃ x51 : Bool, v49 = .bool x51 ∧ cnd x51 (cnd ((x44 : Int) == x48)
    (HCalls Tryz.prog 11 [] H50 fun v52 H53 => ∃ x54 : Bool, v52 = .bool x54 ∧ J57 x54 H53) (J57 false H50)) (J57 false H50))) fun J40 => HCalls Tryz.prog 15 [.slice A29 n29 c29, .slice A33 n33 c33] H32 fun v35 H36 => ∃
    x37 : Bool, v35 = .bool x37 ∧ cnd (!x37) (J40 true H36) (J40 ((x30 : Int) != x34) H36))) fun J26 => HCalls Tryz.prog 20 [.slice A9 n9 c9, .slice A13 n13 c13] H12 fun v15 H16 => ∃ x17 : Bool, v15 = .bool x17 ∧ cnd
    (!x17) (J26 true H16) (cnd ((x10 : Int) != x14) (J26 true H16) (HCalls Tryz.prog 14 [.slice pl_A pl_n pl_c] H16 fun v18 H19 => ∃ x20 : Bool, v18 = .bool x20 ∧ HCalls Tryz.prog 21 [.slice pl_A pl_n pl_c] H19 fun v21
    H22 => ∃ x23 : Bool, v21 = .bool x23 ∧ J26 (!(x20 == x23)) H22)))
noncomputable def fcx5 : Cx := cx 80 [] [] [] []
theorem f5.eq (pl_A : Option Addr) (pl_n pl_c : Nat) (H : Hp) (Q : Value → Hp → Prop) : f5 pl_A pl_n pl_c H Q = wFun fcx5 Tryz.f5 [.slice pl_A pl_n pl_c] H Q := by kernel_rfl
theorem f5.ok (pl_A : Option Addr) (pl_n pl_c : Nat) {H : Hp} {Q : Value → Hp → Prop} (h : f5 pl_A pl_n pl_c H Q) : HCalls Tryz.prog 5 [.slice pl_A pl_n pl_c] H Q := hcalls_of (cxOk 80 [] [] [] []) Tryz.func5 (Eq.mp (f5.eq pl_A pl_n pl_c H Q) h)

/-- justiciar justiciarlaw29.HistoryFits -/
def f6 (pl_A : Option Addr) (pl_n pl_c : Nat) (psome_A : Option Addr) (psome_n psome_c : Nat) (H : Hp) (Q : Value → Hp → Prop) : Prop :=
  jn (fun (j4 : Bool) (H5 : Hp) => cnd j4 (HCalls Tryz.prog 11 [] H5 fun v7 H8 => ∃ x9 : Bool, v7 = .bool x9 ∧ Q (.bool x9) H8) (HCalls Tryz.prog 16 [.slice pl_A pl_n pl_c] H5 fun v10 H11 => ∃ x12 : Bool, ∃ x13 : Int, v10 =
    .tuple #[.bool x12, .int .i64 x13] ∧ HCalls Tryz.prog 26 [.slice pl_A pl_n pl_c] H11 fun v14 H15 => ∃ x16 : Bool, ∃ x17 : Int, v14 = .tuple #[.bool x16, .int .i64 x17] ∧ jn (fun (j18 : Bool) => cnd j18 (Q (.bool
    false) H15) (HCalls Tryz.prog 17 [.slice pl_A pl_n pl_c] H15 fun v20 H21 => ∃ x22 : Bool, ∃ x23 : Int, v20 = .tuple #[.bool x22, .int .i64 x23] ∧ HCalls Tryz.prog 27 [.slice pl_A pl_n pl_c] H21 fun v24 H25 => ∃ x26 :
    Bool, ∃ x27 : Int, v24 = .tuple #[.bool x26, .int .i64 x27] ∧ jn (fun (j28 : Bool) => cnd j28 (Q (.bool false) H25) (HCalls Tryz.prog 12 [.slice pl_A pl_n pl_c, .slice psome_A psome_n psome_c] H25 fun v30 H31 => ∃ x32
    : Bool, ∃ x33 : Int, v30 = .tuple #[.bool x32, .int .i64 x33] ∧ HCalls Tryz.prog 28 [.slice pl_A pl_n pl_c, .slice psome_A psome_n psome_c] H31 fun v34 H35 => ∃ x36 : Bool, ∃ x37 : Int, v34 = .tuple #[.bool x36, .int
    .i64 x37] ∧ jn (fun (j38 : Bool) => cnd j38 (Q (.bool false) H35) (HCalls Tryz.prog 29 [.slice pl_A pl_n pl_c] H35 fun v40 H41 => ∃ (A42 : Option Addr) (n42 c42 : Nat), ∃ x43 : Bool, ∃ x44 : Int, v40 = .tuple #[.slice
    A42 n42 c42, .bool x43, .int .i64 x44] ∧ HCalls Tryz.prog 30 [.slice pl_A pl_n pl_c] H41 fun v45 H46 => ∃ (A47 : Option Addr) (n47 c47 : Nat), ∃ x48 : Bool, ∃ x49 : Int, v45 = .tuple #[.slice A47 n47 c47, .bool x48,
    .int .i64 x49] ∧ jn (fun (j56 : Bool) (H57 : Hp) => Q (.bool j56) H57) fun J58 => HCalls Tryz.prog 25 [.slice A42 n42 c42, .slice A47 n47 c47] H46 fun v50 H51 => ∃ x52 : Bool, v50 = .bool x52 ∧ cnd x52 (cnd (x43 ==
    x48) (cnd ((x44 : Int) == x49) (HCalls Tryz.prog 11 [] H51 fun v53 H54 => ∃ x55 : Bool, v53 = .bool x55 ∧ J58 x55 H54) (J58 false H51)) (J58 false H51)) (J58 false H51))) fun J39 => cnd (!(x32 == x36)) (J39 true) (J39
    ((x33 : Int) != x37)))) fun J29 => cnd (!(x22 == x26)) (J29 true) (J29 ((x23 : Int) != x27)))) fun J19 => cnd (!(x12 == x16)) (J19 true) (J19 ((x13 : Int) != x17)))) fun J6 => HCalls Tryz.prog 10 [.slice pl_A pl_n
    pl_c] H fun v1 H2 => ∃ x3 : Bool, v1 = .bool x3 ∧ cnd x3 (J6 true H2) (J6 (decide ((((psome_n : Nat) : Int) : Int) > 300)) H2)
noncomputable def fcx6 : Cx := cx 103 [] [] [] []
theorem f6.eq (pl_A : Option Addr) (pl_n pl_c : Nat) (psome_A : Option Addr) (psome_n psome_c : Nat) (H : Hp) (Q : Value → Hp → Prop) : f6 pl_A pl_n pl_c psome_A psome_n psome_c H Q = wFun fcx6 Tryz.f6 [.slice pl_A pl_n pl_c, .slice psome_A psome_n psome_c] H Q := by kernel_rfl
theorem f6.ok (pl_A : Option Addr) (pl_n pl_c : Nat) (psome_A : Option Addr) (psome_n psome_c : Nat) {H : Hp} {Q : Value → Hp → Prop} (h : f6 pl_A pl_n pl_c psome_A psome_n psome_c H Q) : HCalls Tryz.prog 6 [.slice pl_A pl_n pl_c, .slice psome_A psome_n psome_c] H Q := hcalls_of (cxOk 103 [] [] [] []) Tryz.func6 (Eq.mp (f6.eq pl_A pl_n pl_c psome_A psome_n psome_c H Q) h)

/-- justiciar justiciarlaw29.HistoryOnly -/
def f7 (pl_A : Option Addr) (pl_n pl_c : Nat) (psome_A : Option Addr) (psome_n psome_c : Nat) (H : Hp) (Q : Value → Hp → Prop) : Prop :=
  jn (fun (j4 : Bool) (H5 : Hp) => cnd j4 (HCalls Tryz.prog 11 [] H5 fun v7 H8 => ∃ x9 : Bool, v7 = .bool x9 ∧ Q (.bool x9) H8) (HCalls Tryz.prog 31 [.slice pl_A pl_n pl_c, .slice psome_A psome_n psome_c] H5 fun v10 H11 =>
    ∃ (A12 : Option Addr) (n12 c12 : Nat), ∃ x13 : Int, v10 = .tuple #[.slice A12 n12 c12, .int .i64 x13] ∧ HCalls Tryz.prog 32 [.slice pl_A pl_n pl_c, .slice psome_A psome_n psome_c] H11 fun v14 H15 => ∃ (A16 : Option
    Addr) (n16 c16 : Nat), ∃ x17 : Int, v14 = .tuple #[.slice A16 n16 c16, .int .i64 x17] ∧ jn (fun (j30 : Bool) (H31 : Hp) => Q (.bool j30) H31) fun J32 => HCalls Tryz.prog 33 [.slice A12 n12 c12, .slice A16 n16 c16] H15
    fun v18 H19 => ∃ x20 : Bool, v18 = .bool x20 ∧ cnd x20 (cnd ((x13 : Int) == x17) (cnd ((x13 : Int) != 0) (HCalls Tryz.prog 11 [] H19 fun v21 H22 => ∃ x23 : Bool, v21 = .bool x23 ∧ J32 x23 H22) (HCalls Tryz.prog 14
    [.slice A12 n12 c12] H19 fun v24 H25 => ∃ x26 : Bool, v24 = .bool x26 ∧ cnd x26 (HCalls Tryz.prog 11 [] H25 fun v27 H28 => ∃ x29 : Bool, v27 = .bool x29 ∧ J32 x29 H28) (J32 false H25))) (J32 false H19)) (J32 false
    H19))) fun J6 => HCalls Tryz.prog 10 [.slice pl_A pl_n pl_c] H fun v1 H2 => ∃ x3 : Bool, v1 = .bool x3 ∧ cnd x3 (J6 true H2) (J6 (decide ((((psome_n : Nat) : Int) : Int) > 300)) H2)
noncomputable def fcx7 : Cx := cx 48 [] [] [] []
theorem f7.eq (pl_A : Option Addr) (pl_n pl_c : Nat) (psome_A : Option Addr) (psome_n psome_c : Nat) (H : Hp) (Q : Value → Hp → Prop) : f7 pl_A pl_n pl_c psome_A psome_n psome_c H Q = wFun fcx7 Tryz.f7 [.slice pl_A pl_n pl_c, .slice psome_A psome_n psome_c] H Q := by kernel_rfl
theorem f7.ok (pl_A : Option Addr) (pl_n pl_c : Nat) (psome_A : Option Addr) (psome_n psome_c : Nat) {H : Hp} {Q : Value → Hp → Prop} (h : f7 pl_A pl_n pl_c psome_A psome_n psome_c H Q) : HCalls Tryz.prog 7 [.slice pl_A pl_n pl_c, .slice psome_A psome_n psome_c] H Q := hcalls_of (cxOk 48 [] [] [] []) Tryz.func7 (Eq.mp (f7.eq pl_A pl_n pl_c psome_A psome_n psome_c H Q) h)

/-- justiciar justiciarref29.Arcs -/
def f19 (pl_A : Option Addr) (pl_n pl_c : Nat) (H : Hp) (Q : Value → Hp → Prop) : Prop :=
  HCalls Tryz.prog 21 [.slice pl_A pl_n pl_c] H fun v1 H2 => ∃ x3 : Bool, v1 = .bool x3 ∧ cnd (!x3) (Q (.tuple #[.slice none 0 0, .int .i64 2]) H2) (HCalls Tryz.prog 54 [.slice pl_A pl_n pl_c] H2 fun v4 H5 => ∃ p6 : Option
    Addr, v4 = .pointer p6 ∧ HCalls Tryz.prog 55 [.pointer p6] H5 fun v7 H8 => ∃ (A9 : Option Addr) (n9 c9 : Nat), v7 = .slice A9 n9 c9 ∧ Q (.tuple #[.slice A9 n9 c9, .int .i64 0]) H8)
noncomputable def fcx19 : Cx := cx 10 [] [] [] []
theorem f19.eq (pl_A : Option Addr) (pl_n pl_c : Nat) (H : Hp) (Q : Value → Hp → Prop) : f19 pl_A pl_n pl_c H Q = wFun fcx19 Tryz.f19 [.slice pl_A pl_n pl_c] H Q := by kernel_rfl
theorem f19.ok (pl_A : Option Addr) (pl_n pl_c : Nat) {H : Hp} {Q : Value → Hp → Prop} (h : f19 pl_A pl_n pl_c H Q) : HCalls Tryz.prog 19 [.slice pl_A pl_n pl_c] H Q := hcalls_of (cxOk 10 [] [] [] []) Tryz.func19 (Eq.mp (f19.eq pl_A pl_n pl_c H Q) h)

/-- justiciar justiciarref29.SameArcs -/
def f20 (pa_A : Option Addr) (pa_n pa_c : Nat) (pb_A : Option Addr) (pb_n pb_c : Nat) (H : Hp) (Q : Value → Hp → Prop) : Prop :=
  cnd ((((pa_n : Nat) : Int) : Int) != ((pb_n : Nat) : Int)) (Q (.bool false) H) (LoopF (σ := (Int × Unit) × Unit) ((0, ()), ()) H fun s1 H2 next3 => cnd (decide ((s1.1.1 : Int) < ((pa_n : Nat) : Int))) (0 ≤ (s1.1.1 : Int)
    ∧ (s1.1.1 : Int) < ((pa_n : Nat) : Int) ∧ onPtr pa_A fun b4 o4 => ∃ x5 : Int, cl H2 b4 (o4 + (s1.1.1 : Int).toNat * 4) = some (.int .i64 x5) ∧ ∃ x6 : Int, cl H2 b4 ((o4 + (s1.1.1 : Int).toNat * 4) + 1) = some (.int
    .i64 x6) ∧ ∃ x7 : Int, cl H2 b4 (((o4 + (s1.1.1 : Int).toNat * 4) + 1) + 1) = some (.int .i64 x7) ∧ ∃ x8 : Int, cl H2 b4 ((((o4 + (s1.1.1 : Int).toNat * 4) + 1) + 1) + 1) = some (.int .i64 x8) ∧ 0 ≤ (s1.1.1 : Int) ∧
    (s1.1.1 : Int) < ((pb_n : Nat) : Int) ∧ onPtr pb_A fun b9 o9 => ∃ x10 : Int, cl H2 b9 (o9 + (s1.1.1 : Int).toNat * 4) = some (.int .i64 x10) ∧ ∃ x11 : Int, cl H2 b9 ((o9 + (s1.1.1 : Int).toNat * 4) + 1) = some (.int
    .i64 x11) ∧ ∃ x12 : Int, cl H2 b9 (((o9 + (s1.1.1 : Int).toNat * 4) + 1) + 1) = some (.int .i64 x12) ∧ ∃ x13 : Int, cl H2 b9 ((((o9 + (s1.1.1 : Int).toNat * 4) + 1) + 1) + 1) = some (.int .i64 x13) ∧ cnd (!(((x5 :
    Int) == x10) && (((x6 : Int) == x11) && (((x7 : Int) == x12) && (((x8 : Int) == x13) && true))))) (Q (.bool false) H2) (KeepX [some (.v (.slice pa_A pa_n pa_c)), some (.v (.slice pb_A pb_n pb_c)), some (.v (.int .i64
    ((pa_n : Nat) : Int)))] [] ∧ next3 ((IntKind.i64.wrap (s1.1.1 + 1), ()), ()) H2)) (Q (.bool true) H2))
noncomputable def fcx20 : Cx := cx 26 [] [(4, ⟨[0, 1, 12], [], [(13, .int .i64)], []⟩)] [(6, (.look 0 (.look 1 (.look 2 (.look 3 (.look 4 (.look 5 (.look 6 (.look 7 (.look 8 .done))))))))))] []
theorem f20.eq (pa_A : Option Addr) (pa_n pa_c : Nat) (pb_A : Option Addr) (pb_n pb_c : Nat) (H : Hp) (Q : Value → Hp → Prop) : f20 pa_A pa_n pa_c pb_A pb_n pb_c H Q = wFun fcx20 Tryz.f20 [.slice pa_A pa_n pa_c, .slice pb_A pb_n pb_c] H Q := by kernel_rfl
theorem f20.ok (pa_A : Option Addr) (pa_n pa_c : Nat) (pb_A : Option Addr) (pb_n pb_c : Nat) {H : Hp} {Q : Value → Hp → Prop} (h : f20 pa_A pa_n pa_c pb_A pb_n pb_c H Q) : HCalls Tryz.prog 20 [.slice pa_A pa_n pa_c, .slice pb_A pb_n pb_c] H Q := hcalls_of (cxOk 26 [] [(4, ⟨[0, 1, 12], [], [(13, .int .i64)], []⟩)] [(6, (.look 0 (.look 1 (.look 2 (.look 3 (.look 4 (.look 5 (.look 6 (.look 7 (.look 8 .done))))))))))] []) Tryz.func20 (Eq.mp (f20.eq pa_A pa_n pa_c pb_A pb_n pb_c H Q) h)

/-- justiciar justiciarref29.Valid -/
def f21 (pl_A : Option Addr) (pl_n pl_c : Nat) (H : Hp) (Q : Value → Hp → Prop) : Prop :=
  cnd (decide ((((pl_n : Nat) : Int) : Int) > 2000)) (Q (.bool false) H) (((201 : Int) = 201 ∧ 0 ≤ (201 : Int) ∧ (201 : Int) ≤ 16777216 ∧ newF H 84 (List.replicate ((201 : Int).toNat) [.bool false, .bool false, .int .i64 0,
    .slice none 0 0]).flatten fun g1 H2 => LoopF (σ := (Int × Unit) × Unit) ((0, ()), ()) H2 fun s3 H4 next5 => cnd (decide ((s3.1.1 : Int) < ((pl_n : Nat) : Int))) (jn (fun (H53 : Hp) => KeepX [some (.v (.slice (some
    ⟨g1, 0, none⟩) ((201 : Int).toNat) ((201 : Int).toNat))), some (.v (.slice pl_A pl_n pl_c)), some (.v (.int .i64 ((pl_n : Nat) : Int)))] [] ∧ next5 ((IntKind.i64.wrap (s3.1.1 + 1), ()), ()) H53) fun J54 => 0 ≤ (s3.1.1
    : Int) ∧ (s3.1.1 : Int) < ((pl_n : Nat) : Int) ∧ onPtr pl_A fun b6 o6 => ∃ x7 : Int, cl H4 b6 (o6 + (s3.1.1 : Int).toNat * 5) = some (.int .i64 x7) ∧ ∃ x8 : Int, cl H4 b6 ((o6 + (s3.1.1 : Int).toNat * 5) + 1) = some
    (.int .i64 x8) ∧ ∃ x9 : Int, cl H4 b6 (((o6 + (s3.1.1 : Int).toNat * 5) + 1) + 1) = some (.int .i64 x9) ∧ ∃ x10 : Int, cl H4 b6 ((((o6 + (s3.1.1 : Int).toNat * 5) + 1) + 1) + 1) = some (.int .i64 x10) ∧ ∃ x11 : Int,
    cl H4 b6 (((((o6 + (s3.1.1 : Int).toNat * 5) + 1) + 1) + 1) + 1) = some (.int .i64 x11) ∧ HCalls Tryz.prog 56 [.agg #[.int .i64 x7, .int .i64 x8, .int .i64 x9, .int .i64 x10, .int .i64 x11]] H4 fun v12 H13 => ∃ x14 :
    Bool, v12 = .bool x14 ∧ cnd (!x14) (Q (.bool false) H13) (0 ≤ (x8 : Int) ∧ (x8 : Int) < ((((201 : Int).toNat) : Nat) : Int) ∧ jn (fun (j17 : Bool) => cnd j17 (Q (.bool false) H13) (cnd ((x7 : Int) == 1) (storeF H13 g1
    ((0 + (x8 : Int).toNat * 4) + 0) [.bool true] fun H19 => J54 H19) (jn (fun (j20 : Bool) => cnd j20 (storeF H13 g1 ((0 + (x8 : Int).toNat * 4) + 1) [.bool true] fun H22 => J54 H22) (∃ x23 : Int, cl H13 g1 ((0 + (x8 :
    Int).toNat * 4) + 2) = some (.int .i64 x23) ∧ cnd (decide ((x11 : Int) < x23)) (Q (.bool false) H13) (storeF H13 g1 ((0 + (x8 : Int).toNat * 4) + 2) [.int .i64 x11] fun H24 => jn (fun (j29 : Bool) (H30 : Hp) => cnd
    j29 (Q (.bool false) H30) (cnd ((x7 : Int) == 2) (J54 H30) (LoopF (σ := (Int × Unit) × Unit) ((0, ()), ()) H30 fun s32 H33 next34 => cnd (decide ((s32.1.1 : Int) < ((((201 : Int).toNat) : Nat) : Int))) (jn (fun (j40 :
    Bool) (H41 : Hp) => cnd j40 (Q (.bool false) H41) (KeepX [some (.v (.slice (some ⟨g1, 0, none⟩) ((201 : Int).toNat) ((201 : Int).toNat))), some (.loc 5 0), some (.v (.pointer (some ⟨g1, 0 + (x8 : Int).toNat * 4,
    none⟩))), some (.v (.slice pl_A pl_n pl_c)), some (.v (.int .i64 ((pl_n : Nat) : Int))), some (.v (.int .i64 s3.1.1)), some (.v (.int .i64 ((((201 : Int).toNat) : Nat) : Int)))] [some (true, [.int .i64 x7, .int .i64
    x8, .int .i64 x9, .int .i64 x10, .int .i64 x11])] ∧ next34 ((IntKind.i64.wrap (s32.1.1 + 1), ()), ()) H41)) fun J42 => cnd ((s32.1.1 : Int) != x8) (0 ≤ (s32.1.1 : Int) ∧ (s32.1.1 : Int) < ((((201 : Int).toNat) : Nat)
    : Int) ∧ ∃ x35 : Bool, cl H33 g1 ((0 + (s32.1.1 : Int).toNat * 4) + 1) = some (.bool x35) ∧ cnd (!x35) (0 ≤ (s32.1.1 : Int) ∧ (s32.1.1 : Int) < ((((201 : Int).toNat) : Nat) : Int) ∧ ∃ (A36 : Option Addr) (n36 c36 :
    Nat), cl H33 g1 ((0 + (s32.1.1 : Int).toNat * 4) + 3) = some (.slice A36 n36 c36) ∧ HCalls Tryz.prog 57 [.slice A36 n36 c36, .int .i64 x9] H33 fun v37 H38 => ∃ x39 : Bool, v37 = .bool x39 ∧ J42 x39 H38) (J42 false
    H33)) (J42 false H33)) (∃ (A43 : Option Addr) (n43 c43 : Nat), cl H33 g1 ((0 + (x8 : Int).toNat * 4) + 3) = some (.slice A43 n43 c43) ∧ HCalls Tryz.prog 57 [.slice A43 n43 c43, .int .i64 x9] H33 fun v44 H45 => ∃ x46 :
    Bool, v44 = .bool x46 ∧ cnd (!x46) (∃ (A47 : Option Addr) (n47 c47 : Nat), cl H45 g1 ((0 + (x8 : Int).toNat * 4) + 3) = some (.slice A47 n47 c47) ∧ newF H45 3 [.int .i64 x9] fun g48 H49 => appendF H49 3 1 8 A47 n47
    c47 (some ⟨g48, 0, none⟩) 1 fun A50 n50 c50 H51 => storeF H51 g1 ((0 + (x8 : Int).toNat * 4) + 3) [.slice A50 n50 c50] fun H52 => J54 H52) (J54 H45))))) fun J31 => cnd ((x7 : Int) == 2) (cnd ((x10 : Int) != 0) (cnd
    (decide ((x10 : Int) < 0)) (J31 true H24) (cnd (decide ((x10 : Int) > 200)) (J31 true H24) (0 ≤ (x10 : Int) ∧ (x10 : Int) < ((((201 : Int).toNat) : Nat) : Int) ∧ ∃ (A25 : Option Addr) (n25 c25 : Nat), cl H24 g1 ((0 +
    (x10 : Int).toNat * 4) + 3) = some (.slice A25 n25 c25) ∧ HCalls Tryz.prog 57 [.slice A25 n25 c25, .int .i64 x9] H24 fun v26 H27 => ∃ x28 : Bool, v26 = .bool x28 ∧ J31 (!x28) H27))) (J31 false H24)) (J31 false H24))))
    fun J21 => cnd ((x7 : Int) == 4) (J21 ((x7 : Int) == 4)) (J21 ((x7 : Int) == 5))))) fun J18 => ∃ x15 : Bool, cl H13 g1 ((0 + (x8 : Int).toNat * 4) + 1) = some (.bool x15) ∧ cnd x15 (J18 true) (∃ x16 : Bool, cl H13 g1
    ((0 + (x8 : Int).toNat * 4) + 0) = some (.bool x16) ∧ J18 (x16 == ((x7 : Int) == 1))))) (Q (.bool true) H4)))
noncomputable def fcx21 : Cx := cx 145 [(5, true)] [(5, ⟨[3, 12, 13], [], [(14, .int .i64)], []⟩), (20, ⟨[3, 5, 6, 12, 13, 14, 87], [5], [(88, .int .i64)], []⟩)] [(10, (.look 0 (.look 1 (.look 2 (.look 3 (.look 4 (.look 5 (.look 6 (.look 7 (.look 8 (.look 9 (.look 10 (.look 11 (.look 12 (.look 13 .done))))))))))))))), (13, (.look 0 (.look 1 (.look 2 (.look 3 (.look 4 (.look 5 (.look 6 .done)))))))), (16, (.look 0 (.look 1 (.look 2 (.look 3 (.look 4 (.look 5 (.look 6 (.look 7 (.look 8 (.look 9 (.look 10 (.look 11 (.look 12 (.look 13 (.look 14 (.look 15 (.look 16 (.look 17 (.look 18 (.look 19 (.look 20 (.look 21 (.look 22 (.look 23 (.look 24 (.look 25 (.act 26 (.look 27 (.look 28 (.look 29 .done))) .done)))))))))))))))))))))))))))), (22, (.look 0 (.look 1 (.look 2 (.look 3 (.look 4 (.look 5 (.look 6 (.look 7 (.look 8 (.look 9 (.look 10 (.look 11 (.look 12 (.look 13 (.look 14 (.look 15 (.look 16 (.look 17 (.look 18 (.look 19 (.act 20 (.look 21 .done) .done)))))))))))))))))))))), (25, (.look 0 (.look 1 (.look 2 (.look 3 (.look 4 (.look 5 (.act 6 (.look 7 .done) .done)))))))), (26, (.look 0 (.look 1 (.look 2 (.look 3 (.look 4 (.look 5 (.look 6 (.act 7 (.act 8 (.look 9 (.look 10 (.act 11 .done .done))) .done) .done)))))))))] []
theorem f21.eq (pl_A : Option Addr) (pl_n pl_c : Nat) (H : Hp) (Q : Value → Hp → Prop) : f21 pl_A pl_n pl_c H Q = wFun fcx21 Tryz.f21 [.slice pl_A pl_n pl_c] H Q := by kernel_rfl
theorem f21.ok (pl_A : Option Addr) (pl_n pl_c : Nat) {H : Hp} {Q : Value → Hp → Prop} (h : f21 pl_A pl_n pl_c H Q) : HCalls Tryz.prog 21 [.slice pl_A pl_n pl_c] H Q := hcalls_of (cxOk 145 [(5, true)] [(5, ⟨[3, 12, 13], [], [(14, .int .i64)], []⟩), (20, ⟨[3, 5, 6, 12, 13, 14, 87], [5], [(88, .int .i64)], []⟩)] [(10, (.look 0 (.look 1 (.look 2 (.look 3 (.look 4 (.look 5 (.look 6 (.look 7 (.look 8 (.look 9 (.look 10 (.look 11 (.look 12 (.look 13 .done))))))))))))))), (13, (.look 0 (.look 1 (.look 2 (.look 3 (.look 4 (.look 5 (.look 6 .done)))))))), (16, (.look 0 (.look 1 (.look 2 (.look 3 (.look 4 (.look 5 (.look 6 (.look 7 (.look 8 (.look 9 (.look 10 (.look 11 (.look 12 (.look 13 (.look 14 (.look 15 (.look 16 (.look 17 (.look 18 (.look 19 (.look 20 (.look 21 (.look 22 (.look 23 (.look 24 (.look 25 (.act 26 (.look 27 (.look 28 (.look 29 .done))) .done)))))))))))))))))))))))))))), (22, (.look 0 (.look 1 (.look 2 (.look 3 (.look 4 (.look 5 (.look 6 (.look 7 (.look 8 (.look 9 (.look 10 (.look 11 (.look 12 (.look 13 (.look 14 (.look 15 (.look 16 (.look 17 (.look 18 (.look 19 (.act 20 (.look 21 .done) .done)))))))))))))))))))))), (25, (.look 0 (.look 1 (.look 2 (.look 3 (.look 4 (.look 5 (.act 6 (.look 7 .done) .done)))))))), (26, (.look 0 (.look 1 (.look 2 (.look 3 (.look 4 (.look 5 (.look 6 (.act 7 (.act 8 (.look 9 (.look 10 (.act 11 .done .done))) .done) .done)))))))))] []) Tryz.func21 (Eq.mp (f21.eq pl_A pl_n pl_c H Q) h)

/-- justiciar justiciarref29.Faults -/
def f22 (pl_A : Option Addr) (pl_n pl_c : Nat) (H : Hp) (Q : Value → Hp → Prop) : Prop :=
  HCalls Tryz.prog 21 [.slice pl_A pl_n pl_c] H fun v1 H2 => ∃ x3 : Bool, v1 = .bool x3 ∧ cnd (!x3) (Q (.tuple #[.slice none 0 0, .int .i64 2]) H2) (HCalls Tryz.prog 54 [.slice pl_A pl_n pl_c] H2 fun v4 H5 => ∃ p6 : Option
    Addr, v4 = .pointer p6 ∧ HCalls Tryz.prog 55 [.pointer p6] H5 fun v7 H8 => ∃ (A9 : Option Addr) (n9 c9 : Nat), v7 = .slice A9 n9 c9 ∧ jn (fun (jA17 : Option Addr) (jn18 : Nat) (jc19 : Nat) (H20 : Hp) => jn (fun (jA29
    : Option Addr) (jn30 : Nat) (jc31 : Nat) (H32 : Hp) => jn (fun (jA41 : Option Addr) (jn42 : Nat) (jc43 : Nat) (H44 : Hp) => jn (fun (jA53 : Option Addr) (jn54 : Nat) (jc55 : Nat) (H56 : Hp) => jn (fun (jA65 : Option
    Addr) (jn66 : Nat) (jc67 : Nat) (H68 : Hp) => jn (fun (jA80 : Option Addr) (jn81 : Nat) (jc82 : Nat) (H83 : Hp) => Q (.tuple #[.slice jA80 jn81 jc82, .int .i64 0]) H83) fun J84 => jn (fun (j73 : Bool) (H74 : Hp) =>
    cnd j73 (newF H74 9 [.string ({ data := #[99, 105, 114, 99, 108, 101, 115, 32, 114, 119] } : ByteArray)] fun g76 H77 => appendF H77 9 1 16 jA65 jn66 jc67 (some ⟨g76, 0, none⟩) 1 fun A78 n78 c78 H79 => J84 A78 n78 c78
    H79) (J84 jA65 jn66 jc67 H74)) fun J75 => cnd ((((jn66 : Nat) : Int) : Int) == ((jn30 : Nat) : Int)) (HCalls Tryz.prog 60 [.slice A9 n9 c9, .int .i64 3, .int .i64 3] H68 fun v70 H71 => ∃ x72 : Bool, v70 = .bool x72 ∧
    J75 x72 H71) (J75 false H68)) fun J69 => HCalls Tryz.prog 60 [.slice A9 n9 c9, .int .i64 3, .int .i64 2] H56 fun v58 H59 => ∃ x60 : Bool, v58 = .bool x60 ∧ cnd x60 (newF H59 9 [.string ({ data := #[99, 105, 114, 99,
    108, 101, 32, 114, 119] } : ByteArray)] fun g61 H62 => appendF H62 9 1 16 jA53 jn54 jc55 (some ⟨g61, 0, none⟩) 1 fun A63 n63 c63 H64 => J69 A63 n63 c63 H64) (J69 jA53 jn54 jc55 H59)) fun J57 => HCalls Tryz.prog 60
    [.slice A9 n9 c9, .int .i64 2, .int .i64 2] H44 fun v46 H47 => ∃ x48 : Bool, v46 = .bool x48 ∧ cnd x48 (newF H47 9 [.string ({ data := #[99, 105, 114, 99, 108, 101, 32, 119, 114] } : ByteArray)] fun g49 H50 => appendF
    H50 9 1 16 jA41 jn42 jc43 (some ⟨g49, 0, none⟩) 1 fun A51 n51 c51 H52 => J57 A51 n51 c51 H52) (J57 jA41 jn42 jc43 H47)) fun J45 => HCalls Tryz.prog 60 [.slice A9 n9 c9, .int .i64 1, .int .i64 1] H32 fun v34 H35 => ∃
    x36 : Bool, v34 = .bool x36 ∧ cnd x36 (newF H35 9 [.string ({ data := #[99, 105, 114, 99, 108, 101, 32, 119, 119] } : ByteArray)] fun g37 H38 => appendF H38 9 1 16 jA29 jn30 jc31 (some ⟨g37, 0, none⟩) 1 fun A39 n39
    c39 H40 => J45 A39 n39 c39 H40) (J45 jA29 jn30 jc31 H35)) fun J33 => HCalls Tryz.prog 59 [.pointer p6] H20 fun v22 H23 => ∃ x24 : Bool, v22 = .bool x24 ∧ cnd x24 (newF H23 9 [.string ({ data := #[114, 101, 97, 100,
    32, 98, 101, 116, 119, 101, 101, 110] } : ByteArray)] fun g25 H26 => appendF H26 9 1 16 jA17 jn18 jc19 (some ⟨g25, 0, none⟩) 1 fun A27 n27 c27 H28 => J33 A27 n27 c27 H28) (J33 jA17 jn18 jc19 H23)) fun J21 => HCalls
    Tryz.prog 58 [.pointer p6] H8 fun v10 H11 => ∃ x12 : Bool, v10 = .bool x12 ∧ cnd x12 (newF H11 9 [.string ({ data := #[97, 98, 111, 114, 116, 101, 100, 32, 114, 101, 97, 100] } : ByteArray)] fun g13 H14 => appendF H14
    9 1 16 none 0 0 (some ⟨g13, 0, none⟩) 1 fun A15 n15 c15 H16 => J21 A15 n15 c15 H16) (J21 none 0 0 H11))
noncomputable def fcx22 : Cx := cx 54 [] [] [] []
theorem f22.eq (pl_A : Option Addr) (pl_n pl_c : Nat) (H : Hp) (Q : Value → Hp → Prop) : f22 pl_A pl_n pl_c H Q = wFun fcx22 Tryz.f22 [.slice pl_A pl_n pl_c] H Q := by kernel_rfl
theorem f22.ok (pl_A : Option Addr) (pl_n pl_c : Nat) {H : Hp} {Q : Value → Hp → Prop} (h : f22 pl_A pl_n pl_c H Q) : HCalls Tryz.prog 22 [.slice pl_A pl_n pl_c] H Q := hcalls_of (cxOk 54 [] [] [] []) Tryz.func22 (Eq.mp (f22.eq pl_A pl_n pl_c H Q) h)

/-- justiciar justiciarref29.Anomaly -/
def f24 (pl_A : Option Addr) (pl_n pl_c : Nat) (H : Hp) (Q : Value → Hp → Prop) : Prop :=
  HCalls Tryz.prog 21 [.slice pl_A pl_n pl_c] H fun v1 H2 => ∃ x3 : Bool, v1 = .bool x3 ∧ cnd (!x3) (Q (.tuple #[.slice none 0 0, .int .i64 2]) H2) (HCalls Tryz.prog 54 [.slice pl_A pl_n pl_c] H2 fun v4 H5 => ∃ p6 : Option
    Addr, v4 = .pointer p6 ∧ HCalls Tryz.prog 55 [.pointer p6] H5 fun v7 H8 => ∃ (A9 : Option Addr) (n9 c9 : Nat), v7 = .slice A9 n9 c9 ∧ HCalls Tryz.prog 65 [.pointer p6] H8 fun v10 H11 => ∃ (A12 : Option Addr) (n12 c12
    : Nat), v10 = .slice A12 n12 c12 ∧ LoopF (σ := ((Option Addr × Nat × Nat) × (Int × Unit)) × Unit) (((none, 0, 0), (0, ())), ()) H11 fun s13 H14 next15 => cnd (decide ((s13.1.2.1 : Int) < ((n12 : Nat) : Int))) (jn (fun
    (jA23 : Option Addr) (jn24 : Nat) (jc25 : Nat) (H26 : Hp) => KeepX [some (.v (.slice A9 n9 c9)), some (.v (.slice A12 n12 c12)), some (.v (.int .i64 ((n12 : Nat) : Int)))] [] ∧ next15 (((jA23, jn24, jc25),
    (IntKind.i64.wrap (s13.1.2.1 + 1), ())), ()) H26) fun J27 => 0 ≤ (s13.1.2.1 : Int) ∧ (s13.1.2.1 : Int) < ((n12 : Nat) : Int) ∧ onPtr A12 fun b16 o16 => ∃ x17 : Int, cl H14 b16 (o16 + (s13.1.2.1 : Int).toNat * 1) =
    some (.int .i64 x17) ∧ HCalls Tryz.prog 66 [.slice A9 n9 c9, .int .i64 x17] H14 fun v18 H19 => ∃ (A20 : Option Addr) (n20 c20 : Nat), v18 = .slice A20 n20 c20 ∧ jn (fun (j21 : Bool) => cnd j21 (J27 A20 n20 c20 H19)
    (J27 s13.1.1.1 s13.1.1.2.1 s13.1.1.2.2 H19)) fun J22 => cnd (decide ((((n20 : Nat) : Int) : Int) > 0)) (cnd ((((s13.1.1.2.1 : Nat) : Int) : Int) == 0) (J22 true) (J22 (decide ((((n20 : Nat) : Int) : Int) <
    ((s13.1.1.2.1 : Nat) : Int))))) (J22 false)) (cnd ((((s13.1.1.2.1 : Nat) : Int) : Int) == 0) (Q (.tuple #[.slice none 0 0, .int .i64 4]) H14) (Q (.tuple #[.slice s13.1.1.1 s13.1.1.2.1 s13.1.1.2.2, .int .i64 0]) H14)))
noncomputable def fcx24 : Cx := cx 48 [] [(7, ⟨[5, 18, 19], [], [(6, .slice), (20, .int .i64)], []⟩)] [] []
theorem f24.eq (pl_A : Option Addr) (pl_n pl_c : Nat) (H : Hp) (Q : Value → Hp → Prop) : f24 pl_A pl_n pl_c H Q = wFun fcx24 Tryz.f24 [.slice pl_A pl_n pl_c] H Q := by kernel_rfl
theorem f24.ok (pl_A : Option Addr) (pl_n pl_c : Nat) {H : Hp} {Q : Value → Hp → Prop} (h : f24 pl_A pl_n pl_c H Q) : HCalls Tryz.prog 24 [.slice pl_A pl_n pl_c] H Q := hcalls_of (cxOk 48 [] [(7, ⟨[5, 18, 19], [], [(6, .slice), (20, .int .i64)], []⟩)] [] []) Tryz.func24 (Eq.mp (f24.eq pl_A pl_n pl_c H Q) h)

/-- justiciar justiciarref29.Committed -/
def f26 (pl_A : Option Addr) (pl_n pl_c : Nat) (H : Hp) (Q : Value → Hp → Prop) : Prop :=
  HCalls Tryz.prog 28 [.slice pl_A pl_n pl_c, .slice none 0 0] H fun v1 H2 => ∃ x3 : Bool, ∃ x4 : Int, v1 = .tuple #[.bool x3, .int .i64 x4] ∧ Q (.tuple #[.bool x3, .int .i64 x4]) H2
noncomputable def fcx26 : Cx := cx 8 [] [] [] []
theorem f26.eq (pl_A : Option Addr) (pl_n pl_c : Nat) (H : Hp) (Q : Value → Hp → Prop) : f26 pl_A pl_n pl_c H Q = wFun fcx26 Tryz.f26 [.slice pl_A pl_n pl_c] H Q := by kernel_rfl
theorem f26.ok (pl_A : Option Addr) (pl_n pl_c : Nat) {H : Hp} {Q : Value → Hp → Prop} (h : f26 pl_A pl_n pl_c H Q) : HCalls Tryz.prog 26 [.slice pl_A pl_n pl_c] H Q := hcalls_of (cxOk 8 [] [] [] []) Tryz.func26 (Eq.mp (f26.eq pl_A pl_n pl_c H Q) h)

/-- justiciar justiciarref29.Serial -/
def f27 (pl_A : Option Addr) (pl_n pl_c : Nat) (H : Hp) (Q : Value → Hp → Prop) : Prop :=
  HCalls Tryz.prog 21 [.slice pl_A pl_n pl_c] H fun v1 H2 => ∃ x3 : Bool, v1 = .bool x3 ∧ cnd (!x3) (Q (.tuple #[.bool false, .int .i64 2]) H2) (HCalls Tryz.prog 54 [.slice pl_A pl_n pl_c] H2 fun v4 H5 => ∃ p6 : Option
    Addr, v4 = .pointer p6 ∧ HCalls Tryz.prog 67 [.pointer p6, .bool true, .slice none 0 0] H5 fun v7 H8 => ∃ x9 : Bool, v7 = .bool x9 ∧ Q (.tuple #[.bool x9, .int .i64 0]) H8)
noncomputable def fcx27 : Cx := cx 10 [] [] [] []
theorem f27.eq (pl_A : Option Addr) (pl_n pl_c : Nat) (H : Hp) (Q : Value → Hp → Prop) : f27 pl_A pl_n pl_c H Q = wFun fcx27 Tryz.f27 [.slice pl_A pl_n pl_c] H Q := by kernel_rfl
theorem f27.ok (pl_A : Option Addr) (pl_n pl_c : Nat) {H : Hp} {Q : Value → Hp → Prop} (h : f27 pl_A pl_n pl_c H Q) : HCalls Tryz.prog 27 [.slice pl_A pl_n pl_c] H Q := hcalls_of (cxOk 10 [] [] [] []) Tryz.func27 (Eq.mp (f27.eq pl_A pl_n pl_c H Q) h)

/-- justiciar justiciarref29.Fits -/
def f28 (pl_A : Option Addr) (pl_n pl_c : Nat) (pserial_A : Option Addr) (pserial_n pserial_c : Nat) (H : Hp) (Q : Value → Hp → Prop) : Prop :=
  HCalls Tryz.prog 21 [.slice pl_A pl_n pl_c] H fun v1 H2 => ∃ x3 : Bool, v1 = .bool x3 ∧ cnd (!x3) (Q (.tuple #[.bool false, .int .i64 2]) H2) (HCalls Tryz.prog 54 [.slice pl_A pl_n pl_c] H2 fun v4 H5 => ∃ p6 : Option
    Addr, v4 = .pointer p6 ∧ HCalls Tryz.prog 67 [.pointer p6, .bool false, .slice pserial_A pserial_n pserial_c] H5 fun v7 H8 => ∃ x9 : Bool, v7 = .bool x9 ∧ Q (.tuple #[.bool x9, .int .i64 0]) H8)
noncomputable def fcx28 : Cx := cx 13 [] [] [] []
theorem f28.eq (pl_A : Option Addr) (pl_n pl_c : Nat) (pserial_A : Option Addr) (pserial_n pserial_c : Nat) (H : Hp) (Q : Value → Hp → Prop) : f28 pl_A pl_n pl_c pserial_A pserial_n pserial_c H Q = wFun fcx28 Tryz.f28 [.slice pl_A pl_n pl_c, .slice pserial_A pserial_n pserial_c] H Q := by kernel_rfl
theorem f28.ok (pl_A : Option Addr) (pl_n pl_c : Nat) (pserial_A : Option Addr) (pserial_n pserial_c : Nat) {H : Hp} {Q : Value → Hp → Prop} (h : f28 pl_A pl_n pl_c pserial_A pserial_n pserial_c H Q) : HCalls Tryz.prog 28 [.slice pl_A pl_n pl_c, .slice pserial_A pserial_n pserial_c] H Q := hcalls_of (cxOk 13 [] [] [] []) Tryz.func28 (Eq.mp (f28.eq pl_A pl_n pl_c pserial_A pserial_n pserial_c H Q) h)

/-- justiciar justiciarref29.Order -/
def f30 (pl_A : Option Addr) (pl_n pl_c : Nat) (H : Hp) (Q : Value → Hp → Prop) : Prop :=
  HCalls Tryz.prog 21 [.slice pl_A pl_n pl_c] H fun v1 H2 => ∃ x3 : Bool, v1 = .bool x3 ∧ cnd (!x3) (Q (.tuple #[.slice none 0 0, .bool false, .int .i64 2]) H2) (HCalls Tryz.prog 54 [.slice pl_A pl_n pl_c] H2 fun v4 H5 => ∃
    p6 : Option Addr, v4 = .pointer p6 ∧ HCalls Tryz.prog 55 [.pointer p6] H5 fun v7 H8 => ∃ (A9 : Option Addr) (n9 c9 : Nat), v7 = .slice A9 n9 c9 ∧ jn (fun (j16 : Bool) (H17 : Hp) => cnd j16 (Q (.tuple #[.slice none 0
    0, .bool false, .int .i64 0]) H17) (HCalls Tryz.prog 65 [.pointer p6] H17 fun v19 H20 => ∃ (A21 : Option Addr) (n21 c21 : Nat), v19 = .slice A21 n21 c21 ∧ LoopF (σ := ((Option Addr × Nat × Nat) × ((Option Addr × Nat ×
    Nat) × Unit)) × Unit) (((A21, n21, c21), ((none, 0, 0), ())), ()) H20 fun s22 H23 next24 => cnd (decide ((((s22.1.1.2.1 : Nat) : Int) : Int) > 0)) (LoopF (σ := (Int × (Int × Unit)) × Unit) (((-1), (0, ())), ()) H23
    fun s25 H26 next27 => cnd (decide ((s25.1.2.1 : Int) < ((s22.1.1.2.1 : Nat) : Int))) (jn (fun (j50 : Int) (H51 : Hp) => KeepX [some (.v (.slice A9 n9 c9)), some (.v (.slice s22.1.1.1 s22.1.1.2.1 s22.1.1.2.2)), some
    (.v (.slice s22.1.2.1.1 s22.1.2.1.2.1 s22.1.2.1.2.2)), some (.v (.slice s22.1.1.1 s22.1.1.2.1 s22.1.1.2.2)), some (.v (.int .i64 ((s22.1.1.2.1 : Nat) : Int)))] [] ∧ next27 ((j50, (IntKind.i64.wrap (s25.1.2.1 + 1),
    ())), ()) H51) fun J52 => 0 ≤ (s25.1.2.1 : Int) ∧ (s25.1.2.1 : Int) < ((s22.1.1.2.1 : Nat) : Int) ∧ onPtr s22.1.1.1 fun b28 o28 => ∃ x29 : Int, cl H26 b28 (o28 + (s25.1.2.1 : Int).toNat * 1) = some (.int .i64 x29) ∧
    LoopF (σ := (Bool × (Int × Unit)) × Unit) ((true, (0, ())), ()) H26 fun s30 H31 next32 => cnd (decide ((s30.1.2.1 : Int) < ((n9 : Nat) : Int))) (jn (fun (j41 : Bool) (j42 : Int) (j43 : Int) (j44 : Int) (j45 : Int)
    (H46 : Hp) => KeepX [some (.v (.slice A9 n9 c9)), some (.v (.slice s22.1.1.1 s22.1.1.2.1 s22.1.1.2.2)), some (.v (.slice s22.1.2.1.1 s22.1.2.1.2.1 s22.1.2.1.2.2)), some (.v (.int .i64 s25.1.1)), some (.v (.int .i64
    s25.1.2.1)), some (.v (.int .i64 x29)), some (.v (.slice s22.1.1.1 s22.1.1.2.1 s22.1.1.2.2)), some (.v (.int .i64 ((s22.1.1.2.1 : Nat) : Int))), some (.v (.int .i64 s25.1.2.1)), some (.v (.slice A9 n9 c9)), some (.v
    (.int .i64 ((n9 : Nat) : Int)))] [] ∧ next32 ((j41, (IntKind.i64.wrap (s30.1.2.1 + 1), ())), ()) H46) fun J47 => 0 ≤ (s30.1.2.1 : Int) ∧ (s30.1.2.1 : Int) < ((n9 : Nat) : Int) ∧ onPtr A9 fun b33 o33 => ∃ x34 : Int, cl
    H31 b33 (o33 + (s30.1.2.1 : Int).toNat * 4) = some (.int .i64 x34) ∧ ∃ x35 : Int, cl H31 b33 ((o33 + (s30.1.2.1 : Int).toNat * 4) + 1) = some (.int .i64 x35) ∧ ∃ x36 : Int, cl H31 b33 (((o33 + (s30.1.2.1 : Int).toNat
    * 4) + 1) + 1) = some (.int .i64 x36) ∧ ∃ x37 : Int, cl H31 b33 ((((o33 + (s30.1.2.1 : Int).toNat * 4) + 1) + 1) + 1) = some (.int .i64 x37) ∧ cnd s30.1.1 (cnd ((x35 : Int) != x29) (J47 true x34 x35 x36 x37 H31)
    (HCalls Tryz.prog 57 [.slice s22.1.2.1.1 s22.1.2.1.2.1 s22.1.2.1.2.2, .int .i64 x34] H31 fun v38 H39 => ∃ x40 : Bool, v38 = .bool x40 ∧ J47 x40 x34 x35 x36 x37 H39)) (J47 false x34 x35 x36 x37 H31)) (jn (fun (j48 :
    Bool) => cnd j48 (J52 s25.1.2.1 H31) (J52 s25.1.1 H31)) fun J49 => cnd s30.1.1 (J49 (decide ((s25.1.1 : Int) < 0))) (J49 false))) (cnd (decide ((s25.1.1 : Int) < 0)) (Q (.tuple #[.slice none 0 0, .bool false, .int
    .i64 0]) H26) (0 ≤ (s25.1.1 : Int) ∧ (s25.1.1 : Int) < ((s22.1.1.2.1 : Nat) : Int) ∧ onPtr s22.1.1.1 fun b53 o53 => ∃ x54 : Int, cl H26 b53 (o53 + (s25.1.1 : Int).toNat * 1) = some (.int .i64 x54) ∧ newF H26 3 [.int
    .i64 x54] fun g55 H56 => appendF H56 3 1 8 s22.1.2.1.1 s22.1.2.1.2.1 s22.1.2.1.2.2 (some ⟨g55, 0, none⟩) 1 fun A57 n57 c57 H58 => 0 ≤ (s25.1.1 : Int) ∧ (s25.1.1 : Int) ≤ ((s22.1.1.2.2 : Nat) : Int) ∧ 0 ≤ (s25.1.1 :
    Int) ∧ (s25.1.1 : Int) ≤ (s25.1.1 : Int) ∧ 0 ≤ (IntKind.i64.wrap (s25.1.1 + 1) : Int) ∧ (IntKind.i64.wrap (s25.1.1 + 1) : Int) ≤ ((s22.1.1.2.1 : Nat) : Int) ∧ appendF H58 3 1 8 (cutA s22.1.1.1 (0 * 1) (decide
    (((s25.1.1 : Int).toNat) = 0))) (((s25.1.1 : Int).toNat) - 0) (((s25.1.1 : Int).toNat) - 0) (cutA s22.1.1.1 (((IntKind.i64.wrap (s25.1.1 + 1) : Int).toNat) * 1) (decide (s22.1.1.2.2 = ((IntKind.i64.wrap (s25.1.1 + 1)
    : Int).toNat)))) (s22.1.1.2.1 - ((IntKind.i64.wrap (s25.1.1 + 1) : Int).toNat)) fun A59 n59 c59 H60 => KeepX [some (.v (.slice A9 n9 c9))] [] ∧ next24 (((A59, n59, c59), ((A57, n57, c57), ())), ()) H60))) (Q (.tuple
    #[.slice s22.1.2.1.1 s22.1.2.1.2.1 s22.1.2.1.2.2, .bool true, .int .i64 0]) H23))) fun J18 => HCalls Tryz.prog 58 [.pointer p6] H8 fun v10 H11 => ∃ x12 : Bool, v10 = .bool x12 ∧ cnd x12 (J18 true H11) (HCalls
    Tryz.prog 59 [.pointer p6] H11 fun v13 H14 => ∃ x15 : Bool, v13 = .bool x15 ∧ J18 x15 H14))
noncomputable def fcx30 : Cx := cx 86 [(14, true)] [(9, ⟨[6], [], [(7, .slice), (8, .slice)], []⟩), (12, ⟨[6, 7, 8, 33, 34], [], [(9, .int .i64), (35, .int .i64)], []⟩), (16, ⟨[6, 7, 8, 9, 10, 11, 33, 34, 35, 40, 41], [], [(12, .bool), (42, .int .i64)], []⟩)] [(26, (.look 0 (.look 1 (.look 2 (.look 3 (.look 4 (.look 5 (.look 6 (.look 7 (.act 8 (.act 9 .done .done) .done))))))))))] []
theorem f30.eq (pl_A : Option Addr) (pl_n pl_c : Nat) (H : Hp) (Q : Value → Hp → Prop) : f30 pl_A pl_n pl_c H Q = wFun fcx30 Tryz.f30 [.slice pl_A pl_n pl_c] H Q := by kernel_rfl
theorem f30.ok (pl_A : Option Addr) (pl_n pl_c : Nat) {H : Hp} {Q : Value → Hp → Prop} (h : f30 pl_A pl_n pl_c H Q) : HCalls Tryz.prog 30 [.slice pl_A pl_n pl_c] H Q := hcalls_of (cxOk 86 [(14, true)] [(9, ⟨[6], [], [(7, .slice), (8, .slice)], []⟩), (12, ⟨[6, 7, 8, 33, 34], [], [(9, .int .i64), (35, .int .i64)], []⟩), (16, ⟨[6, 7, 8, 9, 10, 11, 33, 34, 35, 40, 41], [], [(12, .bool), (42, .int .i64)], []⟩)] [(26, (.look 0 (.look 1 (.look 2 (.look 3 (.look 4 (.look 5 (.look 6 (.look 7 (.act 8 (.act 9 .done .done) .done))))))))))] []) Tryz.func30 (Eq.mp (f30.eq pl_A pl_n pl_c H Q) h)

/-- justiciar justiciarref29.Only -/
def f32 (pl_A : Option Addr) (pl_n pl_c : Nat) (ptxns_A : Option Addr) (ptxns_n ptxns_c : Nat) (H : Hp) (Q : Value → Hp → Prop) : Prop :=
  HCalls Tryz.prog 21 [.slice pl_A pl_n pl_c] H fun v1 H2 => ∃ x3 : Bool, v1 = .bool x3 ∧ cnd (!x3) (Q (.tuple #[.slice none 0 0, .int .i64 2]) H2) (LoopF (σ := ((Option Addr × Nat × Nat) × (Int × Unit)) × Unit) (((none, 0,
    0), (0, ())), ()) H2 fun s4 H5 next6 => cnd (decide ((s4.1.2.1 : Int) < ((pl_n : Nat) : Int))) (jn (fun (jA26 : Option Addr) (jn27 : Nat) (jc28 : Nat) (H29 : Hp) => KeepX [some (.v (.slice ptxns_A ptxns_n ptxns_c)),
    some (.v (.slice pl_A pl_n pl_c)), some (.v (.int .i64 ((pl_n : Nat) : Int)))] [] ∧ next6 (((jA26, jn27, jc28), (IntKind.i64.wrap (s4.1.2.1 + 1), ())), ()) H29) fun J30 => 0 ≤ (s4.1.2.1 : Int) ∧ (s4.1.2.1 : Int) <
    ((pl_n : Nat) : Int) ∧ onPtr pl_A fun b7 o7 => ∃ x8 : Int, cl H5 b7 (o7 + (s4.1.2.1 : Int).toNat * 5) = some (.int .i64 x8) ∧ ∃ x9 : Int, cl H5 b7 ((o7 + (s4.1.2.1 : Int).toNat * 5) + 1) = some (.int .i64 x9) ∧ ∃ x10
    : Int, cl H5 b7 (((o7 + (s4.1.2.1 : Int).toNat * 5) + 1) + 1) = some (.int .i64 x10) ∧ ∃ x11 : Int, cl H5 b7 ((((o7 + (s4.1.2.1 : Int).toNat * 5) + 1) + 1) + 1) = some (.int .i64 x11) ∧ ∃ x12 : Int, cl H5 b7 (((((o7 +
    (s4.1.2.1 : Int).toNat * 5) + 1) + 1) + 1) + 1) = some (.int .i64 x12) ∧ HCalls Tryz.prog 57 [.slice ptxns_A ptxns_n ptxns_c, .int .i64 x9] H5 fun v13 H14 => ∃ x15 : Bool, v13 = .bool x15 ∧ cnd (!x15) (J30 s4.1.1.1
    s4.1.1.2.1 s4.1.1.2.2 H14) (jn (fun (j19 : Int) (H20 : Hp) => newF H20 35 [.int .i64 x8, .int .i64 x9, .int .i64 x10, .int .i64 j19, .int .i64 x12] fun g22 H23 => appendF H23 35 5 40 s4.1.1.1 s4.1.1.2.1 s4.1.1.2.2
    (some ⟨g22, 0, none⟩) 1 fun A24 n24 c24 H25 => J30 A24 n24 c24 H25) fun J21 => HCalls Tryz.prog 57 [.slice ptxns_A ptxns_n ptxns_c, .int .i64 x11] H14 fun v16 H17 => ∃ x18 : Bool, v16 = .bool x18 ∧ cnd (!x18) (J21 0
    H17) (J21 x11 H17))) (Q (.tuple #[.slice s4.1.1.1 s4.1.1.2.1 s4.1.1.2.2, .int .i64 0]) H5))
noncomputable def fcx32 : Cx := cx 35 [(8, true)] [(5, ⟨[1, 12, 13], [], [(6, .slice), (14, .int .i64)], []⟩)] [] []
theorem f32.eq (pl_A : Option Addr) (pl_n pl_c : Nat) (ptxns_A : Option Addr) (ptxns_n ptxns_c : Nat) (H : Hp) (Q : Value → Hp → Prop) : f32 pl_A pl_n pl_c ptxns_A ptxns_n ptxns_c H Q = wFun fcx32 Tryz.f32 [.slice pl_A pl_n pl_c, .slice ptxns_A ptxns_n ptxns_c] H Q := by kernel_rfl
theorem f32.ok (pl_A : Option Addr) (pl_n pl_c : Nat) (ptxns_A : Option Addr) (ptxns_n ptxns_c : Nat) {H : Hp} {Q : Value → Hp → Prop} (h : f32 pl_A pl_n pl_c ptxns_A ptxns_n ptxns_c H Q) : HCalls Tryz.prog 32 [.slice pl_A pl_n pl_c, .slice ptxns_A ptxns_n ptxns_c] H Q := hcalls_of (cxOk 35 [(8, true)] [(5, ⟨[1, 12, 13], [], [(6, .slice), (14, .int .i64)], []⟩)] [] []) Tryz.func32 (Eq.mp (f32.eq pl_A pl_n pl_c ptxns_A ptxns_n ptxns_c H Q) h)

/-- justiciar justiciarref29.Same -/
def f33 (pa_A : Option Addr) (pa_n pa_c : Nat) (pb_A : Option Addr) (pb_n pb_c : Nat) (H : Hp) (Q : Value → Hp → Prop) : Prop :=
  cnd ((((pa_n : Nat) : Int) : Int) != ((pb_n : Nat) : Int)) (Q (.bool false) H) (LoopF (σ := (Int × Unit) × Unit) ((0, ()), ()) H fun s1 H2 next3 => cnd (decide ((s1.1.1 : Int) < ((pa_n : Nat) : Int))) (0 ≤ (s1.1.1 : Int)
    ∧ (s1.1.1 : Int) < ((pa_n : Nat) : Int) ∧ onPtr pa_A fun b4 o4 => ∃ x5 : Int, cl H2 b4 (o4 + (s1.1.1 : Int).toNat * 5) = some (.int .i64 x5) ∧ ∃ x6 : Int, cl H2 b4 ((o4 + (s1.1.1 : Int).toNat * 5) + 1) = some (.int
    .i64 x6) ∧ ∃ x7 : Int, cl H2 b4 (((o4 + (s1.1.1 : Int).toNat * 5) + 1) + 1) = some (.int .i64 x7) ∧ ∃ x8 : Int, cl H2 b4 ((((o4 + (s1.1.1 : Int).toNat * 5) + 1) + 1) + 1) = some (.int .i64 x8) ∧ ∃ x9 : Int, cl H2 b4
    (((((o4 + (s1.1.1 : Int).toNat * 5) + 1) + 1) + 1) + 1) = some (.int .i64 x9) ∧ 0 ≤ (s1.1.1 : Int) ∧ (s1.1.1 : Int) < ((pb_n : Nat) : Int) ∧ onPtr pb_A fun b10 o10 => ∃ x11 : Int, cl H2 b10 (o10 + (s1.1.1 : Int).toNat
    * 5) = some (.int .i64 x11) ∧ ∃ x12 : Int, cl H2 b10 ((o10 + (s1.1.1 : Int).toNat * 5) + 1) = some (.int .i64 x12) ∧ ∃ x13 : Int, cl H2 b10 (((o10 + (s1.1.1 : Int).toNat * 5) + 1) + 1) = some (.int .i64 x13) ∧ ∃ x14 :
    Int, cl H2 b10 ((((o10 + (s1.1.1 : Int).toNat * 5) + 1) + 1) + 1) = some (.int .i64 x14) ∧ ∃ x15 : Int, cl H2 b10 (((((o10 + (s1.1.1 : Int).toNat * 5) + 1) + 1) + 1) + 1) = some (.int .i64 x15) ∧ cnd (!(((x5 : Int) ==
    x11) && (((x6 : Int) == x12) && (((x7 : Int) == x13) && (((x8 : Int) == x14) && (((x9 : Int) == x15) && true)))))) (Q (.bool false) H2) (KeepX [some (.v (.slice pa_A pa_n pa_c)), some (.v (.slice pb_A pb_n pb_c)),
    some (.v (.int .i64 ((pa_n : Nat) : Int)))] [] ∧ next3 ((IntKind.i64.wrap (s1.1.1 + 1), ()), ()) H2)) (Q (.bool true) H2))
noncomputable def fcx33 : Cx := cx 26 [] [(4, ⟨[0, 1, 12], [], [(13, .int .i64)], []⟩)] [(6, (.look 0 (.look 1 (.look 2 (.look 3 (.look 4 (.look 5 (.look 6 (.look 7 (.look 8 .done))))))))))] []
theorem f33.eq (pa_A : Option Addr) (pa_n pa_c : Nat) (pb_A : Option Addr) (pb_n pb_c : Nat) (H : Hp) (Q : Value → Hp → Prop) : f33 pa_A pa_n pa_c pb_A pb_n pb_c H Q = wFun fcx33 Tryz.f33 [.slice pa_A pa_n pa_c, .slice pb_A pb_n pb_c] H Q := by kernel_rfl
theorem f33.ok (pa_A : Option Addr) (pa_n pa_c : Nat) (pb_A : Option Addr) (pb_n pb_c : Nat) {H : Hp} {Q : Value → Hp → Prop} (h : f33 pa_A pa_n pa_c pb_A pb_n pb_c H Q) : HCalls Tryz.prog 33 [.slice pa_A pa_n pa_c, .slice pb_A pb_n pb_c] H Q := hcalls_of (cxOk 26 [] [(4, ⟨[0, 1, 12], [], [(13, .int .i64)], []⟩)] [(6, (.look 0 (.look 1 (.look 2 (.look 3 (.look 4 (.look 5 (.look 6 (.look 7 (.look 8 .done))))))))))] []) Tryz.func33 (Eq.mp (f33.eq pa_A pa_n pa_c pb_A pb_n pb_c H Q) h)

/-- justiciar justiciarref29.looked -/
def f54 (pl_A : Option Addr) (pl_n pl_c : Nat) (H : Hp) (Q : Value → Hp → Prop) : Prop :=
  ((201 : Int) = 201 ∧ 0 ≤ (201 : Int) ∧ (201 : Int) ≤ 16777216 ∧ newF H 3 (List.replicate ((201 : Int).toNat) [.int .i64 0]).flatten fun g1 H2 => newF H2 118 [.slice pl_A pl_n pl_c, .slice (some ⟨g1, 0, none⟩) ((201 :
    Int).toNat) ((201 : Int).toNat)] fun g3 H4 => ∃ (A5 : Option Addr) (n5 c5 : Nat), cl H4 g3 (0 + 1) = some (.slice A5 n5 c5) ∧ LoopF (σ := (Int × Unit) × Unit) ((0, ()), ()) H4 fun s6 H7 next8 => cnd (decide ((s6.1.1 :
    Int) < ((n5 : Nat) : Int))) (∃ (A9 : Option Addr) (n9 c9 : Nat), cl H7 g3 (0 + 1) = some (.slice A9 n9 c9) ∧ 0 ≤ (s6.1.1 : Int) ∧ (s6.1.1 : Int) < ((n9 : Nat) : Int) ∧ onPtr A9 fun b10 o10 => storeF H7 b10 (o10 +
    (s6.1.1 : Int).toNat * 1) [.int .i64 (-1)] fun H11 => KeepX [some (.v (.slice pl_A pl_n pl_c)), some (.v (.pointer (some ⟨g3, 0, none⟩))), some (.v (.int .i64 ((n5 : Nat) : Int)))] [] ∧ next8 ((IntKind.i64.wrap
    (s6.1.1 + 1), ()), ()) H11) (LoopF (σ := (Int × Unit) × Unit) ((0, ()), ()) H7 fun s12 H13 next14 => cnd (decide ((s12.1.1 : Int) < ((pl_n : Nat) : Int))) (jn (fun (H24 : Hp) => KeepX [some (.v (.pointer (some ⟨g3, 0,
    none⟩))), some (.v (.slice pl_A pl_n pl_c)), some (.v (.int .i64 ((pl_n : Nat) : Int)))] [] ∧ next14 ((IntKind.i64.wrap (s12.1.1 + 1), ()), ()) H24) fun J25 => 0 ≤ (s12.1.1 : Int) ∧ (s12.1.1 : Int) < ((pl_n : Nat) :
    Int) ∧ onPtr pl_A fun b15 o15 => ∃ x16 : Int, cl H13 b15 (o15 + (s12.1.1 : Int).toNat * 5) = some (.int .i64 x16) ∧ ∃ x17 : Int, cl H13 b15 ((o15 + (s12.1.1 : Int).toNat * 5) + 1) = some (.int .i64 x17) ∧ ∃ x18 : Int,
    cl H13 b15 (((o15 + (s12.1.1 : Int).toNat * 5) + 1) + 1) = some (.int .i64 x18) ∧ ∃ x19 : Int, cl H13 b15 ((((o15 + (s12.1.1 : Int).toNat * 5) + 1) + 1) + 1) = some (.int .i64 x19) ∧ ∃ x20 : Int, cl H13 b15 (((((o15 +
    (s12.1.1 : Int).toNat * 5) + 1) + 1) + 1) + 1) = some (.int .i64 x20) ∧ cnd ((x16 : Int) == 4) (∃ (A21 : Option Addr) (n21 c21 : Nat), cl H13 g3 (0 + 1) = some (.slice A21 n21 c21) ∧ 0 ≤ (x17 : Int) ∧ (x17 : Int) <
    ((n21 : Nat) : Int) ∧ onPtr A21 fun b22 o22 => storeF H13 b22 (o22 + (x17 : Int).toNat * 1) [.int .i64 s12.1.1] fun H23 => J25 H23) (J25 H13)) (Q (.pointer (some ⟨g3, 0, none⟩)) H13)))
noncomputable def fcx54 : Cx := cx 46 [(6, true)] [(3, ⟨[0, 3, 15], [], [(16, .int .i64)], []⟩), (8, ⟨[3, 26, 27], [], [(28, .int .i64)], []⟩)] [(11, (.look 0 (.look 1 (.look 2 (.look 3 (.look 4 (.look 5 (.look 6 (.look 7 (.act 8 .done .done))))))))))] []
theorem f54.eq (pl_A : Option Addr) (pl_n pl_c : Nat) (H : Hp) (Q : Value → Hp → Prop) : f54 pl_A pl_n pl_c H Q = wFun fcx54 Tryz.f54 [.slice pl_A pl_n pl_c] H Q := by kernel_rfl
theorem f54.ok (pl_A : Option Addr) (pl_n pl_c : Nat) {H : Hp} {Q : Value → Hp → Prop} (h : f54 pl_A pl_n pl_c H Q) : HCalls Tryz.prog 54 [.slice pl_A pl_n pl_c] H Q := hcalls_of (cxOk 46 [(6, true)] [(3, ⟨[0, 3, 15], [], [(16, .int .i64)], []⟩), (8, ⟨[3, 26, 27], [], [(28, .int .i64)], []⟩)] [(11, (.look 0 (.look 1 (.look 2 (.look 3 (.look 4 (.look 5 (.look 6 (.look 7 (.act 8 .done .done))))))))))] []) Tryz.func54 (Eq.mp (f54.eq pl_A pl_n pl_c H Q) h)

/-- (*justiciar justiciarref29.history).arcs -/
def f55 (ph_b ph_o : Nat) (H : Hp) (Q : Value → Hp → Prop) : Prop :=
  LoopF (σ := ((Option Addr × Nat × Nat) × (Int × Unit)) × Unit) (((none, 0, 0), (1, ())), ()) H fun s1 H2 next3 => cnd (decide ((s1.1.2.1 : Int) ≤ 200)) (HCalls Tryz.prog 88 [.pointer (some ⟨ph_b, ph_o, none⟩), .int .i64
    s1.1.2.1] H2 fun v4 H5 => ∃ (A6 : Option Addr) (n6 c6 : Nat), v4 = .slice A6 n6 c6 ∧ LoopF (σ := ((Option Addr × Nat × Nat) × (Int × Unit)) × Unit) (((s1.1.1.1, s1.1.1.2.1, s1.1.1.2.2), (1, ())), ()) H5 fun s7 H8
    next9 => cnd (decide ((s7.1.2.1 : Int) < ((n6 : Nat) : Int))) (0 ≤ (IntKind.i64.wrap (s7.1.2.1 - 1) : Int) ∧ (IntKind.i64.wrap (s7.1.2.1 - 1) : Int) < ((n6 : Nat) : Int) ∧ onPtr A6 fun b10 o10 => ∃ x11 : Int, cl H8
    b10 (o10 + (IntKind.i64.wrap (s7.1.2.1 - 1) : Int).toNat * 1) = some (.int .i64 x11) ∧ 0 ≤ (s7.1.2.1 : Int) ∧ (s7.1.2.1 : Int) < ((n6 : Nat) : Int) ∧ onPtr A6 fun b12 o12 => ∃ x13 : Int, cl H8 b12 (o12 + (s7.1.2.1 :
    Int).toNat * 1) = some (.int .i64 x13) ∧ HCalls Tryz.prog 89 [.slice s7.1.1.1 s7.1.1.2.1 s7.1.1.2.2, .agg #[.int .i64 x11, .int .i64 x13, .int .i64 1, .int .i64 s1.1.2.1]] H8 fun v14 H15 => ∃ (A16 : Option Addr) (n16
    c16 : Nat), v14 = .slice A16 n16 c16 ∧ KeepX [some (.v (.pointer (some ⟨ph_b, ph_o, none⟩))), some (.v (.int .i64 s1.1.2.1)), some (.v (.slice A6 n6 c6))] [] ∧ next9 (((A16, n16, c16), (IntKind.i64.wrap (s7.1.2.1 +
    1), ())), ()) H15) (∃ (A17 : Option Addr) (n17 c17 : Nat), cl H8 ph_b (ph_o + 0) = some (.slice A17 n17 c17) ∧ LoopF (σ := ((Option Addr × Nat × Nat) × (Int × Unit)) × Unit) (((s7.1.1.1, s7.1.1.2.1, s7.1.1.2.2), (0,
    ())), ()) H8 fun s18 H19 next20 => cnd (decide ((s18.1.2.1 : Int) < ((n17 : Nat) : Int))) (jn (fun (jA64 : Option Addr) (jn65 : Nat) (jc66 : Nat) (H67 : Hp) => KeepX [some (.v (.pointer (some ⟨ph_b, ph_o, none⟩))),
    some (.v (.int .i64 s1.1.2.1)), some (.v (.slice A6 n6 c6)), some (.v (.slice A17 n17 c17)), some (.v (.int .i64 ((n17 : Nat) : Int)))] [] ∧ next20 (((jA64, jn65, jc66), (IntKind.i64.wrap (s18.1.2.1 + 1), ())), ())
    H67) fun J68 => 0 ≤ (s18.1.2.1 : Int) ∧ (s18.1.2.1 : Int) < ((n17 : Nat) : Int) ∧ onPtr A17 fun b21 o21 => ∃ x22 : Int, cl H19 b21 (o21 + (s18.1.2.1 : Int).toNat * 5) = some (.int .i64 x22) ∧ ∃ x23 : Int, cl H19 b21
    ((o21 + (s18.1.2.1 : Int).toNat * 5) + 1) = some (.int .i64 x23) ∧ ∃ x24 : Int, cl H19 b21 (((o21 + (s18.1.2.1 : Int).toNat * 5) + 1) + 1) = some (.int .i64 x24) ∧ ∃ x25 : Int, cl H19 b21 ((((o21 + (s18.1.2.1 :
    Int).toNat * 5) + 1) + 1) + 1) = some (.int .i64 x25) ∧ ∃ x26 : Int, cl H19 b21 (((((o21 + (s18.1.2.1 : Int).toNat * 5) + 1) + 1) + 1) + 1) = some (.int .i64 x26) ∧ jn (fun (j30 : Bool) => cnd j30 (J68 s18.1.1.1
    s18.1.1.2.1 s18.1.1.2.2 H19) (jn (fun (jA44 : Option Addr) (jn45 : Nat) (jc46 : Nat) (H47 : Hp) => LoopF (σ := ((Option Addr × Nat × Nat) × (Int × Unit)) × Unit) (((jA44, jn45, jc46), (1, ())), ()) H47 fun s49 H50
    next51 => cnd (decide ((s49.1.2.1 : Int) < ((n6 : Nat) : Int))) (jn (fun (jA59 : Option Addr) (jn60 : Nat) (jc61 : Nat) (H62 : Hp) => KeepX [some (.v (.pointer (some ⟨ph_b, ph_o, none⟩))), some (.v (.int .i64
    s1.1.2.1)), some (.v (.slice A6 n6 c6)), some (.loc 8 0), some (.v (.slice A17 n17 c17)), some (.v (.int .i64 ((n17 : Nat) : Int))), some (.v (.int .i64 s18.1.2.1))] [some (true, [.int .i64 x22, .int .i64 x23, .int
    .i64 x24, .int .i64 x25, .int .i64 x26])] ∧ next51 (((jA59, jn60, jc61), (IntKind.i64.wrap (s49.1.2.1 + 1), ())), ()) H62) fun J63 => 0 ≤ (IntKind.i64.wrap (s49.1.2.1 - 1) : Int) ∧ (IntKind.i64.wrap (s49.1.2.1 - 1) :
    Int) < ((n6 : Nat) : Int) ∧ onPtr A6 fun b52 o52 => ∃ x53 : Int, cl H50 b52 (o52 + (IntKind.i64.wrap (s49.1.2.1 - 1) : Int).toNat * 1) = some (.int .i64 x53) ∧ cnd ((x53 : Int) == x25) (0 ≤ (s49.1.2.1 : Int) ∧
    (s49.1.2.1 : Int) < ((n6 : Nat) : Int) ∧ onPtr A6 fun b54 o54 => ∃ x55 : Int, cl H50 b54 (o54 + (s49.1.2.1 : Int).toNat * 1) = some (.int .i64 x55) ∧ HCalls Tryz.prog 89 [.slice s49.1.1.1 s49.1.1.2.1 s49.1.1.2.2, .agg
    #[.int .i64 x23, .int .i64 x55, .int .i64 3, .int .i64 s1.1.2.1]] H50 fun v56 H57 => ∃ (A58 : Option Addr) (n58 c58 : Nat), v56 = .slice A58 n58 c58 ∧ J63 A58 n58 c58 H57) (J63 s49.1.1.1 s49.1.1.2.1 s49.1.1.2.2 H50))
    (J68 s49.1.1.1 s49.1.1.2.1 s49.1.1.2.2 H50)) fun J48 => jn (fun (j38 : Bool) (H39 : Hp) => cnd j38 (HCalls Tryz.prog 89 [.slice s18.1.1.1 s18.1.1.2.1 s18.1.1.2.2, .agg #[.int .i64 x25, .int .i64 x23, .int .i64 2, .int
    .i64 s1.1.2.1]] H39 fun v41 H42 => ∃ (A43 : Option Addr) (n43 c43 : Nat), v41 = .slice A43 n43 c43 ∧ J48 A43 n43 c43 H42) (J48 s18.1.1.1 s18.1.1.2.1 s18.1.1.2.2 H39)) fun J40 => cnd ((x25 : Int) != 0) (∃ (A32 : Option
    Addr) (n32 c32 : Nat), cl H19 ph_b (ph_o + 1) = some (.slice A32 n32 c32) ∧ 0 ≤ (x25 : Int) ∧ (x25 : Int) < ((n32 : Nat) : Int) ∧ onPtr A32 fun b33 o33 => ∃ x34 : Int, cl H19 b33 (o33 + (x25 : Int).toNat * 1) = some
    (.int .i64 x34) ∧ cnd (decide ((x34 : Int) ≥ 0)) (HCalls Tryz.prog 90 [.pointer (some ⟨ph_b, ph_o, none⟩), .int .i64 x25, .int .i64 s1.1.2.1, .int .i64 s18.1.2.1] H19 fun v35 H36 => ∃ x37 : Bool, v35 = .bool x37 ∧ J40
    (!x37) H36) (J40 false H19)) (J40 false H19))) fun J31 => cnd ((x22 : Int) != 2) (J31 true) (cnd ((x24 : Int) != s1.1.2.1) (J31 true) (∃ (A27 : Option Addr) (n27 c27 : Nat), cl H19 ph_b (ph_o + 1) = some (.slice A27
    n27 c27) ∧ 0 ≤ (x23 : Int) ∧ (x23 : Int) < ((n27 : Nat) : Int) ∧ onPtr A27 fun b28 o28 => ∃ x29 : Int, cl H19 b28 (o28 + (x23 : Int).toNat * 1) = some (.int .i64 x29) ∧ J31 (decide ((x29 : Int) < 0))))) (KeepX [some
    (.v (.pointer (some ⟨ph_b, ph_o, none⟩)))] [] ∧ next3 (((s18.1.1.1, s18.1.1.2.1, s18.1.1.2.2), (IntKind.i64.wrap (s1.1.2.1 + 1), ())), ()) H19))) (Q (.slice s1.1.1.1 s1.1.1.2.1 s1.1.1.2.2) H2)
noncomputable def fcx55 : Cx := cx 123 [(8, true)] [(3, ⟨[0], [], [(3, .slice), (4, .int .i64)], []⟩), (7, ⟨[0, 4, 5], [], [(3, .slice), (6, .int .i64)], []⟩), (11, ⟨[0, 4, 5, 39, 40], [], [(3, .slice), (41, .int .i64)], []⟩), (17, ⟨[0, 4, 5, 8, 39, 40, 41], [8], [(3, .slice), (9, .int .i64)], []⟩)] [(9, (.look 0 (.look 1 (.look 2 (.look 3 (.look 4 (.look 5 (.look 6 (.look 7 (.look 8 (.look 9 (.look 10 (.look 11 (.act 12 (.act 13 .done .done) .done)))))))))))))), (13, (.look 0 (.look 1 (.look 2 (.look 3 (.look 4 (.look 5 (.look 6 (.look 7 (.look 8 (.look 9 (.look 10 (.look 11 (.look 12 (.look 13 (.look 14 (.look 15 (.look 16 (.look 17 (.look 18 (.look 19 .done))))))))))))))))))))), (14, (.look 0 (.look 1 (.look 2 (.look 3 (.look 4 (.look 5 (.look 6 (.look 7 (.look 8 (.look 9 (.look 10 (.look 11 (.look 12 (.look 13 (.look 14 (.look 15 (.look 16 (.look 17 (.look 18 (.look 19 (.act 20 (.look 21 (.look 22 .done)) .done)))))))))))))))))))))), (19, (.look 0 (.look 1 (.look 2 (.look 3 (.look 4 (.look 5 (.look 6 (.look 7 .done))))))))), (20, (.look 0 (.look 1 (.look 2 (.look 3 (.look 4 (.look 5 (.look 6 (.look 7 (.look 8 (.act 9 (.act 10 .done .done) .done)))))))))))] []
theorem f55.eq (ph_b ph_o : Nat) (H : Hp) (Q : Value → Hp → Prop) : f55 ph_b ph_o H Q = wFun fcx55 Tryz.f55 [.pointer (some ⟨ph_b, ph_o, none⟩)] H Q := by kernel_rfl
theorem f55.ok (ph_b ph_o : Nat) {H : Hp} {Q : Value → Hp → Prop} (h : f55 ph_b ph_o H Q) : HCalls Tryz.prog 55 [.pointer (some ⟨ph_b, ph_o, none⟩)] H Q := hcalls_of (cxOk 123 [(8, true)] [(3, ⟨[0], [], [(3, .slice), (4, .int .i64)], []⟩), (7, ⟨[0, 4, 5], [], [(3, .slice), (6, .int .i64)], []⟩), (11, ⟨[0, 4, 5, 39, 40], [], [(3, .slice), (41, .int .i64)], []⟩), (17, ⟨[0, 4, 5, 8, 39, 40, 41], [8], [(3, .slice), (9, .int .i64)], []⟩)] [(9, (.look 0 (.look 1 (.look 2 (.look 3 (.look 4 (.look 5 (.look 6 (.look 7 (.look 8 (.look 9 (.look 10 (.look 11 (.act 12 (.act 13 .done .done) .done)))))))))))))), (13, (.look 0 (.look 1 (.look 2 (.look 3 (.look 4 (.look 5 (.look 6 (.look 7 (.look 8 (.look 9 (.look 10 (.look 11 (.look 12 (.look 13 (.look 14 (.look 15 (.look 16 (.look 17 (.look 18 (.look 19 .done))))))))))))))))))))), (14, (.look 0 (.look 1 (.look 2 (.look 3 (.look 4 (.look 5 (.look 6 (.look 7 (.look 8 (.look 9 (.look 10 (.look 11 (.look 12 (.look 13 (.look 14 (.look 15 (.look 16 (.look 17 (.look 18 (.look 19 (.act 20 (.look 21 (.look 22 .done)) .done)))))))))))))))))))))), (19, (.look 0 (.look 1 (.look 2 (.look 3 (.look 4 (.look 5 (.look 6 (.look 7 .done))))))))), (20, (.look 0 (.look 1 (.look 2 (.look 3 (.look 4 (.look 5 (.look 6 (.look 7 (.look 8 (.act 9 (.act 10 .done .done) .done)))))))))))] []) Tryz.func55 (Eq.mp (f55.eq ph_b ph_o H Q) h)

/-- justiciar justiciarref29.event -/
def f56 (px_0 : Int) (px_1 : Int) (px_2 : Int) (px_3 : Int) (px_4 : Int) (H : Hp) (Q : Value → Hp → Prop) : Prop :=
  jn (fun (j1 : Bool) => cnd j1 (Q (.bool false) H) (jn (fun (j3 : Bool) => cnd j3 (jn (fun (j5 : Bool) => Q (.bool j5) H) fun J6 => cnd (decide ((px_2 : Int) ≥ 1)) (cnd (decide ((px_2 : Int) ≤ 200)) (cnd (decide ((px_4 :
    Int) ≥ 1)) (cnd ((px_3 : Int) == 0) (J6 true) (J6 ((px_0 : Int) == 2))) (J6 false)) (J6 false)) (J6 false)) (jn (fun (j7 : Bool) => cnd j7 (jn (fun (j9 : Bool) => Q (.bool j9) H) fun J10 => cnd ((px_2 : Int) == 0)
    (cnd ((px_3 : Int) == 0) (J10 ((px_4 : Int) == 0)) (J10 false)) (J10 false)) (Q (.bool false) H)) fun J8 => cnd ((px_0 : Int) == 1) (J8 ((px_0 : Int) == 1)) (cnd ((px_0 : Int) == 4) (J8 ((px_0 : Int) == 4)) (J8 ((px_0
    : Int) == 5))))) fun J4 => cnd ((px_0 : Int) == 2) (J4 ((px_0 : Int) == 2)) (J4 ((px_0 : Int) == 3)))) fun J2 => cnd (decide ((px_1 : Int) < 1)) (J2 true) (J2 (decide ((px_1 : Int) > 200)))
noncomputable def fcx56 : Cx := cx 56 [(1, true)] [] [] []
theorem f56.eq (px_0 : Int) (px_1 : Int) (px_2 : Int) (px_3 : Int) (px_4 : Int) (H : Hp) (Q : Value → Hp → Prop) : f56 px_0 px_1 px_2 px_3 px_4 H Q = wFun fcx56 Tryz.f56 [.agg #[.int .i64 px_0, .int .i64 px_1, .int .i64 px_2, .int .i64 px_3, .int .i64 px_4]] H Q := by kernel_rfl
theorem f56.ok (px_0 : Int) (px_1 : Int) (px_2 : Int) (px_3 : Int) (px_4 : Int) {H : Hp} {Q : Value → Hp → Prop} (h : f56 px_0 px_1 px_2 px_3 px_4 H Q) : HCalls Tryz.prog 56 [.agg #[.int .i64 px_0, .int .i64 px_1, .int .i64 px_2, .int .i64 px_3, .int .i64 px_4]] H Q := hcalls_of (cxOk 56 [(1, true)] [] [] []) Tryz.func56 (Eq.mp (f56.eq px_0 px_1 px_2 px_3 px_4 H Q) h)

/-- justiciar justiciarref29.has -/
def f57 (pl_A : Option Addr) (pl_n pl_c : Nat) (pn : Int) (H : Hp) (Q : Value → Hp → Prop) : Prop :=
  LoopF (σ := (Int × Unit) × Unit) ((0, ()), ()) H fun s1 H2 next3 => cnd (decide ((s1.1.1 : Int) < ((pl_n : Nat) : Int))) (0 ≤ (s1.1.1 : Int) ∧ (s1.1.1 : Int) < ((pl_n : Nat) : Int) ∧ onPtr pl_A fun b4 o4 => ∃ x5 : Int, cl
    H2 b4 (o4 + (s1.1.1 : Int).toNat * 1) = some (.int .i64 x5) ∧ cnd ((x5 : Int) == pn) (Q (.bool true) H2) (KeepX [some (.v (.int .i64 pn)), some (.v (.slice pl_A pl_n pl_c)), some (.v (.int .i64 ((pl_n : Nat) : Int)))]
    [] ∧ next3 ((IntKind.i64.wrap (s1.1.1 + 1), ()), ()) H2)) (Q (.bool false) H2)
noncomputable def fcx57 : Cx := cx 17 [] [(2, ⟨[1, 7, 8], [], [(9, .int .i64)], []⟩)] [] []
theorem f57.eq (pl_A : Option Addr) (pl_n pl_c : Nat) (pn : Int) (H : Hp) (Q : Value → Hp → Prop) : f57 pl_A pl_n pl_c pn H Q = wFun fcx57 Tryz.f57 [.slice pl_A pl_n pl_c, .int .i64 pn] H Q := by kernel_rfl
theorem f57.ok (pl_A : Option Addr) (pl_n pl_c : Nat) (pn : Int) {H : Hp} {Q : Value → Hp → Prop} (h : f57 pl_A pl_n pl_c pn H Q) : HCalls Tryz.prog 57 [.slice pl_A pl_n pl_c, .int .i64 pn] H Q := hcalls_of (cxOk 17 [] [(2, ⟨[1, 7, 8], [], [(9, .int .i64)], []⟩)] [] []) Tryz.func57 (Eq.mp (f57.eq pl_A pl_n pl_c pn H Q) h)

/-- (*justiciar justiciarref29.history).dirty -/
def f58 (ph_b ph_o : Nat) (H : Hp) (Q : Value → Hp → Prop) : Prop :=
  ∃ (A1 : Option Addr) (n1 c1 : Nat), cl H ph_b (ph_o + 0) = some (.slice A1 n1 c1) ∧ LoopF (σ := (Int × Unit) × Unit) ((0, ()), ()) H fun s2 H3 next4 => cnd (decide ((s2.1.1 : Int) < ((n1 : Nat) : Int))) (0 ≤ (s2.1.1 :
    Int) ∧ (s2.1.1 : Int) < ((n1 : Nat) : Int) ∧ onPtr A1 fun b5 o5 => ∃ x6 : Int, cl H3 b5 (o5 + (s2.1.1 : Int).toNat * 5) = some (.int .i64 x6) ∧ ∃ x7 : Int, cl H3 b5 ((o5 + (s2.1.1 : Int).toNat * 5) + 1) = some (.int
    .i64 x7) ∧ ∃ x8 : Int, cl H3 b5 (((o5 + (s2.1.1 : Int).toNat * 5) + 1) + 1) = some (.int .i64 x8) ∧ ∃ x9 : Int, cl H3 b5 ((((o5 + (s2.1.1 : Int).toNat * 5) + 1) + 1) + 1) = some (.int .i64 x9) ∧ ∃ x10 : Int, cl H3 b5
    (((((o5 + (s2.1.1 : Int).toNat * 5) + 1) + 1) + 1) + 1) = some (.int .i64 x10) ∧ jn (fun (j17 : Bool) => cnd j17 (Q (.bool true) H3) (KeepX [some (.v (.pointer (some ⟨ph_b, ph_o, none⟩))), some (.v (.slice A1 n1 c1)),
    some (.v (.int .i64 ((n1 : Nat) : Int)))] [] ∧ next4 ((IntKind.i64.wrap (s2.1.1 + 1), ()), ()) H3)) fun J18 => cnd ((x6 : Int) == 2) (∃ (A11 : Option Addr) (n11 c11 : Nat), cl H3 ph_b (ph_o + 1) = some (.slice A11 n11
    c11) ∧ 0 ≤ (x7 : Int) ∧ (x7 : Int) < ((n11 : Nat) : Int) ∧ onPtr A11 fun b12 o12 => ∃ x13 : Int, cl H3 b12 (o12 + (x7 : Int).toNat * 1) = some (.int .i64 x13) ∧ cnd (decide ((x13 : Int) ≥ 0)) (cnd ((x9 : Int) != 0)
    (cnd ((x9 : Int) != x7) (∃ (A14 : Option Addr) (n14 c14 : Nat), cl H3 ph_b (ph_o + 1) = some (.slice A14 n14 c14) ∧ 0 ≤ (x9 : Int) ∧ (x9 : Int) < ((n14 : Nat) : Int) ∧ onPtr A14 fun b15 o15 => ∃ x16 : Int, cl H3 b15
    (o15 + (x9 : Int).toNat * 1) = some (.int .i64 x16) ∧ J18 (decide ((x16 : Int) < 0))) (J18 false)) (J18 false)) (J18 false)) (J18 false)) (Q (.bool false) H3)
noncomputable def fcx58 : Cx := cx 52 [(4, true)] [(2, ⟨[0, 8, 9], [], [(10, .int .i64)], []⟩)] [(4, (.look 0 (.look 1 (.look 2 (.look 3 (.look 4 (.look 5 (.look 6 (.look 7 (.look 8 (.look 9 (.look 10 (.look 11 (.look 12 (.look 13 (.look 14 (.look 15 (.look 16 (.look 17 (.look 18 (.look 19 (.look 20 (.look 21 (.look 22 (.look 23 (.look 24 (.look 25 (.look 26 (.look 27 (.look 28 (.look 29 (.look 30 (.look 31 (.look 32 (.look 33 (.look 34 (.look 35 (.look 36 .done))))))))))))))))))))))))))))))))))))))] []
theorem f58.eq (ph_b ph_o : Nat) (H : Hp) (Q : Value → Hp → Prop) : f58 ph_b ph_o H Q = wFun fcx58 Tryz.f58 [.pointer (some ⟨ph_b, ph_o, none⟩)] H Q := by kernel_rfl
theorem f58.ok (ph_b ph_o : Nat) {H : Hp} {Q : Value → Hp → Prop} (h : f58 ph_b ph_o H Q) : HCalls Tryz.prog 58 [.pointer (some ⟨ph_b, ph_o, none⟩)] H Q := hcalls_of (cxOk 52 [(4, true)] [(2, ⟨[0, 8, 9], [], [(10, .int .i64)], []⟩)] [(4, (.look 0 (.look 1 (.look 2 (.look 3 (.look 4 (.look 5 (.look 6 (.look 7 (.look 8 (.look 9 (.look 10 (.look 11 (.look 12 (.look 13 (.look 14 (.look 15 (.look 16 (.look 17 (.look 18 (.look 19 (.look 20 (.look 21 (.look 22 (.look 23 (.look 24 (.look 25 (.look 26 (.look 27 (.look 28 (.look 29 (.look 30 (.look 31 (.look 32 (.look 33 (.look 34 (.look 35 (.look 36 .done))))))))))))))))))))))))))))))))))))))] []) Tryz.func58 (Eq.mp (f58.eq ph_b ph_o H Q) h)

/-- (*justiciar justiciarref29.history).between -/
def f59 (ph_b ph_o : Nat) (H : Hp) (Q : Value → Hp → Prop) : Prop :=
  ∃ (A1 : Option Addr) (n1 c1 : Nat), cl H ph_b (ph_o + 0) = some (.slice A1 n1 c1) ∧ LoopF (σ := (Int × Unit) × Unit) ((0, ()), ()) H fun s2 H3 next4 => cnd (decide ((s2.1.1 : Int) < ((n1 : Nat) : Int))) (0 ≤ (s2.1.1 :
    Int) ∧ (s2.1.1 : Int) < ((n1 : Nat) : Int) ∧ onPtr A1 fun b5 o5 => ∃ x6 : Int, cl H3 b5 (o5 + (s2.1.1 : Int).toNat * 5) = some (.int .i64 x6) ∧ ∃ x7 : Int, cl H3 b5 ((o5 + (s2.1.1 : Int).toNat * 5) + 1) = some (.int
    .i64 x7) ∧ ∃ x8 : Int, cl H3 b5 (((o5 + (s2.1.1 : Int).toNat * 5) + 1) + 1) = some (.int .i64 x8) ∧ ∃ x9 : Int, cl H3 b5 ((((o5 + (s2.1.1 : Int).toNat * 5) + 1) + 1) + 1) = some (.int .i64 x9) ∧ ∃ x10 : Int, cl H3 b5
    (((((o5 + (s2.1.1 : Int).toNat * 5) + 1) + 1) + 1) + 1) = some (.int .i64 x10) ∧ jn (fun (j17 : Bool) (H18 : Hp) => cnd j17 (Q (.bool true) H18) (KeepX [some (.v (.pointer (some ⟨ph_b, ph_o, none⟩))), some (.v (.slice
    A1 n1 c1)), some (.v (.int .i64 ((n1 : Nat) : Int)))] [] ∧ next4 ((IntKind.i64.wrap (s2.1.1 + 1), ()), ()) H18)) fun J19 => cnd ((x6 : Int) == 2) (∃ (A11 : Option Addr) (n11 c11 : Nat), cl H3 ph_b (ph_o + 1) = some
    (.slice A11 n11 c11) ∧ 0 ≤ (x7 : Int) ∧ (x7 : Int) < ((n11 : Nat) : Int) ∧ onPtr A11 fun b12 o12 => ∃ x13 : Int, cl H3 b12 (o12 + (x7 : Int).toNat * 1) = some (.int .i64 x13) ∧ cnd (decide ((x13 : Int) ≥ 0)) (cnd ((x9
    : Int) != 0) (cnd ((x9 : Int) != x7) (HCalls Tryz.prog 90 [.pointer (some ⟨ph_b, ph_o, none⟩), .int .i64 x9, .int .i64 x8, .int .i64 s2.1.1] H3 fun v14 H15 => ∃ x16 : Bool, v14 = .bool x16 ∧ J19 x16 H15) (J19 false
    H3)) (J19 false H3)) (J19 false H3)) (J19 false H3)) (Q (.bool false) H3)
noncomputable def fcx59 : Cx := cx 51 [(4, true)] [(2, ⟨[0, 8, 9], [], [(10, .int .i64)], []⟩)] [(4, (.look 0 (.look 1 (.look 2 (.look 3 (.look 4 (.look 5 (.look 6 (.look 7 (.look 8 (.look 9 (.look 10 (.look 11 (.look 12 (.look 13 (.look 14 (.look 15 (.look 16 (.look 17 (.look 18 (.look 19 (.look 20 (.look 21 (.look 22 (.look 23 (.look 24 (.look 25 (.look 26 (.look 27 (.look 28 (.look 29 (.look 30 (.look 31 (.look 32 (.act 33 (.look 34 .done) .done)))))))))))))))))))))))))))))))))))] []
theorem f59.eq (ph_b ph_o : Nat) (H : Hp) (Q : Value → Hp → Prop) : f59 ph_b ph_o H Q = wFun fcx59 Tryz.f59 [.pointer (some ⟨ph_b, ph_o, none⟩)] H Q := by kernel_rfl
theorem f59.ok (ph_b ph_o : Nat) {H : Hp} {Q : Value → Hp → Prop} (h : f59 ph_b ph_o H Q) : HCalls Tryz.prog 59 [.pointer (some ⟨ph_b, ph_o, none⟩)] H Q := hcalls_of (cxOk 51 [(4, true)] [(2, ⟨[0, 8, 9], [], [(10, .int .i64)], []⟩)] [(4, (.look 0 (.look 1 (.look 2 (.look 3 (.look 4 (.look 5 (.look 6 (.look 7 (.look 8 (.look 9 (.look 10 (.look 11 (.look 12 (.look 13 (.look 14 (.look 15 (.look 16 (.look 17 (.look 18 (.look 19 (.look 20 (.look 21 (.look 22 (.look 23 (.look 24 (.look 25 (.look 26 (.look 27 (.look 28 (.look 29 (.look 30 (.look 31 (.look 32 (.act 33 (.look 34 .done) .done)))))))))))))))))))))))))))))))))))] []) Tryz.func59 (Eq.mp (f59.eq ph_b ph_o H Q) h)

/-- justiciar justiciarref29.circle -/
def f60 (pl_A : Option Addr) (pl_n pl_c : Nat) (pkind : Int) (pmost : Int) (H : Hp) (Q : Value → Hp → Prop) : Prop :=
  LoopF (σ := (Int × Unit) × Unit) ((0, ()), ()) H fun s1 H2 next3 => cnd (decide ((s1.1.1 : Int) < ((pl_n : Nat) : Int))) (0 ≤ (s1.1.1 : Int) ∧ (s1.1.1 : Int) < ((pl_n : Nat) : Int) ∧ onPtr pl_A fun b4 o4 => ∃ x5 : Int, cl
    H2 b4 (o4 + (s1.1.1 : Int).toNat * 4) = some (.int .i64 x5) ∧ ∃ x6 : Int, cl H2 b4 ((o4 + (s1.1.1 : Int).toNat * 4) + 1) = some (.int .i64 x6) ∧ ∃ x7 : Int, cl H2 b4 (((o4 + (s1.1.1 : Int).toNat * 4) + 1) + 1) = some
    (.int .i64 x7) ∧ ∃ x8 : Int, cl H2 b4 ((((o4 + (s1.1.1 : Int).toNat * 4) + 1) + 1) + 1) = some (.int .i64 x8) ∧ jn (fun (j12 : Bool) (H13 : Hp) => cnd j12 (Q (.bool true) H13) (KeepX [some (.v (.slice pl_A pl_n
    pl_c)), some (.v (.int .i64 pkind)), some (.v (.int .i64 pmost)), some (.v (.slice pl_A pl_n pl_c)), some (.v (.int .i64 ((pl_n : Nat) : Int)))] [] ∧ next3 ((IntKind.i64.wrap (s1.1.1 + 1), ()), ()) H13)) fun J14 =>
    cnd ((x7 : Int) == pkind) (HCalls Tryz.prog 91 [.slice pl_A pl_n pl_c, .int .i64 pmost, .int .i64 x6, .int .i64 x5] H2 fun v9 H10 => ∃ x11 : Bool, v9 = .bool x11 ∧ J14 x11 H10) (J14 false H2)) (Q (.bool false) H2)
noncomputable def fcx60 : Cx := cx 29 [(8, true)] [(2, ⟨[0, 1, 2, 9, 10], [], [(11, .int .i64)], []⟩)] [] []
theorem f60.eq (pl_A : Option Addr) (pl_n pl_c : Nat) (pkind : Int) (pmost : Int) (H : Hp) (Q : Value → Hp → Prop) : f60 pl_A pl_n pl_c pkind pmost H Q = wFun fcx60 Tryz.f60 [.slice pl_A pl_n pl_c, .int .i64 pkind, .int .i64 pmost] H Q := by kernel_rfl
theorem f60.ok (pl_A : Option Addr) (pl_n pl_c : Nat) (pkind : Int) (pmost : Int) {H : Hp} {Q : Value → Hp → Prop} (h : f60 pl_A pl_n pl_c pkind pmost H Q) : HCalls Tryz.prog 60 [.slice pl_A pl_n pl_c, .int .i64 pkind, .int .i64 pmost] H Q := hcalls_of (cxOk 29 [(8, true)] [(2, ⟨[0, 1, 2, 9, 10], [], [(11, .int .i64)], []⟩)] [] []) Tryz.func60 (Eq.mp (f60.eq pl_A pl_n pl_c pkind pmost H Q) h)

/-- (*justiciar justiciarref29.history).done -/
def f65 (ph_b ph_o : Nat) (H : Hp) (Q : Value → Hp → Prop) : Prop :=
  ∃ (A1 : Option Addr) (n1 c1 : Nat), cl H ph_b (ph_o + 1) = some (.slice A1 n1 c1) ∧ LoopF (σ := ((Option Addr × Nat × Nat) × (Int × Unit)) × Unit) (((none, 0, 0), (0, ())), ()) H fun s2 H3 next4 => cnd (decide ((s2.1.2.1
    : Int) < ((n1 : Nat) : Int))) (jn (fun (jA11 : Option Addr) (jn12 : Nat) (jc13 : Nat) (H14 : Hp) => KeepX [some (.v (.slice A1 n1 c1)), some (.v (.int .i64 ((n1 : Nat) : Int)))] [] ∧ next4 (((jA11, jn12, jc13),
    (IntKind.i64.wrap (s2.1.2.1 + 1), ())), ()) H14) fun J15 => 0 ≤ (s2.1.2.1 : Int) ∧ (s2.1.2.1 : Int) < ((n1 : Nat) : Int) ∧ onPtr A1 fun b5 o5 => ∃ x6 : Int, cl H3 b5 (o5 + (s2.1.2.1 : Int).toNat * 1) = some (.int .i64
    x6) ∧ cnd (decide ((x6 : Int) ≥ 0)) (newF H3 3 [.int .i64 s2.1.2.1] fun g7 H8 => appendF H8 3 1 8 s2.1.1.1 s2.1.1.2.1 s2.1.1.2.2 (some ⟨g7, 0, none⟩) 1 fun A9 n9 c9 H10 => J15 A9 n9 c9 H10) (J15 s2.1.1.1 s2.1.1.2.1
    s2.1.1.2.2 H3)) (Q (.slice s2.1.1.1 s2.1.1.2.1 s2.1.1.2.2) H3)
noncomputable def fcx65 : Cx := cx 24 [] [(3, ⟨[9, 10], [], [(3, .slice), (11, .int .i64)], []⟩)] [] []
theorem f65.eq (ph_b ph_o : Nat) (H : Hp) (Q : Value → Hp → Prop) : f65 ph_b ph_o H Q = wFun fcx65 Tryz.f65 [.pointer (some ⟨ph_b, ph_o, none⟩)] H Q := by kernel_rfl
theorem f65.ok (ph_b ph_o : Nat) {H : Hp} {Q : Value → Hp → Prop} (h : f65 ph_b ph_o H Q) : HCalls Tryz.prog 65 [.pointer (some ⟨ph_b, ph_o, none⟩)] H Q := hcalls_of (cxOk 24 [] [(3, ⟨[9, 10], [], [(3, .slice), (11, .int .i64)], []⟩)] [] []) Tryz.func65 (Eq.mp (f65.eq ph_b ph_o H Q) h)

/-- justiciar justiciarref29.shortest -/
def f66 (parcs_A : Option Addr) (parcs_n parcs_c : Nat) (pfirst : Int) (H : Hp) (Q : Value → Hp → Prop) : Prop :=
  newF H 3 [.int .i64 pfirst] fun g1 H2 => newF H2 23 [.slice (some ⟨g1, 0, none⟩) 1 1] fun g3 H4 => LoopF (σ := ((Option Addr × Nat × Nat) × ((Option Addr × Nat × Nat) × Unit)) × Unit) ((((some ⟨g3, 0, none⟩), 1, 1),
    ((none, 0, 0), ())), ()) H4 fun s5 H6 next7 => cnd (decide ((((s5.1.1.2.1 : Nat) : Int) : Int) > 0)) (LoopF (σ := (Int × Unit) × Unit) ((0, ()), ()) H6 fun s8 H9 next10 => cnd (decide ((s8.1.1 : Int) < ((s5.1.1.2.1 :
    Nat) : Int))) (0 ≤ (s8.1.1 : Int) ∧ (s8.1.1 : Int) < ((s5.1.1.2.1 : Nat) : Int) ∧ onPtr s5.1.1.1 fun b11 o11 => ∃ (A12 : Option Addr) (n12 c12 : Nat), cl H9 b11 (o11 + (s8.1.1 : Int).toNat * 1) = some (.slice A12 n12
    c12) ∧ 0 ≤ (IntKind.i64.wrap (((n12 : Nat) : Int) - 1) : Int) ∧ (IntKind.i64.wrap (((n12 : Nat) : Int) - 1) : Int) < ((n12 : Nat) : Int) ∧ onPtr A12 fun b13 o13 => ∃ x14 : Int, cl H9 b13 (o13 + (IntKind.i64.wrap
    (((n12 : Nat) : Int) - 1) : Int).toNat * 1) = some (.int .i64 x14) ∧ HCalls Tryz.prog 94 [.slice parcs_A parcs_n parcs_c, .int .i64 x14] H9 fun v15 H16 => ∃ (A17 : Option Addr) (n17 c17 : Nat), v15 = .slice A17 n17
    c17 ∧ HCalls Tryz.prog 57 [.slice A17 n17 c17, .int .i64 pfirst] H16 fun v18 H19 => ∃ x20 : Bool, v18 = .bool x20 ∧ cnd x20 (Q (.slice A12 n12 c12) H19) (KeepX [some (.v (.slice parcs_A parcs_n parcs_c)), some (.v
    (.int .i64 pfirst)), some (.v (.slice s5.1.1.1 s5.1.1.2.1 s5.1.1.2.2)), some (.v (.slice s5.1.2.1.1 s5.1.2.1.2.1 s5.1.2.1.2.2)), some (.v (.slice s5.1.1.1 s5.1.1.2.1 s5.1.1.2.2)), some (.v (.int .i64 ((s5.1.1.2.1 :
    Nat) : Int)))] [] ∧ next10 ((IntKind.i64.wrap (s8.1.1 + 1), ()), ()) H19)) (LoopF (σ := ((Option Addr × Nat × Nat) × ((Option Addr × Nat × Nat) × (Int × Unit))) × Unit) (((s5.1.2.1.1, s5.1.2.1.2.1, s5.1.2.1.2.2),
    ((none, 0, 0), (0, ()))), ()) H9 fun s21 H22 next23 => cnd (decide ((s21.1.2.2.1 : Int) < ((s5.1.1.2.1 : Nat) : Int))) (0 ≤ (s21.1.2.2.1 : Int) ∧ (s21.1.2.2.1 : Int) < ((s5.1.1.2.1 : Nat) : Int) ∧ onPtr s5.1.1.1 fun
    b24 o24 => ∃ (A25 : Option Addr) (n25 c25 : Nat), cl H22 b24 (o24 + (s21.1.2.2.1 : Int).toNat * 1) = some (.slice A25 n25 c25) ∧ 0 ≤ (IntKind.i64.wrap (((n25 : Nat) : Int) - 1) : Int) ∧ (IntKind.i64.wrap (((n25 : Nat)
    : Int) - 1) : Int) < ((n25 : Nat) : Int) ∧ onPtr A25 fun b26 o26 => ∃ x27 : Int, cl H22 b26 (o26 + (IntKind.i64.wrap (((n25 : Nat) : Int) - 1) : Int).toNat * 1) = some (.int .i64 x27) ∧ HCalls Tryz.prog 94 [.slice
    parcs_A parcs_n parcs_c, .int .i64 x27] H22 fun v28 H29 => ∃ (A30 : Option Addr) (n30 c30 : Nat), v28 = .slice A30 n30 c30 ∧ LoopF (σ := ((Option Addr × Nat × Nat) × ((Option Addr × Nat × Nat) × (Int × Unit))) × Unit)
    (((s21.1.1.1, s21.1.1.2.1, s21.1.1.2.2), ((s21.1.2.1.1, s21.1.2.1.2.1, s21.1.2.1.2.2), (0, ()))), ()) H29 fun s31 H32 next33 => cnd (decide ((s31.1.2.2.1 : Int) < ((n30 : Nat) : Int))) (jn (fun (jA54 : Option Addr)
    (jn55 : Nat) (jc56 : Nat) (jA57 : Option Addr) (jn58 : Nat) (jc59 : Nat) (H60 : Hp) => KeepX [some (.v (.slice parcs_A parcs_n parcs_c)), some (.v (.int .i64 pfirst)), some (.v (.slice A25 n25 c25)), some (.v (.slice
    s5.1.1.1 s5.1.1.2.1 s5.1.1.2.2)), some (.v (.int .i64 ((s5.1.1.2.1 : Nat) : Int))), some (.v (.int .i64 s21.1.2.2.1)), some (.v (.slice A30 n30 c30)), some (.v (.int .i64 ((n30 : Nat) : Int)))] [] ∧ next33 (((jA54,
    jn55, jc56), ((jA57, jn58, jc59), (IntKind.i64.wrap (s31.1.2.2.1 + 1), ()))), ()) H60) fun J61 => 0 ≤ (s31.1.2.2.1 : Int) ∧ (s31.1.2.2.1 : Int) < ((n30 : Nat) : Int) ∧ onPtr A30 fun b34 o34 => ∃ x35 : Int, cl H32 b34
    (o34 + (s31.1.2.2.1 : Int).toNat * 1) = some (.int .i64 x35) ∧ jn (fun (j39 : Bool) (H40 : Hp) => cnd j39 (newF H40 3 [.int .i64 x35] fun g42 H43 => appendF H43 3 1 8 s31.1.1.1 s31.1.1.2.1 s31.1.1.2.2 (some ⟨g42, 0,
    none⟩) 1 fun A44 n44 c44 H45 => 0 ≤ (((n25 : Nat) : Int) : Int) ∧ (((n25 : Nat) : Int) : Int) ≤ ((c25 : Nat) : Int) ∧ 0 ≤ (((n25 : Nat) : Int) : Int) ∧ (((n25 : Nat) : Int) : Int) ≤ (((n25 : Nat) : Int) : Int) ∧ newF
    H45 3 [.int .i64 x35] fun g46 H47 => appendF H47 3 1 8 (cutA A25 (0 * 1) (decide (((((n25 : Nat) : Int) : Int).toNat) = 0))) (((((n25 : Nat) : Int) : Int).toNat) - 0) (((((n25 : Nat) : Int) : Int).toNat) - 0) (some
    ⟨g46, 0, none⟩) 1 fun A48 n48 c48 H49 => newF H49 23 [.slice A48 n48 c48] fun g50 H51 => appendF H51 23 1 24 s31.1.2.1.1 s31.1.2.1.2.1 s31.1.2.1.2.2 (some ⟨g50, 0, none⟩) 1 fun A52 n52 c52 H53 => J61 A44 n44 c44 A52
    n52 c52 H53) (J61 s31.1.1.1 s31.1.1.2.1 s31.1.1.2.2 s31.1.2.1.1 s31.1.2.1.2.1 s31.1.2.1.2.2 H40)) fun J41 => cnd (decide ((x35 : Int) > pfirst)) (HCalls Tryz.prog 57 [.slice s31.1.1.1 s31.1.1.2.1 s31.1.1.2.2, .int
    .i64 x35] H32 fun v36 H37 => ∃ x38 : Bool, v36 = .bool x38 ∧ J41 (!x38) H37) (J41 false H32)) (KeepX [some (.v (.slice parcs_A parcs_n parcs_c)), some (.v (.int .i64 pfirst)), some (.v (.slice s5.1.1.1 s5.1.1.2.1
    s5.1.1.2.2)), some (.v (.int .i64 ((s5.1.1.2.1 : Nat) : Int)))] [] ∧ next23 (((s31.1.1.1, s31.1.1.2.1, s31.1.1.2.2), ((s31.1.2.1.1, s31.1.2.1.2.1, s31.1.2.1.2.2), (IntKind.i64.wrap (s21.1.2.2.1 + 1), ()))), ()) H32))
    (KeepX [some (.v (.slice parcs_A parcs_n parcs_c)), some (.v (.int .i64 pfirst))] [] ∧ next7 (((s21.1.2.1.1, s21.1.2.1.2.1, s21.1.2.1.2.2), ((s21.1.1.1, s21.1.1.2.1, s21.1.1.2.2), ())), ()) H22))) (Q (.slice none 0 0)
    H6)
noncomputable def fcx66 : Cx := cx 85 [] [(3, ⟨[0, 1], [], [(5, .slice), (6, .slice)], []⟩), (5, ⟨[0, 1, 5, 6, 20, 21], [], [(22, .int .i64)], []⟩), (12, ⟨[0, 1, 38, 39], [], [(6, .slice), (9, .slice), (40, .int .i64)], []⟩), (15, ⟨[0, 1, 11, 38, 39, 40, 51, 52], [], [(6, .slice), (9, .slice), (53, .int .i64)], []⟩)] [] []
theorem f66.eq (parcs_A : Option Addr) (parcs_n parcs_c : Nat) (pfirst : Int) (H : Hp) (Q : Value → Hp → Prop) : f66 parcs_A parcs_n parcs_c pfirst H Q = wFun fcx66 Tryz.f66 [.slice parcs_A parcs_n parcs_c, .int .i64 pfirst] H Q := by kernel_rfl
theorem f66.ok (parcs_A : Option Addr) (parcs_n parcs_c : Nat) (pfirst : Int) {H : Hp} {Q : Value → Hp → Prop} (h : f66 parcs_A parcs_n parcs_c pfirst H Q) : HCalls Tryz.prog 66 [.slice parcs_A parcs_n parcs_c, .int .i64 pfirst] H Q := hcalls_of (cxOk 85 [] [(3, ⟨[0, 1], [], [(5, .slice), (6, .slice)], []⟩), (5, ⟨[0, 1, 5, 6, 20, 21], [], [(22, .int .i64)], []⟩), (12, ⟨[0, 1, 38, 39], [], [(6, .slice), (9, .slice), (40, .int .i64)], []⟩), (15, ⟨[0, 1, 11, 38, 39, 40, 51, 52], [], [(6, .slice), (9, .slice), (53, .int .i64)], []⟩)] [] []) Tryz.func66 (Eq.mp (f66.eq parcs_A parcs_n parcs_c pfirst H Q) h)

/-- (*justiciar justiciarref29.history).fits -/
def f67 (ph_b ph_o : Nat) (pall : Bool) (psome_A : Option Addr) (psome_n psome_c : Nat) (H : Hp) (Q : Value → Hp → Prop) : Prop :=
  HCalls Tryz.prog 65 [.pointer (some ⟨ph_b, ph_o, none⟩)] H fun v1 H2 => ∃ (A3 : Option Addr) (n3 c3 : Nat), v1 = .slice A3 n3 c3 ∧ LoopF (σ := (Int × Unit) × Unit) ((0, ()), ()) H2 fun s4 H5 next6 => cnd (decide ((s4.1.1
    : Int) < ((n3 : Nat) : Int))) (0 ≤ (s4.1.1 : Int) ∧ (s4.1.1 : Int) < ((n3 : Nat) : Int) ∧ onPtr A3 fun b7 o7 => ∃ x8 : Int, cl H5 b7 (o7 + (s4.1.1 : Int).toNat * 1) = some (.int .i64 x8) ∧ jn (fun (j21 : Bool) (H22 :
    Hp) => cnd (!j21) (Q (.bool false) H22) (KeepX [some (.v (.pointer (some ⟨ph_b, ph_o, none⟩))), some (.v (.bool pall)), some (.v (.slice psome_A psome_n psome_c)), some (.v (.slice A3 n3 c3)), some (.v (.int .i64 ((n3
    : Nat) : Int)))] [] ∧ next6 ((IntKind.i64.wrap (s4.1.1 + 1), ()), ()) H22)) fun J23 => jn (fun (j12 : Bool) (H13 : Hp) => cnd j12 (HCalls Tryz.prog 95 [.pointer (some ⟨ph_b, ph_o, none⟩), .int .i64 x8] H13 fun v15 H16
    => ∃ x17 : Bool, v15 = .bool x17 ∧ J23 x17 H16) (HCalls Tryz.prog 96 [.pointer (some ⟨ph_b, ph_o, none⟩), .int .i64 x8] H13 fun v18 H19 => ∃ x20 : Bool, v18 = .bool x20 ∧ J23 x20 H19)) fun J14 => cnd pall (J14 true
    H5) (HCalls Tryz.prog 57 [.slice psome_A psome_n psome_c, .int .i64 x8] H5 fun v9 H10 => ∃ x11 : Bool, v9 = .bool x11 ∧ J14 x11 H10)) (Q (.bool true) H5)
noncomputable def fcx67 : Cx := cx 32 [] [(2, ⟨[0, 1, 2, 11, 12], [], [(13, .int .i64)], []⟩)] [] []
theorem f67.eq (ph_b ph_o : Nat) (pall : Bool) (psome_A : Option Addr) (psome_n psome_c : Nat) (H : Hp) (Q : Value → Hp → Prop) : f67 ph_b ph_o pall psome_A psome_n psome_c H Q = wFun fcx67 Tryz.f67 [.pointer (some ⟨ph_b, ph_o, none⟩), .bool pall, .slice psome_A psome_n psome_c] H Q := by kernel_rfl
theorem f67.ok (ph_b ph_o : Nat) (pall : Bool) (psome_A : Option Addr) (psome_n psome_c : Nat) {H : Hp} {Q : Value → Hp → Prop} (h : f67 ph_b ph_o pall psome_A psome_n psome_c H Q) : HCalls Tryz.prog 67 [.pointer (some ⟨ph_b, ph_o, none⟩), .bool pall, .slice psome_A psome_n psome_c] H Q := hcalls_of (cxOk 32 [] [(2, ⟨[0, 1, 2, 11, 12], [], [(13, .int .i64)], []⟩)] [] []) Tryz.func67 (Eq.mp (f67.eq ph_b ph_o pall psome_A psome_n psome_c H Q) h)

/-- (*justiciar justiciarref29.history).versions -/
def f88 (ph_b ph_o : Nat) (pitem : Int) (H : Hp) (Q : Value → Hp → Prop) : Prop :=
  newF H 3 [.int .i64 0] fun g1 H2 => ∃ (A3 : Option Addr) (n3 c3 : Nat), cl H2 ph_b (ph_o + 0) = some (.slice A3 n3 c3) ∧ LoopF (σ := ((Option Addr × Nat × Nat) × (Int × Unit)) × Unit) ((((some ⟨g1, 0, none⟩), 1, 1), (0,
    ())), ()) H2 fun s4 H5 next6 => cnd (decide ((s4.1.2.1 : Int) < ((n3 : Nat) : Int))) (jn (fun (jA23 : Option Addr) (jn24 : Nat) (jc25 : Nat) (H26 : Hp) => KeepX [some (.v (.pointer (some ⟨ph_b, ph_o, none⟩))), some
    (.v (.int .i64 pitem)), some (.v (.slice A3 n3 c3)), some (.v (.int .i64 ((n3 : Nat) : Int)))] [] ∧ next6 (((jA23, jn24, jc25), (IntKind.i64.wrap (s4.1.2.1 + 1), ())), ()) H26) fun J27 => 0 ≤ (s4.1.2.1 : Int) ∧
    (s4.1.2.1 : Int) < ((n3 : Nat) : Int) ∧ onPtr A3 fun b7 o7 => ∃ x8 : Int, cl H5 b7 (o7 + (s4.1.2.1 : Int).toNat * 5) = some (.int .i64 x8) ∧ ∃ x9 : Int, cl H5 b7 ((o7 + (s4.1.2.1 : Int).toNat * 5) + 1) = some (.int
    .i64 x9) ∧ ∃ x10 : Int, cl H5 b7 (((o7 + (s4.1.2.1 : Int).toNat * 5) + 1) + 1) = some (.int .i64 x10) ∧ ∃ x11 : Int, cl H5 b7 ((((o7 + (s4.1.2.1 : Int).toNat * 5) + 1) + 1) + 1) = some (.int .i64 x11) ∧ ∃ x12 : Int,
    cl H5 b7 (((((o7 + (s4.1.2.1 : Int).toNat * 5) + 1) + 1) + 1) + 1) = some (.int .i64 x12) ∧ jn (fun (j16 : Bool) (H17 : Hp) => cnd j16 (newF H17 3 [.int .i64 x9] fun g19 H20 => appendF H20 3 1 8 s4.1.1.1 s4.1.1.2.1
    s4.1.1.2.2 (some ⟨g19, 0, none⟩) 1 fun A21 n21 c21 H22 => J27 A21 n21 c21 H22) (J27 s4.1.1.1 s4.1.1.2.1 s4.1.1.2.2 H17)) fun J18 => cnd ((x8 : Int) == 4) (HCalls Tryz.prog 90 [.pointer (some ⟨ph_b, ph_o, none⟩), .int
    .i64 x9, .int .i64 pitem, .int .i64 0] H5 fun v13 H14 => ∃ x15 : Bool, v13 = .bool x15 ∧ J18 x15 H14) (J18 false H5)) (Q (.slice s4.1.1.1 s4.1.1.2.1 s4.1.1.2.2) H5)
noncomputable def fcx88 : Cx := cx 35 [(7, true)] [(3, ⟨[0, 1, 12, 13], [], [(5, .slice), (14, .int .i64)], []⟩)] [] []
theorem f88.eq (ph_b ph_o : Nat) (pitem : Int) (H : Hp) (Q : Value → Hp → Prop) : f88 ph_b ph_o pitem H Q = wFun fcx88 Tryz.f88 [.pointer (some ⟨ph_b, ph_o, none⟩), .int .i64 pitem] H Q := by kernel_rfl
theorem f88.ok (ph_b ph_o : Nat) (pitem : Int) {H : Hp} {Q : Value → Hp → Prop} (h : f88 ph_b ph_o pitem H Q) : HCalls Tryz.prog 88 [.pointer (some ⟨ph_b, ph_o, none⟩), .int .i64 pitem] H Q := hcalls_of (cxOk 35 [(7, true)] [(3, ⟨[0, 1, 12, 13], [], [(5, .slice), (14, .int .i64)], []⟩)] [] []) Tryz.func88 (Eq.mp (f88.eq ph_b ph_o pitem H Q) h)

/-- justiciar justiciarref29.add -/
def f89 (pl_A : Option Addr) (pl_n pl_c : Nat) (pa_0 : Int) (pa_1 : Int) (pa_2 : Int) (pa_3 : Int) (H : Hp) (Q : Value → Hp → Prop) : Prop :=
  jn (fun (j1 : Bool) => cnd j1 (Q (.slice pl_A pl_n pl_c) H) (LoopF (σ := (Int × Unit) × Unit) ((((pl_n : Nat) : Int), ()), ()) H fun s3 H4 next5 => jn (fun (j14 : Bool) (H15 : Hp) => cnd j14 (KeepX [some (.v (.slice pl_A
    pl_n pl_c)), some (.loc 3 0)] [some (true, [.int .i64 pa_0, .int .i64 pa_1, .int .i64 pa_2, .int .i64 pa_3])] ∧ next5 ((IntKind.i64.wrap (s3.1.1 - 1), ()), ()) H15) (jn (fun (j22 : Bool) => cnd j22 (Q (.slice pl_A
    pl_n pl_c) H15) (0 ≤ (s3.1.1 : Int) ∧ (s3.1.1 : Int) ≤ ((pl_c : Nat) : Int) ∧ 0 ≤ (s3.1.1 : Int) ∧ (s3.1.1 : Int) ≤ (s3.1.1 : Int) ∧ 0 ≤ (s3.1.1 : Int) ∧ (s3.1.1 : Int) ≤ ((pl_n : Nat) : Int) ∧ newF H15 52 [.int .i64
    pa_0, .int .i64 pa_1, .int .i64 pa_2, .int .i64 pa_3] fun g24 H25 => appendF H25 52 4 32 (some ⟨g24, 0, none⟩) 1 1 (cutA pl_A (((s3.1.1 : Int).toNat) * 4) (decide (pl_c = ((s3.1.1 : Int).toNat)))) (pl_n - ((s3.1.1 :
    Int).toNat)) fun A26 n26 c26 H27 => appendF H27 52 4 32 (cutA pl_A (0 * 4) (decide (((s3.1.1 : Int).toNat) = 0))) (((s3.1.1 : Int).toNat) - 0) (((s3.1.1 : Int).toNat) - 0) A26 n26 fun A28 n28 c28 H29 => Q (.slice A28
    n28 c28) H29)) fun J23 => cnd (decide ((s3.1.1 : Int) < ((pl_n : Nat) : Int))) (0 ≤ (s3.1.1 : Int) ∧ (s3.1.1 : Int) < ((pl_n : Nat) : Int) ∧ onPtr pl_A fun b17 o17 => ∃ x18 : Int, cl H15 b17 (o17 + (s3.1.1 :
    Int).toNat * 4) = some (.int .i64 x18) ∧ ∃ x19 : Int, cl H15 b17 ((o17 + (s3.1.1 : Int).toNat * 4) + 1) = some (.int .i64 x19) ∧ ∃ x20 : Int, cl H15 b17 (((o17 + (s3.1.1 : Int).toNat * 4) + 1) + 1) = some (.int .i64
    x20) ∧ ∃ x21 : Int, cl H15 b17 ((((o17 + (s3.1.1 : Int).toNat * 4) + 1) + 1) + 1) = some (.int .i64 x21) ∧ J23 (((x18 : Int) == pa_0) && (((x19 : Int) == pa_1) && (((x20 : Int) == pa_2) && (((x21 : Int) == pa_3) &&
    true))))) (J23 false))) fun J16 => cnd (decide ((s3.1.1 : Int) > 0)) (0 ≤ (IntKind.i64.wrap (s3.1.1 - 1) : Int) ∧ (IntKind.i64.wrap (s3.1.1 - 1) : Int) < ((pl_n : Nat) : Int) ∧ onPtr pl_A fun b6 o6 => ∃ x7 : Int, cl
    H4 b6 (o6 + (IntKind.i64.wrap (s3.1.1 - 1) : Int).toNat * 4) = some (.int .i64 x7) ∧ ∃ x8 : Int, cl H4 b6 ((o6 + (IntKind.i64.wrap (s3.1.1 - 1) : Int).toNat * 4) + 1) = some (.int .i64 x8) ∧ ∃ x9 : Int, cl H4 b6 (((o6
    + (IntKind.i64.wrap (s3.1.1 - 1) : Int).toNat * 4) + 1) + 1) = some (.int .i64 x9) ∧ ∃ x10 : Int, cl H4 b6 ((((o6 + (IntKind.i64.wrap (s3.1.1 - 1) : Int).toNat * 4) + 1) + 1) + 1) = some (.int .i64 x10) ∧ HCalls
    Tryz.prog 106 [.agg #[.int .i64 x7, .int .i64 x8, .int .i64 x9, .int .i64 x10], .agg #[.int .i64 pa_0, .int .i64 pa_1, .int .i64 pa_2, .int .i64 pa_3]] H4 fun v11 H12 => ∃ x13 : Bool, v11 = .bool x13 ∧ J16 (!x13) H12)
    (J16 false H4))) fun J2 => cnd ((pa_0 : Int) == pa_1) (J2 true) (cnd ((pa_0 : Int) == 0) (J2 true) (J2 ((pa_1 : Int) == 0)))
noncomputable def fcx89 : Cx := cx 62 [(3, true)] [(4, ⟨[0, 3], [3], [(5, .int .i64)], []⟩)] [(4, (.look 0 (.look 1 (.look 2 (.look 3 (.look 4 (.look 5 (.look 6 (.look 7 (.look 8 (.act 9 (.look 10 (.look 11 .done)) .done))))))))))), (6, (.look 0 (.look 1 (.look 2 (.look 3 (.look 4 (.look 5 (.look 6 (.look 7 (.look 8 (.look 9 (.look 10 (.look 11 .done))))))))))))), (8, (.look 0 (.look 1 (.look 2 (.look 3 (.look 4 (.look 6 (.look 7 (.look 8 (.act 5 (.act 9 (.act 10 (.act 11 .done .done) .done) .done) .done))))))))))] []
theorem f89.eq (pl_A : Option Addr) (pl_n pl_c : Nat) (pa_0 : Int) (pa_1 : Int) (pa_2 : Int) (pa_3 : Int) (H : Hp) (Q : Value → Hp → Prop) : f89 pl_A pl_n pl_c pa_0 pa_1 pa_2 pa_3 H Q = wFun fcx89 Tryz.f89 [.slice pl_A pl_n pl_c, .agg #[.int .i64 pa_0, .int .i64 pa_1, .int .i64 pa_2, .int .i64 pa_3]] H Q := by kernel_rfl
theorem f89.ok (pl_A : Option Addr) (pl_n pl_c : Nat) (pa_0 : Int) (pa_1 : Int) (pa_2 : Int) (pa_3 : Int) {H : Hp} {Q : Value → Hp → Prop} (h : f89 pl_A pl_n pl_c pa_0 pa_1 pa_2 pa_3 H Q) : HCalls Tryz.prog 89 [.slice pl_A pl_n pl_c, .agg #[.int .i64 pa_0, .int .i64 pa_1, .int .i64 pa_2, .int .i64 pa_3]] H Q := hcalls_of (cxOk 62 [(3, true)] [(4, ⟨[0, 3], [3], [(5, .int .i64)], []⟩)] [(4, (.look 0 (.look 1 (.look 2 (.look 3 (.look 4 (.look 5 (.look 6 (.look 7 (.look 8 (.act 9 (.look 10 (.look 11 .done)) .done))))))))))), (6, (.look 0 (.look 1 (.look 2 (.look 3 (.look 4 (.look 5 (.look 6 (.look 7 (.look 8 (.look 9 (.look 10 (.look 11 .done))))))))))))), (8, (.look 0 (.look 1 (.look 2 (.look 3 (.look 4 (.look 6 (.look 7 (.look 8 (.act 5 (.act 9 (.act 10 (.act 11 .done .done) .done) .done) .done))))))))))] []) Tryz.func89 (Eq.mp (f89.eq pl_A pl_n pl_c pa_0 pa_1 pa_2 pa_3 H Q) h)

/-- (*justiciar justiciarref29.history).wrote -/
def f90 (ph_b ph_o : Nat) (ptxn : Int) (pitem : Int) (pfrm : Int) (H : Hp) (Q : Value → Hp → Prop) : Prop :=
  ∃ (A1 : Option Addr) (n1 c1 : Nat), cl H ph_b (ph_o + 0) = some (.slice A1 n1 c1) ∧ 0 ≤ (pfrm : Int) ∧ (pfrm : Int) ≤ ((n1 : Nat) : Int) ∧ LoopF (σ := (Int × Unit) × Unit) ((0, ()), ()) H fun s2 H3 next4 => cnd (decide
    ((s2.1.1 : Int) < ((n1 - ((pfrm : Int).toNat) : Nat) : Int))) (0 ≤ (s2.1.1 : Int) ∧ (s2.1.1 : Int) < ((n1 - ((pfrm : Int).toNat) : Nat) : Int) ∧ onPtr (cutA A1 (((pfrm : Int).toNat) * 5) (decide (c1 = ((pfrm :
    Int).toNat)))) fun b5 o5 => ∃ x6 : Int, cl H3 b5 (o5 + (s2.1.1 : Int).toNat * 5) = some (.int .i64 x6) ∧ ∃ x7 : Int, cl H3 b5 ((o5 + (s2.1.1 : Int).toNat * 5) + 1) = some (.int .i64 x7) ∧ ∃ x8 : Int, cl H3 b5 (((o5 +
    (s2.1.1 : Int).toNat * 5) + 1) + 1) = some (.int .i64 x8) ∧ ∃ x9 : Int, cl H3 b5 ((((o5 + (s2.1.1 : Int).toNat * 5) + 1) + 1) + 1) = some (.int .i64 x9) ∧ ∃ x10 : Int, cl H3 b5 (((((o5 + (s2.1.1 : Int).toNat * 5) + 1)
    + 1) + 1) + 1) = some (.int .i64 x10) ∧ jn (fun (j11 : Bool) => cnd j11 (Q (.bool true) H3) (KeepX [some (.v (.int .i64 ptxn)), some (.v (.int .i64 pitem)), some (.v (.slice (cutA A1 (((pfrm : Int).toNat) * 5) (decide
    (c1 = ((pfrm : Int).toNat)))) (n1 - ((pfrm : Int).toNat)) (c1 - ((pfrm : Int).toNat)))), some (.v (.int .i64 ((n1 - ((pfrm : Int).toNat) : Nat) : Int)))] [] ∧ next4 ((IntKind.i64.wrap (s2.1.1 + 1), ()), ()) H3)) fun
    J12 => cnd ((x6 : Int) == 3) (cnd ((x7 : Int) == ptxn) (J12 ((x8 : Int) == pitem)) (J12 false)) (J12 false)) (Q (.bool false) H3)
noncomputable def fcx90 : Cx := cx 38 [(10, true)] [(2, ⟨[1, 2, 16, 17], [], [(18, .int .i64)], []⟩)] [] []
theorem f90.eq (ph_b ph_o : Nat) (ptxn : Int) (pitem : Int) (pfrm : Int) (H : Hp) (Q : Value → Hp → Prop) : f90 ph_b ph_o ptxn pitem pfrm H Q = wFun fcx90 Tryz.f90 [.pointer (some ⟨ph_b, ph_o, none⟩), .int .i64 ptxn, .int .i64 pitem, .int .i64 pfrm] H Q := by kernel_rfl
theorem f90.ok (ph_b ph_o : Nat) (ptxn : Int) (pitem : Int) (pfrm : Int) {H : Hp} {Q : Value → Hp → Prop} (h : f90 ph_b ph_o ptxn pitem pfrm H Q) : HCalls Tryz.prog 90 [.pointer (some ⟨ph_b, ph_o, none⟩), .int .i64 ptxn, .int .i64 pitem, .int .i64 pfrm] H Q := hcalls_of (cxOk 38 [(10, true)] [(2, ⟨[1, 2, 16, 17], [], [(18, .int .i64)], []⟩)] [] []) Tryz.func90 (Eq.mp (f90.eq ph_b ph_o ptxn pitem pfrm H Q) h)

/-- justiciar justiciarref29.leads -/
def f91 (pl_A : Option Addr) (pl_n pl_c : Nat) (pmost : Int) (pfrm : Int) (pto : Int) (H : Hp) (Q : Value → Hp → Prop) : Prop :=
  newF H 3 [.int .i64 pfrm] fun g1 H2 => LoopF (σ := ((Option Addr × Nat × Nat) × (Int × Unit)) × Unit) ((((some ⟨g1, 0, none⟩), 1, 1), (0, ())), ()) H2 fun s3 H4 next5 => cnd (decide ((s3.1.2.1 : Int) < ((s3.1.1.2.1 : Nat)
    : Int))) (LoopF (σ := ((Option Addr × Nat × Nat) × (Int × Unit)) × Unit) (((s3.1.1.1, s3.1.1.2.1, s3.1.1.2.2), (0, ())), ()) H4 fun s6 H7 next8 => cnd (decide ((s6.1.2.1 : Int) < ((pl_n : Nat) : Int))) (jn (fun (jA25
    : Option Addr) (jn26 : Nat) (jc27 : Nat) (H28 : Hp) => KeepX [some (.v (.slice pl_A pl_n pl_c)), some (.v (.int .i64 pmost)), some (.v (.int .i64 pto)), some (.v (.int .i64 s3.1.2.1)), some (.v (.slice pl_A pl_n
    pl_c)), some (.v (.int .i64 ((pl_n : Nat) : Int)))] [] ∧ next8 (((jA25, jn26, jc27), (IntKind.i64.wrap (s6.1.2.1 + 1), ())), ()) H28) fun J29 => 0 ≤ (s6.1.2.1 : Int) ∧ (s6.1.2.1 : Int) < ((pl_n : Nat) : Int) ∧ onPtr
    pl_A fun b9 o9 => ∃ x10 : Int, cl H7 b9 (o9 + (s6.1.2.1 : Int).toNat * 4) = some (.int .i64 x10) ∧ ∃ x11 : Int, cl H7 b9 ((o9 + (s6.1.2.1 : Int).toNat * 4) + 1) = some (.int .i64 x11) ∧ ∃ x12 : Int, cl H7 b9 (((o9 +
    (s6.1.2.1 : Int).toNat * 4) + 1) + 1) = some (.int .i64 x12) ∧ ∃ x13 : Int, cl H7 b9 ((((o9 + (s6.1.2.1 : Int).toNat * 4) + 1) + 1) + 1) = some (.int .i64 x13) ∧ jn (fun (j16 : Bool) => cnd j16 (J29 s6.1.1.1
    s6.1.1.2.1 s6.1.1.2.2 H7) (cnd ((x11 : Int) == pto) (Q (.bool true) H7) (HCalls Tryz.prog 57 [.slice s6.1.1.1 s6.1.1.2.1 s6.1.1.2.2, .int .i64 x11] H7 fun v18 H19 => ∃ x20 : Bool, v18 = .bool x20 ∧ cnd (!x20) (newF
    H19 3 [.int .i64 x11] fun g21 H22 => appendF H22 3 1 8 s6.1.1.1 s6.1.1.2.1 s6.1.1.2.2 (some ⟨g21, 0, none⟩) 1 fun A23 n23 c23 H24 => J29 A23 n23 c23 H24) (J29 s6.1.1.1 s6.1.1.2.1 s6.1.1.2.2 H19)))) fun J17 => 0 ≤
    (s3.1.2.1 : Int) ∧ (s3.1.2.1 : Int) < ((s6.1.1.2.1 : Nat) : Int) ∧ onPtr s6.1.1.1 fun b14 o14 => ∃ x15 : Int, cl H7 b14 (o14 + (s3.1.2.1 : Int).toNat * 1) = some (.int .i64 x15) ∧ cnd ((x10 : Int) != x15) (J17 true)
    (J17 (decide ((x12 : Int) > pmost)))) (KeepX [some (.v (.slice pl_A pl_n pl_c)), some (.v (.int .i64 pmost)), some (.v (.int .i64 pto))] [] ∧ next5 (((s6.1.1.1, s6.1.1.2.1, s6.1.1.2.2), (IntKind.i64.wrap (s3.1.2.1 +
    1), ())), ()) H7)) (Q (.bool false) H4)
noncomputable def fcx91 : Cx := cx 55 [(12, true)] [(3, ⟨[0, 1, 3], [], [(9, .slice), (10, .int .i64)], []⟩), (6, ⟨[0, 1, 3, 10, 21, 22], [], [(9, .slice), (23, .int .i64)], []⟩)] [(8, (.look 0 (.look 1 (.look 2 (.look 3 (.look 4 (.look 5 (.look 6 (.look 7 (.look 8 (.look 9 (.look 10 (.look 11 (.look 12 .done))))))))))))))] []
theorem f91.eq (pl_A : Option Addr) (pl_n pl_c : Nat) (pmost : Int) (pfrm : Int) (pto : Int) (H : Hp) (Q : Value → Hp → Prop) : f91 pl_A pl_n pl_c pmost pfrm pto H Q = wFun fcx91 Tryz.f91 [.slice pl_A pl_n pl_c, .int .i64 pmost, .int .i64 pfrm, .int .i64 pto] H Q := by kernel_rfl
theorem f91.ok (pl_A : Option Addr) (pl_n pl_c : Nat) (pmost : Int) (pfrm : Int) (pto : Int) {H : Hp} {Q : Value → Hp → Prop} (h : f91 pl_A pl_n pl_c pmost pfrm pto H Q) : HCalls Tryz.prog 91 [.slice pl_A pl_n pl_c, .int .i64 pmost, .int .i64 pfrm, .int .i64 pto] H Q := hcalls_of (cxOk 55 [(12, true)] [(3, ⟨[0, 1, 3], [], [(9, .slice), (10, .int .i64)], []⟩), (6, ⟨[0, 1, 3, 10, 21, 22], [], [(9, .slice), (23, .int .i64)], []⟩)] [(8, (.look 0 (.look 1 (.look 2 (.look 3 (.look 4 (.look 5 (.look 6 (.look 7 (.look 8 (.look 9 (.look 10 (.look 11 (.look 12 .done))))))))))))))] []) Tryz.func91 (Eq.mp (f91.eq pl_A pl_n pl_c pmost pfrm pto H Q) h)

/-- justiciar justiciarref29.next -/
def f94 (parcs_A : Option Addr) (parcs_n parcs_c : Nat) (pn : Int) (H : Hp) (Q : Value → Hp → Prop) : Prop :=
  LoopF (σ := ((Option Addr × Nat × Nat) × (Int × Unit)) × Unit) (((none, 0, 0), (0, ())), ()) H fun s1 H2 next3 => cnd (decide ((s1.1.2.1 : Int) < ((parcs_n : Nat) : Int))) (jn (fun (jA19 : Option Addr) (jn20 : Nat) (jc21
    : Nat) (H22 : Hp) => KeepX [some (.v (.int .i64 pn)), some (.v (.slice parcs_A parcs_n parcs_c)), some (.v (.int .i64 ((parcs_n : Nat) : Int)))] [] ∧ next3 (((jA19, jn20, jc21), (IntKind.i64.wrap (s1.1.2.1 + 1), ())),
    ()) H22) fun J23 => 0 ≤ (s1.1.2.1 : Int) ∧ (s1.1.2.1 : Int) < ((parcs_n : Nat) : Int) ∧ onPtr parcs_A fun b4 o4 => ∃ x5 : Int, cl H2 b4 (o4 + (s1.1.2.1 : Int).toNat * 4) = some (.int .i64 x5) ∧ ∃ x6 : Int, cl H2 b4
    ((o4 + (s1.1.2.1 : Int).toNat * 4) + 1) = some (.int .i64 x6) ∧ ∃ x7 : Int, cl H2 b4 (((o4 + (s1.1.2.1 : Int).toNat * 4) + 1) + 1) = some (.int .i64 x7) ∧ ∃ x8 : Int, cl H2 b4 ((((o4 + (s1.1.2.1 : Int).toNat * 4) + 1)
    + 1) + 1) = some (.int .i64 x8) ∧ jn (fun (j12 : Bool) (H13 : Hp) => cnd j12 (newF H13 3 [.int .i64 x6] fun g15 H16 => appendF H16 3 1 8 s1.1.1.1 s1.1.1.2.1 s1.1.1.2.2 (some ⟨g15, 0, none⟩) 1 fun A17 n17 c17 H18 =>
    J23 A17 n17 c17 H18) (J23 s1.1.1.1 s1.1.1.2.1 s1.1.1.2.2 H13)) fun J14 => cnd ((x5 : Int) == pn) (HCalls Tryz.prog 57 [.slice s1.1.1.1 s1.1.1.2.1 s1.1.1.2.2, .int .i64 x6] H2 fun v9 H10 => ∃ x11 : Bool, v9 = .bool x11
    ∧ J14 (!x11) H10) (J14 false H2)) (Q (.slice s1.1.1.1 s1.1.1.2.1 s1.1.1.2.2) H2)
noncomputable def fcx94 : Cx := cx 32 [(7, true)] [(3, ⟨[1, 8, 9], [], [(5, .slice), (10, .int .i64)], []⟩)] [] []
theorem f94.eq (parcs_A : Option Addr) (parcs_n parcs_c : Nat) (pn : Int) (H : Hp) (Q : Value → Hp → Prop) : f94 parcs_A parcs_n parcs_c pn H Q = wFun fcx94 Tryz.f94 [.slice parcs_A parcs_n parcs_c, .int .i64 pn] H Q := by kernel_rfl
theorem f94.ok (parcs_A : Option Addr) (parcs_n parcs_c : Nat) (pn : Int) {H : Hp} {Q : Value → Hp → Prop} (h : f94 parcs_A parcs_n parcs_c pn H Q) : HCalls Tryz.prog 94 [.slice parcs_A parcs_n parcs_c, .int .i64 pn] H Q := hcalls_of (cxOk 32 [(7, true)] [(3, ⟨[1, 8, 9], [], [(5, .slice), (10, .int .i64)], []⟩)] [] []) Tryz.func94 (Eq.mp (f94.eq parcs_A parcs_n parcs_c pn H Q) h)

/-- (*justiciar justiciarref29.history).serial -/
def f95 (ph_b ph_o : Nat) (ptxn : Int) (H : Hp) (Q : Value → Hp → Prop) : Prop :=
  ∃ (A1 : Option Addr) (n1 c1 : Nat), cl H ph_b (ph_o + 0) = some (.slice A1 n1 c1) ∧ LoopF (σ := (Int × (Int × (Int × Unit))) × Unit) ((0, ((-1), (0, ()))), ()) H fun s2 H3 next4 => cnd (decide ((s2.1.2.2.1 : Int) < ((n1 :
    Nat) : Int))) (jn (fun (j11 : Int) (j12 : Int) => KeepX [some (.v (.pointer (some ⟨ph_b, ph_o, none⟩))), some (.v (.int .i64 ptxn)), some (.v (.slice A1 n1 c1)), some (.v (.int .i64 ((n1 : Nat) : Int)))] [] ∧ next4
    ((j11, (j12, (IntKind.i64.wrap (s2.1.2.2.1 + 1), ()))), ()) H3) fun J13 => 0 ≤ (s2.1.2.2.1 : Int) ∧ (s2.1.2.2.1 : Int) < ((n1 : Nat) : Int) ∧ onPtr A1 fun b5 o5 => ∃ x6 : Int, cl H3 b5 (o5 + (s2.1.2.2.1 : Int).toNat *
    5) = some (.int .i64 x6) ∧ ∃ x7 : Int, cl H3 b5 ((o5 + (s2.1.2.2.1 : Int).toNat * 5) + 1) = some (.int .i64 x7) ∧ ∃ x8 : Int, cl H3 b5 (((o5 + (s2.1.2.2.1 : Int).toNat * 5) + 1) + 1) = some (.int .i64 x8) ∧ ∃ x9 :
    Int, cl H3 b5 ((((o5 + (s2.1.2.2.1 : Int).toNat * 5) + 1) + 1) + 1) = some (.int .i64 x9) ∧ ∃ x10 : Int, cl H3 b5 (((((o5 + (s2.1.2.2.1 : Int).toNat * 5) + 1) + 1) + 1) + 1) = some (.int .i64 x10) ∧ cnd ((x7 : Int) !=
    ptxn) (J13 s2.1.1 s2.1.2.1) (cnd ((x6 : Int) == 1) (J13 (IntKind.i64.wrap (s2.1.2.2.1 + 1)) s2.1.2.1) (cnd (decide ((s2.1.2.1 : Int) < 0)) (J13 s2.1.1 s2.1.2.2.1) (J13 s2.1.1 s2.1.2.1)))) (LoopF (σ := (Int × Unit) ×
    Unit) ((s2.1.1, ()), ()) H3 fun s14 H15 next16 => cnd (decide ((s14.1.1 : Int) ≤ s2.1.2.1)) (HCalls Tryz.prog 108 [.pointer (some ⟨ph_b, ph_o, none⟩), .int .i64 ptxn, .int .i64 0, .int .i64 s14.1.1] H15 fun v17 H18 =>
    ∃ x19 : Bool, v17 = .bool x19 ∧ ∃ (A20 : Option Addr) (n20 c20 : Nat), cl H18 ph_b (ph_o + 0) = some (.slice A20 n20 c20) ∧ LoopF (σ := (Bool × (Int × Unit)) × Unit) ((x19, (0, ())), ()) H18 fun s21 H22 next23 => cnd
    (decide ((s21.1.2.1 : Int) < ((n20 : Nat) : Int))) (jn (fun (j38 : Bool) (H39 : Hp) => KeepX [some (.v (.pointer (some ⟨ph_b, ph_o, none⟩))), some (.v (.int .i64 ptxn)), some (.v (.int .i64 s2.1.2.1)), some (.v (.int
    .i64 s14.1.1)), some (.v (.slice A20 n20 c20)), some (.v (.int .i64 ((n20 : Nat) : Int)))] [] ∧ next23 ((j38, (IntKind.i64.wrap (s21.1.2.1 + 1), ())), ()) H39) fun J40 => 0 ≤ (s21.1.2.1 : Int) ∧ (s21.1.2.1 : Int) <
    ((n20 : Nat) : Int) ∧ onPtr A20 fun b24 o24 => ∃ x25 : Int, cl H22 b24 (o24 + (s21.1.2.1 : Int).toNat * 5) = some (.int .i64 x25) ∧ ∃ x26 : Int, cl H22 b24 ((o24 + (s21.1.2.1 : Int).toNat * 5) + 1) = some (.int .i64
    x26) ∧ ∃ x27 : Int, cl H22 b24 (((o24 + (s21.1.2.1 : Int).toNat * 5) + 1) + 1) = some (.int .i64 x27) ∧ ∃ x28 : Int, cl H22 b24 ((((o24 + (s21.1.2.1 : Int).toNat * 5) + 1) + 1) + 1) = some (.int .i64 x28) ∧ ∃ x29 :
    Int, cl H22 b24 (((((o24 + (s21.1.2.1 : Int).toNat * 5) + 1) + 1) + 1) + 1) = some (.int .i64 x29) ∧ jn (fun (j30 : Bool) => cnd j30 (cnd s21.1.1 (∃ (A32 : Option Addr) (n32 c32 : Nat), cl H22 ph_b (ph_o + 1) = some
    (.slice A32 n32 c32) ∧ 0 ≤ (ptxn : Int) ∧ (ptxn : Int) < ((n32 : Nat) : Int) ∧ onPtr A32 fun b33 o33 => ∃ x34 : Int, cl H22 b33 (o33 + (ptxn : Int).toNat * 1) = some (.int .i64 x34) ∧ HCalls Tryz.prog 109 [.pointer
    (some ⟨ph_b, ph_o, none⟩), .int .i64 ptxn, .int .i64 x27, .int .i64 s14.1.1, .int .i64 x34] H22 fun v35 H36 => ∃ x37 : Bool, v35 = .bool x37 ∧ J40 x37 H36) (J40 false H22)) (J40 s21.1.1 H22)) fun J31 => cnd ((x25 :
    Int) == 3) (J31 ((x26 : Int) == ptxn)) (J31 false)) (cnd s21.1.1 (Q (.bool true) H22) (KeepX [some (.v (.pointer (some ⟨ph_b, ph_o, none⟩))), some (.v (.int .i64 ptxn)), some (.v (.int .i64 s2.1.2.1))] [] ∧ next16
    ((IntKind.i64.wrap (s14.1.1 + 1), ()), ()) H22))) (Q (.bool false) H15))
noncomputable def fcx95 : Cx := cx 82 [(8, true), (12, true)] [(3, ⟨[0, 1, 16, 17], [], [(5, .int .i64), (6, .int .i64), (18, .int .i64)], []⟩), (12, ⟨[0, 1, 6], [], [(9, .int .i64)], []⟩), (16, ⟨[0, 1, 6, 9, 49, 50], [], [(10, .bool), (51, .int .i64)], []⟩)] [(19, (.look 0 (.look 1 (.look 2 (.look 3 (.look 4 (.look 5 (.look 6 (.look 7 (.look 8 (.look 9 (.look 10 (.look 11 (.look 12 (.look 13 (.act 14 (.look 15 (.act 16 .done .done)) .done))))))))))))))))] []
theorem f95.eq (ph_b ph_o : Nat) (ptxn : Int) (H : Hp) (Q : Value → Hp → Prop) : f95 ph_b ph_o ptxn H Q = wFun fcx95 Tryz.f95 [.pointer (some ⟨ph_b, ph_o, none⟩), .int .i64 ptxn] H Q := by kernel_rfl
theorem f95.ok (ph_b ph_o : Nat) (ptxn : Int) {H : Hp} {Q : Value → Hp → Prop} (h : f95 ph_b ph_o ptxn H Q) : HCalls Tryz.prog 95 [.pointer (some ⟨ph_b, ph_o, none⟩), .int .i64 ptxn] H Q := hcalls_of (cxOk 82 [(8, true), (12, true)] [(3, ⟨[0, 1, 16, 17], [], [(5, .int .i64), (6, .int .i64), (18, .int .i64)], []⟩), (12, ⟨[0, 1, 6], [], [(9, .int .i64)], []⟩), (16, ⟨[0, 1, 6, 9, 49, 50], [], [(10, .bool), (51, .int .i64)], []⟩)] [(19, (.look 0 (.look 1 (.look 2 (.look 3 (.look 4 (.look 5 (.look 6 (.look 7 (.look 8 (.look 9 (.look 10 (.look 11 (.look 12 (.look 13 (.act 14 (.look 15 (.act 16 .done .done)) .done))))))))))))))))] []) Tryz.func95 (Eq.mp (f95.eq ph_b ph_o ptxn H Q) h)

/-- (*justiciar justiciarref29.history).committed -/
def f96 (ph_b ph_o : Nat) (ptxn : Int) (H : Hp) (Q : Value → Hp → Prop) : Prop :=
  ∃ (A1 : Option Addr) (n1 c1 : Nat), cl H ph_b (ph_o + 0) = some (.slice A1 n1 c1) ∧ LoopF (σ := (Int × (Int × Unit)) × Unit) ((0, (0, ())), ()) H fun s2 H3 next4 => cnd (decide ((s2.1.2.1 : Int) < ((n1 : Nat) : Int))) (jn
    (fun (j16 : Int) (H17 : Hp) => KeepX [some (.v (.pointer (some ⟨ph_b, ph_o, none⟩))), some (.v (.int .i64 ptxn)), some (.v (.slice A1 n1 c1)), some (.v (.int .i64 ((n1 : Nat) : Int)))] [] ∧ next4 ((j16,
    (IntKind.i64.wrap (s2.1.2.1 + 1), ())), ()) H17) fun J18 => 0 ≤ (s2.1.2.1 : Int) ∧ (s2.1.2.1 : Int) < ((n1 : Nat) : Int) ∧ onPtr A1 fun b5 o5 => ∃ x6 : Int, cl H3 b5 (o5 + (s2.1.2.1 : Int).toNat * 5) = some (.int .i64
    x6) ∧ ∃ x7 : Int, cl H3 b5 ((o5 + (s2.1.2.1 : Int).toNat * 5) + 1) = some (.int .i64 x7) ∧ ∃ x8 : Int, cl H3 b5 (((o5 + (s2.1.2.1 : Int).toNat * 5) + 1) + 1) = some (.int .i64 x8) ∧ ∃ x9 : Int, cl H3 b5 ((((o5 +
    (s2.1.2.1 : Int).toNat * 5) + 1) + 1) + 1) = some (.int .i64 x9) ∧ ∃ x10 : Int, cl H3 b5 (((((o5 + (s2.1.2.1 : Int).toNat * 5) + 1) + 1) + 1) + 1) = some (.int .i64 x10) ∧ jn (fun (j11 : Bool) => cnd j11 (J18 s2.1.1
    H3) (HCalls Tryz.prog 110 [.pointer (some ⟨ph_b, ph_o, none⟩), .int .i64 ptxn, .int .i64 x10] H3 fun v13 H14 => ∃ x15 : Bool, v13 = .bool x15 ∧ cnd (!x15) (Q (.bool false) H14) (J18 x10 H14))) fun J12 => cnd ((x7 :
    Int) != ptxn) (J12 true) (cnd ((x6 : Int) != 2) (cnd ((x6 : Int) != 3) (J12 true) (J12 ((x10 : Int) == s2.1.1))) (J12 ((x10 : Int) == s2.1.1)))) (Q (.bool true) H3)
noncomputable def fcx96 : Cx := cx 45 [(7, true)] [(3, ⟨[0, 1, 11, 12], [], [(5, .int .i64), (13, .int .i64)], []⟩)] [] []
theorem f96.eq (ph_b ph_o : Nat) (ptxn : Int) (H : Hp) (Q : Value → Hp → Prop) : f96 ph_b ph_o ptxn H Q = wFun fcx96 Tryz.f96 [.pointer (some ⟨ph_b, ph_o, none⟩), .int .i64 ptxn] H Q := by kernel_rfl
theorem f96.ok (ph_b ph_o : Nat) (ptxn : Int) {H : Hp} {Q : Value → Hp → Prop} (h : f96 ph_b ph_o ptxn H Q) : HCalls Tryz.prog 96 [.pointer (some ⟨ph_b, ph_o, none⟩), .int .i64 ptxn] H Q := hcalls_of (cxOk 45 [(7, true)] [(3, ⟨[0, 1, 11, 12], [], [(5, .int .i64), (13, .int .i64)], []⟩)] [] []) Tryz.func96 (Eq.mp (f96.eq ph_b ph_o ptxn H Q) h)

/-- justiciar justiciarref29.less -/
def f106 (pa_0 : Int) (pa_1 : Int) (pa_2 : Int) (pa_3 : Int) (pb_0 : Int) (pb_1 : Int) (pb_2 : Int) (pb_3 : Int) (H : Hp) (Q : Value → Hp → Prop) : Prop :=
  newF H 3 [.int .i64 pa_0, .int .i64 pa_1, .int .i64 pa_2, .int .i64 pa_3] fun g1 H2 => newF H2 3 [.int .i64 pb_0, .int .i64 pb_1, .int .i64 pb_2, .int .i64 pb_3] fun g3 H4 => HCalls Tryz.prog 133 [.slice (some ⟨g1, 0,
    none⟩) 4 4, .slice (some ⟨g3, 0, none⟩) 4 4] H4 fun v5 H6 => ∃ x7 : Bool, v5 = .bool x7 ∧ Q (.bool x7) H6
noncomputable def fcx106 : Cx := cx 24 [(2, true), (3, true)] [] [] []
theorem f106.eq (pa_0 : Int) (pa_1 : Int) (pa_2 : Int) (pa_3 : Int) (pb_0 : Int) (pb_1 : Int) (pb_2 : Int) (pb_3 : Int) (H : Hp) (Q : Value → Hp → Prop) : f106 pa_0 pa_1 pa_2 pa_3 pb_0 pb_1 pb_2 pb_3 H Q = wFun fcx106 Tryz.f106 [.agg #[.int .i64 pa_0, .int .i64 pa_1, .int .i64 pa_2, .int .i64 pa_3], .agg #[.int .i64 pb_0, .int .i64 pb_1, .int .i64 pb_2, .int .i64 pb_3]] H Q := by kernel_rfl
theorem f106.ok (pa_0 : Int) (pa_1 : Int) (pa_2 : Int) (pa_3 : Int) (pb_0 : Int) (pb_1 : Int) (pb_2 : Int) (pb_3 : Int) {H : Hp} {Q : Value → Hp → Prop} (h : f106 pa_0 pa_1 pa_2 pa_3 pb_0 pb_1 pb_2 pb_3 H Q) : HCalls Tryz.prog 106 [.agg #[.int .i64 pa_0, .int .i64 pa_1, .int .i64 pa_2, .int .i64 pa_3], .agg #[.int .i64 pb_0, .int .i64 pb_1, .int .i64 pb_2, .int .i64 pb_3]] H Q := hcalls_of (cxOk 24 [(2, true), (3, true)] [] [] []) Tryz.func106 (Eq.mp (f106.eq pa_0 pa_1 pa_2 pa_3 pb_0 pb_1 pb_2 pb_3 H Q) h)

/-- (*justiciar justiciarref29.history).reads -/
def f108 (ph_b ph_o : Nat) (ptxn : Int) (pstmt : Int) (pplace : Int) (H : Hp) (Q : Value → Hp → Prop) : Prop :=
  ∃ (A1 : Option Addr) (n1 c1 : Nat), cl H ph_b (ph_o + 0) = some (.slice A1 n1 c1) ∧ LoopF (σ := ((Option Addr × Nat × Nat) × (Int × Unit)) × Unit) (((none, 0, 0), (0, ())), ()) H fun s2 H3 next4 => cnd (decide ((s2.1.2.1
    : Int) < ((n1 : Nat) : Int))) (jn (fun (jA28 : Option Addr) (jn29 : Nat) (jc30 : Nat) (H31 : Hp) => KeepX [some (.v (.pointer (some ⟨ph_b, ph_o, none⟩))), some (.v (.int .i64 ptxn)), some (.v (.int .i64 pstmt)), some
    (.v (.int .i64 pplace)), some (.v (.slice A1 n1 c1)), some (.v (.int .i64 ((n1 : Nat) : Int)))] [] ∧ next4 (((jA28, jn29, jc30), (IntKind.i64.wrap (s2.1.2.1 + 1), ())), ()) H31) fun J32 => 0 ≤ (s2.1.2.1 : Int) ∧
    (s2.1.2.1 : Int) < ((n1 : Nat) : Int) ∧ onPtr A1 fun b5 o5 => ∃ x6 : Int, cl H3 b5 (o5 + (s2.1.2.1 : Int).toNat * 5) = some (.int .i64 x6) ∧ ∃ x7 : Int, cl H3 b5 ((o5 + (s2.1.2.1 : Int).toNat * 5) + 1) = some (.int
    .i64 x7) ∧ ∃ x8 : Int, cl H3 b5 (((o5 + (s2.1.2.1 : Int).toNat * 5) + 1) + 1) = some (.int .i64 x8) ∧ ∃ x9 : Int, cl H3 b5 ((((o5 + (s2.1.2.1 : Int).toNat * 5) + 1) + 1) + 1) = some (.int .i64 x9) ∧ ∃ x10 : Int, cl H3
    b5 (((((o5 + (s2.1.2.1 : Int).toNat * 5) + 1) + 1) + 1) + 1) = some (.int .i64 x10) ∧ cnd ((x7 : Int) != ptxn) (J32 s2.1.1.1 s2.1.1.2.1 s2.1.1.2.2 H3) (jn (fun (H22 : Hp) => cnd ((x6 : Int) == 3) (newF H22 3 [.int
    .i64 x8] fun g24 H25 => appendF H25 3 1 8 s2.1.1.1 s2.1.1.2.1 s2.1.1.2.2 (some ⟨g24, 0, none⟩) 1 fun A26 n26 c26 H27 => J32 A26 n26 c26 H27) (J32 s2.1.1.1 s2.1.1.2.1 s2.1.1.2.2 H22)) fun J23 => jn (fun (j11 : Bool) =>
    cnd j11 (jn (fun (j19 : Int) (H20 : Hp) => cnd ((x9 : Int) != j19) (Q (.bool false) H20) (J23 H20)) fun J21 => HCalls Tryz.prog 57 [.slice s2.1.1.1 s2.1.1.2.1 s2.1.1.2.2, .int .i64 x8] H3 fun v13 H14 => ∃ x15 : Bool,
    v13 = .bool x15 ∧ cnd (!x15) (HCalls Tryz.prog 134 [.pointer (some ⟨ph_b, ph_o, none⟩), .int .i64 x8, .int .i64 pplace] H14 fun v16 H17 => ∃ x18 : Int, v16 = .int .i64 x18 ∧ J21 x18 H17) (J21 ptxn H14)) (J23 H3)) fun
    J12 => cnd ((x6 : Int) == 2) (cnd ((pstmt : Int) == 0) (J12 true) (J12 ((x10 : Int) == pstmt))) (J12 false))) (Q (.bool true) H3)
noncomputable def fcx108 : Cx := cx 63 [(11, true)] [(3, ⟨[0, 1, 2, 3, 16, 17], [], [(9, .slice), (18, .int .i64)], []⟩)] [] []
theorem f108.eq (ph_b ph_o : Nat) (ptxn : Int) (pstmt : Int) (pplace : Int) (H : Hp) (Q : Value → Hp → Prop) : f108 ph_b ph_o ptxn pstmt pplace H Q = wFun fcx108 Tryz.f108 [.pointer (some ⟨ph_b, ph_o, none⟩), .int .i64 ptxn, .int .i64 pstmt, .int .i64 pplace] H Q := by kernel_rfl
theorem f108.ok (ph_b ph_o : Nat) (ptxn : Int) (pstmt : Int) (pplace : Int) {H : Hp} {Q : Value → Hp → Prop} (h : f108 ph_b ph_o ptxn pstmt pplace H Q) : HCalls Tryz.prog 108 [.pointer (some ⟨ph_b, ph_o, none⟩), .int .i64 ptxn, .int .i64 pstmt, .int .i64 pplace] H Q := hcalls_of (cxOk 63 [(11, true)] [(3, ⟨[0, 1, 2, 3, 16, 17], [], [(9, .slice), (18, .int .i64)], []⟩)] [] []) Tryz.func108 (Eq.mp (f108.eq ph_b ph_o ptxn pstmt pplace H Q) h)

/-- (*justiciar justiciarref29.history).still -/
def f109 (ph_b ph_o : Nat) (ptxn : Int) (pitem : Int) (pfrm : Int) (pto : Int) (H : Hp) (Q : Value → Hp → Prop) : Prop :=
  LoopF (σ := (Int × Unit) × Unit) ((pfrm, ()), ()) H fun s1 H2 next3 => cnd (decide ((s1.1.1 : Int) < pto)) (∃ (A4 : Option Addr) (n4 c4 : Nat), cl H2 ph_b (ph_o + 0) = some (.slice A4 n4 c4) ∧ 0 ≤ (s1.1.1 : Int) ∧ (s1.1.1
    : Int) < ((n4 : Nat) : Int) ∧ onPtr A4 fun b5 o5 => ∃ x6 : Int, cl H2 b5 (o5 + (s1.1.1 : Int).toNat * 5) = some (.int .i64 x6) ∧ ∃ x7 : Int, cl H2 b5 ((o5 + (s1.1.1 : Int).toNat * 5) + 1) = some (.int .i64 x7) ∧ ∃ x8
    : Int, cl H2 b5 (((o5 + (s1.1.1 : Int).toNat * 5) + 1) + 1) = some (.int .i64 x8) ∧ ∃ x9 : Int, cl H2 b5 ((((o5 + (s1.1.1 : Int).toNat * 5) + 1) + 1) + 1) = some (.int .i64 x9) ∧ ∃ x10 : Int, cl H2 b5 (((((o5 +
    (s1.1.1 : Int).toNat * 5) + 1) + 1) + 1) + 1) = some (.int .i64 x10) ∧ jn (fun (j14 : Bool) (H15 : Hp) => cnd j14 (Q (.bool false) H15) (KeepX [some (.v (.pointer (some ⟨ph_b, ph_o, none⟩))), some (.v (.int .i64
    ptxn)), some (.v (.int .i64 pitem)), some (.v (.int .i64 pto))] [] ∧ next3 ((IntKind.i64.wrap (s1.1.1 + 1), ()), ()) H15)) fun J16 => cnd ((x6 : Int) == 4) (cnd ((x7 : Int) != ptxn) (HCalls Tryz.prog 90 [.pointer
    (some ⟨ph_b, ph_o, none⟩), .int .i64 x7, .int .i64 pitem, .int .i64 0] H2 fun v11 H12 => ∃ x13 : Bool, v11 = .bool x13 ∧ J16 x13 H12) (J16 false H2)) (J16 false H2)) (Q (.bool true) H2)
noncomputable def fcx109 : Cx := cx 42 [(12, true)] [(2, ⟨[0, 1, 2, 4], [], [(11, .int .i64)], []⟩)] [] []
theorem f109.eq (ph_b ph_o : Nat) (ptxn : Int) (pitem : Int) (pfrm : Int) (pto : Int) (H : Hp) (Q : Value → Hp → Prop) : f109 ph_b ph_o ptxn pitem pfrm pto H Q = wFun fcx109 Tryz.f109 [.pointer (some ⟨ph_b, ph_o, none⟩), .int .i64 ptxn, .int .i64 pitem, .int .i64 pfrm, .int .i64 pto] H Q := by kernel_rfl
theorem f109.ok (ph_b ph_o : Nat) (ptxn : Int) (pitem : Int) (pfrm : Int) (pto : Int) {H : Hp} {Q : Value → Hp → Prop} (h : f109 ph_b ph_o ptxn pitem pfrm pto H Q) : HCalls Tryz.prog 109 [.pointer (some ⟨ph_b, ph_o, none⟩), .int .i64 ptxn, .int .i64 pitem, .int .i64 pfrm, .int .i64 pto] H Q := hcalls_of (cxOk 42 [(12, true)] [(2, ⟨[0, 1, 2, 4], [], [(11, .int .i64)], []⟩)] [] []) Tryz.func109 (Eq.mp (f109.eq ph_b ph_o ptxn pitem pfrm pto H Q) h)

/-- (*justiciar justiciarref29.history).statement -/
def f110 (ph_b ph_o : Nat) (ptxn : Int) (pstmt : Int) (H : Hp) (Q : Value → Hp → Prop) : Prop :=
  ∃ (A1 : Option Addr) (n1 c1 : Nat), cl H ph_b (ph_o + 0) = some (.slice A1 n1 c1) ∧ LoopF (σ := (Int × (Int × (Int × Unit))) × Unit) ((0, ((-1), (0, ()))), ()) H fun s2 H3 next4 => cnd (decide ((s2.1.2.2.1 : Int) < ((n1 :
    Nat) : Int))) (jn (fun (j17 : Int) (j18 : Int) => KeepX [some (.v (.pointer (some ⟨ph_b, ph_o, none⟩))), some (.v (.int .i64 ptxn)), some (.v (.int .i64 pstmt)), some (.v (.slice A1 n1 c1)), some (.v (.int .i64 ((n1 :
    Nat) : Int)))] [] ∧ next4 ((j17, (j18, (IntKind.i64.wrap (s2.1.2.2.1 + 1), ()))), ()) H3) fun J19 => 0 ≤ (s2.1.2.2.1 : Int) ∧ (s2.1.2.2.1 : Int) < ((n1 : Nat) : Int) ∧ onPtr A1 fun b5 o5 => ∃ x6 : Int, cl H3 b5 (o5 +
    (s2.1.2.2.1 : Int).toNat * 5) = some (.int .i64 x6) ∧ ∃ x7 : Int, cl H3 b5 ((o5 + (s2.1.2.2.1 : Int).toNat * 5) + 1) = some (.int .i64 x7) ∧ ∃ x8 : Int, cl H3 b5 (((o5 + (s2.1.2.2.1 : Int).toNat * 5) + 1) + 1) = some
    (.int .i64 x8) ∧ ∃ x9 : Int, cl H3 b5 ((((o5 + (s2.1.2.2.1 : Int).toNat * 5) + 1) + 1) + 1) = some (.int .i64 x9) ∧ ∃ x10 : Int, cl H3 b5 (((((o5 + (s2.1.2.2.1 : Int).toNat * 5) + 1) + 1) + 1) + 1) = some (.int .i64
    x10) ∧ cnd ((x7 : Int) != ptxn) (J19 s2.1.1 s2.1.2.1) (jn (fun (j13 : Int) => jn (fun (j15 : Bool) => cnd j15 (J19 j13 s2.1.2.2.1) (J19 j13 s2.1.2.1)) fun J16 => cnd ((x6 : Int) == 2) (cnd ((x10 : Int) == pstmt) (J16
    (decide ((s2.1.2.1 : Int) < 0))) (J16 false)) (cnd ((x6 : Int) == 3) (cnd ((x10 : Int) == pstmt) (J16 (decide ((s2.1.2.1 : Int) < 0))) (J16 false)) (J16 false))) fun J14 => jn (fun (j11 : Bool) => cnd j11 (J14
    (IntKind.i64.wrap (s2.1.2.2.1 + 1))) (J14 s2.1.1)) fun J12 => cnd ((x6 : Int) == 1) (J12 true) (cnd ((x6 : Int) == 2) (J12 (decide ((x10 : Int) < pstmt))) (cnd ((x6 : Int) == 3) (J12 (decide ((x10 : Int) < pstmt)))
    (J12 false))))) (LoopF (σ := (Int × Unit) × Unit) ((s2.1.1, ()), ()) H3 fun s20 H21 next22 => cnd (decide ((s20.1.1 : Int) ≤ s2.1.2.1)) (HCalls Tryz.prog 108 [.pointer (some ⟨ph_b, ph_o, none⟩), .int .i64 ptxn, .int
    .i64 pstmt, .int .i64 s20.1.1] H21 fun v23 H24 => ∃ x25 : Bool, v23 = .bool x25 ∧ ∃ (A26 : Option Addr) (n26 c26 : Nat), cl H24 ph_b (ph_o + 0) = some (.slice A26 n26 c26) ∧ LoopF (σ := (Bool × (Int × Unit)) × Unit)
    ((x25, (0, ())), ()) H24 fun s27 H28 next29 => cnd (decide ((s27.1.2.1 : Int) < ((n26 : Nat) : Int))) (jn (fun (j41 : Bool) (H42 : Hp) => KeepX [some (.v (.pointer (some ⟨ph_b, ph_o, none⟩))), some (.v (.int .i64
    ptxn)), some (.v (.int .i64 pstmt)), some (.v (.int .i64 s2.1.2.1)), some (.v (.int .i64 s20.1.1)), some (.v (.slice A26 n26 c26)), some (.v (.int .i64 ((n26 : Nat) : Int)))] [] ∧ next29 ((j41, (IntKind.i64.wrap
    (s27.1.2.1 + 1), ())), ()) H42) fun J43 => 0 ≤ (s27.1.2.1 : Int) ∧ (s27.1.2.1 : Int) < ((n26 : Nat) : Int) ∧ onPtr A26 fun b30 o30 => ∃ x31 : Int, cl H28 b30 (o30 + (s27.1.2.1 : Int).toNat * 5) = some (.int .i64 x31)
    ∧ ∃ x32 : Int, cl H28 b30 ((o30 + (s27.1.2.1 : Int).toNat * 5) + 1) = some (.int .i64 x32) ∧ ∃ x33 : Int, cl H28 b30 (((o30 + (s27.1.2.1 : Int).toNat * 5) + 1) + 1) = some (.int .i64 x33) ∧ ∃ x34 : Int, cl H28 b30
    ((((o30 + (s27.1.2.1 : Int).toNat * 5) + 1) + 1) + 1) = some (.int .i64 x34) ∧ ∃ x35 : Int, cl H28 b30 (((((o30 + (s27.1.2.1 : Int).toNat * 5) + 1) + 1) + 1) + 1) = some (.int .i64 x35) ∧ jn (fun (j36 : Bool) => cnd
    j36 (cnd s27.1.1 (HCalls Tryz.prog 109 [.pointer (some ⟨ph_b, ph_o, none⟩), .int .i64 ptxn, .int .i64 x33, .int .i64 s20.1.1, .int .i64 s27.1.2.1] H28 fun v38 H39 => ∃ x40 : Bool, v38 = .bool x40 ∧ J43 x40 H39) (J43
    false H28)) (J43 s27.1.1 H28)) fun J37 => cnd ((x31 : Int) == 3) (cnd ((x32 : Int) == ptxn) (J37 ((x35 : Int) == pstmt)) (J37 false)) (J37 false)) (cnd s27.1.1 (Q (.bool true) H28) (KeepX [some (.v (.pointer (some
    ⟨ph_b, ph_o, none⟩))), some (.v (.int .i64 ptxn)), some (.v (.int .i64 pstmt)), some (.v (.int .i64 s2.1.2.1))] [] ∧ next22 ((IntKind.i64.wrap (s20.1.1 + 1), ()), ()) H28))) (Q (.bool false) H21))
noncomputable def fcx110 : Cx := cx 118 [(10, true), (14, true)] [(3, ⟨[0, 1, 2, 18, 19], [], [(7, .int .i64), (8, .int .i64), (20, .int .i64)], []⟩), (12, ⟨[0, 1, 2, 8], [], [(11, .int .i64)], []⟩), (16, ⟨[0, 1, 2, 8, 11, 84, 85], [], [(12, .bool), (86, .int .i64)], []⟩)] [] []
theorem f110.eq (ph_b ph_o : Nat) (ptxn : Int) (pstmt : Int) (H : Hp) (Q : Value → Hp → Prop) : f110 ph_b ph_o ptxn pstmt H Q = wFun fcx110 Tryz.f110 [.pointer (some ⟨ph_b, ph_o, none⟩), .int .i64 ptxn, .int .i64 pstmt] H Q := by kernel_rfl
theorem f110.ok (ph_b ph_o : Nat) (ptxn : Int) (pstmt : Int) {H : Hp} {Q : Value → Hp → Prop} (h : f110 ph_b ph_o ptxn pstmt H Q) : HCalls Tryz.prog 110 [.pointer (some ⟨ph_b, ph_o, none⟩), .int .i64 ptxn, .int .i64 pstmt] H Q := hcalls_of (cxOk 118 [(10, true), (14, true)] [(3, ⟨[0, 1, 2, 18, 19], [], [(7, .int .i64), (8, .int .i64), (20, .int .i64)], []⟩), (12, ⟨[0, 1, 2, 8], [], [(11, .int .i64)], []⟩), (16, ⟨[0, 1, 2, 8, 11, 84, 85], [], [(12, .bool), (86, .int .i64)], []⟩)] [] []) Tryz.func110 (Eq.mp (f110.eq ph_b ph_o ptxn pstmt H Q) h)

/-- justiciar justiciarref18.Less -/
def f133 (pa_A : Option Addr) (pa_n pa_c : Nat) (pb_A : Option Addr) (pb_n pb_c : Nat) (H : Hp) (Q : Value → Hp → Prop) : Prop :=
  LoopF (σ := (Int × Unit) × Unit) ((0, ()), ()) H fun s1 H2 next3 => jn (fun (j4 : Bool) => cnd j4 (0 ≤ (s1.1.1 : Int) ∧ (s1.1.1 : Int) < ((pa_n : Nat) : Int) ∧ onPtr pa_A fun b6 o6 => ∃ x7 : Int, cl H2 b6 (o6 + (s1.1.1 :
    Int).toNat * 1) = some (.int .i64 x7) ∧ 0 ≤ (s1.1.1 : Int) ∧ (s1.1.1 : Int) < ((pb_n : Nat) : Int) ∧ onPtr pb_A fun b8 o8 => ∃ x9 : Int, cl H2 b8 (o8 + (s1.1.1 : Int).toNat * 1) = some (.int .i64 x9) ∧ cnd ((x7 : Int)
    != x9) (0 ≤ (s1.1.1 : Int) ∧ (s1.1.1 : Int) < ((pa_n : Nat) : Int) ∧ onPtr pa_A fun b10 o10 => ∃ x11 : Int, cl H2 b10 (o10 + (s1.1.1 : Int).toNat * 1) = some (.int .i64 x11) ∧ 0 ≤ (s1.1.1 : Int) ∧ (s1.1.1 : Int) <
    ((pb_n : Nat) : Int) ∧ onPtr pb_A fun b12 o12 => ∃ x13 : Int, cl H2 b12 (o12 + (s1.1.1 : Int).toNat * 1) = some (.int .i64 x13) ∧ Q (.bool (decide ((x11 : Int) < x13))) H2) (KeepX [some (.v (.slice pa_A pa_n pa_c)),
    some (.v (.slice pb_A pb_n pb_c))] [] ∧ next3 ((IntKind.i64.wrap (s1.1.1 + 1), ()), ()) H2)) (Q (.bool (decide ((((pa_n : Nat) : Int) : Int) < ((pb_n : Nat) : Int)))) H2)) fun J5 => cnd (decide ((s1.1.1 : Int) <
    ((pa_n : Nat) : Int))) (J5 (decide ((s1.1.1 : Int) < ((pb_n : Nat) : Int)))) (J5 false)
noncomputable def fcx133 : Cx := cx 41 [] [(2, ⟨[0, 1], [], [(5, .int .i64)], []⟩)] [(4, (.look 0 (.look 1 (.look 2 (.look 3 (.look 4 (.look 5 (.look 6 (.look 7 (.look 8 .done)))))))))), (5, (.look 0 (.look 1 (.look 2 (.look 3 (.look 4 (.look 5 (.look 6 (.look 7 (.look 8 (.act 9 .done .done)))))))))))] []
theorem f133.eq (pa_A : Option Addr) (pa_n pa_c : Nat) (pb_A : Option Addr) (pb_n pb_c : Nat) (H : Hp) (Q : Value → Hp → Prop) : f133 pa_A pa_n pa_c pb_A pb_n pb_c H Q = wFun fcx133 Tryz.f133 [.slice pa_A pa_n pa_c, .slice pb_A pb_n pb_c] H Q := by kernel_rfl
theorem f133.ok (pa_A : Option Addr) (pa_n pa_c : Nat) (pb_A : Option Addr) (pb_n pb_c : Nat) {H : Hp} {Q : Value → Hp → Prop} (h : f133 pa_A pa_n pa_c pb_A pb_n pb_c H Q) : HCalls Tryz.prog 133 [.slice pa_A pa_n pa_c, .slice pb_A pb_n pb_c] H Q := hcalls_of (cxOk 41 [] [(2, ⟨[0, 1], [], [(5, .int .i64)], []⟩)] [(4, (.look 0 (.look 1 (.look 2 (.look 3 (.look 4 (.look 5 (.look 6 (.look 7 (.look 8 .done)))))))))), (5, (.look 0 (.look 1 (.look 2 (.look 3 (.look 4 (.look 5 (.look 6 (.look 7 (.look 8 (.act 9 .done .done)))))))))))] []) Tryz.func133 (Eq.mp (f133.eq pa_A pa_n pa_c pb_A pb_n pb_c H Q) h)

/-- (*justiciar justiciarref29.history).last -/
def f134 (ph_b ph_o : Nat) (pitem : Int) (pn : Int) (H : Hp) (Q : Value → Hp → Prop) : Prop :=
  ∃ (A1 : Option Addr) (n1 c1 : Nat), cl H ph_b (ph_o + 0) = some (.slice A1 n1 c1) ∧ 0 ≤ (pn : Int) ∧ (pn : Int) ≤ ((c1 : Nat) : Int) ∧ LoopF (σ := (Int × (Int × Unit)) × Unit) ((0, (0, ())), ()) H fun s2 H3 next4 => cnd
    (decide ((s2.1.2.1 : Int) < ((((pn : Int).toNat) - 0 : Nat) : Int))) (jn (fun (j17 : Int) (H18 : Hp) => KeepX [some (.v (.pointer (some ⟨ph_b, ph_o, none⟩))), some (.v (.int .i64 pitem)), some (.v (.slice (cutA A1 (0
    * 5) (decide (c1 = 0))) (((pn : Int).toNat) - 0) (c1 - 0))), some (.v (.int .i64 ((((pn : Int).toNat) - 0 : Nat) : Int)))] [] ∧ next4 ((j17, (IntKind.i64.wrap (s2.1.2.1 + 1), ())), ()) H18) fun J19 => 0 ≤ (s2.1.2.1 :
    Int) ∧ (s2.1.2.1 : Int) < ((((pn : Int).toNat) - 0 : Nat) : Int) ∧ onPtr (cutA A1 (0 * 5) (decide (c1 = 0))) fun b5 o5 => ∃ x6 : Int, cl H3 b5 (o5 + (s2.1.2.1 : Int).toNat * 5) = some (.int .i64 x6) ∧ ∃ x7 : Int, cl
    H3 b5 ((o5 + (s2.1.2.1 : Int).toNat * 5) + 1) = some (.int .i64 x7) ∧ ∃ x8 : Int, cl H3 b5 (((o5 + (s2.1.2.1 : Int).toNat * 5) + 1) + 1) = some (.int .i64 x8) ∧ ∃ x9 : Int, cl H3 b5 ((((o5 + (s2.1.2.1 : Int).toNat *
    5) + 1) + 1) + 1) = some (.int .i64 x9) ∧ ∃ x10 : Int, cl H3 b5 (((((o5 + (s2.1.2.1 : Int).toNat * 5) + 1) + 1) + 1) + 1) = some (.int .i64 x10) ∧ jn (fun (j14 : Bool) (H15 : Hp) => cnd j14 (J19 x7 H15) (J19 s2.1.1
    H15)) fun J16 => cnd ((x6 : Int) == 4) (HCalls Tryz.prog 90 [.pointer (some ⟨ph_b, ph_o, none⟩), .int .i64 x7, .int .i64 pitem, .int .i64 0] H3 fun v11 H12 => ∃ x13 : Bool, v11 = .bool x13 ∧ J16 x13 H12) (J16 false
    H3)) (Q (.int .i64 s2.1.1) H3)
noncomputable def fcx134 : Cx := cx 35 [(9, true)] [(3, ⟨[0, 1, 15, 16], [], [(7, .int .i64), (17, .int .i64)], []⟩)] [] []
theorem f134.eq (ph_b ph_o : Nat) (pitem : Int) (pn : Int) (H : Hp) (Q : Value → Hp → Prop) : f134 ph_b ph_o pitem pn H Q = wFun fcx134 Tryz.f134 [.pointer (some ⟨ph_b, ph_o, none⟩), .int .i64 pitem, .int .i64 pn] H Q := by kernel_rfl
theorem f134.ok (ph_b ph_o : Nat) (pitem : Int) (pn : Int) {H : Hp} {Q : Value → Hp → Prop} (h : f134 ph_b ph_o pitem pn H Q) : HCalls Tryz.prog 134 [.pointer (some ⟨ph_b, ph_o, none⟩), .int .i64 pitem, .int .i64 pn] H Q := hcalls_of (cxOk 35 [(9, true)] [(3, ⟨[0, 1, 15, 16], [], [(7, .int .i64), (17, .int .i64)], []⟩)] [] []) Tryz.func134 (Eq.mp (f134.eq ph_b ph_o pitem pn H Q) h)

end Go.Proofs.YtibhpoikhkokiaaGreat.Hw

/- The document's histories: valid (c56, c57, c21). -/
set_option linter.unusedVariables false
set_option linter.unusedSimpArgs false
set_option linter.unusedSectionVars false
set_option maxRecDepth 20000
namespace Go.Proofs.YtibhpoikhkokiaaGreat.Hw
open Go Go.Proofs
/-! ### arrays of parts -/
theorem setR_one {cs : List Value} {o : Nat} {v : Value} (h : o < cs.length) : setR cs o [v] = cs.set o v := by
  unfold setR
  rw [List.set_eq_take_append_cons_drop, if_pos h]
  simp
/-- An array of a number of parts of a size. -/
def PArr (H : Hp) (g ty k N : Nat) (F : Nat → List Value) : Prop := (∀ t, (F t).length = k) ∧ H g = some (.cells ((List.range N).flatMap F).toArray ty (0, 0))
theorem flat_at {F : Nat → List Value} {k N t j : Nat} (hl : ∀ t, (F t).length = k) (ht : t < N) (hj : j < k) : ((List.range N).flatMap F)[t * k + j]? = (F t)[j]? :=
  flat_get (fun x _ => hl x) (List.getElem?_range ht) hj
theorem PArr.get {H : Hp} {g ty k N : Nat} {F : Nat → List Value} (h : PArr H g ty k N F) {t j : Nat} {v : Value} (ht : t < N) (hv : (F t)[j]? = some v) : cl H g (t * k + j) = some v := by
  have hj : j < k := by rw [← h.1 t]; exact (List.getElem?_eq_some_iff.1 hv).1
  rw [cl_cells h.2, flat_at h.1 ht hj, hv]
theorem PArr.set {H : Hp} {g ty k N : Nat} {F F' : Nat → List Value} (h : PArr H g ty k N F) {t j : Nat} {v : Value} {K : Hp → Prop} (ht : t < N) (hj : j < k) (hF : F' t = (F t).set j v) (hF' : ∀ u, u ≠ t → F' u = F u)
    (hk : ∀ H', PArr H' g ty k N F' → (∀ q, q ≠ g → H' q = H q) → K H') : storeF H g (t * k + j) [v] K := by
  have hlen : ((List.range N).flatMap F).length = N * k := by rw [flat_length (fun x _ => h.1 x), List.length_range]
  have hlt : t * k + j < N * k := by
    have h1 : t * k + k ≤ N * k := by rw [← Nat.succ_mul]; exact Nat.mul_le_mul_right k ht
    omega
  have hl' : ∀ u, (F' u).length = k := fun u => by
    by_cases e : u = t
    · rw [e, hF, List.length_set, h.1]
    · rw [hF' u e, h.1]
  refine ⟨_, ty, h.2, by rw [hlen]; simp; omega, hk _ ⟨hl', ?_⟩ fun q hq => upd_off hq⟩
  rw [upd_at]
  congr 3
  rw [setR_one (by rw [hlen]; exact hlt)]
  have hlen' : ((List.range N).flatMap F').length = N * k := by rw [flat_length (fun x _ => hl' x), List.length_range]
  apply List.ext_getElem?
  intro m
  rw [List.getElem?_set]
  by_cases hm : m < N * k
  · have hk0 : 0 < k := by omega
    have hdm := Nat.div_add_mod m k
    have hmod := Nat.mod_lt m hk0
    have hd : m / k < N := Nat.div_lt_of_lt_mul (by rw [Nat.mul_comm]; exact hm)
    have em : m = m / k * k + m % k := by rw [Nat.mul_comm]; exact hdm.symm
    by_cases e : t * k + j = m
    · rw [if_pos e, if_pos (by rw [hlen]; exact hlt), ← e, flat_at hl' ht hj, hF, List.getElem?_set_self (by rw [h.1]; exact hj)]
    · rw [if_neg e, em, flat_at h.1 hd hmod, flat_at hl' hd hmod]
      by_cases e2 : m / k = t
      · have : j ≠ m % k := fun e3 => e (by rw [em, e2, e3])
        rw [e2, hF, List.getElem?_set_ne this]
      · rw [hF' _ e2]
  · rw [if_neg (by omega), List.getElem?_eq_none (by rw [hlen]; omega), List.getElem?_eq_none (by rw [hlen']; omega)]
theorem PArr.keep {H H' : Hp} {g ty k N : Nat} {F : Nat → List Value} (h : PArr H g ty k N F) (hg : H' g = H g) : PArr H' g ty k N F := ⟨h.1, hg.trans h.2⟩
theorem PArr.live {H : Hp} {g ty k N : Nat} {F : Nat → List Value} (h : PArr H g ty k N F) : H g ≠ none := by rw [h.2]; simp
/-! ### events -/
def evR (x : Ev) : Bool := inB x.txn && (if x.op == 2 || x.op == 3 then inB x.item && (decide (1 ≤ x.stmt) && (x.frm == 0 || x.op == 2)) else if x.op == 1 || (x.op == 4 || x.op == 5) then plainB x else false)
def restB (p : List Ev) (x : Ev) : Bool := if x.op == 2 then decide (stmtM p x.txn ≤ x.stmt) && (x.frm == 0 || wroteM p x.frm x.item) else if x.op == 3 then decide (stmtM p x.txn ≤ x.stmt) && !takenB p x.txn x.item else true
theorem evOk_split {p : List Ev} {x : Ev} : evOk p x = (evR x && (!endedM p x.txn && ((begunM p x.txn != (x.op == 1)) && restB p x))) := by
  have hmax : decide (max (stmtM p x.txn) 1 ≤ x.stmt) = (decide (1 ≤ x.stmt) && decide (stmtM p x.txn ≤ x.stmt)) := by
    rw [← Bool.decide_and, decide_eq_decide]; omega
  unfold evOk evR restB
  by_cases h1 : x.op = 1
  · simp only [h1, beq_self_eq_true, show ((1 : Int) == 2) = false from rfl, show ((1 : Int) == 3) = false from rfl, Bool.or_self, Bool.false_eq_true, if_false, if_true, Bool.true_or]
    cases inB x.txn <;> cases endedM p x.txn <;> cases begunM p x.txn <;> cases plainB x <;> rfl
  by_cases h2 : x.op = 2
  · simp only [h2, beq_self_eq_true, show ((2 : Int) == 1) = false from rfl, Bool.true_or, if_true, Bool.false_eq_true, if_false, hmax, Bool.or_true]
    cases inB x.txn <;> cases endedM p x.txn <;> cases begunM p x.txn <;> cases inB x.item <;> cases decide (1 ≤ x.stmt) <;> rfl
  by_cases h3 : x.op = 3
  · simp only [h3, beq_self_eq_true, show ((3 : Int) == 1) = false from rfl, show ((3 : Int) == 2) = false from rfl, Bool.false_or, if_true, Bool.false_eq_true, if_false, hmax, Bool.or_false]
    cases inB x.txn <;> cases endedM p x.txn <;> cases begunM p x.txn <;> cases inB x.item <;> cases decide (1 ≤ x.stmt) <;> cases x.frm == 0 <;> cases decide (stmtM p x.txn ≤ x.stmt) <;> cases takenB p x.txn x.item <;> rfl
  · have e1 : (x.op == 1) = false := by simpa using h1
    have e2 : (x.op == 2) = false := by simpa using h2
    have e3 : (x.op == 3) = false := by simpa using h3
    simp only [e1, e2, e3, Bool.or_self, Bool.false_eq_true, if_false, Bool.false_or]
    cases inB x.txn <;> cases endedM p x.txn <;> cases begunM p x.txn <;> cases (x.op == 4 || x.op == 5) <;> cases plainB x <;> rfl
theorem ok_take {l : List Ev} {i : Nat} (h : OkTo l i) (hi : i ≤ l.length) : OkTo (l.take i) (l.take i).length := by
  have hl : (l.take i).length = i := by rw [List.length_take]; omega
  rw [hl]
  exact OkTo.front h hi
/-- Who has an item open. -/
theorem open_iff : ∀ {n : Nat} {p : List Ev}, p.length = n → OkTo p p.length → ∀ item w, openM p item = some w ↔ wroteM p w item = true ∧ endedM p w = false
  | 0, p, hn, _, item, w => by
    rw [List.length_eq_zero_iff.1 hn]
    constructor
    · intro h; cases h
    · rintro ⟨h, _⟩; cases h
  | n + 1, l, hn, hok, item, w => by
    have hlt : n < l.length := by omega
    have hx : l[n]? = some l[n] := List.getElem?_eq_getElem hlt
    have e : l = l.take n ++ [l[n]] := by rw [← take_snoc hx, ← hn, List.take_length]
    have hpre := ok_take (i := n) (hok.mono (by omega)) (by omega)
    have ih := open_iff (n := n) (p := l.take n) (by rw [List.length_take]; omega) hpre
    have hev := hok n _ (by omega) hx
    generalize hxx : l[n] = x at e hev
    rw [e, open_snoc, wrote_snoc, ended_snoc]
    obtain ⟨_, h2, _, h4⟩ := ev_parts hev
    generalize l.take n = p at *
    unfold openStep
    by_cases h3 : x.op = 3
    · have hnE : ∀ u, isE u x = false := fun u => by unfold isE; simp [h3]
      by_cases hi : x.item = item
      · rw [if_pos (by simp [h3, hi]), hnE, Bool.or_false]
        rcases h4 with ⟨ho, _⟩ | ⟨ho, _⟩ | ⟨_, _, _, ht, _⟩ | ⟨ho, _⟩
        · omega
        · omega
        · rw [hi] at ht
          constructor
          · intro he
            cases he
            refine ⟨?_, h2⟩
            rw [isW_iff.2 ⟨h3, rfl, hi⟩, Bool.or_true]
          · rintro ⟨hw, he⟩
            by_cases ew : w = x.txn
            · rw [ew]
            · exfalso
              have hnw : isW w item x = false := by
                cases hh : isW w item x with
                | false => rfl
                | true => exact absurd (isW_iff.1 hh).2.1.symm ew
              rw [hnw, Bool.or_false] at hw
              have hop := (ih item w).2 ⟨hw, he⟩
              unfold takenB at ht
              rw [hop] at ht
              have : w = x.txn := by simpa using ht
              exact ew this
        · omega
      · have hnw : isW w item x = false := by
          cases hh : isW w item x with
          | false => rfl
          | true => exact absurd (isW_iff.1 hh).2.2 hi
        rw [if_neg (by simp [hi]), if_neg (by simp [h3]), hnw, hnE, Bool.or_false, Bool.or_false]
        exact ih item w
    · have hnw : isW w item x = false := by unfold isW; simp [h3]
      rw [if_neg (by simp [h3]), hnw, Bool.or_false]
      by_cases h5 : x.op = 4 ∨ x.op = 5
      · have hE : ∀ u, isE u x = decide (x.txn = u) := fun u => by
          rw [Bool.eq_iff_iff, isE_iff, decide_eq_true_eq]; exact ⟨fun h => h.2, fun h => ⟨h5, h⟩⟩
        have h5' : (x.op == 4 || x.op == 5) = true := by rcases h5 with h | h <;> simp [h]
        rw [hE, h5', Bool.true_and]
        by_cases ho : openM p item = some x.txn
        · rw [if_pos (by rw [ho]; simp)]
          constructor
          · intro h; cases h
          · rintro ⟨hw, he⟩
            rw [Bool.or_eq_false_iff, decide_eq_false_iff_not] at he
            have := (ih item w).2 ⟨hw, he.1⟩
            rw [ho] at this; cases this
            exact absurd rfl he.2
        · rw [if_neg (by simpa using ho)]
          constructor
          · intro h
            obtain ⟨a, b⟩ := (ih item w).1 h
            refine ⟨a, ?_⟩
            rw [b, Bool.false_or, decide_eq_false_iff_not]
            rintro rfl
            exact ho h
          · rintro ⟨hw, he⟩
            rw [Bool.or_eq_false_iff] at he
            exact (ih item w).2 ⟨hw, he.1⟩
      · have hE : isE w x = false := by
          cases hh : isE w x with
          | false => rfl
          | true => exact absurd (isE_iff.1 hh).1 h5
        have h5' : (x.op == 4 || x.op == 5) = false := by
          have : ¬ x.op = 4 ∧ ¬ x.op = 5 := by omega
          simp [this.1, this.2]
        rw [hE, h5', Bool.false_and, Bool.or_false]
        exact ih item w
theorem txn_in {p : List Ev} (hok : OkTo p p.length) {t i : Int} (h : wroteM p t i = true) : 1 ≤ t ∧ t ≤ 200 := by
  obtain ⟨x, hx, hp⟩ := List.any_eq_true.1 h
  obtain ⟨j, hj⟩ := List.getElem?_of_mem hx
  have h1 := (ev_parts (hok j x (List.getElem?_eq_some_iff.1 hj).1 hj)).1
  rw [(isW_iff.1 hp).2.1] at h1
  unfold inB at h1
  simp at h1
  exact h1
theorem taken_iff {p : List Ev} (hok : OkTo p p.length) {t item : Int} : takenB p t item = true ↔ ∃ n : Nat, n < 201 ∧ (n : Int) ≠ t ∧ endedM p n = false ∧ wroteM p n item = true := by
  unfold takenB
  constructor
  · intro h
    cases ho : openM p item with
    | none => rw [ho] at h; cases h
    | some w =>
      rw [ho] at h
      obtain ⟨a, b⟩ := (open_iff rfl hok item w).1 ho
      have := txn_in hok a
      have e : ((w.toNat : Nat) : Int) = w := by omega
      refine ⟨w.toNat, by omega, ?_, ?_, ?_⟩
      · rw [e]; simpa using h
      · rw [e]; exact b
      · rw [e]; exact a
  · rintro ⟨n, _, hne, he, hw⟩
    rw [(open_iff rfl hok item n).2 ⟨hw, he⟩]
    simpa using hne
theorem bad_at {l : List Ev} {i : Nat} {x : Ev} (hx : l[i]? = some x) (h : evOk (l.take i) x = false) : validM l = false := by
  cases hv : validM l with
  | false => rfl
  | true =>
    have := (valid_ok hv).1 i x (List.getElem?_eq_some_iff.1 hx).1 hx
    rw [h] at this; cases this
section
variable {H H' H0 : Hp} {Q : Value → Hp → Prop}
theorem c57 {A : Option Addr} {n c : Nat} {l : List Int} {x : Int} (hA : SlAt inC H A n l) (hq : Q (.bool (l.any fun y => y == x)) H) : HCalls Tryz.prog 57 [.slice A n c, .int .i64 x] H Q := by
  refine f57.ok _ _ _ _ ?_
  unfold f57
  obtain rfl := hA.len
  have hlt := hA.lt
  refine scan hlt (fun i H' => H' = H ∧ (l.take i).any (fun y => y == x) = false) ⟨rfl, by simp⟩ (fun i H2 next hi hI hnext => ?_) (fun H2 next hI => ?_)
  · obtain ⟨rfl, hno⟩ := hI
    obtain ⟨y, hy⟩ := get_of hi
    dsimp only
    refine cndT (decide_eq_true (by omega)) ⟨by omega, by omega, rd_in hA hy fun q o _ k1 => ⟨y, by simpa using k1, cndI (fun h => ?_) fun h => ⟨rfl, hnext H2 ⟨rfl, ?_⟩⟩⟩⟩
    · rw [any_hit hy h] at hq; exact hq
    · rw [any_take_succ hy, hno, h]; rfl
  · obtain ⟨rfl, hno⟩ := hI
    dsimp only
    rw [any_done hno] at hq
    exact cndF (decide_eq_false (by omega)) hq
theorem c56 {x : Ev} (hq : Q (.bool (evR x)) H) : HCalls Tryz.prog 56 [.agg #[.int .i64 x.op, .int .i64 x.txn, .int .i64 x.item, .int .i64 x.frm, .int .i64 x.stmt]] H Q := by
  refine f56.ok _ _ _ _ _ ?_
  unfold f56
  unfold evR inB plainB at hq
  refine jn_intro (fun J => ∀ b, b = !(decide (1 ≤ x.txn) && decide (x.txn ≤ 200)) → J b) (fun b hb => cndI (fun ht => ?_) fun hf => ?_) fun J hJ => cndI (fun h => hJ _ ?_) fun h => hJ _ ?_
  · rw [ht] at hb
    rw [show (decide (1 ≤ x.txn) && decide (x.txn ≤ 200)) = false by rw [← Bool.not_eq_true', ← hb]] at hq
    exact hq
  · rw [hf] at hb
    rw [show (decide (1 ≤ x.txn) && decide (x.txn ≤ 200)) = true by rw [← Bool.not_eq_false', ← hb], Bool.true_and] at hq
    refine jn_intro (fun J => J (x.op == 2 || x.op == 3)) ?_ fun J hJ => cndI (fun h => by rw [h] at hJ ⊢; exact hJ) fun h => by rw [h] at hJ; exact hJ
    refine cndI (fun h23 => ?_) fun h23 => ?_
    · rw [h23, if_pos rfl] at hq
      refine jn_intro (fun J => J (decide (1 ≤ x.item) && decide (x.item ≤ 200) && (decide (1 ≤ x.stmt) && (x.frm == 0 || x.op == 2)))) hq fun J hJ => cndI (fun h1 => cndI (fun h2 => cndI (fun h3 => cndI (fun h4 => ?_) fun h4 => ?_) fun h3 => ?_) fun h2 => ?_) fun h1 => ?_
      · rw [show decide (1 ≤ x.item) = true from h1, h2, show decide (1 ≤ x.stmt) = true from h3, h4] at hJ; exact hJ
      · rw [show decide (1 ≤ x.item) = true from h1, h2, show decide (1 ≤ x.stmt) = true from h3, h4] at hJ; exact hJ
      · rw [show decide (1 ≤ x.stmt) = false from h3, Bool.false_and, Bool.and_false] at hJ; exact hJ
      · rw [h2, Bool.and_false, Bool.false_and] at hJ; exact hJ
      · rw [show decide (1 ≤ x.item) = false from h1, Bool.false_and, Bool.false_and] at hJ; exact hJ
    · rw [h23, if_neg (by decide)] at hq
      refine jn_intro (fun J => J (x.op == 1 || (x.op == 4 || x.op == 5))) ?_ fun J hJ => cndI (fun h => by rw [h] at hJ ⊢; exact hJ) fun h => cndI (fun h' => by rw [h, h'] at hJ; rw [h']; exact hJ) fun h' => by rw [h, h'] at hJ; exact hJ
      refine cndI (fun h => ?_) fun h => ?_
      · rw [h, if_pos rfl] at hq
        refine jn_intro (fun J => J (x.item == 0 && (x.frm == 0 && x.stmt == 0))) hq fun J hJ => cndI (fun h1 => cndI (fun h2 => ?_) fun h2 => ?_) fun h1 => ?_
        · rw [h1, h2] at hJ; exact hJ
        · rw [h2, Bool.false_and, Bool.and_false] at hJ; exact hJ
        · rw [h1, Bool.false_and] at hJ; exact hJ
      · rw [h, if_neg (by decide)] at hq; exact hq
  · have : ¬ 1 ≤ x.txn := by have := of_decide_eq_true h; omega
    rw [decide_eq_false this]; rfl
  · have : 1 ≤ x.txn := by have := of_decide_eq_false h; omega
    rw [decide_eq_true this, Bool.true_and, ← decide_not]
    exact decide_eq_decide.2 (by omega)
end
end Go.Proofs.YtibhpoikhkokiaaGreat.Hw
