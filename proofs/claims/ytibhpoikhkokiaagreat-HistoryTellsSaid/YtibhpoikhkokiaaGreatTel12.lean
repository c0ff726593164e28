/- HwFj Wk Vo Wl Vi Vj Wo Wp (joined by merge.py) -/
import Derived.Test.YtibhpoikhkokiaaGreatTel3
import Derived.Test.YtibhpoikhkokiaaGreatTel11
import Derived.Test.YtibhpoikhkokiaaGreatTel10
/- What functions of the program come to, by the evaluator: printed by a program of this session (gen.py) and checked here. -/
set_option linter.unusedVariables false
set_option maxRecDepth 100000
namespace Go.Proofs.YtibhpoikhkokiaaGreat.Hw
open Go Go.Proofs

/-- justiciar justiciarlaw29.HistoryTells -/
def f5 (pl_A : Option Addr) (pl_n pl_c : Nat) (H : Hp) (Q : Value → Hp → Prop) : Prop :=
  HCalls Tryz.prog 10 [.slice pl_A pl_n pl_c] H fun v1 H2 => ∃ x3 : Bool, v1 = .bool x3 ∧ cnd x3 (HCalls Tryz.prog 11 [] H2 fun v4 H5 => ∃ x6 : Bool, v4 = .bool x6 ∧ Q (.bool x6) H5) (HCalls Tryz.prog 18 [.slice pl_A pl_n
    pl_c] H2 fun v7 H8 => ∃ (A9 : Option Addr) (n9 c9 : Nat), ∃ x10 : Int, v7 = .tuple #[.slice A9 n9 c9, .int .i64 x10] ∧ HCalls Tryz.prog 19 [.slice pl_A pl_n pl_c] H8 fun v11 H12 => ∃ (A13 : Option Addr) (n13 c13 :
    Nat), ∃ x14 : Int, v11 = .tuple #[.slice A13 n13 c13, .int .i64 x14] ∧ jn (fun (j24 : Bool) (H25 : Hp) => cnd j24 (Q (.bool false) H25) (HCalls Tryz.prog 13 [.slice pl_A pl_n pl_c] H25 fun v27 H28 => ∃ (A29 : Option
    Addr) (n29 c29 : Nat), ∃ x30 : Int, v27 = .tuple #[.slice A29 n29 c29, .int .i64 x30] ∧ HCalls Tryz.prog 22 [.slice pl_A pl_n pl_c] H28 fun v31 H32 => ∃ (A33 : Option Addr) (n33 c33 : Nat), ∃ x34 : Int, v31 = .tuple
    #[.slice A33 n33 c33, .int .i64 x34] ∧ jn (fun (j38 : Bool) (H39 : Hp) => cnd j38 (Q (.bool false) H39) (HCalls Tryz.prog 23 [.slice pl_A pl_n pl_c] H39 fun v41 H42 => ∃ (A43 : Option Addr) (n43 c43 : Nat), ∃ x44 :
    Int, v41 = .tuple #[.slice A43 n43 c43, .int .i64 x44] ∧ HCalls Tryz.prog 24 [.slice pl_A pl_n pl_c] H42 fun v45 H46 => ∃ (A47 : Option Addr) (n47 c47 : Nat), ∃ x48 : Int, v45 = .tuple #[.slice A47 n47 c47, .int .i64
    x48] ∧ jn (fun (j55 : Bool) (H56 : Hp) => Q (.bool j55) H56) fun J57 => HCalls Tryz.prog 25 [.slice A43 n43 c43, .slice A47 n47 c47] H46 fun v49 H50 => ∃ x51 : Bool, v49 = .bool x51 ∧ cnd x51 (cnd ((x44 : Int) == x48)
    (HCalls Tryz.prog 11 [] H50 fun v52 H53 => ∃ x54 : Bool, v52 = .bool x54 ∧ J57 x54 H53) (J57 false H50)) (J57 false H50))) fun J40 => HCalls Tryz.prog 15 [.slice A29 n29 c29, .slice A33 n33 c33] H32 fun v35 H36 => ∃
    x37 : Bool, v35 = .bool x37 ∧ cnd (!x37) (J40 true H36) (J40 ((x30 : Int) != x34) H36))) fun J26 => HCalls Tryz.prog 20 [.slice A9 n9 c9, .slice A13 n13 c13] H12 fun v15 H16 => ∃ x17 : Bool, v15 = .bool x17 ∧ cnd
    (!x17) (J26 true H16) (cnd ((x10 : Int) != x14) (J26 true H16) (HCalls Tryz.prog 14 [.slice pl_A pl_n pl_c] H16 fun v18 H19 => ∃ x20 : Bool, v18 = .bool x20 ∧ HCalls Tryz.prog 21 [.slice pl_A pl_n pl_c] H19 fun v21
    H22 => ∃ x23 : Bool, v21 = .bool x23 ∧ J26 (!(x20 == x23)) H22)))
noncomputable def fcx5 : Cx := cx 80 [] [] [] []
theorem f5.eq (pl_A : Option Addr) (pl_n pl_c : Nat) (H : Hp) (Q : Value → Hp → Prop) : f5 pl_A pl_n pl_c H Q = wFun fcx5 Tryz.f5 [.slice pl_A pl_n pl_c] H Q := by kernel_rfl
theorem f5.ok (pl_A : Option Addr) (pl_n pl_c : Nat) {H : Hp} {Q : Value → Hp → Prop} (h : f5 pl_A pl_n pl_c H Q) : HCalls Tryz.prog 5 [.slice pl_A pl_n pl_c] H Q := hcalls_of (cxOk 80 [] [] [] []) Tryz.func5 (Eq.mp (f5.eq pl_A pl_n pl_c H Q) h)

/-- justiciar justiciarref29.Anomaly -/
def f24 (pl_A : Option Addr) (pl_n pl_c : Nat) (H : Hp) (Q : Value → Hp → Prop) : Prop :=
  HCalls Tryz.prog 21 [.slice pl_A pl_n pl_c] H fun v1 H2 => ∃ x3 : Bool, v1 = .bool x3 ∧ cnd (!x3) (Q (.tuple #[.slice none 0 0, .int .i64 2]) H2) (HCalls Tryz.prog 54 [.slice pl_A pl_n pl_c] H2 fun v4 H5 => ∃ p6 : Option
    Addr, v4 = .pointer p6 ∧ HCalls Tryz.prog 55 [.pointer p6] H5 fun v7 H8 => ∃ (A9 : Option Addr) (n9 c9 : Nat), v7 = .slice A9 n9 c9 ∧ HCalls Tryz.prog 65 [.pointer p6] H8 fun v10 H11 => ∃ (A12 : Option Addr) (n12 c12
    : Nat), v10 = .slice A12 n12 c12 ∧ LoopF (σ := ((Option Addr × Nat × Nat) × (Int × Unit)) × Unit) (((none, 0, 0), (0, ())), ()) H11 fun s13 H14 next15 => cnd (decide ((s13.1.2.1 : Int) < ((n12 : Nat) : Int))) (jn (fun
    (jA23 : Option Addr) (jn24 : Nat) (jc25 : Nat) (H26 : Hp) => KeepX [some (.v (.slice A9 n9 c9)), some (.v (.slice A12 n12 c12)), some (.v (.int .i64 ((n12 : Nat) : Int)))] [] ∧ next15 (((jA23, jn24, jc25),
    (IntKind.i64.wrap (s13.1.2.1 + 1), ())), ()) H26) fun J27 => 0 ≤ (s13.1.2.1 : Int) ∧ (s13.1.2.1 : Int) < ((n12 : Nat) : Int) ∧ onPtr A12 fun b16 o16 => ∃ x17 : Int, cl H14 b16 (o16 + (s13.1.2.1 : Int).toNat * 1) =
    some (.int .i64 x17) ∧ HCalls Tryz.prog 66 [.slice A9 n9 c9, .int .i64 x17] H14 fun v18 H19 => ∃ (A20 : Option Addr) (n20 c20 : Nat), v18 = .slice A20 n20 c20 ∧ jn (fun (j21 : Bool) => cnd j21 (J27 A20 n20 c20 H19)
    (J27 s13.1.1.1 s13.1.1.2.1 s13.1.1.2.2 H19)) fun J22 => cnd (decide ((((n20 : Nat) : Int) : Int) > 0)) (cnd ((((s13.1.1.2.1 : Nat) : Int) : Int) == 0) (J22 true) (J22 (decide ((((n20 : Nat) : Int) : Int) <
    ((s13.1.1.2.1 : Nat) : Int))))) (J22 false)) (cnd ((((s13.1.1.2.1 : Nat) : Int) : Int) == 0) (Q (.tuple #[.slice none 0 0, .int .i64 4]) H14) (Q (.tuple #[.slice s13.1.1.1 s13.1.1.2.1 s13.1.1.2.2, .int .i64 0]) H14)))
noncomputable def fcx24 : Cx := cx 48 [] [(7, ⟨[5, 18, 19], [], [(6, .slice), (20, .int .i64)], []⟩)] [] []
theorem f24.eq (pl_A : Option Addr) (pl_n pl_c : Nat) (H : Hp) (Q : Value → Hp → Prop) : f24 pl_A pl_n pl_c H Q = wFun fcx24 Tryz.f24 [.slice pl_A pl_n pl_c] H Q := by kernel_rfl
theorem f24.ok (pl_A : Option Addr) (pl_n pl_c : Nat) {H : Hp} {Q : Value → Hp → Prop} (h : f24 pl_A pl_n pl_c H Q) : HCalls Tryz.prog 24 [.slice pl_A pl_n pl_c] H Q := hcalls_of (cxOk 48 [] [(7, ⟨[5, 18, 19], [], [(6, .slice), (20, .int .i64)], []⟩)] [] []) Tryz.func24 (Eq.mp (f24.eq pl_A pl_n pl_c H Q) h)

/-- justiciar justiciarref29.shortest -/
def f66 (parcs_A : Option Addr) (parcs_n parcs_c : Nat) (pfirst : Int) (H : Hp) (Q : Value → Hp → Prop) : Prop :=
  newF H 3 [.int .i64 pfirst] fun g1 H2 => newF H2 23 [.slice (some ⟨g1, 0, none⟩) 1 1] fun g3 H4 => LoopF (σ := ((Option Addr × Nat × Nat) × ((Option Addr × Nat × Nat) × Unit)) × Unit) ((((some ⟨g3, 0, none⟩), 1, 1),
    ((none, 0, 0), ())), ()) H4 fun s5 H6 next7 => cnd (decide ((((s5.1.1.2.1 : Nat) : Int) : Int) > 0)) (LoopF (σ := (Int × Unit) × Unit) ((0, ()), ()) H6 fun s8 H9 next10 => cnd (decide ((s8.1.1 : Int) < ((s5.1.1.2.1 :
    Nat) : Int))) (0 ≤ (s8.1.1 : Int) ∧ (s8.1.1 : Int) < ((s5.1.1.2.1 : Nat) : Int) ∧ onPtr s5.1.1.1 fun b11 o11 => ∃ (A12 : Option Addr) (n12 c12 : Nat), cl H9 b11 (o11 + (s8.1.1 : Int).toNat * 1) = some (.slice A12 n12
    c12) ∧ 0 ≤ (IntKind.i64.wrap (((n12 : Nat) : Int) - 1) : Int) ∧ (IntKind.i64.wrap (((n12 : Nat) : Int) - 1) : Int) < ((n12 : Nat) : Int) ∧ onPtr A12 fun b13 o13 => ∃ x14 : Int, cl H9 b13 (o13 + (IntKind.i64.wrap
    (((n12 : Nat) : Int) - 1) : Int).toNat * 1) = some (.int .i64 x14) ∧ HCalls Tryz.prog 94 [.slice parcs_A parcs_n parcs_c, .int .i64 x14] H9 fun v15 H16 => ∃ (A17 : Option Addr) (n17 c17 : Nat), v15 = .slice A17 n17
    c17 ∧ HCalls Tryz.prog 57 [.slice A17 n17 c17, .int .i64 pfirst] H16 fun v18 H19 => ∃ x20 : Bool, v18 = .bool x20 ∧ cnd x20 (Q (.slice A12 n12 c12) H19) (KeepX [some (.v (.slice parcs_A parcs_n parcs_c)), some (.v
    (.int .i64 pfirst)), some (.v (.slice s5.1.1.1 s5.1.1.2.1 s5.1.1.2.2)), some (.v (.slice s5.1.2.1.1 s5.1.2.1.2.1 s5.1.2.1.2.2)), some (.v (.slice s5.1.1.1 s5.1.1.2.1 s5.1.1.2.2)), some (.v (.int .i64 ((s5.1.1.2.1 :
    Nat) : Int)))] [] ∧ next10 ((IntKind.i64.wrap (s8.1.1 + 1), ()), ()) H19)) (LoopF (σ := ((Option Addr × Nat × Nat) × ((Option Addr × Nat × Nat) × (Int × Unit))) × Unit) (((s5.1.2.1.1, s5.1.2.1.2.1, s5.1.2.1.2.2),
    ((none, 0, 0), (0, ()))), ()) H9 fun s21 H22 next23 => cnd (decide ((s21.1.2.2.1 : Int) < ((s5.1.1.2.1 : Nat) : Int))) (0 ≤ (s21.1.2.2.1 : Int) ∧ (s21.1.2.2.1 : Int) < ((s5.1.1.2.1 : Nat) : Int) ∧ onPtr s5.1.1.1 fun
    b24 o24 => ∃ (A25 : Option Addr) (n25 c25 : Nat), cl H22 b24 (o24 + (s21.1.2.2.1 : Int).toNat * 1) = some (.slice A25 n25 c25) ∧ 0 ≤ (IntKind.i64.wrap (((n25 : Nat) : Int) - 1) : Int) ∧ (IntKind.i64.wrap (((n25 : Nat)
    : Int) - 1) : Int) < ((n25 : Nat) : Int) ∧ onPtr A25 fun b26 o26 => ∃ x27 : Int, cl H22 b26 (o26 + (IntKind.i64.wrap (((n25 : Nat) : Int) - 1) : Int).toNat * 1) = some (.int .i64 x27) ∧ HCalls Tryz.prog 94 [.slice
    parcs_A parcs_n parcs_c, .int .i64 x27] H22 fun v28 H29 => ∃ (A30 : Option Addr) (n30 c30 : Nat), v28 = .slice A30 n30 c30 ∧ LoopF (σ := ((Option Addr × Nat × Nat) × ((Option Addr × Nat × Nat) × (Int × Unit))) × Unit)
    (((s21.1.1.1, s21.1.1.2.1, s21.1.1.2.2), ((s21.1.2.1.1, s21.1.2.1.2.1, s21.1.2.1.2.2), (0, ()))), ()) H29 fun s31 H32 next33 => cnd (decide ((s31.1.2.2.1 : Int) < ((n30 : Nat) : Int))) (jn (fun (jA54 : Option Addr)
    (jn55 : Nat) (jc56 : Nat) (jA57 : Option Addr) (jn58 : Nat) (jc59 : Nat) (H60 : Hp) => KeepX [some (.v (.slice parcs_A parcs_n parcs_c)), some (.v (.int .i64 pfirst)), some (.v (.slice A25 n25 c25)), some (.v (.slice
    s5.1.1.1 s5.1.1.2.1 s5.1.1.2.2)), some (.v (.int .i64 ((s5.1.1.2.1 : Nat) : Int))), some (.v (.int .i64 s21.1.2.2.1)), some (.v (.slice A30 n30 c30)), some (.v (.int .i64 ((n30 : Nat) : Int)))] [] ∧ next33 (((jA54,
    jn55, jc56), ((jA57, jn58, jc59), (IntKind.i64.wrap (s31.1.2.2.1 + 1), ()))), ()) H60) fun J61 => 0 ≤ (s31.1.2.2.1 : Int) ∧ (s31.1.2.2.1 : Int) < ((n30 : Nat) : Int) ∧ onPtr A30 fun b34 o34 => ∃ x35 : Int, cl H32 b34
    (o34 + (s31.1.2.2.1 : Int).toNat * 1) = some (.int .i64 x35) ∧ jn (fun (j39 : Bool) (H40 : Hp) => cnd j39 (newF H40 3 [.int .i64 x35] fun g42 H43 => appendF H43 3 1 8 s31.1.1.1 s31.1.1.2.1 s31.1.1.2.2 (some ⟨g42, 0,
    none⟩) 1 fun A44 n44 c44 H45 => 0 ≤ (((n25 : Nat) : Int) : Int) ∧ (((n25 : Nat) : Int) : Int) ≤ ((c25 : Nat) : Int) ∧ 0 ≤ (((n25 : Nat) : Int) : Int) ∧ (((n25 : Nat) : Int) : Int) ≤ (((n25 : Nat) : Int) : Int) ∧ newF
    H45 3 [.int .i64 x35] fun g46 H47 => appendF H47 3 1 8 (cutA A25 (0 * 1) (decide (((((n25 : Nat) : Int) : Int).toNat) = 0))) (((((n25 : Nat) : Int) : Int).toNat) - 0) (((((n25 : Nat) : Int) : Int).toNat) - 0) (some
    ⟨g46, 0, none⟩) 1 fun A48 n48 c48 H49 => newF H49 23 [.slice A48 n48 c48] fun g50 H51 => appendF H51 23 1 24 s31.1.2.1.1 s31.1.2.1.2.1 s31.1.2.1.2.2 (some ⟨g50, 0, none⟩) 1 fun A52 n52 c52 H53 => J61 A44 n44 c44 A52
    n52 c52 H53) (J61 s31.1.1.1 s31.1.1.2.1 s31.1.1.2.2 s31.1.2.1.1 s31.1.2.1.2.1 s31.1.2.1.2.2 H40)) fun J41 => cnd (decide ((x35 : Int) > pfirst)) (HCalls Tryz.prog 57 [.slice s31.1.1.1 s31.1.1.2.1 s31.1.1.2.2, .int
    .i64 x35] H32 fun v36 H37 => ∃ x38 : Bool, v36 = .bool x38 ∧ J41 (!x38) H37) (J41 false H32)) (KeepX [some (.v (.slice parcs_A parcs_n parcs_c)), some (.v (.int .i64 pfirst)), some (.v (.slice s5.1.1.1 s5.1.1.2.1
    s5.1.1.2.2)), some (.v (.int .i64 ((s5.1.1.2.1 : Nat) : Int)))] [] ∧ next23 (((s31.1.1.1, s31.1.1.2.1, s31.1.1.2.2), ((s31.1.2.1.1, s31.1.2.1.2.1, s31.1.2.1.2.2), (IntKind.i64.wrap (s21.1.2.2.1 + 1), ()))), ()) H32))
    (KeepX [some (.v (.slice parcs_A parcs_n parcs_c)), some (.v (.int .i64 pfirst))] [] ∧ next7 (((s21.1.2.1.1, s21.1.2.1.2.1, s21.1.2.1.2.2), ((s21.1.1.1, s21.1.1.2.1, s21.1.1.2.2), ())), ()) H22))) (Q (.slice none 0 0)
    H6)
noncomputable def fcx66 : Cx := cx 85 [] [(3, ⟨[0, 1], [], [(5, .slice), (6, .slice)], []⟩), (5, ⟨[0, 1, 5, 6, 20, 21], [], [(22, .int .i64)], []⟩), (12, ⟨[0, 1, 38, 39], [], [(6, .slice), (9, .slice), (40, .int .i64)], []⟩), (15, ⟨[0, 1, 11, 38, 39, 40, 51, 52], [], [(6, .slice), (9, .slice), (53, .int .i64)], []⟩)] [] []
theorem f66.eq (parcs_A : Option Addr) (parcs_n parcs_c : Nat) (pfirst : Int) (H : Hp) (Q : Value → Hp → Prop) : f66 parcs_A parcs_n parcs_c pfirst H Q = wFun fcx66 Tryz.f66 [.slice parcs_A parcs_n parcs_c, .int .i64 pfirst] H Q := by kernel_rfl
theorem f66.ok (parcs_A : Option Addr) (parcs_n parcs_c : Nat) (pfirst : Int) {H : Hp} {Q : Value → Hp → Prop} (h : f66 parcs_A parcs_n parcs_c pfirst H Q) : HCalls Tryz.prog 66 [.slice parcs_A parcs_n parcs_c, .int .i64 pfirst] H Q := hcalls_of (cxOk 85 [] [(3, ⟨[0, 1], [], [(5, .slice), (6, .slice)], []⟩), (5, ⟨[0, 1, 5, 6, 20, 21], [], [(22, .int .i64)], []⟩), (12, ⟨[0, 1, 38, 39], [], [(6, .slice), (9, .slice), (40, .int .i64)], []⟩), (15, ⟨[0, 1, 11, 38, 39, 40, 51, 52], [], [(6, .slice), (9, .slice), (53, .int .i64)], []⟩)] [] []) Tryz.func66 (Eq.mp (f66.eq parcs_A parcs_n parcs_c pfirst H Q) h)

/-- justiciar justiciarref29.next -/
def f94 (parcs_A : Option Addr) (parcs_n parcs_c : Nat) (pn : Int) (H : Hp) (Q : Value → Hp → Prop) : Prop :=
  LoopF (σ := ((Option Addr × Nat × Nat) × (Int × Unit)) × Unit) (((none, 0, 0), (0, ())), ()) H fun s1 H2 next3 => cnd (decide ((s1.1.2.1 : Int) < ((parcs_n : Nat) : Int))) (jn (fun (jA19 : Option Addr) (jn20 : Nat) (jc21
    : Nat) (H22 : Hp) => KeepX [some (.v (.int .i64 pn)), some (.v (.slice parcs_A parcs_n parcs_c)), some (.v (.int .i64 ((parcs_n : Nat) : Int)))] [] ∧ next3 (((jA19, jn20, jc21), (IntKind.i64.wrap (s1.1.2.1 + 1), ())),
    ()) H22) fun J23 => 0 ≤ (s1.1.2.1 : Int) ∧ (s1.1.2.1 : Int) < ((parcs_n : Nat) : Int) ∧ onPtr parcs_A fun b4 o4 => ∃ x5 : Int, cl H2 b4 (o4 + (s1.1.2.1 : Int).toNat * 4) = some (.int .i64 x5) ∧ ∃ x6 : Int, cl H2 b4
    ((o4 + (s1.1.2.1 : Int).toNat * 4) + 1) = some (.int .i64 x6) ∧ ∃ x7 : Int, cl H2 b4 (((o4 + (s1.1.2.1 : Int).toNat * 4) + 1) + 1) = some (.int .i64 x7) ∧ ∃ x8 : Int, cl H2 b4 ((((o4 + (s1.1.2.1 : Int).toNat * 4) + 1)
    + 1) + 1) = some (.int .i64 x8) ∧ jn (fun (j12 : Bool) (H13 : Hp) => cnd j12 (newF H13 3 [.int .i64 x6] fun g15 H16 => appendF H16 3 1 8 s1.1.1.1 s1.1.1.2.1 s1.1.1.2.2 (some ⟨g15, 0, none⟩) 1 fun A17 n17 c17 H18 =>
    J23 A17 n17 c17 H18) (J23 s1.1.1.1 s1.1.1.2.1 s1.1.1.2.2 H13)) fun J14 => cnd ((x5 : Int) == pn) (HCalls Tryz.prog 57 [.slice s1.1.1.1 s1.1.1.2.1 s1.1.1.2.2, .int .i64 x6] H2 fun v9 H10 => ∃ x11 : Bool, v9 = .bool x11
    ∧ J14 (!x11) H10) (J14 false H2)) (Q (.slice s1.1.1.1 s1.1.1.2.1 s1.1.1.2.2) H2)
noncomputable def fcx94 : Cx := cx 32 [(7, true)] [(3, ⟨[1, 8, 9], [], [(5, .slice), (10, .int .i64)], []⟩)] [] []
theorem f94.eq (parcs_A : Option Addr) (parcs_n parcs_c : Nat) (pn : Int) (H : Hp) (Q : Value → Hp → Prop) : f94 parcs_A parcs_n parcs_c pn H Q = wFun fcx94 Tryz.f94 [.slice parcs_A parcs_n parcs_c, .int .i64 pn] H Q := by kernel_rfl
theorem f94.ok (parcs_A : Option Addr) (parcs_n parcs_c : Nat) (pn : Int) {H : Hp} {Q : Value → Hp → Prop} (h : f94 parcs_A parcs_n parcs_c pn H Q) : HCalls Tryz.prog 94 [.slice parcs_A parcs_n parcs_c, .int .i64 pn] H Q := hcalls_of (cxOk 32 [(7, true)] [(3, ⟨[1, 8, 9], [], [(5, .slice), (10, .int .i64)], []⟩)] [] []) Tryz.func94 (Eq.mp (f94.eq parcs_A parcs_n parcs_c pn H Q) h)

end Go.Proofs.YtibhpoikhkokiaaGreat.Hw

/- The document's shortest circles: rows of rows, next, done, shortest (c94, c65, c66). -/
set_option linter.unusedVariables false
set_option linter.unusedSimpArgs false
set_option linter.unusedSectionVars false
set_option maxRecDepth 20000
namespace Go.Proofs.YtibhpoikhkokiaaGreat.Hw
open Go Go.Proofs
theorem RowI.at {H0 H : Hp} {A : Option Addr} {c : Nat} {l : List Int} (R : RowI H0 H A c l) (hs : l.length < big) : SlAt inC H A l.length l := ⟨rfl, R.cells, by unfold big at hs; unfold huge; omega⟩
theorem RowI.more {H0 H H' : Hp} {A : Option Addr} {c : Nat} {l : List Int} (R : RowI H0 H A c l) (hx : Ext H H') : RowI H0 H' A c l := Row.keep R (fun b hb => ext_at hx (Row.lt R hb).1)
theorem cut_zero {A : Option Addr} {k : Nat} {s : Bool} : cutA A (0 * k) s = A := by
  unfold cutA
  cases s with
  | true => rfl
  | false =>
    cases A with
    | none => rfl
    | some a => cases a; simp [Addr.add]
/-- A row of the search, with its slice. -/
structure RR where
  A : Option Addr
  c : Nat
  r : List Int
def rrC (x : RR) : List Value := [.slice x.A x.r.length x.c]
theorem rd_rr {H : Hp} {A : Option Addr} {n : Nat} {l : List RR} {i : Nat} {x : RR} (h : SlAt rrC H A n l) (hi : l[i]? = some x) {K : Nat → Nat → Prop}
    (hk : ∀ p o, A = some ⟨p, o, none⟩ → cl H p (o + i) = some (.slice x.A x.r.length x.c) → K p o) : onPtr A K := by
  have hlen : ∀ x ∈ l, (rrC x).length = 1 := fun x _ => rfl
  have hne : l ≠ [] := fun e => by subst e; simp at hi
  refine at_cells h.cells (flat_ne hlen (by omega) hne) fun p o hA hc => hk p o hA ?_
  have := hc (i * 1 + 0) _ (flat_get hlen hi (by omega))
  rw [Nat.mul_one, Nat.add_zero] at this
  exact this
theorem get_last {r : List Int} (h : r ≠ []) : r[r.length - 1]? = some (lastD r) := by
  unfold lastD
  rw [← List.getLast?_eq_getElem?]
  cases hl : r.getLast? with
  | none => rw [List.getLast?_eq_none_iff] at hl; exact absurd hl h
  | some x => rfl
theorem fold_succ {α β : Type} {f : β → α → β} {l : List α} {i : Nat} {x : α} {a : β} (h : l[i]? = some x) : (l.take (i + 1)).foldl f a = f ((l.take i).foldl f a) x := by
  rw [List.take_add_one, h, List.foldl_append]; rfl
theorem find_none_take {α : Type} {g : α → Bool} {l : List α} (h : ∀ (k : Nat) x, l[k]? = some x → g x = false) : l.find? g = none := by
  rw [List.find?_eq_none]
  intro x hx hg
  obtain ⟨k, hk⟩ := List.getElem?_of_mem hx
  rw [h k x hk] at hg; cases hg
section
variable {H0 H : Hp} {Q : Value → Hp → Prop}
theorem fork {A : Option Addr} {r : List Int} {m : Int} {g : Nat} {K : Option Addr → Nat → Nat → Hp → Prop} (hA : cellsAt H A (r.flatMap inC)) (hr : r.length < big) (hg : H g = none)
    (hk : ∀ A' c' H', RowI H H' A' c' (r ++ [m]) → Ext H H' → K A' (r ++ [m]).length c' H') : appendF (upd g (.cells [Value.int .i64 m].toArray 3 (0, 0)) H) 3 1 8 A r.length r.length (some ⟨g, 0, none⟩) 1 K := by
  unfold big at hr
  have hx1 : Ext H (upd g (.cells [Value.int .i64 m].toArray 3 (0, 0)) H) := Ext.new hg
  refine ⟨by omega, by omega, [Value.int .i64 m], rfl, .inr ⟨g, 0, rfl, fun j v hj => by rw [cl_cells upd_at, Nat.zero_add]; exact hj⟩, fun v hv => by rw [List.mem_singleton.1 hv]; rfl, fun h => by omega, fun _ => ⟨r.flatMap inC, inC_len, cellsAt_ext hx1 hA, fun b cap rest hb hcap hmax hrest => ?_⟩⟩
  have hbH := hx1.none hb
  have hx2 := hx1.trans (Ext.new (o := .cells (r.flatMap inC ++ [Value.int .i64 m] ++ rest).toArray 3 (0, 0)) hb)
  have hl : (r ++ [m]).length = r.length + 1 := by simp
  have hvl : (r.flatMap inC).length = r.length * 1 := inC_len
  have := hk (some ⟨b, 0, none⟩) cap _ ⟨by rw [inC_len], by omega, .inr ⟨b, _, 3, rfl, upd_at, by simp only [List.length_append, List.length_singleton]; omega, ?_, hbH⟩⟩ hx2
  · rw [hl] at this; exact this
  · rw [List.flatMap_append, hl]
    refine List.take_left' ?_
    rw [List.length_append, hvl]; simp
theorem Row.push1x {α : Type} {f : α → List Value} {k ty eby : Nat} (hf : ∀ x, (f x).length = k) (ho : ∀ x, ∀ v ∈ f x, v.oneCell' = true) (he : eby ≤ 100) {S : Option Addr} {c g : Nat} {st : List α} {w : α} {K : Option Addr → Nat → Nat → Hp → Prop} (R : Row H0 H S st.length c k (st.flatMap f)) (hx : Ext H0 H) (hs : st.length < big) (hg : H g = none)
    (hk : ∀ A' c' H', Row H0 H' A' (st ++ [w]).length c' k ((st ++ [w]).flatMap f) → Ext H0 H' → (∀ b, H' b ≠ H b → rowB S b ∨ H b = none) → (∀ b, rowB A' b → rowB S b ∨ H b = none) → (∀ b, H b ≠ none → H' b ≠ none) → K A' (st ++ [w]).length c' H') :
    appendF (upd g (.cells (f w).toArray ty (0, 0)) H) ty k eby S st.length c (some ⟨g, 0, none⟩) 1 K := by
  unfold big at hs
  have hx1 : Ext H (upd g (.cells (f w).toArray ty (0, 0)) H) := Ext.new hg
  have R1 := Row.keep R (fun b hb => ext_at hx1 (R.lt hb).1)
  have hroom : (st.length + 1) * eby ≤ 1000000000001 * 100 := Nat.mul_le_mul (by omega) he
  refine R1.append (hx.trans hx1) (new := f w) (.inr ⟨g, 0, rfl, fun j v hj => by rw [cl_cells upd_at, Nat.zero_add]; exact hj⟩) (by rw [hf]; omega) (ho w) (by omega) (by omega) fun A' c' H' R' x' ch nw _ => ?_
  have old : ∀ b, (upd g (.cells (f w).toArray ty (0, 0)) H) b = none → H b = none := fun b h => hx1.none h
  have := hk A' c' H' (by rw [List.length_append, List.flatMap_append]; simpa using R') x' (fun b hb => ?_) (fun b hb => (nw b hb).imp id (old b)) (fun b hb h0 => ?_)
  · rw [List.length_append] at this; exact this
  · by_cases e : b = g
    · subst e; exact .inr hg
    · have : H' b ≠ (upd g (.cells (f w).toArray ty (0, 0)) H) b := by rw [upd_off e]; exact hb
      exact (ch b this).2.imp id (old b)
  · by_cases e : H' b = (upd g (.cells (f w).toArray ty (0, 0)) H) b
    · exact hb (old b (e ▸ h0))
    · exact (R'.lt (ch b e).1).1 h0
/-- Levels: the numbers that were seen, the level that is being made, the level that is gone through. -/
structure LvI (H0 H : Hp) (SA : Option Addr) (sc : Nat) (seen : List Int) (TA : Option Addr) (tc : Nat) (ns : List RR) (A0 : Option Addr) (c0 : Nat) (rs : List RR) : Prop where
  ext : Ext H0 H
  sn : RowI H0 H SA sc seen
  tab : Row H0 H TA ns.length tc 1 (ns.flatMap rrC)
  old : Row H0 H A0 rs.length c0 1 (rs.flatMap rrC)
  row : ∀ x, x ∈ rs ∨ x ∈ ns → RowI H0 H x.A x.c x.r
  sep : ∀ b, rowB SA b → ¬ rowB TA b ∧ ¬ rowB A0 b ∧ ∀ x, x ∈ rs ∨ x ∈ ns → ¬ rowB x.A b
  sepT : ∀ b, rowB TA b → ¬ rowB A0 b ∧ ∀ x, x ∈ rs ∨ x ∈ ns → ¬ rowB x.A b
section
variable {SA TA A0 : Option Addr} {sc tc c0 : Nat} {seen : List Int} {ns rs : List RR}
theorem LvI.more {H' : Hp} (I : LvI H0 H SA sc seen TA tc ns A0 c0 rs) (hx : Ext H H') : LvI H0 H' SA sc seen TA tc ns A0 c0 rs :=
  ⟨I.ext.trans hx, I.sn.more hx, Row.keep I.tab fun b hb => ext_at hx (I.tab.lt hb).1, Row.keep I.old fun b hb => ext_at hx (I.old.lt hb).1, fun x hm => (I.row x hm).more hx, I.sep, I.sepT⟩
/-- A level is done. -/
theorem LvI.turn (I : LvI H0 H SA sc seen TA tc ns A0 c0 rs) : LvI H0 H SA sc seen none 0 [] TA tc ns :=
  ⟨I.ext, I.sn, Row.nil, I.tab, fun x hx => I.row x (.inr (hx.elim id fun h => by cases h)), fun b hb => ⟨fun ⟨_, _, h⟩ => (by cases h), (I.sep b hb).1, fun x hx => (I.sep b hb).2.2 x (.inr (hx.elim id fun h => by cases h))⟩, fun b ⟨_, _, h⟩ => by cases h⟩
theorem LvI.add {x : RR} {m : Int} {K : Option Addr → Nat → Nat → Option Addr → Nat → Nat → Hp → Prop} (I : LvI H0 H SA sc seen TA tc ns A0 c0 rs) (hx : x ∈ rs) (hr : x.r.length < big) (hl1 : ns.length < big) (hl2 : seen.length < big)
    (hk : ∀ SA' sc' TA' tc' B d H', LvI H0 H' SA' sc' (seen ++ [m]) TA' tc' (ns ++ [RR.mk B d (x.r ++ [m])]) A0 c0 rs → (∀ b, H b ≠ none → ¬ rowB TA b → ¬ rowB SA b → H' b = H b) → (∀ b, rowB TA' b → rowB TA b ∨ H b = none) → (∀ b, rowB SA' b → rowB SA b ∨ H b = none) → K SA' (seen ++ [m]).length sc' TA' (ns ++ [RR.mk B d (x.r ++ [m])]).length tc' H') :
    newF H 3 [.int .i64 m] fun g42 H43 => appendF H43 3 1 8 SA seen.length sc (some ⟨g42, 0, none⟩) 1 fun A44 n44 c44 H45 => newF H45 3 [.int .i64 m] fun g46 H47 => appendF H47 3 1 8 x.A x.r.length x.r.length (some ⟨g46, 0, none⟩) 1 fun A48 n48 c48 H49 => newF H49 23 [.slice A48 n48 c48] fun g50 H51 => appendF H51 23 1 24 TA ns.length tc (some ⟨g50, 0, none⟩) 1 fun A52 n52 c52 H53 => K A44 n44 c44 A52 n52 c52 H53 := by
  intro g42 hg42
  refine Row.push1x (f := inC) (w := m) (fun _ => rfl) (fun y v hv => by rw [List.mem_singleton.1 hv]; rfl) (by omega) I.sn I.ext hl2 hg42 fun A49 c49 H50 R50 x50 ch50 nw50 dom50 => ?_
  have R50 : RowI H0 H50 A49 c49 (seen ++ [m]) := R50
  have keep50 : ∀ b, H b ≠ none → ¬ rowB SA b → H50 b = H b := fun b hn hb => Classical.byContradiction fun hne => by
    rcases ch50 b hne with h | h
    · exact hb h
    · exact hn h
  have tab50 := Row.keep I.tab fun b hb => keep50 b (I.tab.lt hb).1 fun h => (I.sep b h).1 hb
  have old50 := Row.keep I.old fun b hb => keep50 b (I.old.lt hb).1 fun h => (I.sep b h).2.1 hb
  have row50 : ∀ y, y ∈ rs ∨ y ∈ ns → RowI H0 H50 y.A y.c y.r := fun y hm => Row.keep (I.row y hm) fun b hb => keep50 b (Row.lt (I.row y hm) hb).1 fun h => (I.sep b h).2.2 y hm hb
  intro g51 hg51
  refine fork (Row.cells (row50 x (.inl hx))) hr hg51 fun A53 c53 H54 R54 x54 => ?_
  have R54' : RowI H0 H54 A53 c53 (x.r ++ [m]) := Row.base R54 x50
  have tab54 := Row.keep tab50 fun b hb => ext_at x54 (tab50.lt hb).1
  have old54 := Row.keep old50 fun b hb => ext_at x54 (old50.lt hb).1
  have sn54 : RowI H0 H54 A49 c49 (seen ++ [m]) := R50.more x54
  have row54 : ∀ y, y ∈ rs ∨ y ∈ ns → RowI H0 H54 y.A y.c y.r := fun y hm => (row50 y hm).more x54
  have none54 : ∀ b, H54 b = none → H b = none := fun b h => Classical.byContradiction fun hn => dom50 b hn (x54.none h)
  intro g55 hg55
  refine Row.push1x (f := rrC) (w := RR.mk A53 c53 (x.r ++ [m])) (fun _ => rfl) (fun y v hv => by rw [List.mem_singleton.1 hv]; rfl) (by omega) tab54 (x50.trans x54) hl1 hg55 fun A57 c57 H58 R58 x58 ch58 nw58 _ => ?_
  have keep58 : ∀ b, H54 b ≠ none → ¬ rowB TA b → H58 b = H54 b := fun b hn hb => Classical.byContradiction fun hne => by
    rcases ch58 b hne with h | h
    · exact hb h
    · exact hn h
  have sT : ∀ b, rowB A49 b → ¬ rowB TA b := fun b hb ht => by
    rcases nw50 b hb with h | h
    · exact (I.sep b h).1 ht
    · exact (I.tab.lt ht).1 h
  have fresh : ∀ b, rowB A53 b → H50 b = none := fun b hb => (Row.lt R54 hb).2
  have mems : ∀ y, (y ∈ rs ∨ y ∈ ns ++ [RR.mk A53 c53 (x.r ++ [m])]) → (y ∈ rs ∨ y ∈ ns) ∨ y = RR.mk A53 c53 (x.r ++ [m]) := fun y hy => by
    rcases hy with hy | hy
    · exact .inl (.inl hy)
    · rcases List.mem_append.1 hy with hy | hy
      · exact .inl (.inr hy)
      · exact .inr (List.mem_singleton.1 hy)
  refine hk A49 c49 A57 c57 A53 c53 H58 ⟨x58, Row.keep sn54 fun b hb => keep58 b (Row.lt sn54 hb).1 (sT b hb), R58, Row.keep old54 fun b hb => keep58 b (old54.lt hb).1 fun h => (I.sepT b h).1 hb, fun y hy => ?_, fun b h49 => ⟨fun h57 => ?_, fun h0 => ?_, fun y hy hb => ?_⟩, fun b h57 => ⟨fun h0 => ?_, fun y hy hb => ?_⟩⟩ (fun b hn hT hS => ?_) (fun b hb => (nw58 b hb).imp id (none54 b)) nw50
  · rcases mems y hy with hy | rfl
    · exact Row.keep (row54 y hy) fun b hb => keep58 b (Row.lt (row54 y hy) hb).1 fun h => (I.sepT b h).2 y hy hb
    · exact Row.keep R54' fun b hb => keep58 b (Row.lt R54' hb).1 fun ht => (tab50.lt ht).1 (fresh b hb)
  · rcases nw58 b h57 with h | h
    · exact sT b h49 h
    · exact (Row.lt sn54 h49).1 h
  · rcases nw50 b h49 with h | h
    · exact (I.sep b h).2.1 h0
    · exact (I.old.lt h0).1 h
  · rcases mems y hy with hy | rfl
    · rcases nw50 b h49 with h | h
      · exact (I.sep b h).2.2 y hy hb
      · exact (Row.lt (I.row y hy) hb).1 h
    · exact (Row.lt R50 h49).1 (fresh b hb)
  · rcases nw58 b h57 with h | h
    · exact (I.sepT b h).1 h0
    · exact (old54.lt h0).1 h
  · rcases mems y hy with hy | rfl
    · rcases nw58 b h57 with h | h
      · exact (I.sepT b h).2 y hy hb
      · exact (Row.lt (row54 y hy) hb).1 h
    · rcases nw58 b h57 with h | h
      · exact (tab50.lt h).1 (fresh b hb)
      · exact (Row.lt R54 hb).1 h
  · have e50 := keep50 b hn hS
    have e54 : H54 b = H50 b := ext_at x54 (by rw [e50]; exact hn)
    have e58 := keep58 b (by rw [e54, e50]; exact hn) hT
    rw [e58, e54, e50]
end
variable {rs : List Arc} {E : Int → List Int} {A : Option Addr} {n c : Nat}
theorem c94 {t : Int} (hA : SlAt arC H A n rs) (hs : rs.length ≤ 33000000) (hsrt : rs.Pairwise ltA) (G : GraphOf rs wA E) (hq : ∀ A' c' H', Ext H H' → RowI H H' A' c' (E t) → Q (.slice A' (E t).length c') H') : HCalls Tryz.prog 94 [.slice A n c, .int .i64 t] H Q := by
  refine f94.ok _ _ _ _ ?_
  unfold f94
  obtain rfl := hA.len
  refine loop_to rs.length (fun i st H' => ∃ A1 c1 out, st = (((A1, out.length, c1), ((i : Int), ())), ()) ∧ Ext H H' ∧ RowI H H' A1 c1 out ∧ Strict out ∧ out.length ≤ i ∧ ∀ y, y ∈ out ↔ ∃ (j : Nat) (x : Arc), j < i ∧ rs[j]? = some x ∧ x.a = t ∧ x.b = y) ⟨none, 0, [], rfl, Ext.refl _, Row.nil, List.Pairwise.nil, Nat.le_refl _, fun y => ⟨fun h => (by cases h), fun ⟨j, x, h, _⟩ => by omega⟩⟩ ?_
  rintro i st H2 next hi ⟨A1, c1, out, rfl, hx2, R2, hst, hol, hmem⟩ hnext
  dsimp only
  by_cases hl : i < rs.length
  · obtain ⟨x, hx⟩ := get_of hl
    have ei : IntKind.i64.wrap ((i : Int) + 1) = ((i + 1 : Nat) : Int) := by rw [wrap_id (by omega) (by omega)]; rfl
    refine cndT (decide_eq_true (by omega)) (jn_intro (fun J => ∀ A' c' out' H', Ext H H' → RowI H H' A' c' out' → Strict out' → out'.length ≤ i + 1 → (∀ y, y ∈ out' ↔ y ∈ out ∨ (x.a = t ∧ x.b = y)) → J A' out'.length c' H') (fun A' c' out' H' a1 a2 a3 a4 a5 => ⟨rfl, hnext _ _ hl ⟨A', c', out', by rw [ei], a1, a2, a3, a4, fun y => ?_⟩⟩) fun J hJ => ⟨by omega, by omega, rd_ar (hA.ext hx2) hx fun q o _ k1 k2 k3 k4 => ⟨x.a, by simpa using k1, x.b, by simpa using k2, x.kind, by simpa using k3, x.item, by simpa using k4, ?_⟩⟩)
    · rw [a5, hmem]
      constructor
      · rintro (⟨j, z, h1, h2⟩ | h)
        · exact ⟨j, z, by omega, h2⟩
        · exact ⟨i, x, by omega, hx, h⟩
      · rintro ⟨j, z, h1, h2, h3⟩
        by_cases e : j = i
        · subst e; rw [hx] at h2; cases h2; exact .inr h3
        · exact .inl ⟨j, z, by omega, h2, h3⟩
    have sn := R2.at (by unfold big; omega)
    refine jn_intro (fun J14 => ∀ b, b = ((x.a == t) && !(out.any fun y => y == x.b)) → J14 b H2) (fun b hb => cndI (fun hbt => ?_) fun hbf => ?_) fun J14 h14 => cndI (fun h1 => c57 sn ⟨_, rfl, h14 _ (by rw [h1]; rfl)⟩) fun h1 => h14 _ (by rw [h1]; rfl)
    · rw [hbt] at hb
      have hb := hb.symm
      rw [Bool.and_eq_true, beq_iff_eq, Bool.not_eq_true'] at hb
      obtain ⟨hxa, hno⟩ := hb
      intro g15 hg15
      refine Row.push1 (w := x.b) (f := inC) (k := 1) (ty := 3) (fun _ => rfl) (fun y v hv => by obtain rfl := List.mem_singleton.1 hv; rfl) (by omega) R2 hx2 (by unfold big; omega) hg15 fun A' c' H' R' x' _ _ => hJ A' c' _ H' x' R' ?_ (by simp; omega) fun y => ?_
      · unfold Strict
        rw [List.pairwise_append]
        refine ⟨hst, List.pairwise_singleton _ _, fun y hy z hz => ?_⟩
        rw [List.mem_singleton.1 hz]
        obtain ⟨j, w, h1, h2, h3, h4⟩ := (hmem y).1 hy
        obtain ⟨g1, g2⟩ := List.getElem?_eq_some_iff.1 h2
        obtain ⟨g3, g4⟩ := List.getElem?_eq_some_iff.1 hx
        have hlt := List.pairwise_iff_getElem.1 hsrt j i g1 g3 h1
        rw [g2, g4] at hlt
        have hne : y ≠ x.b := fun e => by
          have : (out.any fun y => y == x.b) = true := List.any_eq_true.2 ⟨y, hy, by simpa using e⟩
          rw [hno] at this; cases this
        unfold ltA at hlt
        omega
      · rw [List.mem_append, List.mem_singleton]
        constructor
        · rintro (h | h)
          · exact .inl h
          · exact .inr ⟨hxa, h.symm⟩
        · rintro (h | h)
          · exact .inl h
          · exact .inr h.2.symm
    · refine hJ A1 c1 out H2 hx2 R2 hst (by omega) fun y => ⟨.inl, fun h => h.elim id fun ⟨h1, h2⟩ => ?_⟩
      rw [hbf, h1] at hb
      simp only [beq_self_eq_true, Bool.true_and] at hb
      obtain ⟨z, hz, hzb⟩ := List.any_eq_true.1 (not_f hb)
      have : z = x.b := by simpa using hzb
      rw [← h2, ← this]; exact hz
  · obtain rfl : i = rs.length := by omega
    have he : out = E t := strict_one hst (G t).1 fun y => by
      rw [hmem, (G t).2]
      constructor
      · rintro ⟨j, x, h1, h2, h3, h4⟩
        exact ⟨x, List.mem_of_getElem? h2, h3, h4, rfl⟩
      · rintro ⟨x, h1, h2, h3, _⟩
        obtain ⟨j, hj⟩ := List.getElem?_of_mem h1
        exact ⟨j, x, (List.getElem?_eq_some_iff.1 hj).1, hj, h2, h3⟩
    subst he
    exact cndF (decide_eq_false (by omega)) (hq A1 c1 H2 hx2 R2)
end
end Go.Proofs.YtibhpoikhkokiaaGreat.Hw

/- Histories: there is an order just if there is no circle (plain law). -/
set_option linter.unusedVariables false
set_option linter.unusedSimpArgs false
set_option linter.unusedSectionVars false
namespace Go.Proofs.YtibhpoikhkokiaaGreat.Hw
open Go Go.Proofs
/-! ### what the order is -/
/-! ### circles -/
section
variable {E : Int → List Int}
end
/-! ### faults of the first two kinds -/
def badS (s : ByteArray) : Bool := s.toList == sAb.toList || s.toList == sBt.toList
end Go.Proofs.YtibhpoikhkokiaaGreat.Hw

/- The document's shortest circles walked (c66), who committed (c65), Anomaly (c24). -/
set_option linter.unusedVariables false
set_option linter.unusedSimpArgs false
set_option linter.unusedSectionVars false
set_option maxRecDepth 20000
namespace Go.Proofs.YtibhpoikhkokiaaGreat.Hw
open Go Go.Proofs
theorem circR_nil {E : Int → List Int} {s : Int} {seen : List Int} : ∀ {k : Nat}, circR E s k [] seen = none
  | 0 => rfl
  | _ + 1 => rfl
theorem map_get {rs : List RR} {j : Nat} {x : RR} (h : rs[j]? = some x) : (rs.map (·.r))[j]? = some x.r := by rw [List.getElem?_map, h]; rfl
theorem find_hit {α : Type} {g : α → Bool} {l : List α} {i : Nat} {x : α} (h : (l.take i).any g = false) (hx : l[i]? = some x) (hg : g x = true) : l.find? g = some x := by
  have e : l = l.take i ++ l.drop i := (List.take_append_drop i l).symm
  have hd : l.drop i = x :: l.drop (i + 1) := by
    have hlt := (List.getElem?_eq_some_iff.1 hx).1
    rw [List.drop_eq_getElem_cons hlt, (List.getElem?_eq_some_iff.1 hx).2]
  rw [e, List.find?_append, List.find?_eq_none.2 (fun y hy => by
    have := List.any_eq_false.1 h y hy
    simpa using this), hd, List.find?_cons, hg]
  rfl
section
variable {H H' H0 : Hp} {Q : Value → Hp → Prop} {rs : List Arc} {E : Int → List Int} {A : Option Addr} {n c : Nat}
set_option maxHeartbeats 1000000 in
theorem c66 {s : Int} (hA : SlAt arC H A n rs) (hs : rs.length ≤ 33000000) (hsrt : rs.Pairwise ltA) (G : GraphOf rs wA E)
    (hq0 : shortF E s = none → ∀ H', Ext H H' → Q (.slice none 0 0) H')
    (hq1 : ∀ r, shortF E s = some r → ∀ b c H', Ext H H' → SlAt inC H' (some ⟨b, 0, none⟩) r.length r → r.length ≤ c → r ≠ [] → Q (.slice (some ⟨b, 0, none⟩) r.length c) H') :
    HCalls Tryz.prog 66 [.slice A n c, .int .i64 s] H Q := by
  refine f66.ok _ _ _ _ ?_
  unfold f66
  intro g1 hg1
  have x1 : Ext H (upd g1 (.cells [Value.int .i64 s].toArray 3 (0, 0)) H) := Ext.new hg1
  have R1 : RowI H (upd g1 (.cells [Value.int .i64 s].toArray 3 (0, 0)) H) (some ⟨g1, 0, none⟩) 1 [s] := ⟨rfl, Nat.le_refl _, .inr ⟨g1, [Value.int .i64 s], 3, rfl, upd_at, Nat.le_refl _, rfl, hg1⟩⟩
  generalize (upd g1 (.cells [Value.int .i64 s].toArray 3 (0, 0)) H) = H2 at x1 R1 ⊢
  intro g3 hg3
  have x3 : Ext H2 (upd g3 (.cells [Value.slice (some ⟨g1, 0, none⟩) 1 1].toArray 23 (0, 0)) H2) := Ext.new hg3
  have R3 : Row H (upd g3 (.cells [Value.slice (some ⟨g1, 0, none⟩) 1 1].toArray 23 (0, 0)) H2) (some ⟨g3, 0, none⟩) [RR.mk (some ⟨g1, 0, none⟩) 1 [s]].length 1 1 ([RR.mk (some ⟨g1, 0, none⟩) 1 [s]].flatMap rrC) :=
    ⟨rfl, Nat.le_refl _, .inr ⟨g3, [Value.slice (some ⟨g1, 0, none⟩) 1 1], 23, rfl, upd_at, Nat.le_refl _, rfl, x1.none hg3⟩⟩
  have I0 : LvI H (upd g3 (.cells [Value.slice (some ⟨g1, 0, none⟩) 1 1].toArray 23 (0, 0)) H2) none 0 [] none 0 [] (some ⟨g3, 0, none⟩) 1 [RR.mk (some ⟨g1, 0, none⟩) 1 [s]] :=
    ⟨x1.trans x3, Row.nil, Row.nil, R3, fun x hx => (hx.elim (fun hx => by rw [List.mem_singleton.1 hx]; exact R1.more x3) fun hx => by cases hx), fun b ⟨_, _, h⟩ => (by cases h), fun b ⟨_, _, h⟩ => (by cases h)⟩
  generalize (upd g3 (.cells [Value.slice (some ⟨g1, 0, none⟩) 1 1].toArray 23 (0, 0)) H2) = H4 at I0 ⊢
  obtain ⟨G0, hG⟩ : ∃ G0, G0 = circR E s (rs.length + 2) [[s]] [] := ⟨_, rfl⟩
  have hsh : shortF E s = G0 := (short_circ (K := rs.map (·.a)) (fun t u hu => by
    obtain ⟨a, h1, rfl, _⟩ := ((G t).2 u).1 hu
    exact List.mem_map_of_mem h1) (by rw [List.length_map]; omega)).trans hG.symm
  rw [hsh] at hq0 hq1
  clear hsh
  have hEl : ∀ x, (E x).length ≤ rs.length := graph_len G
  have hU : ∀ l : List Int, l.Nodup → (∀ v ∈ l, v ∈ rs.map (·.b)) → l.length ≤ rs.length := fun l h1 h2 => by
    have := nodup_len h1 h2
    rwa [List.length_map] at this
  refine loop_to (rs.length + 1) (fun i st H' => ∃ A0 c0 lv SA sc seen, st = (((A0, lv.length, c0), ((SA, seen.length, sc), ())), ()) ∧ LvI H H' SA sc seen none 0 [] A0 c0 lv ∧ (∀ x ∈ lv, x.r.length = i + 1) ∧ lv.length ≤ rs.length + 1 ∧ seen.Nodup ∧ (∀ v ∈ seen, v ∈ rs.map (·.b)) ∧ (lv ≠ [] → i ≤ seen.length) ∧ circR E s (rs.length + 2 - i) (lv.map (·.r)) seen = G0)
    ⟨_, 1, [RR.mk (some ⟨g1, 0, none⟩) 1 [s]], none, 0, [], rfl, I0, fun x hx => (by rw [List.mem_singleton.1 hx]; rfl), by simp, List.nodup_nil, fun v hv => (by cases hv), fun _ => Nat.le_refl _, hG.symm⟩ ?_
  rintro i st H6 next hi ⟨A0, c0, lv, SA, sc, seen, rfl, I6, hlen, hlvl, hnd, hsub, hprog, hcirc⟩ hnext
  dsimp only
  have hsl := hU _ hnd hsub
  by_cases hne : lv = []
  · subst hne
    refine cndF (by simp) (hq0 ?_ H6 I6.ext)
    rw [← hcirc]; exact circR_nil
  have hpos := List.length_pos_iff.2 hne
  have hprog' := hprog hne
  have hi' : i < rs.length + 1 := by omega
  have e1 : rs.length + 2 - i = (rs.length + 1 - i) + 1 := by omega
  have e2 : rs.length + 2 - (i + 1) = rs.length + 1 - i := by omega
  have hemp : (lv.map (·.r)).isEmpty = false := by cases lv with | nil => exact absurd rfl hne | cons _ _ => rfl
  have hT6 : SlAt rrC H6 A0 lv.length lv := ⟨rfl, I6.old.cells, by unfold huge; omega⟩
  refine cndT (decide_eq_true (by omega)) ?_
  refine scan (n := lv.length) (by omega) (fun j H' => Ext H6 H' ∧ ∀ (k : Nat) x, k < j → lv[k]? = some x → (E (lastD x.r)).any (· == s) = false) ⟨Ext.refl _, fun k x hk => by omega⟩ ?_ ?_
  · rintro j H9 next10 hj ⟨hx9, hI⟩ hnext10
    obtain ⟨x, hx⟩ := get_of hj
    have hxm := List.mem_of_getElem? hx
    have hxr := I6.row x (.inl hxm)
    have hxl := hlen x hxm
    have hxs : SlAt inC H9 x.A x.r.length x.r := (hxr.more hx9).at (by unfold big; omega)
    have hnr : x.r ≠ [] := fun e => by rw [e] at hxl; simp at hxl
    have elast : IntKind.i64.wrap ((x.r.length : Int) - 1) = ((x.r.length - 1 : Nat) : Int) := by rw [wrap_id (by omega) (by omega)]; omega
    refine cndT (decide_eq_true (by dsimp only; omega)) ⟨by simp, by dsimp only; omega, rd_rr (hT6.ext hx9) hx fun p o _ k1 => ⟨x.A, x.r.length, x.c, by simpa using k1, ?_⟩⟩
    rw [elast]
    refine ⟨by omega, by omega, rd_in hxs (get_last hnr) fun p' o' _ k2 => ⟨lastD x.r, by simpa using k2, c94 (hA.ext (I6.ext.trans hx9)) hs hsrt G fun A17 c17 H16 hx16 R16 => ⟨_, _, _, rfl, c57 (R16.at (by have := hEl (lastD x.r); unfold big; omega)) ⟨_, rfl, cndI (fun h => ?_) (fun h => ⟨rfl, hnext10 _ ⟨hx9.trans hx16, fun k y hk hy => ?_⟩⟩)⟩⟩⟩⟩
    · have hR16 := (hxr.more hx9).more hx16
      have hxl' := hxl
      have hfd : foundR E s (lv.map (·.r)) = some x.r := by
        unfold foundR
        refine find_hit (i := j) ?_ (map_get hx) h
        rw [List.any_eq_false]
        intro r hr hc
        obtain ⟨k, hk⟩ := List.getElem?_of_mem hr
        rw [List.getElem?_take] at hk
        split at hk
        · rename_i hkj
          obtain ⟨y, hy⟩ := get_of (l := lv) (i := k) (by omega)
          rw [map_get hy] at hk
          cases hk
          rw [hI k y hkj hy] at hc; cases hc
        · cases hk
      have hG' : G0 = some x.r := by
        rw [← hcirc, e1]
        unfold circR
        rw [hemp, hfd]; rfl
      obtain ⟨r1, r2, ⟨r3, r4⟩ | ⟨bb, cs, ty, r3, r4, r5, r6, r7⟩⟩ := hR16
      · omega
      · rw [r3]
        exact hq1 x.r hG' bb x.c H16 ((I6.ext.trans hx9).trans hx16) ⟨rfl, Row.cells ⟨r1, r2, .inr ⟨bb, cs, ty, rfl, r4, r5, r6, r7⟩⟩, by unfold huge; omega⟩ r2 hnr
    · by_cases e : k = j
      · subst e; rw [hx] at hy; cases hy; exact h
      · exact hI k y (by omega) hy
  rintro H9 next10 ⟨hx9, hI⟩
  have hnf : foundR E s (lv.map (·.r)) = none := find_none_take fun k r hk => by
    have hkl := (List.getElem?_eq_some_iff.1 hk).1
    rw [List.length_map] at hkl
    obtain ⟨y, hy⟩ := get_of (l := lv) (i := k) hkl
    rw [map_get hy] at hk
    cases hk
    exact hI k y hkl hy
  have hnextc : circR E s (rs.length + 2 - (i + 1)) (stepL E s (lv.map (·.r)) seen).1 (stepL E s (lv.map (·.r)) seen).2 = G0 := by
    rw [← hcirc, e1, e2]
    conv => rhs; unfold circR
    rw [hemp, hnf]; rfl
  have I9 := I6.more hx9
  refine cndF (by simp) ?_
  refine loop_to lv.length (fun j st H' => ∃ SA sc sn TA tc ns, st = (((SA, sn.length, sc), ((TA, ns.length, tc), ((j : Int), ()))), ()) ∧ LvI H H' SA sc sn TA tc ns A0 c0 lv ∧ (ns.map (·.r), sn) = ((lv.map (·.r)).take j).foldl (stepR E s) ([], seen) ∧ sn.Nodup ∧ (∀ v ∈ sn, v ∈ rs.map (·.b)) ∧ ns.length + seen.length = sn.length ∧ ∀ y ∈ ns, y.r.length = i + 2)
    ⟨SA, sc, seen, none, 0, [], rfl, I9, rfl, hnd, hsub, by simp, fun y h => (by cases h)⟩ ?_
  rintro j st H22 next23 hj ⟨SA2, sc2, sn2, TA2, tc2, ns2, rfl, I22, hf, hnd2, hsub2, hls2, hlr2⟩ hnext23
  dsimp only
  have hsl2 := hU _ hnd2 hsub2
  by_cases hlt : j < lv.length
  · obtain ⟨x, hx⟩ := get_of hlt
    have hxm := List.mem_of_getElem? hx
    have hxr := I22.row x (.inl hxm)
    have hxl := hlen x hxm
    have hxs : SlAt inC H22 x.A x.r.length x.r := hxr.at (by unfold big; omega)
    have hT22 : SlAt rrC H22 A0 lv.length lv := ⟨rfl, I22.old.cells, by unfold huge; omega⟩
    have hnr : x.r ≠ [] := fun e => by rw [e] at hxl; simp at hxl
    have elast : IntKind.i64.wrap ((x.r.length : Int) - 1) = ((x.r.length - 1 : Nat) : Int) := by rw [wrap_id (by omega) (by omega)]; omega
    refine cndT (decide_eq_true (by omega)) ⟨by omega, by omega, rd_rr hT22 hx fun p o _ k1 => ⟨x.A, x.r.length, x.c, by simpa using k1, ?_⟩⟩
    rw [elast]
    refine ⟨by omega, by omega, rd_in hxs (get_last hnr) fun p' o' _ k2 => ⟨lastD x.r, by simpa using k2, c94 (hA.ext I22.ext) hs hsrt G fun A30 c30 H29 hx29 W => ⟨_, _, _, rfl, ?_⟩⟩⟩
    have hEx := hEl (lastD x.r)
    refine loop_to (E (lastD x.r)).length (fun q st H' => ∃ SA sc sn TA tc ns, st = (((SA, sn.length, sc), ((TA, ns.length, tc), ((q : Int), ()))), ()) ∧ LvI H H' SA sc sn TA tc ns A0 c0 lv ∧ (ns.map (·.r), sn) = ((E (lastD x.r)).take q).foldl (stepP s x.r) (((lv.map (·.r)).take j).foldl (stepR E s) ([], seen)) ∧ sn.Nodup ∧ (∀ v ∈ sn, v ∈ rs.map (·.b)) ∧ ns.length + seen.length = sn.length ∧ (∀ y ∈ ns, y.r.length = i + 2) ∧ RowI H22 H' A30 c30 (E (lastD x.r)) ∧ ∀ b, rowB A30 b → ¬ rowB TA b ∧ ¬ rowB SA b)
      ⟨SA2, sc2, sn2, TA2, tc2, ns2, rfl, I22.more hx29, hf, hnd2, hsub2, hls2, hlr2, W, fun b hb => ⟨fun h => (I22.tab.lt h).1 (Row.lt W hb).2, fun h => (Row.lt I22.sn h).1 (Row.lt W hb).2⟩⟩ ?_
    rintro q st H32 next33 hq ⟨SA3, sc3, sn3, TA3, tc3, ns3, rfl, I3, hf3, hnd3, hsub3, hls3, hlr3, W3, hsep⟩ hnext33
    dsimp only
    have hsl3 := hU _ hnd3 hsub3
    by_cases hql : q < (E (lastD x.r)).length
    · obtain ⟨m, hm⟩ := get_of hql
      have hmE : m ∈ E (lastD x.r) := List.mem_of_getElem? hm
      have hmU : m ∈ rs.map (·.b) := graph_U G _ _ hmE
      have eq' : IntKind.i64.wrap ((q : Int) + 1) = ((q + 1 : Nat) : Int) := by rw [wrap_id (by omega) (by omega)]; rfl
      refine cndT (decide_eq_true (by omega)) (jn_intro (fun J => ∀ SA' sc' (sn' : List Int) TA' tc' (ns' : List RR) H', LvI H H' SA' sc' sn' TA' tc' ns' A0 c0 lv → (ns'.map (·.r), sn') = stepP s x.r (ns3.map (·.r), sn3) m → sn'.Nodup → (∀ v ∈ sn', v ∈ rs.map (·.b)) → ns'.length + seen.length = sn'.length → (∀ y ∈ ns', y.r.length = i + 2) → RowI H22 H' A30 c30 (E (lastD x.r)) → (∀ b, rowB A30 b → ¬ rowB TA' b ∧ ¬ rowB SA' b) → J SA' sn'.length sc' TA' ns'.length tc' H')
        (fun SA' sc' sn' TA' tc' ns' H' h1 h2 h3 h4 h5 h6 h7 h8 => ⟨rfl, hnext33 _ _ hql ⟨SA', sc', sn', TA', tc', ns', by rw [eq'], h1, by rw [fold_succ hm, ← hf3]; exact h2, h3, h4, h5, h6, h7, h8⟩⟩) fun J61 hJ61 => ?_)
      refine ⟨by omega, by omega, rd_in (W3.at (by unfold big; omega)) hm fun p o _ k1 => ⟨m, by simpa using k1, ?_⟩⟩
      have hsn : SlAt inC H32 SA3 sn3.length sn3 := I3.sn.at (by unfold big; omega)
      refine jn_intro (fun J => ∀ b, b = (decide (m > s) && !(sn3.any (· == m))) → J b H32) (fun b hb => ?_) fun J41 hJ41 => cndI (fun h1 => c57 hsn ⟨_, rfl, hJ41 _ (by rw [h1]; rfl)⟩) (fun h1 => hJ41 _ (by rw [h1]; rfl))
      subst hb
      refine cndI (fun h => ?_) (fun h => ?_)
      · have hstep : stepP s x.r (ns3.map (·.r), sn3) m = (ns3.map (·.r) ++ [x.r ++ [m]], sn3 ++ [m]) := by unfold stepP; rw [if_pos h]
        rw [hstep] at hJ61
        have hnm : m ∉ sn3 := fun hm' => by
          rw [has_mem.2 hm'] at h
          simp at h
        have key := I3.add (m := m) (x := x) (K := fun A44 n44 c44 A52 n52 c52 H53 => J61 A44 n44 c44 A52 n52 c52 H53) hxm (by unfold big; omega) (by unfold big; omega) (by unfold big; omega) fun SA' sc' TA' tc' B d H' I' fr w1 w2 => hJ61 SA' sc' _ TA' tc' _ H' I' (by simp) (by
            rw [List.nodup_append]
            refine ⟨hnd3, by simp, fun a ha b hb => ?_⟩
            obtain rfl := List.mem_singleton.1 hb
            exact fun e => hnm (e ▸ ha)) (fun y hy => by
            rcases List.mem_append.1 hy with hy | hy
            · exact hsub3 y hy
            · obtain rfl := List.mem_singleton.1 hy; exact hmU) (by simp; omega) (fun y hy => by
            rcases List.mem_append.1 hy with hy | hy
            · exact hlr3 y hy
            · obtain rfl := List.mem_singleton.1 hy
              simp only [List.length_append, List.length_singleton]; omega) (Row.keep W3 fun b hb => fr b (Row.lt W3 hb).1 (hsep b hb).1 (hsep b hb).2) (fun b hb => ⟨fun h' => (w1 b h').elim (hsep b hb).1 (Row.lt W3 hb).1, fun h' => (w2 b h').elim (hsep b hb).2 (Row.lt W3 hb).1⟩)
        simp only [Int.toNat_natCast, Nat.sub_zero, cut_zero]
        exact newF_mono (fun g H43 h43 => appendF_mono (fun A44 n44 c44 H45 h45 => ⟨by omega, by have := hxr.2.1; omega, by omega, by omega, h45⟩) h43) key
      · have hstep : stepP s x.r (ns3.map (·.r), sn3) m = (ns3.map (·.r), sn3) := by unfold stepP; rw [if_neg (by rw [h]; decide)]
        rw [hstep] at hJ61
        exact hJ61 SA3 sc3 sn3 TA3 tc3 ns3 H32 I3 rfl hnd3 hsub3 hls3 hlr3 W3 hsep
    · obtain rfl : q = (E (lastD x.r)).length := by omega
      rw [List.take_length] at hf3
      have ej : IntKind.i64.wrap ((j : Int) + 1) = ((j + 1 : Nat) : Int) := by rw [wrap_id (by omega) (by omega)]; rfl
      exact cndF (decide_eq_false (by omega)) ⟨rfl, hnext23 _ _ hlt ⟨SA3, sc3, sn3, TA3, tc3, ns3, by rw [ej], I3, by rw [fold_succ (map_get hx)]; exact hf3, hnd3, hsub3, hls3, hlr3⟩⟩
  · obtain rfl : j = lv.length := by omega
    have et : (lv.map (·.r)).take lv.length = lv.map (·.r) := List.take_of_length_le (by rw [List.length_map]; exact Nat.le_refl _)
    rw [et] at hf
    have hst : stepL E s (lv.map (·.r)) seen = (ns2.map (·.r), sn2) := by unfold stepL; rw [← hf]
    rw [hst] at hnextc
    refine cndF (decide_eq_false (by omega)) ⟨rfl, hnext _ _ hi' ⟨TA2, tc2, ns2, SA2, sc2, sn2, rfl, I22.turn, hlr2, by omega, hnd2, hsub2, fun hn => ?_, hnextc⟩⟩
    have := List.length_pos_iff.2 hn
    omega
end
def doneTo (l : List Ev) (i : Nat) : List Int := ((List.range i).map fun (j : Nat) => (j : Int)).filter (comB l)
def doneM (l : List Ev) : List Int := doneTo l 201
theorem doneTo_succ {l : List Ev} {i : Nat} : doneTo l (i + 1) = doneTo l i ++ if comB l (i : Int) then [(i : Int)] else [] := by
  unfold doneTo
  rw [List.range_succ, List.map_append, List.filter_append]
  congr 1
  show List.filter (comB l) [(i : Int)] = _
  rw [List.filter_cons]
  cases comB l (i : Int) <;> rfl
theorem doneTo_len {l : List Ev} {i : Nat} : (doneTo l i).length ≤ i := by
  have := List.length_filter_le (comB l) ((List.range i).map fun (j : Nat) => (j : Int))
  rw [List.length_map, List.length_range] at this
  exact this
theorem strict_done {l : List Ev} : Strict (doneM l) := by
  unfold Strict doneM doneTo
  refine List.Pairwise.filter _ (List.pairwise_map.2 (List.pairwise_lt_range.imp fun {a b} h => ?_))
  exact Int.ofNat_lt.2 h
theorem done_mem {l : List Ev} (hok : OkTo l l.length) {t : Int} : t ∈ doneM l ↔ comB l t = true := by
  unfold doneM doneTo
  rw [List.mem_filter, List.mem_map]
  constructor
  · exact fun h => h.2
  · intro h
    have := com_in hok h
    exact ⟨⟨t.toNat, List.mem_range.2 (by omega), by omega⟩, h⟩
section
variable {H H' H0 : Hp} {Q : Value → Hp → Prop} {g ga : Nat} {A : Option Addr} {n c : Nat} {l : List Ev}
theorem c65 (B : HisAt H g ga A n c l) (hq : ∀ A' c' H', Ext H H' → RowI H H' A' c' (doneM l) → Q (.slice A' (doneM l).length c') H') : HCalls Tryz.prog 65 [.pointer (some ⟨g, 0, none⟩)] H Q := by
  refine f65.ok _ _ ?_
  unfold f65
  refine ⟨_, _, _, B.cl1, loop_to 201 (fun i st H' => ∃ A1 c1, st = (((A1, (doneTo l i).length, c1), ((i : Int), ())), ()) ∧ Ext H H' ∧ RowI H H' A1 c1 (doneTo l i)) ⟨none, 0, rfl, Ext.refl _, Row.nil⟩ ?_⟩
  rintro i st H3 next hi ⟨A1, c1, rfl, hx3, R3⟩ hnext
  dsimp only
  have hdl := doneTo_len (l := l) (i := i)
  by_cases hl : i < 201
  · have ei : IntKind.i64.wrap ((i : Int) + 1) = ((i + 1 : Nat) : Int) := by rw [wrap_id (by omega) (by omega)]; rfl
    have B3 := B.ext hx3
    refine cndT (decide_eq_true (by omega)) (jn_intro (fun J => ∀ A' c' H', Ext H H' → RowI H H' A' c' (doneTo l (i + 1)) → J A' (doneTo l (i + 1)).length c' H') (fun A' c' H' a1 a2 => ⟨rfl, hnext _ _ hl ⟨A', c', by rw [ei], a1, a2⟩⟩) fun J hJ => ⟨by omega, by show (i : Int) < ((201 : Nat) : Int); omega, B3.comF (by omega) (by omega) fun hcl => ⟨_, hcl, ?_⟩⟩)
    rw [comV_ge]
    rw [doneTo_succ] at hJ
    refine cndI (fun h => ?_) fun h => ?_
    · rw [h, if_pos rfl] at hJ
      intro g7 hg7
      exact Row.push1 (w := (i : Int)) (f := inC) (k := 1) (ty := 3) (fun _ => rfl) (fun y v hv => by obtain rfl := List.mem_singleton.1 hv; rfl) (by omega) R3 hx3 (by unfold big; omega) hg7 fun A' c' H' R' x' _ _ => hJ A' c' H' x' R'
    · rw [h, if_neg (by decide), List.append_nil] at hJ
      exact hJ A1 c1 H3 hx3 R3
  · obtain rfl : i = 201 := by omega
    exact cndF (decide_eq_false (by show ¬ (((201 : Nat) : Int) < ((201 : Nat) : Int)); omega)) (hq A1 c1 H3 hx3 R3)
/-- To whom arcs lead. -/
def edgeF (l : List Ev) (rs : List Arc) (x : Int) : List Int := (doneM l).filter fun y => rs.any fun z => (z.a == x) && (z.b == y)
theorem edge_graph (hok : OkTo l l.length) {rs : List Arc} (ha : ArcsOf l rs) : GraphOf rs wA (edgeF l rs) := fun k => ⟨List.Pairwise.filter _ strict_done, fun y => by
  unfold edgeF
  rw [List.mem_filter, List.any_eq_true]
  constructor
  · rintro ⟨_, z, hz, h⟩
    simp only [Bool.and_eq_true, beq_iff_eq] at h
    exact ⟨z, hz, h.1, h.2, rfl⟩
  · rintro ⟨z, hz, h1, h2, _⟩
    refine ⟨(done_mem hok).2 ?_, z, hz, by simp [h1, h2]⟩
    rw [← h2]
    exact (arc_iff.1 ((ha.2 z).1 hz)).2.2.1⟩
theorem short_empty {E : Int → List Int} {s : Int} (h : (E s).isEmpty = true) : shortF E s = none :=
  shortF_eq ⟨dOf E s, dist_of, .no (by unfold bestM; rw [List.isEmpty_iff.1 h]; rfl)⟩
theorem anom_filter {E : Int → List Int} : ∀ {ks : List Int} {st : Option (List Int)}, (ks.filter fun x => !(E x).isEmpty).foldl (anS E) st = ks.foldl (anS E) st
  | [], _ => rfl
  | x :: r, st => by
    rw [List.filter_cons]
    cases h : (E x).isEmpty with
    | true =>
      simp only [Bool.not_true, Bool.false_eq_true, if_false]
      rw [anom_filter, List.foldl_cons]
      congr 1
      unfold anS
      rw [short_empty h]
    | false =>
      simp only [Bool.not_false, if_true]
      rw [List.foldl_cons, List.foldl_cons, anom_filter]
theorem c24 (hA : SlAt evC H A n l) (hcp : n ≤ c) (hq : AnomQ H Q l) : HCalls Tryz.prog 24 [.slice A n c] H Q := by
  refine f24.ok _ _ _ ?_
  unfold f24
  obtain ⟨q1, q2⟩ := hq
  refine c21 hA fun H2 x2 => ⟨_, rfl, ?_⟩
  cases hv : validM l with
  | false => exact cndT rfl (q1 hv H2 x2)
  | true =>
  obtain ⟨hok, hlen⟩ := valid_ok hv
  refine cndF rfl (c54 (hA.ext x2) hcp hok fun g ga H5 x5 B => ⟨_, rfl, c55a B hok hlen fun A9 c9 rs H8 x8 ha hrl S9 hc9 => ⟨_, _, _, rfl, c65 (B.ext x8) fun A12 c12 H11 x11 R12 => ⟨_, _, _, rfl, ?_⟩⟩⟩)
  have G := edge_graph hok ha
  generalize edgeF l rs = E at G
  have hks : Strict ((doneM l).filter fun x => !(E x).isEmpty) := List.Pairwise.filter _ strict_done
  have hkm : ∀ x, x ∈ ((doneM l).filter fun x => !(E x).isEmpty) ↔ (E x).isEmpty = false := fun x => by
    rw [List.mem_filter]
    constructor
    · rintro ⟨_, h⟩; simpa using h
    · intro h
      refine ⟨(done_mem hok).2 ?_, by simpa using h⟩
      cases hE : E x with
      | nil => rw [hE] at h; cases h
      | cons y r =>
        obtain ⟨z, hz, h1, _⟩ := ((G x).2 y).1 (by rw [hE]; exact List.mem_cons_self)
        rw [← h1]
        exact (arc_iff.1 ((ha.2 z).1 hz)).2.1
  obtain ⟨q3, q4⟩ := q2 hv rs E _ ha G hks hkm
  have hfold : anomF E ((doneM l).filter fun x => !(E x).isEmpty) = (doneM l).foldl (anS E) none := anom_filter
  rw [hfold] at q3 q4
  have hx11 : Ext H H11 := ((x2.trans x5).trans x8).trans x11
  have hdl : (doneM l).length ≤ 201 := doneTo_len
  have S12 := R12.at (by unfold big; omega)
  refine loop_to (doneM l).length (fun i st H' => ∃ A n c, st = (((A, n, c), ((i : Int), ())), ()) ∧ Ext H11 H' ∧ AnAt H' A n c (((doneM l).take i).foldl (anS E) none) ∧ ∀ o, ((doneM l).take i).foldl (anS E) none = some o → o ≠ []) ⟨none, 0, 0, rfl, Ext.refl _, ⟨rfl, rfl, rfl⟩, fun o h => by cases h⟩ ?_
  rintro i st H14 next hi ⟨A1, n1, c1, rfl, hx14, hAn, hne0⟩ hnext
  dsimp only
  by_cases h : i < (doneM l).length
  · obtain ⟨x, hx⟩ := get_of h
    have ei : IntKind.i64.wrap ((i : Int) + 1) = ((i + 1 : Nat) : Int) := by rw [wrap_id (by omega) (by omega)]; rfl
    have etk : ((doneM l).take (i + 1)).foldl (anS E) none = anS E (((doneM l).take i).foldl (anS E) none) x := by rw [take_snoc hx, List.foldl_append]; rfl
    generalize hst : ((doneM l).take i).foldl (anS E) none = st0 at hAn hne0 etk
    refine cndT (decide_eq_true (by omega)) (jn_intro (fun J => ∀ A2 n2 c2 H', Ext H14 H' → AnAt H' A2 n2 c2 (anS E st0 x) → (∀ o, anS E st0 x = some o → o ≠ []) → J A2 n2 c2 H') (fun A2 n2 c2 H' a b c => ⟨rfl, hnext _ _ h ⟨A2, n2, c2, by rw [ei], hx14.trans a, by rw [etk]; exact b, by rw [etk]; exact c⟩⟩) fun J hJ => ⟨by omega, by omega, rd_in (S12.ext hx14) hx fun q o _ k1 => ⟨x, by simpa using k1, ?_⟩⟩)
    refine c66 (((S9.ext x11).ext hx14)) hrl ha.1 G (fun hs H19 x19 => ⟨_, _, _, rfl, ?_⟩) fun o hs b19 c19 H19 x19 hO hOc hne => ⟨_, _, _, rfl, ?_⟩
    · have he : anS E st0 x = st0 := by unfold anS; rw [hs]
      refine jn_intro (fun J2 => J2 false) ?_ fun J2 h2 => cndF rfl h2
      exact cndF rfl (hJ _ _ _ H19 x19 (by rw [he]; exact hAn.ext x19) (by rw [he]; exact hne0))
    · have hpos := List.length_pos_iff.2 hne
      refine jn_intro (fun J2 => ∀ bb, bb = (match st0 with | none => true | some o0 => decide (o.length < o0.length)) → J2 bb) (fun bb hbb => cndI (fun ht => ?_) fun hf => ?_) fun J2 h2 => ?_
      · have he : anS E st0 x = some o := by
          unfold anS
          rw [hs]
          cases st0 with
          | none => rfl
          | some o0 =>
            have : o.length < o0.length := by simpa using (hbb.symm.trans ht)
            show (if o.length < o0.length then some o else some o0) = some o
            rw [if_pos this]
        exact hJ _ _ _ H19 x19 (by rw [he]; exact ⟨b19, rfl, rfl, hO, hOc⟩) (by rw [he]; intro o' e; cases e; exact hne)
      · have he : anS E st0 x = st0 := by
          unfold anS
          rw [hs]
          cases st0 with
          | none => cases hbb.symm.trans hf
          | some o0 =>
            have : ¬ o.length < o0.length := by simpa using (hbb.symm.trans hf)
            show (if o.length < o0.length then some o else some o0) = some o0
            rw [if_neg this]
        exact hJ _ _ _ H19 x19 (by rw [he]; exact hAn.ext x19) (by rw [he]; exact hne0)
      · refine cndT (decide_eq_true (by omega)) (cndI (fun hn => h2 _ ?_) fun hn => h2 _ ?_)
        · cases st0 with
          | none => rfl
          | some o0 =>
            obtain ⟨b, rfl, rfl, hh, _⟩ := hAn
            have hn : o0.length = 0 := by simpa using hn
            exact absurd (List.length_eq_zero_iff.1 hn) (hne0 o0 rfl)
        · cases st0 with
          | none =>
            obtain ⟨rfl, rfl, _⟩ := hAn
            cases hn
          | some o0 =>
            obtain ⟨b, _, rfl, _⟩ := hAn
            rw [Bool.eq_iff_iff, decide_eq_true_eq, decide_eq_true_eq]; omega
  · obtain rfl : i = (doneM l).length := by omega
    rw [List.take_length] at hAn
    refine cndF (decide_eq_false (by omega)) ?_
    cases ho : (doneM l).foldl (anS E) none with
    | none =>
      rw [ho] at hAn
      obtain ⟨rfl, rfl, rfl⟩ := hAn
      exact cndT rfl (q3 ho H14 (hx11.trans hx14))
    | some o =>
      rw [ho] at hAn
      obtain ⟨b, rfl, rfl, h1, h2⟩ := hAn
      have hp := List.length_pos_iff.2 (hne0 o (by rw [List.take_length]; exact ho))
      refine cndF ?_ (q4 o ho b c1 H14 (hx11.trans hx14) h1 h2)
      simp
      exact hne0 o (by rw [List.take_length]; exact ho)
end
end Go.Proofs.YtibhpoikhkokiaaGreat.Hw

/- Histories: other numbers of transactions change nothing (plain law). -/
set_option linter.unusedVariables false
set_option linter.unusedSimpArgs false
set_option linter.unusedSectionVars false
namespace Go.Proofs.YtibhpoikhkokiaaGreat.Hw
open Go Go.Proofs
/-- Other numbers. -/
structure Ren1 (r : Int → Int) : Prop where
  inj : ∀ a b, r a = r b → a = b
  zero : r 0 = 0
  inr : ∀ t, inB (r t) = inB t
def rnA (r : Int → Int) (x : Arc) : Arc := ⟨r x.a, r x.b, x.kind, x.item⟩
section
variable {r : Int → Int} (R : Ren1 r)
include R
theorem Ren1.eq (a b : Int) : (r a == r b) = (a == b) := by
  rw [Bool.eq_iff_iff, beq_iff_eq, beq_iff_eq]
  exact ⟨R.inj a b, fun h => by rw [h]⟩
theorem Ren1.ne (a b : Int) : (r a != r b) = (a != b) := by unfold bne; rw [R.eq]
section
variable {rs rs' : List Arc} (h : ∀ y, y ∈ rs' ↔ ∃ x ∈ rs, y = rnA r x)
include h
end
/-! ### fits -/
end
/-- Transactions' numbers, turned on by some. -/
def turn (k : Int) (t : Int) : Int := if inB t then Int.tmod (t - 1 + k) 200 + 1 else t
end Go.Proofs.YtibhpoikhkokiaaGreat.Hw

/- Histories: HistoryNames walked (c4). -/
set_option linter.unusedVariables false
set_option linter.unusedSimpArgs false
set_option maxRecDepth 20000
namespace Go.Proofs.YtibhpoikhkokiaaGreat.Hw
open Go Go.Proofs
section
variable {H H' : Hp} {Q : Value → Hp → Prop}
theorem rd_st {A : Option Addr} {n : Nat} {l : List ByteArray} {i : Nat} {x : ByteArray} (h : SlAt stC H A n l) (hi : l[i]? = some x) {K : Nat → Nat → Prop}
    (hk : ∀ p o, A = some ⟨p, o, none⟩ → cl H p (o + i) = some (.string x) → K p o) : onPtr A K := by
  have hlen : ∀ x ∈ l, (stC x).length = 1 := fun x _ => rfl
  have hne : l ≠ [] := fun e => by subst e; simp at hi
  refine at_cells h.cells (flat_ne hlen (by omega) hne) fun p o hA hc => hk p o hA ?_
  have := hc (i * 1 + 0) _ (flat_get hlen hi (by omega))
  rw [Nat.mul_one, Nat.add_zero] at this
  exact this
/-- The same strings. -/
theorem c15 {A B : Option Addr} {n k ca cb : Nat} {l : List ByteArray} (hA : SlAt stC H A n l) (hB : SlAt stC H B k l) (hq : Q (.bool true) H) : HCalls Tryz.prog 15 [.slice A n ca, .slice B k cb] H Q := by
  refine f15.ok _ _ _ _ _ _ ?_
  unfold f15
  obtain rfl := hA.len
  obtain rfl := hB.len
  refine cndF (by simp) ?_
  have hl1 := hA.lt
  refine scan hl1 (fun i H' => H' = H) rfl (fun i H2 next hi hI hnext => ?_) (fun H2 next hI => ?_)
  · obtain rfl := hI
    obtain ⟨x, hx⟩ := get_of hi
    dsimp only
    refine cndT (decide_eq_true (by omega)) ⟨by omega, by omega, rd_st hA hx fun q o _ k1 => ⟨x, by simpa using k1, by omega, by omega, rd_st hB hx fun q o _ k2 => ⟨x, by simpa using k2, cndF ?_ ⟨rfl, hnext H2 rfl⟩⟩⟩⟩
    rw [show (x.toList == x.toList) = true from beq_iff_eq.2 rfl]; rfl
  · obtain rfl := hI
    dsimp only
    exact cndF (decide_eq_false (by omega)) hq
end
end Go.Proofs.YtibhpoikhkokiaaGreat.Hw

/- HistoryTells walked (c5). -/
set_option linter.unusedVariables false
set_option linter.unusedSimpArgs false
set_option linter.unusedSectionVars false
set_option maxRecDepth 20000
namespace Go.Proofs.YtibhpoikhkokiaaGreat.Hw
open Go Go.Proofs
section
variable {H H' H0 : Hp} {Q : Value → Hp → Prop} {A : Option Addr} {n c : Nat} {l : List Ev}
theorem nilSl {α : Type} {f : α → List Value} (X : Hp) : SlAt f X none 0 ([] : List α) := ⟨rfl, .inl rfl, by simp [huge]⟩
theorem graph_one {rs : List Arc} {want : Int → Bool} {E E' : Int → List Int} (h : GraphOf rs want E) (h' : GraphOf rs want E') : E = E' := by
  funext x
  exact strict_one (h x).1 (h' x).1 fun y => ((h x).2 y).trans ((h' x).2 y).symm
theorem c5 (hA : SlAt evC H A n l) (hc : n ≤ c) (hq : ∀ H', Ext H H' → Q (.bool true) H') : HCalls Tryz.prog 5 [.slice A n c] H Q := by
  refine f5.ok _ _ _ ?_
  unfold f5
  refine c10 ⟨_, rfl, cndI (fun _ => c11 fun H5 x5 => ⟨_, rfl, hq H5 x5⟩) fun _ => ?_⟩
  cases hv : validM l with
  | false =>
    have no : ∀ {P : Prop}, validM l = true → P := fun h => by rw [hv] at h; cases h
    refine c18 hA hc ⟨fun _ H8 x8 => ⟨_, _, _, _, rfl, ?_⟩, no⟩
    refine c19 (hA.ext x8) hc ⟨fun _ H12 x12 => ⟨_, _, _, _, rfl, ?_⟩, no⟩
    refine jn_intro (fun J => ∀ H', Ext H H' → J false H') (fun H25 x25 => cndF rfl ?_) fun J26 h26 => c20 (nilSl _) (nilSl _) ⟨_, rfl, cndF rfl (cndF rfl (c14 ((hA.ext x8).ext x12) fun H19 x19 => ⟨_, rfl, c21 (((hA.ext x8).ext x12).ext x19) fun H22 x22 => ⟨_, rfl, by rw [beq_self_eq_true]; exact h26 H22 (((x8.trans x12).trans x19).trans x22)⟩⟩))⟩
    refine c13 (hA.ext x25) hc ⟨fun _ H28 x28 => ⟨_, _, _, _, rfl, ?_⟩, no⟩
    refine c22 ((hA.ext x25).ext x28) hc ⟨fun _ H32 x32 => ⟨_, _, _, _, rfl, ?_⟩, no⟩
    refine jn_intro (fun J => ∀ H', Ext H H' → J false H') (fun H39 x39 => cndF rfl ?_) fun J40 h40 => c15 (nilSl _) (nilSl _) ⟨_, rfl, cndF rfl (h40 H32 ((x25.trans x28).trans x32))⟩
    refine c23 (hA.ext x39) hc ⟨fun _ H42 x42 => ⟨_, _, _, _, rfl, ?_⟩, no⟩
    refine c24 ((hA.ext x39).ext x42) hc ⟨fun _ H46 x46 => ⟨_, _, _, _, rfl, ?_⟩, no⟩
    exact jn_intro (fun J => ∀ H', Ext H H' → J true H') (fun H56 x56 => hq H56 x56) fun J57 h57 => c25 (nilSl _) (nilSl _) ⟨_, rfl, cndT rfl (cndT rfl (c11 fun H53 x53 => ⟨_, rfl, h57 H53 (((x39.trans x42).trans x46).trans x53)⟩))⟩
  | true =>
    have no : ∀ {P : Prop}, validM l = false → P := fun h => by rw [hv] at h; cases h
    refine c18 hA hc ⟨no, fun _ rs A9 c9 H8 ha x8 S9 _ => ⟨_, _, _, _, rfl, ?_⟩⟩
    refine c19 (hA.ext x8) hc ⟨no, fun _ rs2 A13 k13 H12 ha2 x12 S13 _ => ⟨_, _, _, _, rfl, ?_⟩⟩
    have e2 := arcs_one ha ha2
    subst e2
    refine jn_intro (fun J => ∀ H', Ext H H' → J false H') (fun H25 x25 => cndF rfl ?_) fun J26 h26 => c20 (S9.ext x12) S13 ⟨_, rfl, cndF rfl (cndF rfl (c14 ((hA.ext x8).ext x12) fun H19 x19 => ⟨_, rfl, c21 (((hA.ext x8).ext x12).ext x19) fun H22 x22 => ⟨_, rfl, by rw [beq_self_eq_true]; exact h26 H22 (((x8.trans x12).trans x19).trans x22)⟩⟩))⟩
    refine c13 (hA.ext x25) hc ⟨no, fun _ rs3 A29 c29 H28 ha3 x28 S29 _ => ⟨_, _, _, _, rfl, ?_⟩⟩
    refine c22 ((hA.ext x25).ext x28) hc ⟨no, fun _ rs4 A33 c33 H32 ha4 x32 S33 _ => ⟨_, _, _, _, rfl, ?_⟩⟩
    have e3 := arcs_one ha ha3
    subst e3
    have e4 := arcs_one ha ha4
    subst e4
    refine jn_intro (fun J => ∀ H', Ext H H' → J false H') (fun H39 x39 => cndF rfl ?_) fun J40 h40 => c15 (S29.ext x32) S33 ⟨_, rfl, cndF rfl (h40 H32 ((x25.trans x28).trans x32))⟩
    refine c23 (hA.ext x39) hc ⟨no, fun _ rs5 E ks ha5 G hs hk => ⟨fun ho H42 x42 => ⟨_, _, _, _, rfl, ?_⟩, fun o ho b c' H42 x42 S43 hc43 => ⟨_, _, _, _, rfl, ?_⟩⟩⟩
    all_goals
      refine c24 ((hA.ext x39).ext x42) hc ⟨no, fun _ rs6 E6 ks6 ha6 G6 hs6 hk6 => ?_⟩
      have e5 := arcs_one ha5 ha6
      subst e5
      have e6 := graph_one G G6
      subst e6
      have e7 : ks = ks6 := strict_one hs hs6 fun x => (hk x).trans (hk6 x).symm
      subst e7
    · refine ⟨fun _ H46 x46 => ⟨_, _, _, _, rfl, ?_⟩, fun o ho2 => by rw [ho] at ho2; cases ho2⟩
      exact jn_intro (fun J => ∀ H', Ext H H' → J true H') (fun H56 x56 => hq H56 x56) fun J57 h57 => c25 (nilSl _) (nilSl _) ⟨_, rfl, cndT rfl (cndT rfl (c11 fun H53 x53 => ⟨_, rfl, h57 H53 (((x39.trans x42).trans x46).trans x53)⟩))⟩
    · refine ⟨fun ho2 => (by rw [ho] at ho2; cases ho2), fun o2 ho2 b2 c2 H46 x46 S47 hc47 => ⟨_, _, _, _, rfl, ?_⟩⟩
      rw [ho] at ho2
      cases ho2
      exact jn_intro (fun J => ∀ H', Ext H H' → J true H') (fun H56 x56 => hq H56 x56) fun J57 h57 => c25 (S43.ext x46) S47 ⟨_, rfl, cndT (by simp) (cndT rfl (c11 fun H53 x53 => ⟨_, rfl, h57 H53 (((x39.trans x42).trans x46).trans x53)⟩))⟩
end
end Go.Proofs.YtibhpoikhkokiaaGreat.Hw

/- The row HistoryTells, proved. -/
set_option linter.unusedVariables false
set_option linter.unusedSimpArgs false
set_option maxRecDepth 100000
namespace Go.Proofs.YtibhpoikhkokiaaGreat
open Go.ChangeShapes Go.WideShapes Go.ChangeAt Go.RowKit
open Hw
theorem tells_lifted (os : Os) (started : os.Started) (H : Type) (enc : TypeId × Value → H) :
    ReturnsInHanded {} Tryz.checked os 5 .any (Rows.historyTellsSpec.pre6 enc Tryz.prog Tryz.f5 Rows.historyTellsRow.domain false) (Rows.historyTellsSpec.post enc Tryz.prog Tryz.f5 Rows.historyTellsRow.apart Rows.historyTellsRow.fresh Rows.historyTellsRow.handsOn Rows.historyTellsRow.again) := by
  refine returnsInHanded_of_change_sized (C := Tryz.checked) ownK started (by kernel_rfl) Tryz.func5
    (ChangeSpec.witness6 (enc := enc) (C := Tryz.checked) false ⟨#[], #[.slice none 0 0], []⟩ 8 (by kernel_rfl) (by kernel_rfl) (by kernel_rfl) (by kernel_rfl)) ?_
  intro W base args ds gs before hval0 hW hcnd hsz0 _
  have hval : ∀ (j : Nat) t v, Tryz.f5.params[j]? = some t → args[j]? = some v → Value.okWide Tryz.prog W .any base t v := hval0
  have hsz : (DataW.weightsEach Tryz.prog (Tryz.f5.params.toList ++ Rows.historyTellsSpec.plain.varTypes Tryz.prog) (ds ++ gs)).all (· ≤ reachBytes) = true := hsz0
  have hW' := hW
  obtain ⟨p, q, hA0, hV, rfl, hfz, hnd⟩ := hW
  have hA : DataW.TrodAll enc Tryz.prog W 0 (fun _ => true) true Tryz.f5.params.toList args.toList ds p := hA0
  rw [Tryz.params5] at hA hval hsz
  obtain ⟨v0, d0, rfl, rfl, h0⟩ := trodAll_one hA
  obtain ⟨rfl, rfl⟩ := trodVars_none hV
  have hs0 : Sz Tryz.prog 22 d0 := fun n hn => by
    have := List.all_eq_true.1 hsz n (DataW.weights_mem_each (j := 0) rfl rfl n hn)
    exact of_decide_eq_true this
  obtain ⟨fl0, e0⟩ := h0
  obtain ⟨A, n, c, l, hc0, hp0, hcap⟩ := open_evs hs0 e0
  have g0 := slice_of u22 (hval 0 22 v0 rfl rfl) hc0
  subst g0
  have key := c5 (Q := fun v H' => v = .bool true ∧ Ext (hpOf W) H') hp0 hcap (fun H' hx => ⟨rfl, hx⟩) W (fun b o h => h)
  refine Calls.mono key ?_
  rintro e W' ⟨v, H', rfl, ⟨rfl, hx⟩, hh, hf, _⟩
  refine ⟨_, rfl, post_look (f := Tryz.f5) cellsB_prog (by rw [Tryz.params5]; decide) hW' rfl rfl rfl (fun b sp hd => ?_) (fun b o h => hh b o (hx b o h)) hf.1 hf.2.2.1 ?_⟩
  · exact res_bool b sp hd true
  · exact ok_bools rfl true
theorem tells_holds : Rows.HistoryTellsSaid :=
  OpenClaim.holds_of_wide 5 Tryz.f5 rfl rfl rfl rfl rfl rfl rfl ⟨rfl, rfl, rfl, rfl, rfl⟩ rfl rfl rfl rfl rfl (by kernel_rfl) Tryz.func5 (by kernel_rfl)
    (of_decide_eq_true (by kernel_rfl)) (by unfold Func.isWrapper; first | (rw [if_pos (by decide +kernel)]; kernel_rfl) | (rw [if_neg (by decide +kernel)]; exact ⟨rfl, rfl⟩))
    (fun os started H enc _ => tells_lifted os started H enc)
end Go.Proofs.YtibhpoikhkokiaaGreat
