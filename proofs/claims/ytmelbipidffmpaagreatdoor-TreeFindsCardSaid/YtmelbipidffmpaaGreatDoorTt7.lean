/- HwFd Ca Cb Cc Cd Ce (joined by merge.py) -/
import Derived.Test.YtmelbipidffmpaaGreatDoorTt3
import Derived.Test.YtmelbipidffmpaaGreatDoorTt5
/- What functions of the program come to, by the evaluator: printed by a program of this session (gen.py) and checked here. -/
set_option linter.unusedVariables false
set_option maxRecDepth 100000
namespace Go.Proofs.YtmelbipidffmpaaGreatDoor.Hw
open Go Go.Proofs

/-- justiciar tree.Insert -/
def f25 (pt_0_A : Option Addr) (pt_0_n pt_0_c : Nat) (pt_1 : Int) (pt_2 : Int) (pe_0_A : Option Addr) (pe_0_n pe_0_c : Nat) (pe_1 : Int) (H : Hp) (Q : Value → Hp → Prop) : Prop :=
  HCalls Tryz.prog 36 [.agg #[.slice pt_0_A pt_0_n pt_0_c, .int .i64 pt_1, .int .i64 pt_2]] H fun v1 H2 => ∃ p3 : Option Addr, ∃ x4 : Bool, v1 = .tuple #[.pointer p3, .bool x4] ∧ jn (fun (j8 : Bool) (H9 : Hp) => cnd j8 (Q
    (.tuple #[.agg #[.slice none 0 0, .int .i64 0, .int .i64 0], .int .i64 2]) H9) (onPtr p3 fun b11 o11 => ∃ (A12 : Option Addr) (n12 c12 : Nat), cl H9 b11 (o11 + 5) = some (.slice A12 n12 c12) ∧ HCalls Tryz.prog 50
    [.slice A12 n12 c12, .agg #[.slice pe_0_A pe_0_n pe_0_c, .int .i64 pe_1], .func (.func 51) #[] #[]] H9 fun v13 H14 => ∃ x15 : Int, ∃ x16 : Bool, v13 = .tuple #[.int .i64 x15, .bool x16] ∧ cnd x16 (Q (.tuple #[.agg
    #[.slice none 0 0, .int .i64 0, .int .i64 0], .int .i64 14]) H14) (onPtr p3 fun b17 o17 => ∃ (A18 : Option Addr) (n18 c18 : Nat), cl H14 b17 (o17 + 5) = some (.slice A18 n18 c18) ∧ cnd (decide ((((n18 : Nat) : Int) :
    Int) ≥ 4000)) (Q (.tuple #[.agg #[.slice none 0 0, .int .i64 0, .int .i64 0], .int .i64 3]) H14) (HCalls Tryz.prog 52 [.agg #[.slice pt_0_A pt_0_n pt_0_c, .int .i64 pt_1, .int .i64 pt_2], .int .i64 pt_1] H14 fun v19
    H20 => ∃ p21 : Option Addr, v19 = .pointer p21 ∧ HCalls Tryz.prog 37 [.agg #[.slice pe_0_A pe_0_n pe_0_c, .int .i64 pe_1]] H20 fun v22 H23 => ∃ (A24 : Option Addr) (n24 c24 : Nat), ∃ x25 : Int, v22 = .agg #[.slice A24
    n24 c24, .int .i64 x25] ∧ HCalls Tryz.prog 53 [.pointer p21, .agg #[.slice A24 n24 c24, .int .i64 x25]] H23 fun v26 H27 => v26 = .tuple #[] ∧ jn (fun (jp41 : Option Addr) (H42 : Hp) => HCalls Tryz.prog 55 [.pointer
    jp41, .int .i64 pt_2] H42 fun v44 H45 => ∃ (A46 : Option Addr) (n46 c46 : Nat), ∃ x47 : Int, ∃ x48 : Int, v44 = .agg #[.slice A46 n46 c46, .int .i64 x47, .int .i64 x48] ∧ Q (.tuple #[.agg #[.slice A46 n46 c46, .int
    .i64 x47, .int .i64 x48], .int .i64 0]) H45) fun J43 => onPtr p21 fun b28 o28 => ∃ (A29 : Option Addr) (n29 c29 : Nat), cl H27 b28 (o28 + 0) = some (.slice A29 n29 c29) ∧ cnd (decide ((((n29 : Nat) : Int) : Int) > 8))
    (HCalls Tryz.prog 54 [.pointer p21] H27 fun v30 H31 => ∃ (A32 : Option Addr) (n32 c32 : Nat), ∃ x33 : Int, ∃ p34 : Option Addr, v30 = .tuple #[.agg #[.slice A32 n32 c32, .int .i64 x33], .pointer p34] ∧ newF H31 46
    [.slice A32 n32 c32, .int .i64 x33] fun g35 H36 => newF H36 86 [.pointer p21, .pointer p34] fun g37 H38 => newF H38 91 [.slice (some ⟨g35, 0, none⟩) 1 1, .slice (some ⟨g37, 0, none⟩) 2 2] fun g39 H40 => J43 (some
    ⟨g39, 0, none⟩) H40) (J43 p21 H27))))) fun J10 => cnd (!x4) (J10 true H2) (HCalls Tryz.prog 49 [.agg #[.slice pe_0_A pe_0_n pe_0_c, .int .i64 pe_1], .int .i64 pt_2] H2 fun v5 H6 => ∃ x7 : Bool, v5 = .bool x7 ∧ J10
    (!x7) H6)
noncomputable def fcx25 : Cx := cx 76 [(2, true), (3, true), (4, true), (11, true)] [] [(4, (.look 0 (.look 1 (.look 2 (.look 3 (.look 4 (.act 5 (.look 6 (.look 7 (.look 8 (.act 9 (.act 10 .done .done) .done)))) .done)))))))] []
theorem f25.eq (pt_0_A : Option Addr) (pt_0_n pt_0_c : Nat) (pt_1 : Int) (pt_2 : Int) (pe_0_A : Option Addr) (pe_0_n pe_0_c : Nat) (pe_1 : Int) (H : Hp) (Q : Value → Hp → Prop) : f25 pt_0_A pt_0_n pt_0_c pt_1 pt_2 pe_0_A pe_0_n pe_0_c pe_1 H Q = wFun fcx25 Tryz.f25 [.agg #[.slice pt_0_A pt_0_n pt_0_c, .int .i64 pt_1, .int .i64 pt_2], .agg #[.slice pe_0_A pe_0_n pe_0_c, .int .i64 pe_1]] H Q := by kernel_rfl
theorem f25.ok (pt_0_A : Option Addr) (pt_0_n pt_0_c : Nat) (pt_1 : Int) (pt_2 : Int) (pe_0_A : Option Addr) (pe_0_n pe_0_c : Nat) (pe_1 : Int) {H : Hp} {Q : Value → Hp → Prop} (h : f25 pt_0_A pt_0_n pt_0_c pt_1 pt_2 pe_0_A pe_0_n pe_0_c pe_1 H Q) : HCalls Tryz.prog 25 [.agg #[.slice pt_0_A pt_0_n pt_0_c, .int .i64 pt_1, .int .i64 pt_2], .agg #[.slice pe_0_A pe_0_n pe_0_c, .int .i64 pe_1]] H Q := hcalls_of (cxOk _ _ _ _ _) Tryz.func25 (Eq.mp (f25.eq pt_0_A pt_0_n pt_0_c pt_1 pt_2 pe_0_A pe_0_n pe_0_c pe_1 H Q) h)

/-- justiciar tree.Delete -/
def f28 (pt_0_A : Option Addr) (pt_0_n pt_0_c : Nat) (pt_1 : Int) (pt_2 : Int) (pe_0_A : Option Addr) (pe_0_n pe_0_c : Nat) (pe_1 : Int) (H : Hp) (Q : Value → Hp → Prop) : Prop :=
  HCalls Tryz.prog 36 [.agg #[.slice pt_0_A pt_0_n pt_0_c, .int .i64 pt_1, .int .i64 pt_2]] H fun v1 H2 => ∃ p3 : Option Addr, ∃ x4 : Bool, v1 = .tuple #[.pointer p3, .bool x4] ∧ jn (fun (j8 : Bool) (H9 : Hp) => cnd j8 (Q
    (.tuple #[.agg #[.slice none 0 0, .int .i64 0, .int .i64 0], .int .i64 2]) H9) (onPtr p3 fun b11 o11 => ∃ (A12 : Option Addr) (n12 c12 : Nat), cl H9 b11 (o11 + 5) = some (.slice A12 n12 c12) ∧ HCalls Tryz.prog 50
    [.slice A12 n12 c12, .agg #[.slice pe_0_A pe_0_n pe_0_c, .int .i64 pe_1], .func (.func 51) #[] #[]] H9 fun v13 H14 => ∃ x15 : Int, ∃ x16 : Bool, v13 = .tuple #[.int .i64 x15, .bool x16] ∧ cnd (!x16) (Q (.tuple #[.agg
    #[.slice none 0 0, .int .i64 0, .int .i64 0], .int .i64 4]) H14) (HCalls Tryz.prog 52 [.agg #[.slice pt_0_A pt_0_n pt_0_c, .int .i64 pt_1, .int .i64 pt_2], .int .i64 pt_1] H14 fun v17 H18 => ∃ p19 : Option Addr, v17 =
    .pointer p19 ∧ HCalls Tryz.prog 58 [.pointer p19, .agg #[.slice pe_0_A pe_0_n pe_0_c, .int .i64 pe_1]] H18 fun v20 H21 => v20 = .tuple #[] ∧ jn (fun (jp32 : Option Addr) => HCalls Tryz.prog 55 [.pointer jp32, .int
    .i64 pt_2] H21 fun v34 H35 => ∃ (A36 : Option Addr) (n36 c36 : Nat), ∃ x37 : Int, ∃ x38 : Int, v34 = .agg #[.slice A36 n36 c36, .int .i64 x37, .int .i64 x38] ∧ Q (.tuple #[.agg #[.slice A36 n36 c36, .int .i64 x37,
    .int .i64 x38], .int .i64 0]) H35) fun J33 => jn (fun (j26 : Bool) => cnd j26 (onPtr p19 fun b28 o28 => ∃ (A29 : Option Addr) (n29 c29 : Nat), cl H21 b28 (o28 + 1) = some (.slice A29 n29 c29) ∧ 0 ≤ (0 : Int) ∧ (0 :
    Int) < ((n29 : Nat) : Int) ∧ onPtr A29 fun b30 o30 => ∃ p31 : Option Addr, cl H21 b30 (o30 + (0 : Int).toNat * 1) = some (.pointer p31) ∧ J33 p31) (J33 p19)) fun J27 => onPtr p19 fun b22 o22 => ∃ (A23 : Option Addr)
    (n23 c23 : Nat), cl H21 b22 (o22 + 0) = some (.slice A23 n23 c23) ∧ cnd ((((n23 : Nat) : Int) : Int) == 0) (onPtr p19 fun b24 o24 => ∃ (A25 : Option Addr) (n25 c25 : Nat), cl H21 b24 (o24 + 1) = some (.slice A25 n25
    c25) ∧ J27 (decide ((((n25 : Nat) : Int) : Int) > 0))) (J27 false)))) fun J10 => cnd (!x4) (J10 true H2) (HCalls Tryz.prog 49 [.agg #[.slice pe_0_A pe_0_n pe_0_c, .int .i64 pe_1], .int .i64 pt_2] H2 fun v5 H6 => ∃ x7
    : Bool, v5 = .bool x7 ∧ J10 (!x7) H6)
noncomputable def fcx28 : Cx := cx 69 [(2, true), (3, true), (4, true)] [] [(4, (.look 0 (.look 1 (.look 2 (.look 3 (.look 4 (.act 5 (.look 6 (.look 7 (.look 8 (.act 9 (.act 10 .done .done) .done)))) .done)))))))] []
theorem f28.eq (pt_0_A : Option Addr) (pt_0_n pt_0_c : Nat) (pt_1 : Int) (pt_2 : Int) (pe_0_A : Option Addr) (pe_0_n pe_0_c : Nat) (pe_1 : Int) (H : Hp) (Q : Value → Hp → Prop) : f28 pt_0_A pt_0_n pt_0_c pt_1 pt_2 pe_0_A pe_0_n pe_0_c pe_1 H Q = wFun fcx28 Tryz.f28 [.agg #[.slice pt_0_A pt_0_n pt_0_c, .int .i64 pt_1, .int .i64 pt_2], .agg #[.slice pe_0_A pe_0_n pe_0_c, .int .i64 pe_1]] H Q := by kernel_rfl
theorem f28.ok (pt_0_A : Option Addr) (pt_0_n pt_0_c : Nat) (pt_1 : Int) (pt_2 : Int) (pe_0_A : Option Addr) (pe_0_n pe_0_c : Nat) (pe_1 : Int) {H : Hp} {Q : Value → Hp → Prop} (h : f28 pt_0_A pt_0_n pt_0_c pt_1 pt_2 pe_0_A pe_0_n pe_0_c pe_1 H Q) : HCalls Tryz.prog 28 [.agg #[.slice pt_0_A pt_0_n pt_0_c, .int .i64 pt_1, .int .i64 pt_2], .agg #[.slice pe_0_A pe_0_n pe_0_c, .int .i64 pe_1]] H Q := hcalls_of (cxOk _ _ _ _ _) Tryz.func28 (Eq.mp (f28.eq pt_0_A pt_0_n pt_0_c pt_1 pt_2 pe_0_A pe_0_n pe_0_c pe_1 H Q) h)

/-- justiciar tree.Make -/
def f31 (pcols : Int) (pl_A : Option Addr) (pl_n pl_c : Nat) (H : Hp) (Q : Value → Hp → Prop) : Prop :=
  newF H 3 [.int .i64 pcols] fun g1 H2 => jn (fun (j8 : Bool) (H9 : Hp) => cnd j8 (Q (.tuple #[.agg #[.slice none 0 0, .int .i64 0, .int .i64 0], .int .i64 2]) H9) (HCalls Tryz.prog 62 [.slice pl_A pl_n pl_c] H9 fun v11 H12
    => ∃ (A13 : Option Addr) (n13 c13 : Nat), v11 = .slice A13 n13 c13 ∧ HCalls Tryz.prog 63 [.slice A13 n13 c13, .func (.func 51) #[] #[]] H12 fun v14 H15 => v14 = .tuple #[] ∧ LoopF (σ := (Int × Unit) × (((Option Addr ×
    Nat × Nat) × (Int × (Int × Unit))) × Unit)) ((0, ()), (((none, 0, 0), (0, (0, ()))), ())) H15 fun s16 H17 next18 => cnd (decide ((s16.1.1 : Int) < ((n13 : Nat) : Int))) (0 ≤ (s16.1.1 : Int) ∧ (s16.1.1 : Int) < ((n13 :
    Nat) : Int) ∧ onPtr A13 fun b19 o19 => ∃ (A20 : Option Addr) (n20 c20 : Nat), cl H17 b19 (o19 + (s16.1.1 : Int).toNat * 2) = some (.slice A20 n20 c20) ∧ ∃ x21 : Int, cl H17 b19 ((o19 + (s16.1.1 : Int).toNat * 2) + 1)
    = some (.int .i64 x21) ∧ jn (fun (j28 : Bool) (H29 : Hp) => cnd j28 (Q (.tuple #[.agg #[.slice none 0 0, .int .i64 0, .int .i64 0], .int .i64 14]) H29) (KeepX [some (.v (.pointer (some ⟨g1, 0, none⟩))), some (.loc 4
    0), some (.v (.slice A13 n13 c13)), some (.v (.slice A13 n13 c13)), some (.v (.int .i64 ((n13 : Nat) : Int)))] [] ∧ next18 ((IntKind.i64.wrap (s16.1.1 + 1), ()), (((s16.2.1.1.1, s16.2.1.1.2.1, s16.2.1.1.2.2),
    (s16.2.1.2.1, (s16.2.1.2.2.1, ()))), ())) H29)) fun J30 => cnd (decide ((s16.1.1 : Int) > 0)) (0 ≤ (IntKind.i64.wrap (s16.1.1 - 1) : Int) ∧ (IntKind.i64.wrap (s16.1.1 - 1) : Int) < ((n13 : Nat) : Int) ∧ onPtr A13 fun
    b22 o22 => ∃ (A23 : Option Addr) (n23 c23 : Nat), cl H17 b22 (o22 + (IntKind.i64.wrap (s16.1.1 - 1) : Int).toNat * 2) = some (.slice A23 n23 c23) ∧ ∃ x24 : Int, cl H17 b22 ((o22 + (IntKind.i64.wrap (s16.1.1 - 1) :
    Int).toNat * 2) + 1) = some (.int .i64 x24) ∧ HCalls Tryz.prog 51 [.agg #[.slice A23 n23 c23, .int .i64 x24], .agg #[.slice A20 n20 c20, .int .i64 x21]] H17 fun v25 H26 => ∃ x27 : Int, v25 = .int .i64 x27 ∧ J30 ((x27
    : Int) == 0) H26) (J30 false H17)) (cnd (decide ((((n13 : Nat) : Int) : Int) > 4000)) (Q (.tuple #[.agg #[.slice none 0 0, .int .i64 0, .int .i64 0], .int .i64 3]) H17) (newF H17 91 [.slice none 0 0, .slice none 0 0]
    fun g31 H32 => LoopF (σ := (Option Addr × (Int × Unit)) × Unit) ((some ⟨g31, 0, none⟩, (0, ())), ()) H32 fun s33 H34 next35 => cnd (decide ((s33.1.2.1 : Int) < ((n13 : Nat) : Int))) (jn (fun (jp58 : Option Addr) (H59
    : Hp) => KeepX [some (.v (.pointer (some ⟨g1, 0, none⟩))), some (.loc 4 0), some (.v (.slice A13 n13 c13)), some (.v (.int .i64 ((n13 : Nat) : Int)))] [some (true, [.slice s16.2.1.1.1 s16.2.1.1.2.1 s16.2.1.1.2.2, .int
    .i64 s16.2.1.2.1, .int .i64 s16.2.1.2.2.1])] ∧ next35 ((jp58, (IntKind.i64.wrap (s33.1.2.1 + 1), ())), ()) H59) fun J60 => 0 ≤ (s33.1.2.1 : Int) ∧ (s33.1.2.1 : Int) < ((n13 : Nat) : Int) ∧ onPtr A13 fun b36 o36 => ∃
    (A37 : Option Addr) (n37 c37 : Nat), cl H34 b36 (o36 + (s33.1.2.1 : Int).toNat * 2) = some (.slice A37 n37 c37) ∧ ∃ x38 : Int, cl H34 b36 ((o36 + (s33.1.2.1 : Int).toNat * 2) + 1) = some (.int .i64 x38) ∧ HCalls
    Tryz.prog 37 [.agg #[.slice A37 n37 c37, .int .i64 x38]] H34 fun v39 H40 => ∃ (A41 : Option Addr) (n41 c41 : Nat), ∃ x42 : Int, v39 = .agg #[.slice A41 n41 c41, .int .i64 x42] ∧ HCalls Tryz.prog 53 [.pointer s33.1.1,
    .agg #[.slice A41 n41 c41, .int .i64 x42]] H40 fun v43 H44 => v43 = .tuple #[] ∧ onPtr s33.1.1 fun b45 o45 => ∃ (A46 : Option Addr) (n46 c46 : Nat), cl H44 b45 (o45 + 0) = some (.slice A46 n46 c46) ∧ cnd (decide
    ((((n46 : Nat) : Int) : Int) > 8)) (HCalls Tryz.prog 54 [.pointer s33.1.1] H44 fun v47 H48 => ∃ (A49 : Option Addr) (n49 c49 : Nat), ∃ x50 : Int, ∃ p51 : Option Addr, v47 = .tuple #[.agg #[.slice A49 n49 c49, .int
    .i64 x50], .pointer p51] ∧ newF H48 46 [.slice A49 n49 c49, .int .i64 x50] fun g52 H53 => newF H53 86 [.pointer s33.1.1, .pointer p51] fun g54 H55 => newF H55 91 [.slice (some ⟨g52, 0, none⟩) 1 1, .slice (some ⟨g54,
    0, none⟩) 2 2] fun g56 H57 => J60 (some ⟨g56, 0, none⟩) H57) (J60 s33.1.1 H44)) (∃ x61 : Int, cl H34 g1 0 = some (.int .i64 x61) ∧ HCalls Tryz.prog 55 [.pointer s33.1.1, .int .i64 x61] H34 fun v62 H63 => ∃ (A64 :
    Option Addr) (n64 c64 : Nat), ∃ x65 : Int, ∃ x66 : Int, v62 = .agg #[.slice A64 n64 c64, .int .i64 x65, .int .i64 x66] ∧ Q (.tuple #[.agg #[.slice A64 n64 c64, .int .i64 x65, .int .i64 x66], .int .i64 0]) H63))))) fun
    J10 => ∃ x3 : Int, cl H2 g1 0 = some (.int .i64 x3) ∧ cnd (decide ((x3 : Int) < 1)) (J10 true H2) (∃ x4 : Int, cl H2 g1 0 = some (.int .i64 x4) ∧ cnd (decide ((x4 : Int) > 20)) (J10 true H2) (HCalls Tryz.prog 60
    [.slice pl_A pl_n pl_c, .func (.func 61) #[] #[.pointer (some ⟨g1, 0, none⟩)]] H2 fun v5 H6 => ∃ x7 : Bool, v5 = .bool x7 ∧ J10 x7 H6))
noncomputable def fcx31 : Cx := cx 89 [(4, true), (8, true), (11, true), (12, true)] [(6, ⟨[2, 4, 6, 30, 31], [], [(32, .int .i64)], [(4, [.slice, .int .i64, .int .i64])]⟩), (15, ⟨[2, 4, 57, 58], [4], [(9, .ptr), (59, .int .i64)], []⟩)] [(8, (.look 0 (.look 1 (.look 2 (.look 3 (.look 4 (.look 5 (.look 6 (.look 7 (.look 8 (.act 9 (.look 10 (.look 11 .done)) .done)))))))))))] []
theorem f31.eq (pcols : Int) (pl_A : Option Addr) (pl_n pl_c : Nat) (H : Hp) (Q : Value → Hp → Prop) : f31 pcols pl_A pl_n pl_c H Q = wFun fcx31 Tryz.f31 [.int .i64 pcols, .slice pl_A pl_n pl_c] H Q := by kernel_rfl
theorem f31.ok (pcols : Int) (pl_A : Option Addr) (pl_n pl_c : Nat) {H : Hp} {Q : Value → Hp → Prop} (h : f31 pcols pl_A pl_n pl_c H Q) : HCalls Tryz.prog 31 [.int .i64 pcols, .slice pl_A pl_n pl_c] H Q := hcalls_of (cxOk _ _ _ _ _) Tryz.func31 (Eq.mp (f31.eq pcols pl_A pl_n pl_c H Q) h)

/-- justiciar tree.New -/
def f33 (pcols : Int) (H : Hp) (Q : Value → Hp → Prop) : Prop :=
  jn (fun (j1 : Bool) => cnd j1 (Q (.tuple #[.agg #[.slice none 0 0, .int .i64 0, .int .i64 0], .int .i64 2]) H) (((1 : Int) = 1 ∧ 0 ≤ (1 : Int) ∧ (1 : Int) ≤ 16777216 ∧ newF H 60 (List.replicate ((1 : Int).toNat) [.slice
    none 0 0, .slice none 0 0]).flatten fun g3 H4 => Q (.tuple #[.agg #[.slice (some ⟨g3, 0, none⟩) ((1 : Int).toNat) ((1 : Int).toNat), .int .i64 0, .int .i64 pcols], .int .i64 0]) H4))) fun J2 => cnd (decide ((pcols :
    Int) < 1)) (J2 true) (J2 (decide ((pcols : Int) > 20)))
noncomputable def fcx33 : Cx := cx 14 [(2, true)] [] [] []
theorem f33.eq (pcols : Int) (H : Hp) (Q : Value → Hp → Prop) : f33 pcols H Q = wFun fcx33 Tryz.f33 [.int .i64 pcols] H Q := by kernel_rfl
theorem f33.ok (pcols : Int) {H : Hp} {Q : Value → Hp → Prop} (h : f33 pcols H Q) : HCalls Tryz.prog 33 [.int .i64 pcols] H Q := hcalls_of (cxOk _ _ _ _ _) Tryz.func33 (Eq.mp (f33.eq pcols H Q) h)

/-- justiciar tree.grown -/
def f52 (pt_0_A : Option Addr) (pt_0_n pt_0_c : Nat) (pt_1 : Int) (pt_2 : Int) (pi : Int) (H : Hp) (Q : Value → Hp → Prop) : Prop :=
  newF H 91 [.slice none 0 0, .slice none 0 0] fun g1 H2 => 0 ≤ (pi : Int) ∧ (pi : Int) < ((pt_0_n : Nat) : Int) ∧ onPtr pt_0_A fun b3 o3 => ∃ (A4 : Option Addr) (n4 c4 : Nat), cl H2 b3 ((o3 + (pi : Int).toNat * 2) + 0) =
    some (.slice A4 n4 c4) ∧ LoopF (σ := (Int × Unit) × Unit) ((0, ()), ()) H2 fun s5 H6 next7 => cnd (decide ((s5.1.1 : Int) < ((n4 : Nat) : Int))) (0 ≤ (s5.1.1 : Int) ∧ (s5.1.1 : Int) < ((n4 : Nat) : Int) ∧ onPtr A4 fun
    b8 o8 => ∃ (A9 : Option Addr) (n9 c9 : Nat), cl H6 b8 (o8 + (s5.1.1 : Int).toNat * 2) = some (.slice A9 n9 c9) ∧ ∃ x10 : Int, cl H6 b8 ((o8 + (s5.1.1 : Int).toNat * 2) + 1) = some (.int .i64 x10) ∧ ∃ (A11 : Option
    Addr) (n11 c11 : Nat), cl H6 g1 (0 + 0) = some (.slice A11 n11 c11) ∧ HCalls Tryz.prog 37 [.agg #[.slice A9 n9 c9, .int .i64 x10]] H6 fun v12 H13 => ∃ (A14 : Option Addr) (n14 c14 : Nat), ∃ x15 : Int, v12 = .agg
    #[.slice A14 n14 c14, .int .i64 x15] ∧ H13 g1 = H6 g1 ∧ newF H13 46 [.slice A14 n14 c14, .int .i64 x15] fun g16 H17 => appendF H17 46 2 32 A11 n11 c11 (some ⟨g16, 0, none⟩) 1 fun A18 n18 c18 H19 => storeF H19 g1 (0 +
    0) [.slice A18 n18 c18] fun H20 => KeepX [some (.v (.int .i64 pi)), some (.loc 2 0), some (.v (.pointer (some ⟨g1, 0, none⟩))), some (.v (.slice A4 n4 c4)), some (.v (.int .i64 ((n4 : Nat) : Int)))] [some (true,
    [.slice pt_0_A pt_0_n pt_0_c, .int .i64 pt_1, .int .i64 pt_2])] ∧ next7 ((IntKind.i64.wrap (s5.1.1 + 1), ()), ()) H20) (0 ≤ (pi : Int) ∧ (pi : Int) < ((pt_0_n : Nat) : Int) ∧ onPtr pt_0_A fun b21 o21 => ∃ (A22 :
    Option Addr) (n22 c22 : Nat), cl H6 b21 ((o21 + (pi : Int).toNat * 2) + 1) = some (.slice A22 n22 c22) ∧ LoopF (σ := (Int × Unit) × Unit) ((0, ()), ()) H6 fun s23 H24 next25 => cnd (decide ((s23.1.1 : Int) < ((n22 :
    Nat) : Int))) (0 ≤ (s23.1.1 : Int) ∧ (s23.1.1 : Int) < ((n22 : Nat) : Int) ∧ onPtr A22 fun b26 o26 => ∃ x27 : Int, cl H24 b26 (o26 + (s23.1.1 : Int).toNat * 1) = some (.int .i64 x27) ∧ ∃ (A28 : Option Addr) (n28 c28 :
    Nat), cl H24 g1 (0 + 1) = some (.slice A28 n28 c28) ∧ HCalls Tryz.prog 52 [.agg #[.slice pt_0_A pt_0_n pt_0_c, .int .i64 pt_1, .int .i64 pt_2], .int .i64 x27] H24 fun v29 H30 => ∃ p31 : Option Addr, v29 = .pointer p31
    ∧ H30 g1 = H24 g1 ∧ newF H30 86 [.pointer p31] fun g32 H33 => appendF H33 86 1 8 A28 n28 c28 (some ⟨g32, 0, none⟩) 1 fun A34 n34 c34 H35 => storeF H35 g1 (0 + 1) [.slice A34 n34 c34] fun H36 => KeepX [some (.loc 2 0),
    some (.v (.pointer (some ⟨g1, 0, none⟩))), some (.v (.slice A22 n22 c22)), some (.v (.int .i64 ((n22 : Nat) : Int)))] [some (true, [.slice pt_0_A pt_0_n pt_0_c, .int .i64 pt_1, .int .i64 pt_2])] ∧ next25
    ((IntKind.i64.wrap (s23.1.1 + 1), ()), ()) H36) (Q (.pointer (some ⟨g1, 0, none⟩)) H24))
noncomputable def fcx52 : Cx := cx 60 [(2, true), (7, true)] [(3, ⟨[1, 2, 5, 17, 18], [2], [(19, .int .i64)], []⟩), (8, ⟨[2, 5, 40, 41], [2], [(42, .int .i64)], []⟩)] [(5, (.look 0 (.look 1 (.look 2 (.look 3 (.look 4 (.look 5 (.act 6 (.act 7 (.act 8 (.look 9 (.look 10 (.act 11 .done .done))) .done) .done) .done)))))))), (10, (.look 0 (.look 1 (.look 2 (.look 3 (.look 4 (.look 5 (.look 6 (.act 7 (.act 8 (.act 9 (.look 10 (.look 11 (.act 12 .done .done))) .done) .done) .done)))))))))] []
theorem f52.eq (pt_0_A : Option Addr) (pt_0_n pt_0_c : Nat) (pt_1 : Int) (pt_2 : Int) (pi : Int) (H : Hp) (Q : Value → Hp → Prop) : f52 pt_0_A pt_0_n pt_0_c pt_1 pt_2 pi H Q = wFun fcx52 Tryz.f52 [.agg #[.slice pt_0_A pt_0_n pt_0_c, .int .i64 pt_1, .int .i64 pt_2], .int .i64 pi] H Q := by kernel_rfl
theorem f52.ok (pt_0_A : Option Addr) (pt_0_n pt_0_c : Nat) (pt_1 : Int) (pt_2 : Int) (pi : Int) {H : Hp} {Q : Value → Hp → Prop} (h : f52 pt_0_A pt_0_n pt_0_c pt_1 pt_2 pi H Q) : HCalls Tryz.prog 52 [.agg #[.slice pt_0_A pt_0_n pt_0_c, .int .i64 pt_1, .int .i64 pt_2], .int .i64 pi] H Q := hcalls_of (cxOk _ _ _ _ _) Tryz.func52 (Eq.mp (f52.eq pt_0_A pt_0_n pt_0_c pt_1 pt_2 pi H Q) h)

/-- (*justiciar tree.node).insert -/
def f53 (pn_b pn_o : Nat) (pe_0_A : Option Addr) (pe_0_n pe_0_c : Nat) (pe_1 : Int) (H : Hp) (Q : Value → Hp → Prop) : Prop :=
  HCalls Tryz.prog 78 [.pointer (some ⟨pn_b, pn_o, none⟩), .agg #[.slice pe_0_A pe_0_n pe_0_c, .int .i64 pe_1]] H fun v1 H2 => ∃ x3 : Int, ∃ x4 : Bool, v1 = .tuple #[.int .i64 x3, .bool x4] ∧ ∃ (A5 : Option Addr) (n5 c5 :
    Nat), cl H2 pn_b (pn_o + 1) = some (.slice A5 n5 c5) ∧ cnd ((((n5 : Nat) : Int) : Int) == 0) (∃ (A6 : Option Addr) (n6 c6 : Nat), cl H2 pn_b (pn_o + 0) = some (.slice A6 n6 c6) ∧ newF H2 46 [.slice pe_0_A pe_0_n
    pe_0_c, .int .i64 pe_1] fun g7 H8 => HCalls Tryz.prog 79 [.slice A6 n6 c6, .int .i64 x3, .slice (some ⟨g7, 0, none⟩) 1 1] H8 fun v9 H10 => ∃ (A11 : Option Addr) (n11 c11 : Nat), v9 = .slice A11 n11 c11 ∧ storeF H10
    pn_b (pn_o + 0) [.slice A11 n11 c11] fun H12 => Q (.tuple #[]) H12) (∃ (A13 : Option Addr) (n13 c13 : Nat), cl H2 pn_b (pn_o + 1) = some (.slice A13 n13 c13) ∧ 0 ≤ (x3 : Int) ∧ (x3 : Int) < ((n13 : Nat) : Int) ∧ onPtr
    A13 fun b14 o14 => ∃ p15 : Option Addr, cl H2 b14 (o14 + (x3 : Int).toNat * 1) = some (.pointer p15) ∧ HCalls Tryz.prog 53 [.pointer p15, .agg #[.slice pe_0_A pe_0_n pe_0_c, .int .i64 pe_1]] H2 fun v16 H17 => v16 =
    .tuple #[] ∧ onPtr p15 fun b18 o18 => ∃ (A19 : Option Addr) (n19 c19 : Nat), cl H17 b18 (o18 + 0) = some (.slice A19 n19 c19) ∧ cnd (decide ((((n19 : Nat) : Int) : Int) > 8)) (HCalls Tryz.prog 54 [.pointer p15] H17
    fun v20 H21 => ∃ (A22 : Option Addr) (n22 c22 : Nat), ∃ x23 : Int, ∃ p24 : Option Addr, v20 = .tuple #[.agg #[.slice A22 n22 c22, .int .i64 x23], .pointer p24] ∧ ∃ (A25 : Option Addr) (n25 c25 : Nat), cl H21 pn_b
    (pn_o + 0) = some (.slice A25 n25 c25) ∧ newF H21 46 [.slice A22 n22 c22, .int .i64 x23] fun g26 H27 => HCalls Tryz.prog 79 [.slice A25 n25 c25, .int .i64 x3, .slice (some ⟨g26, 0, none⟩) 1 1] H27 fun v28 H29 => ∃
    (A30 : Option Addr) (n30 c30 : Nat), v28 = .slice A30 n30 c30 ∧ storeF H29 pn_b (pn_o + 0) [.slice A30 n30 c30] fun H31 => ∃ (A32 : Option Addr) (n32 c32 : Nat), cl H31 pn_b (pn_o + 1) = some (.slice A32 n32 c32) ∧
    newF H31 86 [.pointer p24] fun g33 H34 => HCalls Tryz.prog 80 [.slice A32 n32 c32, .int .i64 (IntKind.i64.wrap (x3 + 1)), .slice (some ⟨g33, 0, none⟩) 1 1] H34 fun v35 H36 => ∃ (A37 : Option Addr) (n37 c37 : Nat), v35
    = .slice A37 n37 c37 ∧ storeF H36 pn_b (pn_o + 1) [.slice A37 n37 c37] fun H38 => Q (.tuple #[]) H38) (Q (.tuple #[]) H17))
noncomputable def fcx53 : Cx := cx 76 [(3, true), (7, true)] [] [(3, (.look 0 (.look 1 (.look 2 (.look 3 (.look 4 (.look 5 (.look 6 (.act 7 (.act 8 (.look 9 (.look 10 (.act 11 .done .done))) .done) .done))))))))), (8, (.look 0 (.look 1 (.look 2 (.look 3 (.look 4 (.look 5 (.look 6 (.act 7 (.act 8 (.look 9 (.look 10 (.act 11 .done .done))) .done) .done)))))))))] []
theorem f53.eq (pn_b pn_o : Nat) (pe_0_A : Option Addr) (pe_0_n pe_0_c : Nat) (pe_1 : Int) (H : Hp) (Q : Value → Hp → Prop) : f53 pn_b pn_o pe_0_A pe_0_n pe_0_c pe_1 H Q = wFun fcx53 Tryz.f53 [.pointer (some ⟨pn_b, pn_o, none⟩), .agg #[.slice pe_0_A pe_0_n pe_0_c, .int .i64 pe_1]] H Q := by kernel_rfl
theorem f53.ok (pn_b pn_o : Nat) (pe_0_A : Option Addr) (pe_0_n pe_0_c : Nat) (pe_1 : Int) {H : Hp} {Q : Value → Hp → Prop} (h : f53 pn_b pn_o pe_0_A pe_0_n pe_0_c pe_1 H Q) : HCalls Tryz.prog 53 [.pointer (some ⟨pn_b, pn_o, none⟩), .agg #[.slice pe_0_A pe_0_n pe_0_c, .int .i64 pe_1]] H Q := hcalls_of (cxOk _ _ _ _ _) Tryz.func53 (Eq.mp (f53.eq pn_b pn_o pe_0_A pe_0_n pe_0_c pe_1 H Q) h)

/-- (*justiciar tree.node).split -/
def f54 (pn_b pn_o : Nat) (H : Hp) (Q : Value → Hp → Prop) : Prop :=
  ∃ (A1 : Option Addr) (n1 c1 : Nat), cl H pn_b (pn_o + 0) = some (.slice A1 n1 c1) ∧ (2 : Int) ≠ 0 ∧ ∃ (A2 : Option Addr) (n2 c2 : Nat), cl H pn_b (pn_o + 0) = some (.slice A2 n2 c2) ∧ 0 ≤ (IntKind.i64.wrap (Int.tdiv ((n1
    : Nat) : Int) 2) : Int) ∧ (IntKind.i64.wrap (Int.tdiv ((n1 : Nat) : Int) 2) : Int) < ((n2 : Nat) : Int) ∧ onPtr A2 fun b3 o3 => ∃ (A4 : Option Addr) (n4 c4 : Nat), cl H b3 (o3 + (IntKind.i64.wrap (Int.tdiv ((n1 : Nat)
    : Int) 2) : Int).toNat * 2) = some (.slice A4 n4 c4) ∧ ∃ x5 : Int, cl H b3 ((o3 + (IntKind.i64.wrap (Int.tdiv ((n1 : Nat) : Int) 2) : Int).toNat * 2) + 1) = some (.int .i64 x5) ∧ ∃ (A6 : Option Addr) (n6 c6 : Nat), cl
    H pn_b (pn_o + 0) = some (.slice A6 n6 c6) ∧ 0 ≤ (IntKind.i64.wrap ((IntKind.i64.wrap (Int.tdiv ((n1 : Nat) : Int) 2)) + 1) : Int) ∧ (IntKind.i64.wrap ((IntKind.i64.wrap (Int.tdiv ((n1 : Nat) : Int) 2)) + 1) : Int) ≤
    ((n6 : Nat) : Int) ∧ HCalls Tryz.prog 62 [.slice (cutA A6 (((IntKind.i64.wrap ((IntKind.i64.wrap (Int.tdiv ((n1 : Nat) : Int) 2)) + 1) : Int).toNat) * 2) (decide (c6 = ((IntKind.i64.wrap ((IntKind.i64.wrap (Int.tdiv
    ((n1 : Nat) : Int) 2)) + 1) : Int).toNat)))) (n6 - ((IntKind.i64.wrap ((IntKind.i64.wrap (Int.tdiv ((n1 : Nat) : Int) 2)) + 1) : Int).toNat)) (c6 - ((IntKind.i64.wrap ((IntKind.i64.wrap (Int.tdiv ((n1 : Nat) : Int)
    2)) + 1) : Int).toNat))] H fun v7 H8 => ∃ (A9 : Option Addr) (n9 c9 : Nat), v7 = .slice A9 n9 c9 ∧ newF H8 91 [.slice A9 n9 c9, .slice none 0 0] fun g10 H11 => jn (fun (H20 : Hp) => ∃ (A22 : Option Addr) (n22 c22 :
    Nat), cl H20 pn_b (pn_o + 0) = some (.slice A22 n22 c22) ∧ 0 ≤ (IntKind.i64.wrap (Int.tdiv ((n1 : Nat) : Int) 2) : Int) ∧ (IntKind.i64.wrap (Int.tdiv ((n1 : Nat) : Int) 2) : Int) ≤ ((c22 : Nat) : Int) ∧ storeF H20
    pn_b (pn_o + 0) [.slice (cutA A22 (0 * 2) (decide (c22 = 0))) (((IntKind.i64.wrap (Int.tdiv ((n1 : Nat) : Int) 2) : Int).toNat) - 0) (c22 - 0)] fun H23 => Q (.tuple #[.agg #[.slice A4 n4 c4, .int .i64 x5], .pointer
    (some ⟨g10, 0, none⟩)]) H23) fun J21 => ∃ (A12 : Option Addr) (n12 c12 : Nat), cl H11 pn_b (pn_o + 1) = some (.slice A12 n12 c12) ∧ cnd (decide ((((n12 : Nat) : Int) : Int) > 0)) (∃ (A13 : Option Addr) (n13 c13 :
    Nat), cl H11 pn_b (pn_o + 1) = some (.slice A13 n13 c13) ∧ 0 ≤ (IntKind.i64.wrap ((IntKind.i64.wrap (Int.tdiv ((n1 : Nat) : Int) 2)) + 1) : Int) ∧ (IntKind.i64.wrap ((IntKind.i64.wrap (Int.tdiv ((n1 : Nat) : Int) 2))
    + 1) : Int) ≤ ((n13 : Nat) : Int) ∧ HCalls Tryz.prog 81 [.slice (cutA A13 (((IntKind.i64.wrap ((IntKind.i64.wrap (Int.tdiv ((n1 : Nat) : Int) 2)) + 1) : Int).toNat) * 1) (decide (c13 = ((IntKind.i64.wrap
    ((IntKind.i64.wrap (Int.tdiv ((n1 : Nat) : Int) 2)) + 1) : Int).toNat)))) (n13 - ((IntKind.i64.wrap ((IntKind.i64.wrap (Int.tdiv ((n1 : Nat) : Int) 2)) + 1) : Int).toNat)) (c13 - ((IntKind.i64.wrap ((IntKind.i64.wrap
    (Int.tdiv ((n1 : Nat) : Int) 2)) + 1) : Int).toNat))] H11 fun v14 H15 => ∃ (A16 : Option Addr) (n16 c16 : Nat), v14 = .slice A16 n16 c16 ∧ storeF H15 g10 (0 + 1) [.slice A16 n16 c16] fun H17 => ∃ (A18 : Option Addr)
    (n18 c18 : Nat), cl H17 pn_b (pn_o + 1) = some (.slice A18 n18 c18) ∧ 0 ≤ (IntKind.i64.wrap ((IntKind.i64.wrap (Int.tdiv ((n1 : Nat) : Int) 2)) + 1) : Int) ∧ (IntKind.i64.wrap ((IntKind.i64.wrap (Int.tdiv ((n1 : Nat)
    : Int) 2)) + 1) : Int) ≤ ((c18 : Nat) : Int) ∧ storeF H17 pn_b (pn_o + 1) [.slice (cutA A18 (0 * 1) (decide (c18 = 0))) (((IntKind.i64.wrap ((IntKind.i64.wrap (Int.tdiv ((n1 : Nat) : Int) 2)) + 1) : Int).toNat) - 0)
    (c18 - 0)] fun H19 => J21 H19) (J21 H11)
noncomputable def fcx54 : Cx := cx 68 [(2, true), (5, true)] [] [] []
theorem f54.eq (pn_b pn_o : Nat) (H : Hp) (Q : Value → Hp → Prop) : f54 pn_b pn_o H Q = wFun fcx54 Tryz.f54 [.pointer (some ⟨pn_b, pn_o, none⟩)] H Q := by kernel_rfl
theorem f54.ok (pn_b pn_o : Nat) {H : Hp} {Q : Value → Hp → Prop} (h : f54 pn_b pn_o H Q) : HCalls Tryz.prog 54 [.pointer (some ⟨pn_b, pn_o, none⟩)] H Q := hcalls_of (cxOk _ _ _ _ _) Tryz.func54 (Eq.mp (f54.eq pn_b pn_o H Q) h)

/-- (*justiciar tree.node).tree -/
def f55 (pn_b pn_o : Nat) (pcols : Int) (H : Hp) (Q : Value → Hp → Prop) : Prop :=
  newF H 24 [.slice none 0 0, .int .i64 0, .int .i64 0] fun g1 H2 => storeF H2 g1 0 [.slice none 0 0, .int .i64 0, .int .i64 pcols] fun H3 => HCalls Tryz.prog 82 [.pointer (some ⟨pn_b, pn_o, none⟩), .pointer (some ⟨g1, 0,
    none⟩)] H3 fun v4 H5 => ∃ x6 : Int, v4 = .int .i64 x6 ∧ ∃ (A7 : Option Addr) (n7 c7 : Nat), cl H5 g1 0 = some (.slice A7 n7 c7) ∧ ∃ x8 : Int, cl H5 g1 (0 + 1) = some (.int .i64 x8) ∧ ∃ x9 : Int, cl H5 g1 ((0 + 1) + 1)
    = some (.int .i64 x9) ∧ Q (.agg #[.slice A7 n7 c7, .int .i64 x8, .int .i64 x9]) H5
noncomputable def fcx55 : Cx := cx 11 [(4, true)] [] [] []
theorem f55.eq (pn_b pn_o : Nat) (pcols : Int) (H : Hp) (Q : Value → Hp → Prop) : f55 pn_b pn_o pcols H Q = wFun fcx55 Tryz.f55 [.pointer (some ⟨pn_b, pn_o, none⟩), .int .i64 pcols] H Q := by kernel_rfl
theorem f55.ok (pn_b pn_o : Nat) (pcols : Int) {H : Hp} {Q : Value → Hp → Prop} (h : f55 pn_b pn_o pcols H Q) : HCalls Tryz.prog 55 [.pointer (some ⟨pn_b, pn_o, none⟩), .int .i64 pcols] H Q := hcalls_of (cxOk _ _ _ _ _) Tryz.func55 (Eq.mp (f55.eq pn_b pn_o pcols H Q) h)

/-- (*justiciar tree.node).remove -/
def f58 (pn_b pn_o : Nat) (pe_0_A : Option Addr) (pe_0_n pe_0_c : Nat) (pe_1 : Int) (H : Hp) (Q : Value → Hp → Prop) : Prop :=
  HCalls Tryz.prog 78 [.pointer (some ⟨pn_b, pn_o, none⟩), .agg #[.slice pe_0_A pe_0_n pe_0_c, .int .i64 pe_1]] H fun v1 H2 => ∃ x3 : Int, ∃ x4 : Bool, v1 = .tuple #[.int .i64 x3, .bool x4] ∧ jn (fun (j6 : Bool) => cnd j6
    (∃ (A8 : Option Addr) (n8 c8 : Nat), cl H2 pn_b (pn_o + 0) = some (.slice A8 n8 c8) ∧ HCalls Tryz.prog 83 [.slice A8 n8 c8, .int .i64 x3, .int .i64 (IntKind.i64.wrap (x3 + 1))] H2 fun v9 H10 => ∃ (A11 : Option Addr)
    (n11 c11 : Nat), v9 = .slice A11 n11 c11 ∧ storeF H10 pn_b (pn_o + 0) [.slice A11 n11 c11] fun H12 => Q (.tuple #[]) H12) (cnd x4 (∃ (A13 : Option Addr) (n13 c13 : Nat), cl H2 pn_b (pn_o + 1) = some (.slice A13 n13
    c13) ∧ 0 ≤ (IntKind.i64.wrap (x3 + 1) : Int) ∧ (IntKind.i64.wrap (x3 + 1) : Int) < ((n13 : Nat) : Int) ∧ onPtr A13 fun b14 o14 => ∃ p15 : Option Addr, cl H2 b14 (o14 + (IntKind.i64.wrap (x3 + 1) : Int).toNat * 1) =
    some (.pointer p15) ∧ HCalls Tryz.prog 84 [.pointer p15] H2 fun v16 H17 => ∃ (A18 : Option Addr) (n18 c18 : Nat), ∃ x19 : Int, v16 = .agg #[.slice A18 n18 c18, .int .i64 x19] ∧ ∃ (A20 : Option Addr) (n20 c20 : Nat),
    cl H17 pn_b (pn_o + 0) = some (.slice A20 n20 c20) ∧ 0 ≤ (x3 : Int) ∧ (x3 : Int) < ((n20 : Nat) : Int) ∧ onPtr A20 fun b21 o21 => storeF H17 b21 (o21 + (x3 : Int).toNat * 2) [.slice A18 n18 c18, .int .i64 x19] fun H22
    => ∃ (A23 : Option Addr) (n23 c23 : Nat), cl H22 pn_b (pn_o + 1) = some (.slice A23 n23 c23) ∧ 0 ≤ (IntKind.i64.wrap (x3 + 1) : Int) ∧ (IntKind.i64.wrap (x3 + 1) : Int) < ((n23 : Nat) : Int) ∧ onPtr A23 fun b24 o24 =>
    ∃ p25 : Option Addr, cl H22 b24 (o24 + (IntKind.i64.wrap (x3 + 1) : Int).toNat * 1) = some (.pointer p25) ∧ HCalls Tryz.prog 58 [.pointer p25, .agg #[.slice A18 n18 c18, .int .i64 x19]] H22 fun v26 H27 => v26 = .tuple
    #[] ∧ HCalls Tryz.prog 85 [.pointer (some ⟨pn_b, pn_o, none⟩), .int .i64 (IntKind.i64.wrap (x3 + 1))] H27 fun v28 H29 => v28 = .tuple #[] ∧ Q (.tuple #[]) H29) (∃ (A30 : Option Addr) (n30 c30 : Nat), cl H2 pn_b (pn_o
    + 1) = some (.slice A30 n30 c30) ∧ cnd (decide ((((n30 : Nat) : Int) : Int) > 0)) (∃ (A31 : Option Addr) (n31 c31 : Nat), cl H2 pn_b (pn_o + 1) = some (.slice A31 n31 c31) ∧ 0 ≤ (x3 : Int) ∧ (x3 : Int) < ((n31 : Nat)
    : Int) ∧ onPtr A31 fun b32 o32 => ∃ p33 : Option Addr, cl H2 b32 (o32 + (x3 : Int).toNat * 1) = some (.pointer p33) ∧ HCalls Tryz.prog 58 [.pointer p33, .agg #[.slice pe_0_A pe_0_n pe_0_c, .int .i64 pe_1]] H2 fun v34
    H35 => v34 = .tuple #[] ∧ HCalls Tryz.prog 85 [.pointer (some ⟨pn_b, pn_o, none⟩), .int .i64 x3] H35 fun v36 H37 => v36 = .tuple #[] ∧ Q (.tuple #[]) H37) (Q (.tuple #[]) H2)))) fun J7 => ∃ (A5 : Option Addr) (n5 c5 :
    Nat), cl H2 pn_b (pn_o + 1) = some (.slice A5 n5 c5) ∧ cnd ((((n5 : Nat) : Int) : Int) == 0) (J7 x4) (J7 false)
noncomputable def fcx58 : Cx := cx 85 [(3, true), (6, true)] [] [(6, (.look 0 (.look 1 (.look 2 (.look 3 (.look 4 (.look 5 (.look 6 (.act 7 .done .done))))))))), (7, (.look 0 (.look 1 (.look 2 (.look 3 (.look 4 (.look 5 (.look 6 (.look 7 (.look 8 (.act 9 .done .done))))))))))), (10, (.look 0 (.look 1 (.look 2 (.look 3 (.look 4 (.look 5 (.look 6 (.look 7 (.act 8 .done .done))))))))))] []
theorem f58.eq (pn_b pn_o : Nat) (pe_0_A : Option Addr) (pe_0_n pe_0_c : Nat) (pe_1 : Int) (H : Hp) (Q : Value → Hp → Prop) : f58 pn_b pn_o pe_0_A pe_0_n pe_0_c pe_1 H Q = wFun fcx58 Tryz.f58 [.pointer (some ⟨pn_b, pn_o, none⟩), .agg #[.slice pe_0_A pe_0_n pe_0_c, .int .i64 pe_1]] H Q := by kernel_rfl
theorem f58.ok (pn_b pn_o : Nat) (pe_0_A : Option Addr) (pe_0_n pe_0_c : Nat) (pe_1 : Int) {H : Hp} {Q : Value → Hp → Prop} (h : f58 pn_b pn_o pe_0_A pe_0_n pe_0_c pe_1 H Q) : HCalls Tryz.prog 58 [.pointer (some ⟨pn_b, pn_o, none⟩), .agg #[.slice pe_0_A pe_0_n pe_0_c, .int .i64 pe_1]] H Q := hcalls_of (cxOk _ _ _ _ _) Tryz.func58 (Eq.mp (f58.eq pn_b pn_o pe_0_A pe_0_n pe_0_c pe_1 H Q) h)

/-- slices.ContainsFunc[[]justiciar api.Entry,justiciar api.Entry] -/
def f60 (ps_A : Option Addr) (ps_n ps_c : Nat) (pf_f : FuncId) (pf_a pf_c : Array Value) (H : Hp) (Q : Value → Hp → Prop) : Prop :=
  HCalls Tryz.prog 86 [.slice ps_A ps_n ps_c, .func (.func pf_f) pf_a pf_c] H fun v1 H2 => ∃ x3 : Int, v1 = .int .i64 x3 ∧ Q (.bool (decide ((x3 : Int) ≥ 0))) H2
noncomputable def fcx60 : Cx := cx 9 [] [] [] []
theorem f60.eq (ps_A : Option Addr) (ps_n ps_c : Nat) (pf_f : FuncId) (pf_a pf_c : Array Value) (H : Hp) (Q : Value → Hp → Prop) : f60 ps_A ps_n ps_c pf_f pf_a pf_c H Q = wFun fcx60 Tryz.f60 [.slice ps_A ps_n ps_c, .func (.func pf_f) pf_a pf_c] H Q := by kernel_rfl
theorem f60.ok (ps_A : Option Addr) (ps_n ps_c : Nat) (pf_f : FuncId) (pf_a pf_c : Array Value) {H : Hp} {Q : Value → Hp → Prop} (h : f60 ps_A ps_n ps_c pf_f pf_a pf_c H Q) : HCalls Tryz.prog 60 [.slice ps_A ps_n ps_c, .func (.func pf_f) pf_a pf_c] H Q := hcalls_of (cxOk _ _ _ _ _) Tryz.func60 (Eq.mp (f60.eq ps_A ps_n ps_c pf_f pf_a pf_c H Q) h)

/-- justiciar tree.Make$1 -/
def f61 (pe_0_A : Option Addr) (pe_0_n pe_0_c : Nat) (pe_1 : Int) (fra_b fra_o : Nat) (H : Hp) (Q : Value → Hp → Prop) : Prop :=
  ∃ x1 : Int, cl H fra_b fra_o = some (.int .i64 x1) ∧ HCalls Tryz.prog 49 [.agg #[.slice pe_0_A pe_0_n pe_0_c, .int .i64 pe_1], .int .i64 x1] H fun v2 H3 => ∃ x4 : Bool, v2 = .bool x4 ∧ Q (.bool (!x4)) H3
noncomputable def fcx61 : Cx := cx 8 [(2, true)] [] [] []
theorem f61.eq (pe_0_A : Option Addr) (pe_0_n pe_0_c : Nat) (pe_1 : Int) (fra_b fra_o : Nat) (H : Hp) (Q : Value → Hp → Prop) : f61 pe_0_A pe_0_n pe_0_c pe_1 fra_b fra_o H Q = wFun fcx61 Tryz.f61 [.agg #[.slice pe_0_A pe_0_n pe_0_c, .int .i64 pe_1], .pointer (some ⟨fra_b, fra_o, none⟩)] H Q := by kernel_rfl
theorem f61.ok (pe_0_A : Option Addr) (pe_0_n pe_0_c : Nat) (pe_1 : Int) (fra_b fra_o : Nat) {H : Hp} {Q : Value → Hp → Prop} (h : f61 pe_0_A pe_0_n pe_0_c pe_1 fra_b fra_o H Q) : HCalls Tryz.prog 61 [.agg #[.slice pe_0_A pe_0_n pe_0_c, .int .i64 pe_1], .pointer (some ⟨fra_b, fra_o, none⟩)] H Q := hcalls_of (cxOk _ _ _ _ _) Tryz.func61 (Eq.mp (f61.eq pe_0_A pe_0_n pe_0_c pe_1 fra_b fra_o H Q) h)

/-- slices.Clone[[]justiciar api.Entry,justiciar api.Entry] -/
def f62 (ps_A : Option Addr) (ps_n ps_c : Nat) (H : Hp) (Q : Value → Hp → Prop) : Prop :=
  cnd ps_A.isNone (Q (.slice none 0 0) H) (newF H 46 [] fun g1 H2 => appendF H2 46 2 32 (some ⟨g1, 0, none⟩) 0 0 ps_A ps_n fun A3 n3 c3 H4 => Q (.slice A3 n3 c3) H4)
noncomputable def fcx62 : Cx := cx 8 [] [] [] []
theorem f62.eq (ps_A : Option Addr) (ps_n ps_c : Nat) (H : Hp) (Q : Value → Hp → Prop) : f62 ps_A ps_n ps_c H Q = wFun fcx62 Tryz.f62 [.slice ps_A ps_n ps_c] H Q := by kernel_rfl
theorem f62.ok (ps_A : Option Addr) (ps_n ps_c : Nat) {H : Hp} {Q : Value → Hp → Prop} (h : f62 ps_A ps_n ps_c H Q) : HCalls Tryz.prog 62 [.slice ps_A ps_n ps_c] H Q := hcalls_of (cxOk _ _ _ _ _) Tryz.func62 (Eq.mp (f62.eq ps_A ps_n ps_c H Q) h)

/-- (*justiciar tree.node).place -/
def f78 (pn_b pn_o : Nat) (pe_0_A : Option Addr) (pe_0_n pe_0_c : Nat) (pe_1 : Int) (H : Hp) (Q : Value → Hp → Prop) : Prop :=
  ∃ (A1 : Option Addr) (n1 c1 : Nat), cl H pn_b (pn_o + 0) = some (.slice A1 n1 c1) ∧ HCalls Tryz.prog 50 [.slice A1 n1 c1, .agg #[.slice pe_0_A pe_0_n pe_0_c, .int .i64 pe_1], .func (.func 51) #[] #[]] H fun v2 H3 => ∃ x4
    : Int, ∃ x5 : Bool, v2 = .tuple #[.int .i64 x4, .bool x5] ∧ Q (.tuple #[.int .i64 x4, .bool x5]) H3
noncomputable def fcx78 : Cx := cx 14 [(3, true)] [] [(1, (.look 0 (.look 1 (.look 2 (.look 3 (.look 4 (.act 5 (.look 6 (.look 7 (.act 8 (.act 9 .done .done) .done))) .done)))))))] []
theorem f78.eq (pn_b pn_o : Nat) (pe_0_A : Option Addr) (pe_0_n pe_0_c : Nat) (pe_1 : Int) (H : Hp) (Q : Value → Hp → Prop) : f78 pn_b pn_o pe_0_A pe_0_n pe_0_c pe_1 H Q = wFun fcx78 Tryz.f78 [.pointer (some ⟨pn_b, pn_o, none⟩), .agg #[.slice pe_0_A pe_0_n pe_0_c, .int .i64 pe_1]] H Q := by kernel_rfl
theorem f78.ok (pn_b pn_o : Nat) (pe_0_A : Option Addr) (pe_0_n pe_0_c : Nat) (pe_1 : Int) {H : Hp} {Q : Value → Hp → Prop} (h : f78 pn_b pn_o pe_0_A pe_0_n pe_0_c pe_1 H Q) : HCalls Tryz.prog 78 [.pointer (some ⟨pn_b, pn_o, none⟩), .agg #[.slice pe_0_A pe_0_n pe_0_c, .int .i64 pe_1]] H Q := hcalls_of (cxOk _ _ _ _ _) Tryz.func78 (Eq.mp (f78.eq pn_b pn_o pe_0_A pe_0_n pe_0_c pe_1 H Q) h)

/-- slices.Insert[[]justiciar api.Entry,justiciar api.Entry] -/
def f79 (ps_A : Option Addr) (ps_n ps_c : Nat) (pi : Int) (pv_A : Option Addr) (pv_n pv_c : Nat) (H : Hp) (Q : Value → Hp → Prop) : Prop :=
  0 ≤ (pi : Int) ∧ (pi : Int) ≤ ((ps_n : Nat) : Int) ∧ cnd ((((pv_n : Nat) : Int) : Int) == 0) (Q (.slice ps_A ps_n ps_c) H) (cnd ((pi : Int) == ((ps_n : Nat) : Int)) (appendF H 46 2 32 ps_A ps_n ps_c pv_A pv_n fun A1 n1 c1
    H2 => Q (.slice A1 n1 c1) H2) (cnd (decide ((IntKind.i64.wrap (((ps_n : Nat) : Int) + ((pv_n : Nat) : Int)) : Int) > ((ps_c : Nat) : Int))) (0 ≤ (pi : Int) ∧ (pi : Int) ≤ ((ps_c : Nat) : Int) ∧ appendZF H 46 2 32
    [.slice none 0 0, .int .i64 0] (cutA ps_A (0 * 2) (decide (ps_c = 0))) (((pi : Int).toNat) - 0) (ps_c - 0) (IntKind.i64.wrap ((IntKind.i64.wrap (((ps_n : Nat) : Int) + ((pv_n : Nat) : Int))) - pi)) fun A3 n3 c3 H4 =>
    0 ≤ (pi : Int) ∧ (pi : Int) ≤ ((n3 : Nat) : Int) ∧ copyF H4 2 (cutA A3 (((pi : Int).toNat) * 2) (decide (c3 = ((pi : Int).toNat)))) (n3 - ((pi : Int).toNat)) pv_A pv_n fun H5 => 0 ≤ (IntKind.i64.wrap (pi + ((pv_n :
    Nat) : Int)) : Int) ∧ (IntKind.i64.wrap (pi + ((pv_n : Nat) : Int)) : Int) ≤ ((n3 : Nat) : Int) ∧ 0 ≤ (pi : Int) ∧ (pi : Int) ≤ ((ps_n : Nat) : Int) ∧ copyF H5 2 (cutA A3 (((IntKind.i64.wrap (pi + ((pv_n : Nat) :
    Int)) : Int).toNat) * 2) (decide (c3 = ((IntKind.i64.wrap (pi + ((pv_n : Nat) : Int)) : Int).toNat)))) (n3 - ((IntKind.i64.wrap (pi + ((pv_n : Nat) : Int)) : Int).toNat)) (cutA ps_A (((pi : Int).toNat) * 2) (decide
    (ps_c = ((pi : Int).toNat)))) (ps_n - ((pi : Int).toNat)) fun H6 => Q (.slice A3 n3 c3) H6) (0 ≤ (IntKind.i64.wrap (((ps_n : Nat) : Int) + ((pv_n : Nat) : Int)) : Int) ∧ (IntKind.i64.wrap (((ps_n : Nat) : Int) +
    ((pv_n : Nat) : Int)) : Int) ≤ ((ps_c : Nat) : Int) ∧ 0 ≤ (IntKind.i64.wrap (pi + ((pv_n : Nat) : Int)) : Int) ∧ (IntKind.i64.wrap (pi + ((pv_n : Nat) : Int)) : Int) ≤ ((((IntKind.i64.wrap (((ps_n : Nat) : Int) +
    ((pv_n : Nat) : Int)) : Int).toNat) - 0 : Nat) : Int) ∧ apartF H pv_A (cutA (cutA ps_A (0 * 2) (decide (ps_c = 0))) (((IntKind.i64.wrap (pi + ((pv_n : Nat) : Int)) : Int).toNat) * 2) (decide ((ps_c - 0) =
    ((IntKind.i64.wrap (pi + ((pv_n : Nat) : Int)) : Int).toNat)))) (0 ≤ (IntKind.i64.wrap (pi + ((pv_n : Nat) : Int)) : Int) ∧ (IntKind.i64.wrap (pi + ((pv_n : Nat) : Int)) : Int) ≤ ((((IntKind.i64.wrap (((ps_n : Nat) :
    Int) + ((pv_n : Nat) : Int)) : Int).toNat) - 0 : Nat) : Int) ∧ 0 ≤ (pi : Int) ∧ (pi : Int) ≤ ((((IntKind.i64.wrap (((ps_n : Nat) : Int) + ((pv_n : Nat) : Int)) : Int).toNat) - 0 : Nat) : Int) ∧ copyF H 2 (cutA (cutA
    ps_A (0 * 2) (decide (ps_c = 0))) (((IntKind.i64.wrap (pi + ((pv_n : Nat) : Int)) : Int).toNat) * 2) (decide ((ps_c - 0) = ((IntKind.i64.wrap (pi + ((pv_n : Nat) : Int)) : Int).toNat)))) ((((IntKind.i64.wrap (((ps_n :
    Nat) : Int) + ((pv_n : Nat) : Int)) : Int).toNat) - 0) - ((IntKind.i64.wrap (pi + ((pv_n : Nat) : Int)) : Int).toNat)) (cutA (cutA ps_A (0 * 2) (decide (ps_c = 0))) (((pi : Int).toNat) * 2) (decide ((ps_c - 0) = ((pi
    : Int).toNat)))) ((((IntKind.i64.wrap (((ps_n : Nat) : Int) + ((pv_n : Nat) : Int)) : Int).toNat) - 0) - ((pi : Int).toNat)) fun H7 => 0 ≤ (pi : Int) ∧ (pi : Int) ≤ ((((IntKind.i64.wrap (((ps_n : Nat) : Int) + ((pv_n
    : Nat) : Int)) : Int).toNat) - 0 : Nat) : Int) ∧ copyF H7 2 (cutA (cutA ps_A (0 * 2) (decide (ps_c = 0))) (((pi : Int).toNat) * 2) (decide ((ps_c - 0) = ((pi : Int).toNat)))) ((((IntKind.i64.wrap (((ps_n : Nat) : Int)
    + ((pv_n : Nat) : Int)) : Int).toNat) - 0) - ((pi : Int).toNat)) pv_A pv_n fun H8 => Q (.slice (cutA ps_A (0 * 2) (decide (ps_c = 0))) (((IntKind.i64.wrap (((ps_n : Nat) : Int) + ((pv_n : Nat) : Int)) : Int).toNat) -
    0) (ps_c - 0)) H8))))
noncomputable def fcx79 : Cx := cx 95 [] [] [(11, (.look 0 (.look 1 (.look 2 (.look 3 (.look 4 (.look 5 (.look 6 (.look 7 (.act 8 .done .done)))))))))), (15, (.look 0 (.look 1 (.look 2 (.look 3 (.look 4 (.look 5 (.look 6 (.look 7 (.act 8 .done .done))))))))))] []
theorem f79.eq (ps_A : Option Addr) (ps_n ps_c : Nat) (pi : Int) (pv_A : Option Addr) (pv_n pv_c : Nat) (H : Hp) (Q : Value → Hp → Prop) : f79 ps_A ps_n ps_c pi pv_A pv_n pv_c H Q = wFun fcx79 Tryz.f79 [.slice ps_A ps_n ps_c, .int .i64 pi, .slice pv_A pv_n pv_c] H Q := by kernel_rfl
theorem f79.ok (ps_A : Option Addr) (ps_n ps_c : Nat) (pi : Int) (pv_A : Option Addr) (pv_n pv_c : Nat) {H : Hp} {Q : Value → Hp → Prop} (h : f79 ps_A ps_n ps_c pi pv_A pv_n pv_c H Q) : HCalls Tryz.prog 79 [.slice ps_A ps_n ps_c, .int .i64 pi, .slice pv_A pv_n pv_c] H Q := hcalls_of (cxOk _ _ _ _ _) Tryz.func79 (Eq.mp (f79.eq ps_A ps_n ps_c pi pv_A pv_n pv_c H Q) h)

/-- slices.Insert[[]*justiciar tree.node,*justiciar tree.node] -/
def f80 (ps_A : Option Addr) (ps_n ps_c : Nat) (pi : Int) (pv_A : Option Addr) (pv_n pv_c : Nat) (H : Hp) (Q : Value → Hp → Prop) : Prop :=
  0 ≤ (pi : Int) ∧ (pi : Int) ≤ ((ps_n : Nat) : Int) ∧ cnd ((((pv_n : Nat) : Int) : Int) == 0) (Q (.slice ps_A ps_n ps_c) H) (cnd ((pi : Int) == ((ps_n : Nat) : Int)) (appendF H 86 1 8 ps_A ps_n ps_c pv_A pv_n fun A1 n1 c1
    H2 => Q (.slice A1 n1 c1) H2) (cnd (decide ((IntKind.i64.wrap (((ps_n : Nat) : Int) + ((pv_n : Nat) : Int)) : Int) > ((ps_c : Nat) : Int))) (0 ≤ (pi : Int) ∧ (pi : Int) ≤ ((ps_c : Nat) : Int) ∧ appendZF H 86 1 8
    [.pointer none] (cutA ps_A (0 * 1) (decide (ps_c = 0))) (((pi : Int).toNat) - 0) (ps_c - 0) (IntKind.i64.wrap ((IntKind.i64.wrap (((ps_n : Nat) : Int) + ((pv_n : Nat) : Int))) - pi)) fun A3 n3 c3 H4 => 0 ≤ (pi : Int)
    ∧ (pi : Int) ≤ ((n3 : Nat) : Int) ∧ copyF H4 1 (cutA A3 (((pi : Int).toNat) * 1) (decide (c3 = ((pi : Int).toNat)))) (n3 - ((pi : Int).toNat)) pv_A pv_n fun H5 => 0 ≤ (IntKind.i64.wrap (pi + ((pv_n : Nat) : Int)) :
    Int) ∧ (IntKind.i64.wrap (pi + ((pv_n : Nat) : Int)) : Int) ≤ ((n3 : Nat) : Int) ∧ 0 ≤ (pi : Int) ∧ (pi : Int) ≤ ((ps_n : Nat) : Int) ∧ copyF H5 1 (cutA A3 (((IntKind.i64.wrap (pi + ((pv_n : Nat) : Int)) : Int).toNat)
    * 1) (decide (c3 = ((IntKind.i64.wrap (pi + ((pv_n : Nat) : Int)) : Int).toNat)))) (n3 - ((IntKind.i64.wrap (pi + ((pv_n : Nat) : Int)) : Int).toNat)) (cutA ps_A (((pi : Int).toNat) * 1) (decide (ps_c = ((pi :
    Int).toNat)))) (ps_n - ((pi : Int).toNat)) fun H6 => Q (.slice A3 n3 c3) H6) (0 ≤ (IntKind.i64.wrap (((ps_n : Nat) : Int) + ((pv_n : Nat) : Int)) : Int) ∧ (IntKind.i64.wrap (((ps_n : Nat) : Int) + ((pv_n : Nat) :
    Int)) : Int) ≤ ((ps_c : Nat) : Int) ∧ 0 ≤ (IntKind.i64.wrap (pi + ((pv_n : Nat) : Int)) : Int) ∧ (IntKind.i64.wrap (pi + ((pv_n : Nat) : Int)) : Int) ≤ ((((IntKind.i64.wrap (((ps_n : Nat) : Int) + ((pv_n : Nat) :
    Int)) : Int).toNat) - 0 : Nat) : Int) ∧ apartF H pv_A (cutA (cutA ps_A (0 * 1) (decide (ps_c = 0))) (((IntKind.i64.wrap (pi + ((pv_n : Nat) : Int)) : Int).toNat) * 1) (decide ((ps_c - 0) = ((IntKind.i64.wrap (pi +
    ((pv_n : Nat) : Int)) : Int).toNat)))) (0 ≤ (IntKind.i64.wrap (pi + ((pv_n : Nat) : Int)) : Int) ∧ (IntKind.i64.wrap (pi + ((pv_n : Nat) : Int)) : Int) ≤ ((((IntKind.i64.wrap (((ps_n : Nat) : Int) + ((pv_n : Nat) :
    Int)) : Int).toNat) - 0 : Nat) : Int) ∧ 0 ≤ (pi : Int) ∧ (pi : Int) ≤ ((((IntKind.i64.wrap (((ps_n : Nat) : Int) + ((pv_n : Nat) : Int)) : Int).toNat) - 0 : Nat) : Int) ∧ copyF H 1 (cutA (cutA ps_A (0 * 1) (decide
    (ps_c = 0))) (((IntKind.i64.wrap (pi + ((pv_n : Nat) : Int)) : Int).toNat) * 1) (decide ((ps_c - 0) = ((IntKind.i64.wrap (pi + ((pv_n : Nat) : Int)) : Int).toNat)))) ((((IntKind.i64.wrap (((ps_n : Nat) : Int) + ((pv_n
    : Nat) : Int)) : Int).toNat) - 0) - ((IntKind.i64.wrap (pi + ((pv_n : Nat) : Int)) : Int).toNat)) (cutA (cutA ps_A (0 * 1) (decide (ps_c = 0))) (((pi : Int).toNat) * 1) (decide ((ps_c - 0) = ((pi : Int).toNat))))
    ((((IntKind.i64.wrap (((ps_n : Nat) : Int) + ((pv_n : Nat) : Int)) : Int).toNat) - 0) - ((pi : Int).toNat)) fun H7 => 0 ≤ (pi : Int) ∧ (pi : Int) ≤ ((((IntKind.i64.wrap (((ps_n : Nat) : Int) + ((pv_n : Nat) : Int)) :
    Int).toNat) - 0 : Nat) : Int) ∧ copyF H7 1 (cutA (cutA ps_A (0 * 1) (decide (ps_c = 0))) (((pi : Int).toNat) * 1) (decide ((ps_c - 0) = ((pi : Int).toNat)))) ((((IntKind.i64.wrap (((ps_n : Nat) : Int) + ((pv_n : Nat)
    : Int)) : Int).toNat) - 0) - ((pi : Int).toNat)) pv_A pv_n fun H8 => Q (.slice (cutA ps_A (0 * 1) (decide (ps_c = 0))) (((IntKind.i64.wrap (((ps_n : Nat) : Int) + ((pv_n : Nat) : Int)) : Int).toNat) - 0) (ps_c - 0))
    H8))))
noncomputable def fcx80 : Cx := cx 95 [] [] [(11, (.look 0 (.look 1 (.look 2 (.look 3 (.look 4 (.look 5 (.look 6 (.look 7 (.act 8 .done .done)))))))))), (15, (.look 0 (.look 1 (.look 2 (.look 3 (.look 4 (.look 5 (.look 6 (.look 7 (.act 8 .done .done))))))))))] []
theorem f80.eq (ps_A : Option Addr) (ps_n ps_c : Nat) (pi : Int) (pv_A : Option Addr) (pv_n pv_c : Nat) (H : Hp) (Q : Value → Hp → Prop) : f80 ps_A ps_n ps_c pi pv_A pv_n pv_c H Q = wFun fcx80 Tryz.f80 [.slice ps_A ps_n ps_c, .int .i64 pi, .slice pv_A pv_n pv_c] H Q := by kernel_rfl
theorem f80.ok (ps_A : Option Addr) (ps_n ps_c : Nat) (pi : Int) (pv_A : Option Addr) (pv_n pv_c : Nat) {H : Hp} {Q : Value → Hp → Prop} (h : f80 ps_A ps_n ps_c pi pv_A pv_n pv_c H Q) : HCalls Tryz.prog 80 [.slice ps_A ps_n ps_c, .int .i64 pi, .slice pv_A pv_n pv_c] H Q := hcalls_of (cxOk _ _ _ _ _) Tryz.func80 (Eq.mp (f80.eq ps_A ps_n ps_c pi pv_A pv_n pv_c H Q) h)

/-- slices.Clone[[]*justiciar tree.node,*justiciar tree.node] -/
def f81 (ps_A : Option Addr) (ps_n ps_c : Nat) (H : Hp) (Q : Value → Hp → Prop) : Prop :=
  cnd ps_A.isNone (Q (.slice none 0 0) H) (newF H 86 [] fun g1 H2 => appendF H2 86 1 8 (some ⟨g1, 0, none⟩) 0 0 ps_A ps_n fun A3 n3 c3 H4 => Q (.slice A3 n3 c3) H4)
noncomputable def fcx81 : Cx := cx 8 [] [] [] []
theorem f81.eq (ps_A : Option Addr) (ps_n ps_c : Nat) (H : Hp) (Q : Value → Hp → Prop) : f81 ps_A ps_n ps_c H Q = wFun fcx81 Tryz.f81 [.slice ps_A ps_n ps_c] H Q := by kernel_rfl
theorem f81.ok (ps_A : Option Addr) (ps_n ps_c : Nat) {H : Hp} {Q : Value → Hp → Prop} (h : f81 ps_A ps_n ps_c H Q) : HCalls Tryz.prog 81 [.slice ps_A ps_n ps_c] H Q := hcalls_of (cxOk _ _ _ _ _) Tryz.func81 (Eq.mp (f81.eq ps_A ps_n ps_c H Q) h)

/-- (*justiciar tree.node).flat -/
def f82 (pn_b pn_o : Nat) (pt_b pt_o : Nat) (H : Hp) (Q : Value → Hp → Prop) : Prop :=
  ∃ (A1 : Option Addr) (n1 c1 : Nat), cl H pt_b (pt_o + 0) = some (.slice A1 n1 c1) ∧ ∃ (A2 : Option Addr) (n2 c2 : Nat), cl H pt_b (pt_o + 0) = some (.slice A2 n2 c2) ∧ newF H 60 [.slice none 0 0, .slice none 0 0] fun g3
    H4 => appendF H4 60 2 48 A2 n2 c2 (some ⟨g3, 0, none⟩) 1 fun A5 n5 c5 H6 => storeF H6 pt_b (pt_o + 0) [.slice A5 n5 c5] fun H7 => ∃ (A8 : Option Addr) (n8 c8 : Nat), cl H7 pn_b (pn_o + 0) = some (.slice A8 n8 c8) ∧ ∃
    (A9 : Option Addr) (n9 c9 : Nat), cl H7 pn_b (pn_o + 1) = some (.slice A9 n9 c9) ∧ LoopF (σ := (Int × Unit) × (((Option Addr × Nat × Nat) × ((Option Addr × Nat × Nat) × Unit)) × Unit)) ((0, ()), (((A8, n8, c8),
    ((none, 0, 0), ())), ())) H7 fun s10 H11 next12 => cnd (decide ((s10.1.1 : Int) < ((n9 : Nat) : Int))) (0 ≤ (s10.1.1 : Int) ∧ (s10.1.1 : Int) < ((n9 : Nat) : Int) ∧ onPtr A9 fun b13 o13 => ∃ p14 : Option Addr, cl H11
    b13 (o13 + (s10.1.1 : Int).toNat * 1) = some (.pointer p14) ∧ HCalls Tryz.prog 82 [.pointer p14, .pointer (some ⟨pt_b, pt_o, none⟩)] H11 fun v15 H16 => ∃ x17 : Int, v15 = .int .i64 x17 ∧ newF H16 3 [.int .i64 x17] fun
    g18 H19 => appendF H19 3 1 8 s10.2.1.2.1.1 s10.2.1.2.1.2.1 s10.2.1.2.1.2.2 (some ⟨g18, 0, none⟩) 1 fun A20 n20 c20 H21 => KeepX [some (.v (.pointer (some ⟨pt_b, pt_o, none⟩))), some (.v (.int .i64 ((n1 : Nat) :
    Int))), some (.loc 6 0), some (.v (.slice A9 n9 c9)), some (.v (.int .i64 ((n9 : Nat) : Int)))] [] ∧ next12 ((IntKind.i64.wrap (s10.1.1 + 1), ()), (((s10.2.1.1.1, s10.2.1.1.2.1, s10.2.1.1.2.2), ((A20, n20, c20), ())),
    ())) H21) (∃ (A22 : Option Addr) (n22 c22 : Nat), cl H11 pt_b (pt_o + 0) = some (.slice A22 n22 c22) ∧ 0 ≤ (((n1 : Nat) : Int) : Int) ∧ (((n1 : Nat) : Int) : Int) < ((n22 : Nat) : Int) ∧ onPtr A22 fun b23 o23 =>
    storeF H11 b23 (o23 + (((n1 : Nat) : Int) : Int).toNat * 2) [.slice s10.2.1.1.1 s10.2.1.1.2.1 s10.2.1.1.2.2, .slice s10.2.1.2.1.1 s10.2.1.2.1.2.1 s10.2.1.2.1.2.2] fun H24 => Q (.int .i64 ((n1 : Nat) : Int)) H24)
noncomputable def fcx82 : Cx := cx 55 [(6, true)] [(5, ⟨[1, 5, 6, 32, 33], [], [(34, .int .i64)], [(6, [.slice, .slice])]⟩)] [(7, (.look 0 (.look 1 (.look 2 (.look 3 (.act 4 (.act 5 (.act 6 (.look 7 (.act 8 .done .done)) .done) .done) .done)))))), (9, (.look 0 (.look 1 (.look 2 (.look 3 (.look 4 (.look 5 (.look 6 (.act 7 .done .done)))))))))] []
theorem f82.eq (pn_b pn_o : Nat) (pt_b pt_o : Nat) (H : Hp) (Q : Value → Hp → Prop) : f82 pn_b pn_o pt_b pt_o H Q = wFun fcx82 Tryz.f82 [.pointer (some ⟨pn_b, pn_o, none⟩), .pointer (some ⟨pt_b, pt_o, none⟩)] H Q := by kernel_rfl
theorem f82.ok (pn_b pn_o : Nat) (pt_b pt_o : Nat) {H : Hp} {Q : Value → Hp → Prop} (h : f82 pn_b pn_o pt_b pt_o H Q) : HCalls Tryz.prog 82 [.pointer (some ⟨pn_b, pn_o, none⟩), .pointer (some ⟨pt_b, pt_o, none⟩)] H Q := hcalls_of (cxOk _ _ _ _ _) Tryz.func82 (Eq.mp (f82.eq pn_b pn_o pt_b pt_o H Q) h)

/-- slices.Delete[[]justiciar api.Entry,justiciar api.Entry] -/
def f83 (ps_A : Option Addr) (ps_n ps_c : Nat) (pi : Int) (pj : Int) (H : Hp) (Q : Value → Hp → Prop) : Prop :=
  0 ≤ (((ps_n : Nat) : Int) : Int) ∧ (((ps_n : Nat) : Int) : Int) ≤ ((ps_c : Nat) : Int) ∧ 0 ≤ (pj : Int) ∧ (pj : Int) ≤ (((ps_n : Nat) : Int) : Int) ∧ 0 ≤ (pi : Int) ∧ (pi : Int) ≤ (pj : Int) ∧ cnd ((pi : Int) == pj) (Q
    (.slice ps_A ps_n ps_c) H) (0 ≤ (pi : Int) ∧ (pi : Int) ≤ ((ps_c : Nat) : Int) ∧ 0 ≤ (pj : Int) ∧ (pj : Int) ≤ ((ps_n : Nat) : Int) ∧ appendF H 46 2 32 (cutA ps_A (0 * 2) (decide (ps_c = 0))) (((pi : Int).toNat) - 0)
    (ps_c - 0) (cutA ps_A (((pj : Int).toNat) * 2) (decide (ps_c = ((pj : Int).toNat)))) (ps_n - ((pj : Int).toNat)) fun A1 n1 c1 H2 => jn (fun (H5 : Hp) => Q (.slice A1 n1 c1) H5) fun J6 => 0 ≤ (((ps_n : Nat) : Int) :
    Int) ∧ (((ps_n : Nat) : Int) : Int) ≤ ((c1 : Nat) : Int) ∧ 0 ≤ (((n1 : Nat) : Int) : Int) ∧ (((n1 : Nat) : Int) : Int) ≤ (((ps_n : Nat) : Int) : Int) ∧ (((((ps_n : Nat) : Int) : Int).toNat) - ((((n1 : Nat) : Int) :
    Int).toNat) = 0 → J6 H2) ∧ (0 < ((((ps_n : Nat) : Int) : Int).toNat) - ((((n1 : Nat) : Int) : Int).toNat) → onPtr (cutA A1 (((((n1 : Nat) : Int) : Int).toNat) * 2) (decide (c1 = ((((n1 : Nat) : Int) : Int).toNat))))
    fun b3 o3 => storeF H2 b3 o3 (List.replicate (((((ps_n : Nat) : Int) : Int).toNat) - ((((n1 : Nat) : Int) : Int).toNat)) [.slice none 0 0, .int .i64 0]).flatten fun H4 => J6 H4))
noncomputable def fcx83 : Cx := cx 33 [] [] [(5, (.look 0 (.look 1 (.look 2 (.look 3 (.look 4 (.look 5 (.act 6 (.act 7 .done .done) .done))))))))] []
theorem f83.eq (ps_A : Option Addr) (ps_n ps_c : Nat) (pi : Int) (pj : Int) (H : Hp) (Q : Value → Hp → Prop) : f83 ps_A ps_n ps_c pi pj H Q = wFun fcx83 Tryz.f83 [.slice ps_A ps_n ps_c, .int .i64 pi, .int .i64 pj] H Q := by kernel_rfl
theorem f83.ok (ps_A : Option Addr) (ps_n ps_c : Nat) (pi : Int) (pj : Int) {H : Hp} {Q : Value → Hp → Prop} (h : f83 ps_A ps_n ps_c pi pj H Q) : HCalls Tryz.prog 83 [.slice ps_A ps_n ps_c, .int .i64 pi, .int .i64 pj] H Q := hcalls_of (cxOk _ _ _ _ _) Tryz.func83 (Eq.mp (f83.eq ps_A ps_n ps_c pi pj H Q) h)

/-- (*justiciar tree.node).first -/
def f84 (pn_b pn_o : Nat) (H : Hp) (Q : Value → Hp → Prop) : Prop :=
  ∃ (A1 : Option Addr) (n1 c1 : Nat), cl H pn_b (pn_o + 1) = some (.slice A1 n1 c1) ∧ cnd (decide ((((n1 : Nat) : Int) : Int) > 0)) (∃ (A2 : Option Addr) (n2 c2 : Nat), cl H pn_b (pn_o + 1) = some (.slice A2 n2 c2) ∧ 0 ≤ (0
    : Int) ∧ (0 : Int) < ((n2 : Nat) : Int) ∧ onPtr A2 fun b3 o3 => ∃ p4 : Option Addr, cl H b3 (o3 + (0 : Int).toNat * 1) = some (.pointer p4) ∧ HCalls Tryz.prog 84 [.pointer p4] H fun v5 H6 => ∃ (A7 : Option Addr) (n7
    c7 : Nat), ∃ x8 : Int, v5 = .agg #[.slice A7 n7 c7, .int .i64 x8] ∧ Q (.agg #[.slice A7 n7 c7, .int .i64 x8]) H6) (∃ (A9 : Option Addr) (n9 c9 : Nat), cl H pn_b (pn_o + 0) = some (.slice A9 n9 c9) ∧ 0 ≤ (0 : Int) ∧ (0
    : Int) < ((n9 : Nat) : Int) ∧ onPtr A9 fun b10 o10 => ∃ (A11 : Option Addr) (n11 c11 : Nat), cl H b10 (o10 + (0 : Int).toNat * 2) = some (.slice A11 n11 c11) ∧ ∃ x12 : Int, cl H b10 ((o10 + (0 : Int).toNat * 2) + 1) =
    some (.int .i64 x12) ∧ Q (.agg #[.slice A11 n11 c11, .int .i64 x12]) H)
noncomputable def fcx84 : Cx := cx 22 [(2, true)] [] [] []
theorem f84.eq (pn_b pn_o : Nat) (H : Hp) (Q : Value → Hp → Prop) : f84 pn_b pn_o H Q = wFun fcx84 Tryz.f84 [.pointer (some ⟨pn_b, pn_o, none⟩)] H Q := by kernel_rfl
theorem f84.ok (pn_b pn_o : Nat) {H : Hp} {Q : Value → Hp → Prop} (h : f84 pn_b pn_o H Q) : HCalls Tryz.prog 84 [.pointer (some ⟨pn_b, pn_o, none⟩)] H Q := hcalls_of (cxOk _ _ _ _ _) Tryz.func84 (Eq.mp (f84.eq pn_b pn_o H Q) h)

/-- (*justiciar tree.node).mend -/
def f85 (pn_b pn_o : Nat) (pi : Int) (H : Hp) (Q : Value → Hp → Prop) : Prop :=
  ∃ (A1 : Option Addr) (n1 c1 : Nat), cl H pn_b (pn_o + 1) = some (.slice A1 n1 c1) ∧ 0 ≤ (pi : Int) ∧ (pi : Int) < ((n1 : Nat) : Int) ∧ onPtr A1 fun b2 o2 => ∃ p3 : Option Addr, cl H b2 (o2 + (pi : Int).toNat * 1) = some
    (.pointer p3) ∧ onPtr p3 fun b4 o4 => ∃ (A5 : Option Addr) (n5 c5 : Nat), cl H b4 (o4 + 0) = some (.slice A5 n5 c5) ∧ cnd (decide ((((n5 : Nat) : Int) : Int) ≥ 3)) (Q (.tuple #[]) H) (jn (fun (j11 : Bool) => cnd j11
    (HCalls Tryz.prog 103 [.pointer (some ⟨pn_b, pn_o, none⟩), .int .i64 pi] H fun v13 H14 => v13 = .tuple #[] ∧ Q (.tuple #[]) H14) (jn (fun (j21 : Bool) => cnd j21 (HCalls Tryz.prog 104 [.pointer (some ⟨pn_b, pn_o,
    none⟩), .int .i64 pi] H fun v23 H24 => v23 = .tuple #[] ∧ Q (.tuple #[]) H24) (HCalls Tryz.prog 105 [.pointer (some ⟨pn_b, pn_o, none⟩), .int .i64 (if (0 : Int) > (IntKind.i64.wrap (pi - 1)) then 0 else
    IntKind.i64.wrap (pi - 1))] H fun v25 H26 => v25 = .tuple #[] ∧ Q (.tuple #[]) H26)) fun J22 => ∃ (A15 : Option Addr) (n15 c15 : Nat), cl H pn_b (pn_o + 1) = some (.slice A15 n15 c15) ∧ cnd (decide ((IntKind.i64.wrap
    (pi + 1) : Int) < ((n15 : Nat) : Int))) (∃ (A16 : Option Addr) (n16 c16 : Nat), cl H pn_b (pn_o + 1) = some (.slice A16 n16 c16) ∧ 0 ≤ (IntKind.i64.wrap (pi + 1) : Int) ∧ (IntKind.i64.wrap (pi + 1) : Int) < ((n16 :
    Nat) : Int) ∧ onPtr A16 fun b17 o17 => ∃ p18 : Option Addr, cl H b17 (o17 + (IntKind.i64.wrap (pi + 1) : Int).toNat * 1) = some (.pointer p18) ∧ onPtr p18 fun b19 o19 => ∃ (A20 : Option Addr) (n20 c20 : Nat), cl H b19
    (o19 + 0) = some (.slice A20 n20 c20) ∧ J22 (decide ((((n20 : Nat) : Int) : Int) > 3))) (J22 false))) fun J12 => cnd (decide ((pi : Int) > 0)) (∃ (A6 : Option Addr) (n6 c6 : Nat), cl H pn_b (pn_o + 1) = some (.slice
    A6 n6 c6) ∧ 0 ≤ (IntKind.i64.wrap (pi - 1) : Int) ∧ (IntKind.i64.wrap (pi - 1) : Int) < ((n6 : Nat) : Int) ∧ onPtr A6 fun b7 o7 => ∃ p8 : Option Addr, cl H b7 (o7 + (IntKind.i64.wrap (pi - 1) : Int).toNat * 1) = some
    (.pointer p8) ∧ onPtr p8 fun b9 o9 => ∃ (A10 : Option Addr) (n10 c10 : Nat), cl H b9 (o9 + 0) = some (.slice A10 n10 c10) ∧ J12 (decide ((((n10 : Nat) : Int) : Int) > 3))) (J12 false))
noncomputable def fcx85 : Cx := cx 69 [] [] [] []
theorem f85.eq (pn_b pn_o : Nat) (pi : Int) (H : Hp) (Q : Value → Hp → Prop) : f85 pn_b pn_o pi H Q = wFun fcx85 Tryz.f85 [.pointer (some ⟨pn_b, pn_o, none⟩), .int .i64 pi] H Q := by kernel_rfl
theorem f85.ok (pn_b pn_o : Nat) (pi : Int) {H : Hp} {Q : Value → Hp → Prop} (h : f85 pn_b pn_o pi H Q) : HCalls Tryz.prog 85 [.pointer (some ⟨pn_b, pn_o, none⟩), .int .i64 pi] H Q := hcalls_of (cxOk _ _ _ _ _) Tryz.func85 (Eq.mp (f85.eq pn_b pn_o pi H Q) h)

/-- slices.IndexFunc[[]justiciar api.Entry,justiciar api.Entry] -/
def f86 (ps_A : Option Addr) (ps_n ps_c : Nat) (pf_f : FuncId) (pf_a pf_c : Array Value) (H : Hp) (Q : Value → Hp → Prop) : Prop :=
  LoopF (σ := (Int × Unit) × Unit) ((0, ()), ()) H fun s1 H2 next3 => cnd (decide ((s1.1.1 : Int) < ((ps_n : Nat) : Int))) (0 ≤ (s1.1.1 : Int) ∧ (s1.1.1 : Int) < ((ps_n : Nat) : Int) ∧ onPtr ps_A fun b4 o4 => ∃ (A5 : Option
    Addr) (n5 c5 : Nat), cl H2 b4 (o4 + (s1.1.1 : Int).toNat * 2) = some (.slice A5 n5 c5) ∧ ∃ x6 : Int, cl H2 b4 ((o4 + (s1.1.1 : Int).toNat * 2) + 1) = some (.int .i64 x6) ∧ FnOk Tryz.prog pf_f ∧ HCalls Tryz.prog pf_f
    (pf_a.toList ++ [.agg #[.slice A5 n5 c5, .int .i64 x6]] ++ pf_c.toList) H2 fun v7 H8 => ∃ x9 : Bool, v7 = .bool x9 ∧ cnd x9 (Q (.int .i64 s1.1.1) H8) (KeepX [some (.v (.slice ps_A ps_n ps_c)), some (.v (.func (.func
    pf_f) pf_a pf_c)), some (.v (.int .i64 ((ps_n : Nat) : Int)))] [] ∧ next3 ((IntKind.i64.wrap (s1.1.1 + 1), ()), ()) H8)) (Q (.int .i64 (-1)) H2)
noncomputable def fcx86 : Cx := cx 19 [] [(2, ⟨[0, 1, 7], [], [(8, .int .i64)], []⟩)] [] []
theorem f86.eq (ps_A : Option Addr) (ps_n ps_c : Nat) (pf_f : FuncId) (pf_a pf_c : Array Value) (H : Hp) (Q : Value → Hp → Prop) : f86 ps_A ps_n ps_c pf_f pf_a pf_c H Q = wFun fcx86 Tryz.f86 [.slice ps_A ps_n ps_c, .func (.func pf_f) pf_a pf_c] H Q := by kernel_rfl
theorem f86.ok (ps_A : Option Addr) (ps_n ps_c : Nat) (pf_f : FuncId) (pf_a pf_c : Array Value) {H : Hp} {Q : Value → Hp → Prop} (h : f86 ps_A ps_n ps_c pf_f pf_a pf_c H Q) : HCalls Tryz.prog 86 [.slice ps_A ps_n ps_c, .func (.func pf_f) pf_a pf_c] H Q := hcalls_of (cxOk _ _ _ _ _) Tryz.func86 (Eq.mp (f86.eq ps_A ps_n ps_c pf_f pf_a pf_c H Q) h)

/-- (*justiciar tree.node).fromLeft -/
def f103 (pn_b pn_o : Nat) (pi : Int) (H : Hp) (Q : Value → Hp → Prop) : Prop :=
  ∃ (A1 : Option Addr) (n1 c1 : Nat), cl H pn_b (pn_o + 1) = some (.slice A1 n1 c1) ∧ 0 ≤ (IntKind.i64.wrap (pi - 1) : Int) ∧ (IntKind.i64.wrap (pi - 1) : Int) < ((n1 : Nat) : Int) ∧ onPtr A1 fun b2 o2 => ∃ p3 : Option
    Addr, cl H b2 (o2 + (IntKind.i64.wrap (pi - 1) : Int).toNat * 1) = some (.pointer p3) ∧ ∃ (A4 : Option Addr) (n4 c4 : Nat), cl H pn_b (pn_o + 1) = some (.slice A4 n4 c4) ∧ 0 ≤ (pi : Int) ∧ (pi : Int) < ((n4 : Nat) :
    Int) ∧ onPtr A4 fun b5 o5 => ∃ p6 : Option Addr, cl H b5 (o5 + (pi : Int).toNat * 1) = some (.pointer p6) ∧ onPtr p3 fun b7 o7 => ∃ (A8 : Option Addr) (n8 c8 : Nat), cl H b7 (o7 + 0) = some (.slice A8 n8 c8) ∧ onPtr
    p6 fun b9 o9 => ∃ (A10 : Option Addr) (n10 c10 : Nat), cl H b9 (o9 + 0) = some (.slice A10 n10 c10) ∧ ∃ (A11 : Option Addr) (n11 c11 : Nat), cl H pn_b (pn_o + 0) = some (.slice A11 n11 c11) ∧ 0 ≤ (IntKind.i64.wrap (pi
    - 1) : Int) ∧ (IntKind.i64.wrap (pi - 1) : Int) < ((n11 : Nat) : Int) ∧ onPtr A11 fun b12 o12 => ∃ (A13 : Option Addr) (n13 c13 : Nat), cl H b12 (o12 + (IntKind.i64.wrap (pi - 1) : Int).toNat * 2) = some (.slice A13
    n13 c13) ∧ ∃ x14 : Int, cl H b12 ((o12 + (IntKind.i64.wrap (pi - 1) : Int).toNat * 2) + 1) = some (.int .i64 x14) ∧ newF H 46 [.slice A13 n13 c13, .int .i64 x14] fun g15 H16 => HCalls Tryz.prog 79 [.slice A10 n10 c10,
    .int .i64 0, .slice (some ⟨g15, 0, none⟩) 1 1] H16 fun v17 H18 => ∃ (A19 : Option Addr) (n19 c19 : Nat), v17 = .slice A19 n19 c19 ∧ onPtr p6 fun b20 o20 => storeF H18 b20 (o20 + 0) [.slice A19 n19 c19] fun H21 => ∃
    (A22 : Option Addr) (n22 c22 : Nat), cl H21 pn_b (pn_o + 0) = some (.slice A22 n22 c22) ∧ onPtr p3 fun b23 o23 => ∃ (A24 : Option Addr) (n24 c24 : Nat), cl H21 b23 (o23 + 0) = some (.slice A24 n24 c24) ∧ 0 ≤
    (IntKind.i64.wrap (((n8 : Nat) : Int) - 1) : Int) ∧ (IntKind.i64.wrap (((n8 : Nat) : Int) - 1) : Int) < ((n24 : Nat) : Int) ∧ onPtr A24 fun b25 o25 => ∃ (A26 : Option Addr) (n26 c26 : Nat), cl H21 b25 (o25 +
    (IntKind.i64.wrap (((n8 : Nat) : Int) - 1) : Int).toNat * 2) = some (.slice A26 n26 c26) ∧ ∃ x27 : Int, cl H21 b25 ((o25 + (IntKind.i64.wrap (((n8 : Nat) : Int) - 1) : Int).toNat * 2) + 1) = some (.int .i64 x27) ∧ 0 ≤
    (IntKind.i64.wrap (pi - 1) : Int) ∧ (IntKind.i64.wrap (pi - 1) : Int) < ((n22 : Nat) : Int) ∧ onPtr A22 fun b28 o28 => storeF H21 b28 (o28 + (IntKind.i64.wrap (pi - 1) : Int).toNat * 2) [.slice A26 n26 c26, .int .i64
    x27] fun H29 => onPtr p3 fun b30 o30 => ∃ (A31 : Option Addr) (n31 c31 : Nat), cl H29 b30 (o30 + 0) = some (.slice A31 n31 c31) ∧ 0 ≤ (IntKind.i64.wrap (((n8 : Nat) : Int) - 1) : Int) ∧ (IntKind.i64.wrap (((n8 : Nat)
    : Int) - 1) : Int) ≤ ((c31 : Nat) : Int) ∧ onPtr p3 fun b32 o32 => storeF H29 b32 (o32 + 0) [.slice (cutA A31 (0 * 2) (decide (c31 = 0))) (((IntKind.i64.wrap (((n8 : Nat) : Int) - 1) : Int).toNat) - 0) (c31 - 0)] fun
    H33 => onPtr p3 fun b34 o34 => ∃ (A35 : Option Addr) (n35 c35 : Nat), cl H33 b34 (o34 + 1) = some (.slice A35 n35 c35) ∧ cnd (decide ((((n35 : Nat) : Int) : Int) > 0)) (onPtr p6 fun b36 o36 => ∃ (A37 : Option Addr)
    (n37 c37 : Nat), cl H33 b36 (o36 + 1) = some (.slice A37 n37 c37) ∧ onPtr p3 fun b38 o38 => ∃ (A39 : Option Addr) (n39 c39 : Nat), cl H33 b38 (o38 + 1) = some (.slice A39 n39 c39) ∧ 0 ≤ (IntKind.i64.wrap
    ((IntKind.i64.wrap (((n8 : Nat) : Int) - 1)) + 1) : Int) ∧ (IntKind.i64.wrap ((IntKind.i64.wrap (((n8 : Nat) : Int) - 1)) + 1) : Int) < ((n39 : Nat) : Int) ∧ onPtr A39 fun b40 o40 => ∃ p41 : Option Addr, cl H33 b40
    (o40 + (IntKind.i64.wrap ((IntKind.i64.wrap (((n8 : Nat) : Int) - 1)) + 1) : Int).toNat * 1) = some (.pointer p41) ∧ newF H33 86 [.pointer p41] fun g42 H43 => HCalls Tryz.prog 80 [.slice A37 n37 c37, .int .i64 0,
    .slice (some ⟨g42, 0, none⟩) 1 1] H43 fun v44 H45 => ∃ (A46 : Option Addr) (n46 c46 : Nat), v44 = .slice A46 n46 c46 ∧ onPtr p6 fun b47 o47 => storeF H45 b47 (o47 + 1) [.slice A46 n46 c46] fun H48 => onPtr p3 fun b49
    o49 => ∃ (A50 : Option Addr) (n50 c50 : Nat), cl H48 b49 (o49 + 1) = some (.slice A50 n50 c50) ∧ 0 ≤ (IntKind.i64.wrap ((IntKind.i64.wrap (((n8 : Nat) : Int) - 1)) + 1) : Int) ∧ (IntKind.i64.wrap ((IntKind.i64.wrap
    (((n8 : Nat) : Int) - 1)) + 1) : Int) ≤ ((c50 : Nat) : Int) ∧ onPtr p3 fun b51 o51 => storeF H48 b51 (o51 + 1) [.slice (cutA A50 (0 * 1) (decide (c50 = 0))) (((IntKind.i64.wrap ((IntKind.i64.wrap (((n8 : Nat) : Int) -
    1)) + 1) : Int).toNat) - 0) (c50 - 0)] fun H52 => Q (.tuple #[]) H52) (Q (.tuple #[]) H33)
noncomputable def fcx103 : Cx := cx 101 [] [] [(0, (.look 0 (.look 1 (.look 2 (.look 3 (.look 4 (.look 5 (.look 6 (.look 7 (.look 8 (.look 9 (.look 10 (.look 11 (.look 12 (.look 13 (.look 14 (.act 15 (.act 16 .done .done) .done))))))))))))))))), (2, (.look 0 (.look 1 (.look 2 (.look 3 (.look 4 (.look 5 (.look 6 (.look 7 (.look 8 (.look 9 (.look 10 (.look 11 (.look 12 (.act 13 (.act 14 (.look 15 (.look 16 (.act 17 .done .done))) .done) .done))))))))))))))), (3, (.look 0 (.look 1 (.look 2 (.look 3 (.look 4 (.look 5 (.look 6 (.look 7 (.look 8 (.look 9 (.look 10 (.look 11 (.look 12 (.look 13 (.act 14 .done .done)))))))))))))))), (6, (.look 0 (.look 1 (.look 2 (.look 3 (.look 4 (.look 5 (.look 6 (.look 7 (.look 8 (.look 9 (.look 10 (.look 11 (.look 12 (.act 13 (.act 14 (.look 15 (.look 16 (.act 17 .done .done))) .done) .done)))))))))))))))] []
theorem f103.eq (pn_b pn_o : Nat) (pi : Int) (H : Hp) (Q : Value → Hp → Prop) : f103 pn_b pn_o pi H Q = wFun fcx103 Tryz.f103 [.pointer (some ⟨pn_b, pn_o, none⟩), .int .i64 pi] H Q := by kernel_rfl
theorem f103.ok (pn_b pn_o : Nat) (pi : Int) {H : Hp} {Q : Value → Hp → Prop} (h : f103 pn_b pn_o pi H Q) : HCalls Tryz.prog 103 [.pointer (some ⟨pn_b, pn_o, none⟩), .int .i64 pi] H Q := hcalls_of (cxOk _ _ _ _ _) Tryz.func103 (Eq.mp (f103.eq pn_b pn_o pi H Q) h)

/-- (*justiciar tree.node).fromRight -/
def f104 (pn_b pn_o : Nat) (pi : Int) (H : Hp) (Q : Value → Hp → Prop) : Prop :=
  ∃ (A1 : Option Addr) (n1 c1 : Nat), cl H pn_b (pn_o + 1) = some (.slice A1 n1 c1) ∧ 0 ≤ (pi : Int) ∧ (pi : Int) < ((n1 : Nat) : Int) ∧ onPtr A1 fun b2 o2 => ∃ p3 : Option Addr, cl H b2 (o2 + (pi : Int).toNat * 1) = some
    (.pointer p3) ∧ ∃ (A4 : Option Addr) (n4 c4 : Nat), cl H pn_b (pn_o + 1) = some (.slice A4 n4 c4) ∧ 0 ≤ (IntKind.i64.wrap (pi + 1) : Int) ∧ (IntKind.i64.wrap (pi + 1) : Int) < ((n4 : Nat) : Int) ∧ onPtr A4 fun b5 o5
    => ∃ p6 : Option Addr, cl H b5 (o5 + (IntKind.i64.wrap (pi + 1) : Int).toNat * 1) = some (.pointer p6) ∧ onPtr p3 fun b7 o7 => ∃ (A8 : Option Addr) (n8 c8 : Nat), cl H b7 (o7 + 0) = some (.slice A8 n8 c8) ∧ ∃ (A9 :
    Option Addr) (n9 c9 : Nat), cl H pn_b (pn_o + 0) = some (.slice A9 n9 c9) ∧ 0 ≤ (pi : Int) ∧ (pi : Int) < ((n9 : Nat) : Int) ∧ onPtr A9 fun b10 o10 => ∃ (A11 : Option Addr) (n11 c11 : Nat), cl H b10 (o10 + (pi :
    Int).toNat * 2) = some (.slice A11 n11 c11) ∧ ∃ x12 : Int, cl H b10 ((o10 + (pi : Int).toNat * 2) + 1) = some (.int .i64 x12) ∧ newF H 46 [.slice A11 n11 c11, .int .i64 x12] fun g13 H14 => appendF H14 46 2 32 A8 n8 c8
    (some ⟨g13, 0, none⟩) 1 fun A15 n15 c15 H16 => onPtr p3 fun b17 o17 => storeF H16 b17 (o17 + 0) [.slice A15 n15 c15] fun H18 => ∃ (A19 : Option Addr) (n19 c19 : Nat), cl H18 pn_b (pn_o + 0) = some (.slice A19 n19 c19)
    ∧ onPtr p6 fun b20 o20 => ∃ (A21 : Option Addr) (n21 c21 : Nat), cl H18 b20 (o20 + 0) = some (.slice A21 n21 c21) ∧ 0 ≤ (0 : Int) ∧ (0 : Int) < ((n21 : Nat) : Int) ∧ onPtr A21 fun b22 o22 => ∃ (A23 : Option Addr) (n23
    c23 : Nat), cl H18 b22 (o22 + (0 : Int).toNat * 2) = some (.slice A23 n23 c23) ∧ ∃ x24 : Int, cl H18 b22 ((o22 + (0 : Int).toNat * 2) + 1) = some (.int .i64 x24) ∧ 0 ≤ (pi : Int) ∧ (pi : Int) < ((n19 : Nat) : Int) ∧
    onPtr A19 fun b25 o25 => storeF H18 b25 (o25 + (pi : Int).toNat * 2) [.slice A23 n23 c23, .int .i64 x24] fun H26 => onPtr p6 fun b27 o27 => ∃ (A28 : Option Addr) (n28 c28 : Nat), cl H26 b27 (o27 + 0) = some (.slice
    A28 n28 c28) ∧ 0 ≤ (1 : Int) ∧ (1 : Int) ≤ ((n28 : Nat) : Int) ∧ onPtr p6 fun b29 o29 => storeF H26 b29 (o29 + 0) [.slice (cutA A28 (((1 : Int).toNat) * 2) (decide (c28 = ((1 : Int).toNat)))) (n28 - ((1 : Int).toNat))
    (c28 - ((1 : Int).toNat))] fun H30 => onPtr p6 fun b31 o31 => ∃ (A32 : Option Addr) (n32 c32 : Nat), cl H30 b31 (o31 + 1) = some (.slice A32 n32 c32) ∧ cnd (decide ((((n32 : Nat) : Int) : Int) > 0)) (onPtr p3 fun b33
    o33 => ∃ (A34 : Option Addr) (n34 c34 : Nat), cl H30 b33 (o33 + 1) = some (.slice A34 n34 c34) ∧ onPtr p6 fun b35 o35 => ∃ (A36 : Option Addr) (n36 c36 : Nat), cl H30 b35 (o35 + 1) = some (.slice A36 n36 c36) ∧ 0 ≤ (0
    : Int) ∧ (0 : Int) < ((n36 : Nat) : Int) ∧ onPtr A36 fun b37 o37 => ∃ p38 : Option Addr, cl H30 b37 (o37 + (0 : Int).toNat * 1) = some (.pointer p38) ∧ newF H30 86 [.pointer p38] fun g39 H40 => appendF H40 86 1 8 A34
    n34 c34 (some ⟨g39, 0, none⟩) 1 fun A41 n41 c41 H42 => onPtr p3 fun b43 o43 => storeF H42 b43 (o43 + 1) [.slice A41 n41 c41] fun H44 => onPtr p6 fun b45 o45 => ∃ (A46 : Option Addr) (n46 c46 : Nat), cl H44 b45 (o45 +
    1) = some (.slice A46 n46 c46) ∧ 0 ≤ (1 : Int) ∧ (1 : Int) ≤ ((n46 : Nat) : Int) ∧ onPtr p6 fun b47 o47 => storeF H44 b47 (o47 + 1) [.slice (cutA A46 (((1 : Int).toNat) * 1) (decide (c46 = ((1 : Int).toNat)))) (n46 -
    ((1 : Int).toNat)) (c46 - ((1 : Int).toNat))] fun H48 => Q (.tuple #[]) H48) (Q (.tuple #[]) H30)
noncomputable def fcx104 : Cx := cx 86 [] [] [(0, (.look 0 (.look 1 (.look 2 (.look 3 (.look 4 (.look 5 (.look 6 (.look 7 (.look 8 (.look 9 (.look 10 (.look 11 (.look 12 (.look 13 (.look 14 (.act 15 (.act 16 .done .done) .done))))))))))))))))), (1, (.look 0 (.look 1 (.look 2 (.look 3 (.look 4 (.look 5 (.look 6 (.look 7 (.look 8 (.look 9 (.look 10 (.look 11 (.act 12 (.act 13 (.look 14 (.look 15 (.act 16 .done .done))) .done) .done)))))))))))))), (2, (.look 0 (.look 1 (.look 2 (.look 3 (.look 4 (.look 5 (.look 6 (.look 7 (.look 8 (.look 9 (.look 10 (.look 11 (.act 12 .done .done)))))))))))))), (5, (.look 0 (.look 1 (.look 2 (.look 3 (.look 4 (.look 5 (.look 6 (.look 7 (.look 8 (.look 9 (.look 10 (.act 11 (.act 12 (.look 13 (.look 14 (.act 15 .done .done))) .done) .done)))))))))))))] []
theorem f104.eq (pn_b pn_o : Nat) (pi : Int) (H : Hp) (Q : Value → Hp → Prop) : f104 pn_b pn_o pi H Q = wFun fcx104 Tryz.f104 [.pointer (some ⟨pn_b, pn_o, none⟩), .int .i64 pi] H Q := by kernel_rfl
theorem f104.ok (pn_b pn_o : Nat) (pi : Int) {H : Hp} {Q : Value → Hp → Prop} (h : f104 pn_b pn_o pi H Q) : HCalls Tryz.prog 104 [.pointer (some ⟨pn_b, pn_o, none⟩), .int .i64 pi] H Q := hcalls_of (cxOk _ _ _ _ _) Tryz.func104 (Eq.mp (f104.eq pn_b pn_o pi H Q) h)

/-- (*justiciar tree.node).merge -/
def f105 (pn_b pn_o : Nat) (pi : Int) (H : Hp) (Q : Value → Hp → Prop) : Prop :=
  ∃ (A1 : Option Addr) (n1 c1 : Nat), cl H pn_b (pn_o + 1) = some (.slice A1 n1 c1) ∧ 0 ≤ (pi : Int) ∧ (pi : Int) < ((n1 : Nat) : Int) ∧ onPtr A1 fun b2 o2 => ∃ p3 : Option Addr, cl H b2 (o2 + (pi : Int).toNat * 1) = some
    (.pointer p3) ∧ ∃ (A4 : Option Addr) (n4 c4 : Nat), cl H pn_b (pn_o + 1) = some (.slice A4 n4 c4) ∧ 0 ≤ (IntKind.i64.wrap (pi + 1) : Int) ∧ (IntKind.i64.wrap (pi + 1) : Int) < ((n4 : Nat) : Int) ∧ onPtr A4 fun b5 o5
    => ∃ p6 : Option Addr, cl H b5 (o5 + (IntKind.i64.wrap (pi + 1) : Int).toNat * 1) = some (.pointer p6) ∧ onPtr p3 fun b7 o7 => ∃ (A8 : Option Addr) (n8 c8 : Nat), cl H b7 (o7 + 0) = some (.slice A8 n8 c8) ∧ ∃ (A9 :
    Option Addr) (n9 c9 : Nat), cl H pn_b (pn_o + 0) = some (.slice A9 n9 c9) ∧ 0 ≤ (IntKind.i64.wrap (pi + 1) : Int) ∧ (IntKind.i64.wrap (pi + 1) : Int) ≤ ((c9 : Nat) : Int) ∧ 0 ≤ (pi : Int) ∧ (pi : Int) ≤
    (IntKind.i64.wrap (pi + 1) : Int) ∧ onPtr p6 fun b10 o10 => ∃ (A11 : Option Addr) (n11 c11 : Nat), cl H b10 (o10 + 0) = some (.slice A11 n11 c11) ∧ newF H 28 [.slice A8 n8 c8, .slice (cutA A9 (((pi : Int).toNat) * 2)
    (decide (c9 = ((pi : Int).toNat)))) (((IntKind.i64.wrap (pi + 1) : Int).toNat) - ((pi : Int).toNat)) (c9 - ((pi : Int).toNat)), .slice A11 n11 c11] fun g12 H13 => HCalls Tryz.prog 124 [.slice (some ⟨g12, 0, none⟩) 3
    3] H13 fun v14 H15 => ∃ (A16 : Option Addr) (n16 c16 : Nat), v14 = .slice A16 n16 c16 ∧ onPtr p3 fun b17 o17 => storeF H15 b17 (o17 + 0) [.slice A16 n16 c16] fun H18 => onPtr p3 fun b19 o19 => ∃ (A20 : Option Addr)
    (n20 c20 : Nat), cl H18 b19 (o19 + 1) = some (.slice A20 n20 c20) ∧ onPtr p6 fun b21 o21 => ∃ (A22 : Option Addr) (n22 c22 : Nat), cl H18 b21 (o21 + 1) = some (.slice A22 n22 c22) ∧ appendF H18 86 1 8 A20 n20 c20 A22
    n22 fun A23 n23 c23 H24 => onPtr p3 fun b25 o25 => storeF H24 b25 (o25 + 1) [.slice A23 n23 c23] fun H26 => ∃ (A27 : Option Addr) (n27 c27 : Nat), cl H26 pn_b (pn_o + 0) = some (.slice A27 n27 c27) ∧ HCalls Tryz.prog
    83 [.slice A27 n27 c27, .int .i64 pi, .int .i64 (IntKind.i64.wrap (pi + 1))] H26 fun v28 H29 => ∃ (A30 : Option Addr) (n30 c30 : Nat), v28 = .slice A30 n30 c30 ∧ storeF H29 pn_b (pn_o + 0) [.slice A30 n30 c30] fun H31
    => ∃ (A32 : Option Addr) (n32 c32 : Nat), cl H31 pn_b (pn_o + 1) = some (.slice A32 n32 c32) ∧ HCalls Tryz.prog 125 [.slice A32 n32 c32, .int .i64 (IntKind.i64.wrap (pi + 1)), .int .i64 (IntKind.i64.wrap (pi + 2))]
    H31 fun v33 H34 => ∃ (A35 : Option Addr) (n35 c35 : Nat), v33 = .slice A35 n35 c35 ∧ storeF H34 pn_b (pn_o + 1) [.slice A35 n35 c35] fun H36 => Q (.tuple #[]) H36
noncomputable def fcx105 : Cx := cx 77 [] [] [(0, (.look 0 (.look 1 (.look 2 (.look 3 (.look 4 (.look 5 (.look 6 (.look 7 (.look 8 (.look 9 (.look 10 (.look 11 (.look 12 (.look 13 (.look 14 (.act 15 (.act 16 .done .done) .done))))))))))))))))), (1, (.look 0 (.look 1 (.look 2 (.look 3 (.look 4 (.look 5 (.look 6 (.look 7 (.look 8 (.look 9 (.look 10 (.look 11 (.look 12 (.look 13 (.look 14 (.look 15 (.look 16 (.act 17 (.act 18 (.look 19 (.look 20 (.act 21 .done .done))) .done) .done))))))))))))))))))), (2, (.look 0 (.look 1 (.look 2 (.look 3 (.look 4 (.look 5 (.look 6 (.look 7 (.look 8 (.act 9 (.look 10 (.look 11 (.act 12 .done .done))) .done)))))))))))] []
theorem f105.eq (pn_b pn_o : Nat) (pi : Int) (H : Hp) (Q : Value → Hp → Prop) : f105 pn_b pn_o pi H Q = wFun fcx105 Tryz.f105 [.pointer (some ⟨pn_b, pn_o, none⟩), .int .i64 pi] H Q := by kernel_rfl
theorem f105.ok (pn_b pn_o : Nat) (pi : Int) {H : Hp} {Q : Value → Hp → Prop} (h : f105 pn_b pn_o pi H Q) : HCalls Tryz.prog 105 [.pointer (some ⟨pn_b, pn_o, none⟩), .int .i64 pi] H Q := hcalls_of (cxOk _ _ _ _ _) Tryz.func105 (Eq.mp (f105.eq pn_b pn_o pi H Q) h)

/-- slices.Delete[[]*justiciar tree.node,*justiciar tree.node] -/
def f125 (ps_A : Option Addr) (ps_n ps_c : Nat) (pi : Int) (pj : Int) (H : Hp) (Q : Value → Hp → Prop) : Prop :=
  0 ≤ (((ps_n : Nat) : Int) : Int) ∧ (((ps_n : Nat) : Int) : Int) ≤ ((ps_c : Nat) : Int) ∧ 0 ≤ (pj : Int) ∧ (pj : Int) ≤ (((ps_n : Nat) : Int) : Int) ∧ 0 ≤ (pi : Int) ∧ (pi : Int) ≤ (pj : Int) ∧ cnd ((pi : Int) == pj) (Q
    (.slice ps_A ps_n ps_c) H) (0 ≤ (pi : Int) ∧ (pi : Int) ≤ ((ps_c : Nat) : Int) ∧ 0 ≤ (pj : Int) ∧ (pj : Int) ≤ ((ps_n : Nat) : Int) ∧ appendF H 86 1 8 (cutA ps_A (0 * 1) (decide (ps_c = 0))) (((pi : Int).toNat) - 0)
    (ps_c - 0) (cutA ps_A (((pj : Int).toNat) * 1) (decide (ps_c = ((pj : Int).toNat)))) (ps_n - ((pj : Int).toNat)) fun A1 n1 c1 H2 => jn (fun (H5 : Hp) => Q (.slice A1 n1 c1) H5) fun J6 => 0 ≤ (((ps_n : Nat) : Int) :
    Int) ∧ (((ps_n : Nat) : Int) : Int) ≤ ((c1 : Nat) : Int) ∧ 0 ≤ (((n1 : Nat) : Int) : Int) ∧ (((n1 : Nat) : Int) : Int) ≤ (((ps_n : Nat) : Int) : Int) ∧ (((((ps_n : Nat) : Int) : Int).toNat) - ((((n1 : Nat) : Int) :
    Int).toNat) = 0 → J6 H2) ∧ (0 < ((((ps_n : Nat) : Int) : Int).toNat) - ((((n1 : Nat) : Int) : Int).toNat) → onPtr (cutA A1 (((((n1 : Nat) : Int) : Int).toNat) * 1) (decide (c1 = ((((n1 : Nat) : Int) : Int).toNat))))
    fun b3 o3 => storeF H2 b3 o3 (List.replicate (((((ps_n : Nat) : Int) : Int).toNat) - ((((n1 : Nat) : Int) : Int).toNat)) [.pointer none]).flatten fun H4 => J6 H4))
noncomputable def fcx125 : Cx := cx 33 [] [] [(5, (.look 0 (.look 1 (.look 2 (.look 3 (.look 4 (.look 5 (.act 6 (.act 7 .done .done) .done))))))))] []
theorem f125.eq (ps_A : Option Addr) (ps_n ps_c : Nat) (pi : Int) (pj : Int) (H : Hp) (Q : Value → Hp → Prop) : f125 ps_A ps_n ps_c pi pj H Q = wFun fcx125 Tryz.f125 [.slice ps_A ps_n ps_c, .int .i64 pi, .int .i64 pj] H Q := by kernel_rfl
theorem f125.ok (ps_A : Option Addr) (ps_n ps_c : Nat) (pi : Int) (pj : Int) {H : Hp} {Q : Value → Hp → Prop} (h : f125 ps_A ps_n ps_c pi pj H Q) : HCalls Tryz.prog 125 [.slice ps_A ps_n ps_c, .int .i64 pi, .int .i64 pj] H Q := hcalls_of (cxOk _ _ _ _ _) Tryz.func125 (Eq.mp (f125.eq ps_A ps_n ps_c pi pj H Q) h)

end Go.Proofs.YtmelbipidffmpaaGreatDoor.Hw

/- Rows that lie anywhere in a block of their own: append, insert, delete, clone. -/
set_option linter.unusedVariables false
set_option linter.unusedSimpArgs false
set_option linter.unusedSectionVars false
set_option maxRecDepth 20000
namespace Go.Proofs.YtmelbipidffmpaaGreatDoor.Hw
open Go Go.Proofs
theorem setR_get {l vs : List Value} {o j : Nat} (h : o ≤ l.length) : (setR l o vs)[j]? = if j < o then l[j]? else if j < o + vs.length then vs[j - o]? else l[j]? := by
  unfold setR
  rw [List.append_assoc]
  by_cases h1 : j < o
  · rw [if_pos h1, List.getElem?_append_left (by rw [List.length_take]; omega), List.getElem?_take_of_lt h1]
  · rw [if_neg h1, List.getElem?_append_right (by rw [List.length_take]; omega), List.length_take, show min o l.length = o by omega]
    by_cases h2 : j < o + vs.length
    · rw [if_pos h2, List.getElem?_append_left (by omega)]
    · rw [if_neg h2, List.getElem?_append_right (by omega), List.getElem?_drop]
      congr 1; omega
theorem setR_len {l vs : List Value} {o : Nat} (h : o ≤ l.length) : (setR l o vs).length = max l.length (o + vs.length) := by
  unfold setR
  simp
  omega
structure RowO (H : Hp) (A : Option Addr) (n c k : Nat) (vals : List Value) : Prop where
  len : vals.length = n * k
  le : n ≤ c
  at' : (A = none ∧ c = 0) ∨ ∃ (b o : Nat) (cs : List Value) (ty : Nat), A = some ⟨b, o, none⟩ ∧ H b = some (.cells cs.toArray ty (0, 0)) ∧ o + c * k ≤ cs.length ∧ ∀ (j : Nat) (v : Value), vals[j]? = some v → cs[o + j]? = some v
/-- What an operation on a row touches. -/
structure FrO (H H' : Hp) (A A' : Option Addr) : Prop where
  ch : ∀ q, H' q ≠ H q → rowB A q ∨ H q = none
  nw : ∀ q, rowB A' q → rowB A q ∨ H q = none
  al : ∀ q, H q ≠ none → H' q ≠ none
theorem FrO.refl {H : Hp} {A : Option Addr} : FrO H H A A := ⟨fun q h => absurd rfl h, fun q h => .inl h, fun q h => h⟩
theorem FrO.ext {X H H' : Hp} {A A' : Option Addr} (F : FrO H H' A A') (hx : Ext X H) (hA : ∀ q, rowB A q → X q = none) : Ext X H' := fun q o hq => by
  have h1 := hx q o hq
  by_cases e : H' q = H q
  · rw [e]; exact h1
  · rcases F.ch q e with h | h
    · rw [hA q h] at hq; cases hq
    · rw [h] at h1; cases h1
theorem FrO.trans {H H1 H2 : Hp} {A A1 A2 : Option Addr} (F : FrO H H1 A A1) (G : FrO H1 H2 A1 A2) : FrO H H2 A A2 := ⟨fun q hq => by
  by_cases e : H1 q = H q
  · by_cases e2 : H2 q = H1 q
    · exact absurd (e2.trans e) hq
    · rcases G.ch q e2 with h | h
      · exact F.nw q h
      · exact .inr (by rw [← e]; exact h)
  · exact F.ch q e, fun q hq => by
  rcases G.nw q hq with h | h
  · exact F.nw q h
  · by_cases e : H1 q = H q
    · exact .inr (by rw [← e]; exact h)
    · rcases F.ch q e with h' | h'
      · exact .inl h'
      · exact .inr h', fun q hq => G.al q (F.al q hq)⟩
section
variable {H H' : Hp} {A B : Option Addr} {n c k m : Nat} {vals new : List Value}
theorem RowO.cells (R : RowO H A n c k vals) : cellsAt H A vals := by
  rcases R.at' with ⟨_, h⟩ | ⟨b, o, cs, ty, hA, hb, _, hv⟩
  · left
    have := R.len
    have := R.le
    have h0 : n = 0 := by omega
    rw [h0] at this
    exact List.eq_nil_of_length_eq_zero (by have := R.len; rw [h0] at this; simpa using this)
  · exact .inr ⟨b, o, hA, fun j v hj => by rw [cl_cells hb]; exact hv j v hj⟩
theorem RowO.nil : RowO H none 0 0 k [] := ⟨by simp, Nat.le_refl _, .inl ⟨rfl, rfl⟩⟩
theorem RowO.keep (R : RowO H A n c k vals) (hk : ∀ q, rowB A q → H q ≠ none → H' q = H q) : RowO H' A n c k vals := by
  refine ⟨R.len, R.le, ?_⟩
  rcases R.at' with h | ⟨b, o, cs, ty, hA, hb, h1, h2⟩
  · exact .inl h
  · exact .inr ⟨b, o, cs, ty, hA, (hk b ⟨o, none, hA⟩ (by rw [hb]; simp)).trans hb, h1, h2⟩
theorem RowO.live (R : RowO H A n c k vals) {q : Nat} (hq : rowB A q) : H q ≠ none := by
  rcases R.at' with ⟨h, _⟩ | ⟨b, o, cs, ty, hA, hb, _, _⟩
  · obtain ⟨_, _, e⟩ := hq; rw [h] at e; cases e
  · obtain ⟨_, _, e⟩ := hq; rw [hA] at e; cases e; rw [hb]; simp
theorem RowO.ext (R : RowO H A n c k vals) (hx : Ext H H') : RowO H' A n c k vals := R.keep fun q _ hn => ext_at hx hn
theorem RowO.take (R : RowO H A n c k vals) {p : Nat} (hp : p ≤ n) : RowO H A p c k (vals.take (p * k)) := by
  have h1 : p * k ≤ n * k := Nat.mul_le_mul_right _ hp
  refine ⟨by rw [List.length_take, R.len]; omega, by have := R.le; omega, ?_⟩
  rcases R.at' with h | ⟨b, o, cs, ty, hA, hb, h2, h3⟩
  · exact .inl h
  · refine .inr ⟨b, o, cs, ty, hA, hb, h2, fun j v hj => h3 j v ?_⟩
    rw [List.getElem?_take] at hj
    split at hj
    · exact hj
    · cases hj
theorem add_mk' {b o k : Nat} : (⟨b, o, none⟩ : Addr).add k = ⟨b, o + k, none⟩ := by
  unfold Addr.add
  by_cases hk : k = 0
  · subst hk; rfl
  · simp [hk]
theorem RowO.drop (R : RowO H A n c k vals) {p : Nat} (hp : p ≤ n) (hc : p < c) : RowO H (cutA A (p * k) (decide (c = p))) (n - p) (c - p) k (vals.drop (p * k)) := by
  rw [decide_eq_false (by omega)]
  refine ⟨by rw [List.length_drop, R.len, Nat.sub_mul], by have := R.le; omega, ?_⟩
  rcases R.at' with ⟨_, h⟩ | ⟨b, o, cs, ty, hA, hb, h2, h3⟩
  · omega
  · refine .inr ⟨b, o + p * k, cs, ty, ?_, hb, ?_, fun j v hj => ?_⟩
    · rw [hA]; unfold cutA; rw [Option.map_some, add_mk']
    · have : p * k + (c - p) * k = c * k := by rw [← Nat.add_mul]; congr 1; omega
      omega
    · rw [List.getElem?_drop] at hj
      have := h3 _ v hj
      rw [← this]; congr 1; omega
theorem rowB_cut {p : Nat} {s : Bool} {q : Nat} : rowB (cutA A p s) q ↔ rowB A q := by
  unfold cutA
  cases s with
  | true => exact Iff.rfl
  | false =>
    unfold rowB
    cases A with
    | none => simp
    | some a =>
      simp only [Option.map_some, Option.some.injEq]
      constructor
      · rintro ⟨o, z, h⟩
        have hb : a.block = q := by have := congrArg Addr.block h; unfold Addr.add at this; split at this <;> simpa using this
        exact ⟨a.off, a.spot, by rw [← hb]⟩
      · rintro ⟨o, z, rfl⟩
        unfold Addr.add
        split <;> exact ⟨_, _, rfl⟩
/-- Values are written into a row. -/
theorem RowO.store (R : RowO H A n c k vals) {p n' : Nat} {K : Hp → Prop} (hl : new.length = m * k) (h0 : p ≤ n) (hpm : p + m ≤ c) (hm : 0 < m) (hn' : n' = max n (p + m))
    (hk : ∀ H', RowO H' A n' c k (setR vals (p * k) new) → FrO H H' A A → K H') : onPtr A fun b o => storeF H b (o + p * k) new K := by
  rcases R.at' with ⟨_, h⟩ | ⟨b, o, cs, ty, hA, hb, h2, h3⟩
  · omega
  subst hA
  have hle : (p + m) * k ≤ c * k := Nat.mul_le_mul_right _ hpm
  rw [Nat.add_mul] at hle
  have hp : p * k ≤ n * k := Nat.mul_le_mul_right _ h0
  have hfit : o + p * k + new.length ≤ cs.length := by omega
  refine onPtrI ⟨cs, ty, hb, hfit, hk _ ⟨?_, by have := R.le; omega, .inr ⟨b, o, _, ty, rfl, upd_at, by rw [setR_length hfit]; exact h2, fun j v hj => ?_⟩⟩ ⟨fun q hq => .inl ?_, fun q hq => .inl hq, fun q hq => ?_⟩⟩
  · rw [setR_len (by rw [R.len]; exact hp), R.len, hl, ← Nat.add_mul, hn']
    rcases Nat.le_total n (p + m) with h | h
    · have := Nat.mul_le_mul_right k h
      rw [Nat.max_eq_right this, Nat.max_eq_right h]
    · have := Nat.mul_le_mul_right k h
      rw [Nat.max_eq_left this, Nat.max_eq_left h]
  · rw [setR_get (by rw [R.len]; exact hp)] at hj
    rw [setR_get (by omega)]
    by_cases e1 : j < p * k
    · rw [if_pos e1] at hj; rw [if_pos (by omega)]; exact h3 j v hj
    · rw [if_neg e1] at hj; rw [if_neg (by omega)]
      by_cases e2 : j < p * k + new.length
      · rw [if_pos e2] at hj; rw [if_pos (by omega)]; rw [← hj]; congr 1; omega
      · rw [if_neg e2] at hj; rw [if_neg (by omega)]; exact h3 j v hj
  · by_cases e : q = b
    · subst e; exact ⟨_, _, rfl⟩
    · exact absurd (upd_off e) hq
  · by_cases e : q = b
    · subst e; rw [upd_at]; simp
    · rw [upd_off e]; exact hq
theorem RowO.append {el eby : Nat} {K : Option Addr → Nat → Nat → Hp → Prop} (R : RowO H A n c k vals) (hnew : cellsAt H B new) (hl : new.length = m * k) (ho : ∀ v ∈ new, v.oneCell' = true) (hs : n + m < big) (he : eby ≤ 100)
    (hk : ∀ A' c' H', RowO H' A' (n + m) c' k (vals ++ new) → FrO H H' A A' → (n + m ≤ c → A' = A ∧ c' = c) → K A' (n + m) c' H') : appendF H el k eby A n c B m K := by
  have hmul : (n + m) * eby ≤ 140737488355328 := by
    have : (n + m) * eby ≤ (n + m) * 100 := Nat.mul_le_mul_left _ he
    unfold big at hs; omega
  unfold big at hs
  refine ⟨.inl hmul, by omega, new, hl, hnew, ho, fun hc => ⟨fun h0 => ?_, fun hpos => ?_⟩, fun hc => ⟨vals, R.len, R.cells, fun b cap rest hb hcap hcl hrl => ?_⟩⟩
  · subst h0
    have : new = [] := List.eq_nil_of_length_eq_zero (by simpa using hl)
    subst this
    exact hk A c H (by simpa using R) FrO.refl fun _ => ⟨rfl, rfl⟩
  · rcases R.at' with ⟨_, h⟩ | ⟨b, o, cs, ty, hA, hb, h2, h3⟩
    · omega
    · have hst := R.store (p := n) (n' := n + m) (new := new) (K := fun H' => K A (n + m) c H') hl (Nat.le_refl _) hc hpos (by omega) fun H' R' F => hk A c H' (by
        have e : setR vals (n * k) new = vals ++ new := by
          unfold setR
          rw [← R.len, List.take_length, List.drop_of_length_le (by omega), List.append_nil]
        rw [e] at R'; exact R') F fun _ => ⟨rfl, rfl⟩
      subst hA
      obtain ⟨cs', ty', g1, g2, g3⟩ := hst
      rw [hb] at g1
      have hcl : (n + m) * k ≤ c * k := Nat.mul_le_mul_right _ hc
      have e1 : cs'.toArray = cs.toArray ∧ ty' = ty := by
        injection g1 with g1
        injection g1 with a1 a2 a3
        exact ⟨a1.symm, a2.symm⟩
      obtain ⟨e1, rfl⟩ := e1
      have e1 : cs' = cs := by have := congrArg Array.toList e1; simpa using this
      subst e1
      exact ⟨b, o, cs', ty', rfl, hb, by omega, g3⟩
  · refine hk _ cap _ ?_ ?_ fun h => absurd h (by omega)
    rotate_left
    · exact ⟨fun q hq => .inr (by
        by_cases e : q = b
        · subst e; exact hb
        · exact absurd (upd_off e) hq), fun q ⟨o, z, h⟩ => .inr (by cases h; exact hb), fun q hq => by
        by_cases e : q = b
        · subst e; exact absurd hb hq
        · rw [upd_off e]; exact hq⟩
    refine ⟨by rw [List.length_append, R.len, hl, Nat.add_mul], hcap, .inr ⟨b, 0, vals ++ new ++ rest, el, rfl, upd_at, ?_, fun j v hj => ?_⟩⟩
    · have h4 : cap * k = (n + m) * k + (cap - (n + m)) * k := by rw [← Nat.add_mul]; congr 1; omega
      have h5 : (n + m) * k = n * k + m * k := Nat.add_mul _ _ _
      rw [List.length_append, List.length_append, R.len, hl, hrl]; omega
    · rw [Nat.zero_add, List.getElem?_append_left (List.getElem?_eq_some_iff.1 hj).1]; exact hj
end
end Go.Proofs.YtmelbipidffmpaaGreatDoor.Hw

/- slices.Insert, slices.Delete, slices.Clone on rows. -/
set_option linter.unusedVariables false
set_option linter.unusedSimpArgs false
set_option linter.unusedSectionVars false
set_option maxRecDepth 20000
namespace Go.Proofs.YtmelbipidffmpaaGreatDoor.Hw
open Go Go.Proofs
def insG (ty k eby : Nat) (zs : List Value) (A : Option Addr) (n c : Nat) (i : Int) (B : Option Addr) (m : Nat) (H : Hp) (Q : Value → Hp → Prop) : Prop :=
  0 ≤ (i : Int) ∧ (i : Int) ≤ ((n : Nat) : Int) ∧ cnd ((((m : Nat) : Int) : Int) == 0) (Q (.slice A n c) H) (cnd ((i : Int) == ((n : Nat) : Int)) (appendF H ty k eby A n c B m fun A1 n1 c1 H2 => Q (.slice A1 n1 c1) H2) (cnd (decide ((IntKind.i64.wrap (((n : Nat) : Int) + ((m : Nat) : Int)) : Int) > ((c : Nat) : Int))) (0 ≤ (i : Int) ∧ (i : Int) ≤ ((c : Nat) : Int) ∧ appendZF H ty k eby zs (cutA A (0 * k) (decide (c = 0))) (((i : Int).toNat) - 0) (c - 0) (IntKind.i64.wrap ((IntKind.i64.wrap (((n : Nat) : Int) + ((m : Nat) : Int))) - i)) fun A3 n3 c3 H4 => 0 ≤ (i : Int) ∧ (i : Int) ≤ ((n3 : Nat) : Int) ∧ copyF H4 k (cutA A3 (((i : Int).toNat) * k) (decide (c3 = ((i : Int).toNat)))) (n3 - ((i : Int).toNat)) B m fun H5 => 0 ≤ (IntKind.i64.wrap (i + ((m : Nat) : Int)) : Int) ∧ (IntKind.i64.wrap (i + ((m : Nat) : Int)) : Int) ≤ ((n3 : Nat) : Int) ∧ 0 ≤ (i : Int) ∧ (i : Int) ≤ ((n : Nat) : Int) ∧ copyF H5 k (cutA A3 (((IntKind.i64.wrap (i + ((m : Nat) : Int)) : Int).toNat) * k) (decide (c3 = ((IntKind.i64.wrap (i + ((m : Nat) : Int)) : Int).toNat)))) (n3 - ((IntKind.i64.wrap (i + ((m : Nat) : Int)) : Int).toNat)) (cutA A (((i : Int).toNat) * k) (decide (c = ((i : Int).toNat)))) (n - ((i : Int).toNat)) fun H6 => Q (.slice A3 n3 c3) H6) (0 ≤ (IntKind.i64.wrap (((n : Nat) : Int) + ((m : Nat) : Int)) : Int) ∧ (IntKind.i64.wrap (((n : Nat) : Int) + ((m : Nat) : Int)) : Int) ≤ ((c : Nat) : Int) ∧ 0 ≤ (IntKind.i64.wrap (i + ((m : Nat) : Int)) : Int) ∧ (IntKind.i64.wrap (i + ((m : Nat) : Int)) : Int) ≤ ((((IntKind.i64.wrap (((n : Nat) : Int) + ((m : Nat) : Int)) : Int).toNat) - 0 : Nat) : Int) ∧ apartF H B (cutA (cutA A (0 * k) (decide (c = 0))) (((IntKind.i64.wrap (i + ((m : Nat) : Int)) : Int).toNat) * k) (decide ((c - 0) = ((IntKind.i64.wrap (i + ((m : Nat) : Int)) : Int).toNat)))) (0 ≤ (IntKind.i64.wrap (i + ((m : Nat) : Int)) : Int) ∧ (IntKind.i64.wrap (i + ((m : Nat) : Int)) : Int) ≤ ((((IntKind.i64.wrap (((n : Nat) : Int) + ((m : Nat) : Int)) : Int).toNat) - 0 : Nat) : Int) ∧ 0 ≤ (i : Int) ∧ (i : Int) ≤ ((((IntKind.i64.wrap (((n : Nat) : Int) + ((m : Nat) : Int)) : Int).toNat) - 0 : Nat) : Int) ∧ copyF H k (cutA (cutA A (0 * k) (decide (c = 0))) (((IntKind.i64.wrap (i + ((m : Nat) : Int)) : Int).toNat) * k) (decide ((c - 0) = ((IntKind.i64.wrap (i + ((m : Nat) : Int)) : Int).toNat)))) ((((IntKind.i64.wrap (((n : Nat) : Int) + ((m : Nat) : Int)) : Int).toNat) - 0) - ((IntKind.i64.wrap (i + ((m : Nat) : Int)) : Int).toNat)) (cutA (cutA A (0 * k) (decide (c = 0))) (((i : Int).toNat) * k) (decide ((c - 0) = ((i : Int).toNat)))) ((((IntKind.i64.wrap (((n : Nat) : Int) + ((m : Nat) : Int)) : Int).toNat) - 0) - ((i : Int).toNat)) fun H7 => 0 ≤ (i : Int) ∧ (i : Int) ≤ ((((IntKind.i64.wrap (((n : Nat) : Int) + ((m : Nat) : Int)) : Int).toNat) - 0 : Nat) : Int) ∧ copyF H7 k (cutA (cutA A (0 * k) (decide (c = 0))) (((i : Int).toNat) * k) (decide ((c - 0) = ((i : Int).toNat)))) ((((IntKind.i64.wrap (((n : Nat) : Int) + ((m : Nat) : Int)) : Int).toNat) - 0) - ((i : Int).toNat)) B m fun H8 => Q (.slice (cutA A (0 * k) (decide (c = 0))) (((IntKind.i64.wrap (((n : Nat) : Int) + ((m : Nat) : Int)) : Int).toNat) - 0) (c - 0)) H8))))
def delG (ty k eby : Nat) (zs : List Value) (A : Option Addr) (n c : Nat) (i j : Int) (H : Hp) (Q : Value → Hp → Prop) : Prop :=
  0 ≤ (((n : Nat) : Int) : Int) ∧ (((n : Nat) : Int) : Int) ≤ ((c : Nat) : Int) ∧ 0 ≤ (j : Int) ∧ (j : Int) ≤ (((n : Nat) : Int) : Int) ∧ 0 ≤ (i : Int) ∧ (i : Int) ≤ (j : Int) ∧ cnd ((i : Int) == j) (Q (.slice A n c) H) (0 ≤ (i : Int) ∧ (i : Int) ≤ ((c : Nat) : Int) ∧ 0 ≤ (j : Int) ∧ (j : Int) ≤ ((n : Nat) : Int) ∧ appendF H ty k eby (cutA A (0 * k) (decide (c = 0))) (((i : Int).toNat) - 0) (c - 0) (cutA A (((j : Int).toNat) * k) (decide (c = ((j : Int).toNat)))) (n - ((j : Int).toNat)) fun A1 n1 c1 H2 => jn (fun (H5 : Hp) => Q (.slice A1 n1 c1) H5) fun J6 => 0 ≤ (((n : Nat) : Int) : Int) ∧ (((n : Nat) : Int) : Int) ≤ ((c1 : Nat) : Int) ∧ 0 ≤ (((n1 : Nat) : Int) : Int) ∧ (((n1 : Nat) : Int) : Int) ≤ (((n : Nat) : Int) : Int) ∧ (((((n : Nat) : Int) : Int).toNat) - ((((n1 : Nat) : Int) : Int).toNat) = 0 → J6 H2) ∧ (0 < ((((n : Nat) : Int) : Int).toNat) - ((((n1 : Nat) : Int) : Int).toNat) → onPtr (cutA A1 (((((n1 : Nat) : Int) : Int).toNat) * k) (decide (c1 = ((((n1 : Nat) : Int) : Int).toNat)))) fun b3 o3 => storeF H2 b3 o3 (List.replicate (((((n : Nat) : Int) : Int).toNat) - ((((n1 : Nat) : Int) : Int).toNat)) zs).flatten fun H4 => J6 H4))

section
variable {H : Hp} {A : Option Addr} {n c k ty eby : Nat} {zs vals x : List Value} {Q : Value → Hp → Prop}
theorem f79_is {B : Option Addr} {m d : Nat} {i : Int} : f79 A n c i B m d H Q = insG 46 2 32 [.slice none 0 0, .int .i64 0] A n c i B m H Q := rfl
theorem f80_is {B : Option Addr} {m d : Nat} {i : Int} : f80 A n c i B m d H Q = insG 86 1 8 [.pointer none] A n c i B m H Q := rfl
theorem f83_is {i j : Int} : f83 A n c i j H Q = delG 46 2 32 [.slice none 0 0, .int .i64 0] A n c i j H Q := rfl
theorem f125_is {i j : Int} : f125 A n c i j H Q = delG 86 1 8 [.pointer none] A n c i j H Q := rfl
theorem ins_list {i : Nat} (hv : vals.length = n * k) (hx : x.length = k) (hi : i < n) : setR (setR vals ((i + 1) * k) (vals.drop (i * k))) (i * k) x = vals.take (i * k) ++ x ++ vals.drop (i * k) := by
  have hik : (i + 1) * k ≤ n * k := Nat.mul_le_mul_right _ hi
  have e1 : (i + 1) * k = i * k + k := Nat.succ_mul _ _
  have h1 : setR vals ((i + 1) * k) (vals.drop (i * k)) = vals.take ((i + 1) * k) ++ vals.drop (i * k) := by
    have hd : vals.drop ((i + 1) * k + (vals.drop (i * k)).length) = [] := List.drop_of_length_le (by rw [List.length_drop]; omega)
    unfold setR
    rw [hd, List.append_nil]
  rw [h1]
  unfold setR
  have hlt : (vals.take ((i + 1) * k)).length = (i + 1) * k := by rw [List.length_take]; omega
  rw [List.take_append_of_le_length (by omega), List.take_take, show min (i * k) ((i + 1) * k) = i * k by omega, hx, ← e1]
  congr 1
  rw [List.drop_append, hlt, List.drop_of_length_le (by omega), Nat.sub_self, List.drop_zero, List.nil_append]
theorem flat_rep {m : Nat} (hz : zs.length = k) : (List.replicate m zs).flatten.length = m * k := by
  induction m with
  | zero => simp
  | succ m ih => rw [List.replicate_succ, List.flatten_cons, List.length_append, ih, hz, Nat.succ_mul]; omega
theorem cellsAt_one {g ty' : Nat} (hg : H g = some (.cells x.toArray ty' (0, 0))) : cellsAt H (some ⟨g, 0, none⟩) x := .inr ⟨g, 0, rfl, fun j v hj => by rw [cl_cells hg, Nat.zero_add]; exact hj⟩
theorem ins_ok {i g ty' : Nat} (R : RowO H A n c k vals) (hk : 0 < k) (hz : zs.length = k) (hx : x.length = k) (hx1 : ∀ v ∈ x, v.oneCell' = true) (hv1 : ∀ v ∈ vals, v.oneCell' = true) (hi : i ≤ n) (hs : n + 1 < big) (he : eby ≤ 100)
    (hg : H g = some (.cells x.toArray ty' (0, 0))) (hne : ¬ rowB A g) (hq : ∀ A' c' H', RowO H' A' (n + 1) c' k (vals.take (i * k) ++ x ++ vals.drop (i * k)) → FrO H H' A A' → Q (.slice A' (n + 1) c') H') :
    insG ty k eby zs A n c (i : Int) (some ⟨g, 0, none⟩) 1 H Q := by
  have hlen := R.len
  have hle := R.le
  have hik : i * k ≤ n * k := Nat.mul_le_mul_right _ hi
  have e1 : (i + 1) * k = i * k + k := Nat.succ_mul _ _
  have hx' : x.length = 1 * k := by omega
  have hbg := hs
  unfold big at hbg
  unfold insG
  have w1 : IntKind.i64.wrap (((n : Nat) : Int) + ((1 : Nat) : Int)) = ((n + 1 : Nat) : Int) := by rw [wrap_id (by omega) (by omega)]; omega
  have w2 : IntKind.i64.wrap ((i : Int) + ((1 : Nat) : Int)) = ((i + 1 : Nat) : Int) := by rw [wrap_id (by omega) (by omega)]; omega
  have w3 : IntKind.i64.wrap (((n + 1 : Nat) : Int) - (i : Int)) = ((n + 1 - i : Nat) : Int) := by rw [wrap_id (by omega) (by omega)]; omega
  rw [w1, w2, w3]
  simp only [Int.toNat_natCast, cut_zero, Nat.sub_zero]
  refine ⟨by omega, by omega, cndF rfl (cndI (fun h => ?_) fun h => ?_)⟩
  · have h : i = n := by have := beq_iff_eq.1 h; omega
    subst h
    refine R.append (cellsAt_one hg) hx' hx1 hs he fun A' c' H' R' F _ => hq A' c' H' ?_ F
    rw [List.drop_of_length_le (by omega), List.append_nil, ← hlen, List.take_length]; exact R'
  have h : i < n := by
    have : (i : Int) ≠ (n : Int) := by simpa using h
    omega
  have hdl : (vals.drop (i * k)).length = (n - i) * k := by rw [List.length_drop, hlen, Nat.sub_mul]
  have hcell := R.cells
  refine cndI (fun hroom => ?_) fun hroom => ?_
  · have hroom := of_decide_eq_true hroom
    have hcn : c = n := by omega
    subst hcn
    have hcut : cellsAt H (cutA A (i * k) (decide (c = i))) (vals.drop (i * k)) := (R.drop hi h).cells
    refine ⟨by omega, by omega, by omega, by simp only [Int.toNat_natCast]; omega, ?_, by simp only [Int.toNat_natCast]; omega, vals.take (i * k), by rw [List.length_take]; omega, (R.take hi).cells, fun b cap rest hb h1 h2 h3 => ?_⟩
    · simp only [Int.toNat_natCast]
      rw [show i + (c + 1 - i) = c + 1 by omega]
      have : (c + 1) * eby ≤ (c + 1) * 100 := Nat.mul_le_mul_left _ he
      omega
    simp only [Int.toNat_natCast] at h1 h3 ⊢
    rw [show i + (c + 1 - i) = c + 1 by omega] at h1 h3 ⊢
    have hgb : b ≠ g := fun e => by subst e; rw [hb] at hg; cases hg
    obtain ⟨Z, hZ⟩ : ∃ Z, Z = (List.replicate (c + 1 - i) zs).flatten := ⟨_, rfl⟩
    have hZl : Z.length = (c + 1 - i) * k := by rw [hZ]; exact flat_rep hz
    rw [← hZ]
    have hnk : i * k + (c + 1 - i) * k = (c + 1) * k := by rw [← Nat.add_mul]; congr 1; omega
    have hck : cap * k = (c + 1) * k + (cap - (c + 1)) * k := by rw [← Nat.add_mul]; congr 1; omega
    have htl : (vals.take (i * k)).length = i * k := by rw [List.length_take]; omega
    have R1 : RowO (upd b (.cells (vals.take (i * k) ++ Z ++ rest).toArray ty (0, 0)) H) (some ⟨b, 0, none⟩) i cap k (vals.take (i * k)) := ⟨htl, by omega, .inr ⟨b, 0, _, ty, rfl, upd_at, by rw [List.length_append, List.length_append, htl, hZl, h3]; omega, fun j v hj => by
      rw [Nat.zero_add, List.append_assoc, List.getElem?_append_left (List.getElem?_eq_some_iff.1 hj).1]; exact hj⟩⟩
    have F1 : FrO H (upd b (.cells (vals.take (i * k) ++ Z ++ rest).toArray ty (0, 0)) H) A (some ⟨b, 0, none⟩) := ⟨fun q hq => .inr (by
      by_cases e : q = b
      · subst e; exact hb
      · exact absurd (upd_off e) hq), fun q ⟨o, z, h⟩ => .inr (by cases h; exact hb), fun q hq => by
      by_cases e : q = b
      · subst e; exact absurd hb hq
      · rw [upd_off e]; exact hq⟩
    have xx : Ext H (upd b (.cells (vals.take (i * k) ++ Z ++ rest).toArray ty (0, 0)) H) := Ext.new hb
    have sc : cutA (some ⟨b, 0, none⟩) (i * k) (decide (cap = i)) = some ⟨b, 0 + i * k, none⟩ := by rw [decide_eq_false (by omega)]; show some (Addr.add _ _) = _; rw [add_mk']
    have sc2 : i + 1 < c + 1 → cutA (some ⟨b, 0, none⟩) ((i + 1) * k) (decide (cap = i + 1)) = some ⟨b, 0 + (i + 1) * k, none⟩ := fun _ => by rw [decide_eq_false (by omega)]; show some (Addr.add _ _) = _; rw [add_mk']
    have m1 : min 1 (c + 1 - i) = 1 := by omega
    refine ⟨by omega, by omega, ⟨fun h0 => by omega, fun _ => ⟨x, by rw [m1]; exact hx', cellsAt_ext xx (cellsAt_one hg), hx1, ?_⟩⟩⟩
    rw [sc]
    refine R1.store (p := i) (n' := i + 1) (m := 1) hx' (Nat.le_refl _) (by omega) (by omega) (by omega) fun H5 R5 F5 => ⟨by omega, by omega, by omega, by omega, ?_⟩
    have e5 : setR (vals.take (i * k)) (i * k) x = vals.take (i * k) ++ x := by
      unfold setR
      rw [List.take_of_length_le (by omega), List.drop_of_length_le (by omega), List.append_nil]
    rw [e5] at R5
    have m2 : min (c - i) (c + 1 - (i + 1)) = c - i := by omega
    have hnb : ¬ rowB A b := fun hr => (R.live hr) hb
    have k5 : cellsAt H5 (cutA A (i * k) (decide (c = i))) (vals.drop (i * k)) := (RowO.keep (R.drop hi h) fun q hq hn => by
      have hqb : q ≠ b := fun e => hnb (by rw [← e]; exact rowB_cut.1 hq)
      by_cases e : H5 q = H q
      · exact e
      · exfalso
        by_cases e2 : H5 q = (upd b (Obj.cells (vals.take (i * k) ++ Z ++ rest).toArray ty (0, 0)) H) q
        · rw [upd_off hqb] at e2; exact e e2
        · rcases F5.ch q e2 with ⟨o, z, hh⟩ | hh
          · cases hh; exact hqb rfl
          · rw [upd_off hqb] at hh; exact hn hh).cells
    refine ⟨fun h0 => by omega, fun _ => ⟨vals.drop (i * k), by rw [m2]; exact hdl, k5, fun v hv => hv1 v (List.mem_of_mem_drop hv), ?_⟩⟩
    rw [sc2 (by omega)]
    refine R5.store (p := i + 1) (n' := c + 1) (m := c - i) hdl (Nat.le_refl _) (by omega) (by omega) (by omega) fun H6 R6 F6 => hq _ _ _ ?_ (F1.trans (F5.trans F6))
    have e6 : setR (vals.take (i * k) ++ x) ((i + 1) * k) (vals.drop (i * k)) = vals.take (i * k) ++ x ++ vals.drop (i * k) := by
      have hd : (vals.take (i * k) ++ x).drop ((i + 1) * k + (vals.drop (i * k)).length) = [] := List.drop_of_length_le (by rw [List.length_append]; omega)
      have ht : (vals.take (i * k) ++ x).take ((i + 1) * k) = vals.take (i * k) ++ x := List.take_of_length_le (by rw [List.length_append]; omega)
      unfold setR
      rw [hd, ht, List.append_nil]
    rw [e6] at R6
    exact R6
  · have hroom := of_decide_eq_false hroom
    have hAs : ∃ b o, A = some ⟨b, o, none⟩ ∧ ∃ cs ty'', H b = some (.cells cs ty'' (0, 0)) ∧ 0 < cs.size := by
      rcases R.at' with ⟨_, h0⟩ | ⟨b, o, cs, ty'', hA, hb, h2, h3⟩
      · omega
      · refine ⟨b, o, hA, _, _, hb, ?_⟩
        have : 1 * k ≤ c * k := Nat.mul_le_mul_right _ (by omega)
        rw [List.size_toArray]; omega
    obtain ⟨b, o, hA, cs, ty'', hb, hcs⟩ := hAs
    have hgb : g ≠ b := fun e => hne (by rw [e, hA]; exact ⟨_, _, rfl⟩)
    have sc1 : cutA A ((i + 1) * k) (decide (c = i + 1)) = some ⟨b, o + (i + 1) * k, none⟩ := by rw [decide_eq_false (by omega), hA]; show some (Addr.add _ _) = _; rw [add_mk']
    have sc2 : cutA A (i * k) (decide (c = i)) = some ⟨b, o + i * k, none⟩ := by rw [decide_eq_false (by omega), hA]; show some (Addr.add _ _) = _; rw [add_mk']
    refine ⟨by omega, by omega, by omega, by omega, ?_⟩
    have hcut : cellsAt H (cutA A (i * k) (decide (c = i))) (vals.drop (i * k)) := (R.drop hi (by omega)).cells
    rw [sc2] at hcut
    rw [sc1, sc2]
    refine ⟨hgb, ⟨_, _, hg⟩, ⟨_, _, hb, hcs⟩, by omega, by omega, by omega, by omega, ?_⟩
    have m2 : min (n + 1 - i) (n + 1 - (i + 1)) = n - i := by omega
    refine ⟨fun h0 => by omega, fun _ => ⟨vals.drop (i * k), by rw [m2]; exact hdl, hcut, fun v hv => hv1 v (List.mem_of_mem_drop hv), ?_⟩⟩
    have st := R.store (p := i + 1) (n' := n + 1) (m := n - i) (new := vals.drop (i * k)) (K := fun H7 => 0 ≤ (i : Int) ∧ (i : Int) ≤ ((n + 1 : Nat) : Int) ∧ copyF H7 k (some ⟨b, o + i * k, none⟩) (n + 1 - i) (some ⟨g, 0, none⟩) 1 fun H8 => Q (.slice A (n + 1) c) H8) hdl (by omega) (by omega) (by omega) (by omega) fun H7 R7 F7 => ⟨by omega, by omega, ?_⟩
    · rw [hA] at st ⊢
      exact st
    have hg7 : H7 g = H g := by
      by_cases e : H7 g = H g
      · exact e
      · rcases F7.ch g e with hh | hh
        · exact absurd hh hne
        · rw [hg] at hh; cases hh
    refine ⟨fun h0 => by omega, fun _ => ⟨x, by rw [show min 1 (n + 1 - i) = 1 by omega]; exact hx', cellsAt_one (hg7.trans hg), hx1, ?_⟩⟩
    have st := R7.store (p := i) (n' := n + 1) (m := 1) (new := x) (K := fun H8 => Q (.slice A (n + 1) c) H8) hx' (by omega) (by omega) (by omega) (by omega) fun H8 R8 F8 => hq A c H8 (by rw [ins_list hlen hx h] at R8; exact R8) (F7.trans F8)
    rw [hA] at st ⊢
    exact st
theorem del_ok {i j : Nat} (R : RowO H A n c k vals) (hk : 0 < k) (hz : zs.length = k) (hv1 : ∀ v ∈ vals, v.oneCell' = true) (hij : i < j) (hj : j ≤ n) (hs : n < big) (he : eby ≤ 100)
    (hq : ∀ H', RowO H' A (i + (n - j)) c k (vals.take (i * k) ++ vals.drop (j * k)) → FrO H H' A A → Q (.slice A (i + (n - j)) c) H') :
    delG ty k eby zs A n c (i : Int) (j : Int) H Q := by
  have hlen := R.len
  have hle := R.le
  have hik : i * k ≤ n * k := Nat.mul_le_mul_right _ (by omega)
  have hjk : j * k ≤ n * k := Nat.mul_le_mul_right _ (by omega)
  have hbg := hs
  unfold big at hbg
  unfold delG
  simp only [Int.toNat_natCast, cut_zero, Nat.sub_zero]
  refine ⟨by omega, by omega, by omega, by omega, by omega, by omega, cndF (by simp; omega) ⟨by omega, by omega, by omega, by omega, ?_⟩⟩
  have hdl : (vals.drop (j * k)).length = (n - j) * k := by rw [List.length_drop, hlen, Nat.sub_mul]
  have hcut : cellsAt H (cutA A (j * k) (decide (c = j))) (vals.drop (j * k)) := by
    by_cases hcj : c = j
    · left; exact List.drop_of_length_le (by rw [hlen]; exact Nat.mul_le_mul_right _ (by omega))
    · exact (R.drop hj (by omega)).cells
  refine (R.take (p := i) (by omega)).append hcut hdl (fun v hv => hv1 v (List.mem_of_mem_drop hv)) (by unfold big; omega) he fun A1 c1 H2 R2 F2 hsame => ?_
  obtain ⟨rfl, rfl⟩ := hsame (by omega)
  refine jn_intro (fun J => ∀ H', RowO H' A1 (i + (n - j)) c1 k (vals.take (i * k) ++ vals.drop (j * k)) → FrO H H' A1 A1 → J H') (fun H5 R5 F5 => hq H5 R5 F5) fun J hJ => ⟨by omega, by omega, by omega, by omega, fun h0 => by omega, fun _ => ?_⟩
  have hzl : ((List.replicate (n - (i + (n - j))) zs).flatten).length = (n - (i + (n - j))) * k := flat_rep hz
  have hA : ∃ b o, A1 = some ⟨b, o, none⟩ := by
    rcases R.at' with ⟨_, h0⟩ | ⟨b, o, cs, ty'', hA, hb, h2, h3⟩
    · omega
    · exact ⟨b, o, hA⟩
  obtain ⟨b, o, hA⟩ := hA
  have sc : cutA A1 ((i + (n - j)) * k) (decide (c1 = i + (n - j))) = some ⟨b, o + (i + (n - j)) * k, none⟩ := by rw [decide_eq_false (by omega), hA]; show some (Addr.add _ _) = _; rw [add_mk']
  rw [sc]
  have st := R2.store (p := i + (n - j)) (n' := n) (m := n - (i + (n - j))) (K := J) hzl (Nat.le_refl _) (by omega) (by omega) (by omega) fun H4 R4 F4 => hJ H4 ?_ (F2.trans F4)
  · rw [hA] at st
    exact st
  · have R4' := R4.take (p := i + (n - j)) (by omega)
    have hl2 : (vals.take (i * k) ++ vals.drop (j * k)).length = (i + (n - j)) * k := by rw [List.length_append, hdl, List.length_take, Nat.add_mul]; omega
    have e4 : (setR (vals.take (i * k) ++ vals.drop (j * k)) ((i + (n - j)) * k) (List.replicate (n - (i + (n - j))) zs).flatten).take ((i + (n - j)) * k) = vals.take (i * k) ++ vals.drop (j * k) := by
      unfold setR
      rw [List.append_assoc, List.take_append_of_le_length (by rw [List.length_take]; omega), List.take_take, Nat.min_self, ← hl2, List.take_length]
    rw [e4] at R4'
    exact R4'
end
end Go.Proofs.YtmelbipidffmpaaGreatDoor.Hw

/- Trees of nodes in memory. -/
set_option linter.unusedVariables false
set_option linter.unusedSimpArgs false
set_option linter.unusedSectionVars false
set_option maxRecDepth 20000
namespace Go.Proofs.YtmelbipidffmpaaGreatDoor.Hw
open Go Go.Proofs
inductive MT where
  | mk (g : Nat) (eA : Option Addr) (ec : Nat) (es : List EnM) (kA : Option Addr) (kc : Nat) (ks : List MT)
namespace MT
def g : MT → Nat | .mk g _ _ _ _ _ _ => g
def eA : MT → Option Addr | .mk _ A _ _ _ _ _ => A
def ec : MT → Nat | .mk _ _ c _ _ _ _ => c
def es : MT → List EnM | .mk _ _ _ l _ _ _ => l
def kA : MT → Option Addr | .mk _ _ _ _ A _ _ => A
def kc : MT → Nat | .mk _ _ _ _ _ c _ => c
def ks : MT → List MT | .mk _ _ _ _ _ _ l => l
end MT
def ptC (u : MT) : List Value := [.pointer (some ⟨u.g, 0, none⟩)]
def blkA (A : Option Addr) : List Nat := match A with | none => [] | some a => [a.block]
def own1 (t : MT) : List Nat := t.g :: (blkA t.eA ++ blkA t.kA)
def ownM : Nat → MT → List Nat
  | 0, t => own1 t
  | h + 1, t => own1 t ++ t.ks.flatMap (ownM h)
def flatM : Nat → MT → List EnM
  | 0, t => t.es
  | h + 1, t => inter (t.ks.map (flatM h)) t.es
def nodeC (eA : Option Addr) (en ec : Nat) (kA : Option Addr) (kn kc : Nat) : List Value := [.slice eA en ec, .slice kA kn kc]
structure NodeM (H : Hp) (t : MT) : Prop where
  cell : ∃ ty, H t.g = some (.cells (nodeC t.eA t.es.length t.ec t.kA t.ks.length t.kc).toArray ty (0, 0))
  er : RowO H t.eA t.es.length t.ec 2 (t.es.flatMap enC)
  kr : RowO H t.kA t.ks.length t.kc 1 (t.ks.flatMap ptC)
def MemM (H : Hp) : Nat → MT → Prop
  | 0, t => NodeM H t ∧ t.ks = []
  | h + 1, t => NodeM H t ∧ ∀ u ∈ t.ks, MemM H h u
/-- How full the blocks are: so many entries at least, and at most, in the first; 3 to 8 in those below. -/
def FullM (lo hi : Nat) : Nat → MT → Prop
  | 0, t => t.ks = [] ∧ lo ≤ t.es.length ∧ t.es.length ≤ hi
  | h + 1, t => t.ks.length = t.es.length + 1 ∧ lo ≤ t.es.length ∧ t.es.length ≤ hi ∧ ∀ u ∈ t.ks, FullM 3 8 h u
theorem blk_row {A : Option Addr} {q : Nat} : q ∈ blkA A ↔ rowB A q := by
  unfold blkA rowB
  cases A with
  | none => simp
  | some a =>
    simp only [List.mem_singleton, Option.some.injEq]
    constructor
    · rintro rfl; exact ⟨a.off, a.spot, rfl⟩
    · rintro ⟨o, z, rfl⟩; rfl
section
variable {H H' : Hp}
theorem MemM.node {h : Nat} {t : MT} (M : MemM H h t) : NodeM H t := by cases h <;> exact M.1
theorem NodeM.keep {t : MT} (N : NodeM H t) (hk : ∀ q ∈ own1 t, H' q = H q) : NodeM H' t := by
  obtain ⟨⟨ty, hc⟩, e, k⟩ := N
  refine ⟨⟨ty, (hk _ (by simp [own1])).trans hc⟩, e.keep fun q hq _ => hk q ?_, k.keep fun q hq _ => hk q ?_⟩
  · simp [own1, blk_row, hq]
  · simp [own1, blk_row, hq]
theorem own1_sub {h : Nat} {t : MT} {q : Nat} (hq : q ∈ own1 t) : q ∈ ownM h t := by
  cases h with
  | zero => exact hq
  | succ h => exact List.mem_append_left _ hq
theorem MemM.keep : ∀ {h : Nat} {t : MT}, MemM H h t → (∀ q ∈ ownM h t, H' q = H q) → MemM H' h t
  | 0, t, M, hk => ⟨M.1.keep hk, M.2⟩
  | h + 1, t, M, hk => ⟨M.1.keep fun q hq => hk q (own1_sub hq), fun u hu => (M.2 u hu).keep fun q hq => hk q (List.mem_append_right _ (List.mem_flatMap.2 ⟨u, hu, hq⟩))⟩
theorem NodeM.live {t : MT} (N : NodeM H t) : ∀ q ∈ own1 t, H q ≠ none := by
  obtain ⟨⟨ty, hc⟩, e, k⟩ := N
  intro q hq
  unfold own1 at hq
  rcases List.mem_cons.1 hq with rfl | hq
  · rw [hc]; simp
  · rcases List.mem_append.1 hq with hq | hq
    · exact e.live (blk_row.1 hq)
    · exact k.live (blk_row.1 hq)
theorem MemM.live : ∀ {h : Nat} {t : MT}, MemM H h t → ∀ q ∈ ownM h t, H q ≠ none
  | 0, t, M => M.1.live
  | h + 1, t, M => fun q hq => by
    rcases List.mem_append.1 hq with hq | hq
    · exact M.1.live q hq
    · obtain ⟨u, hu, hq⟩ := List.mem_flatMap.1 hq
      exact (M.2 u hu).live q hq
theorem MemM.ext {h : Nat} {t : MT} (M : MemM H h t) (hx : Ext H H') : MemM H' h t := M.keep fun q hq => ext_at hx (M.live q hq)
theorem NodeM.ext {t : MT} (M : NodeM H t) (hx : Ext H H') : NodeM H' t := M.keep fun q hq => ext_at hx (M.live q hq)
theorem NodeM.cl0 {t : MT} (N : NodeM H t) : cl H t.g (0 + 0) = some (.slice t.eA t.es.length t.ec) := by
  obtain ⟨⟨ty, hc⟩, e, k⟩ := N
  rw [cl_cells hc]; rfl
theorem NodeM.cl1 {t : MT} (N : NodeM H t) : cl H t.g (0 + 1) = some (.slice t.kA t.ks.length t.kc) := by
  obtain ⟨⟨ty, hc⟩, e, k⟩ := N
  rw [cl_cells hc]; rfl
theorem NodeM.esAt {t : MT} (N : NodeM H t) (hs : t.es.length < huge) : SlAt enC H t.eA t.es.length t.es := ⟨rfl, N.er.cells, hs⟩
theorem NodeM.ksAt {t : MT} (N : NodeM H t) (hs : t.ks.length < huge) : SlAt ptC H t.kA t.ks.length t.ks := ⟨rfl, N.kr.cells, hs⟩
theorem rd_pt {A : Option Addr} {n : Nat} {l : List MT} {i : Nat} {x : MT} (h : SlAt ptC H A n l) (hi : l[i]? = some x) {K : Nat → Nat → Prop}
    (hk : ∀ p o, A = some ⟨p, o, none⟩ → cl H p (o + i * 1) = some (.pointer (some ⟨x.g, 0, none⟩)) → K p o) : onPtr A K := by
  have hlen : ∀ x ∈ l, (ptC x).length = 1 := fun x _ => rfl
  have hne : l ≠ [] := fun e => by subst e; simp at hi
  refine at_cells h.cells (flat_ne hlen (by omega) hne) fun p o hA hc => hk p o hA ?_
  have := hc (i * 1 + 0) _ (flat_get hlen hi (by omega))
  rw [Nat.add_zero] at this
  exact this
/-- What a call does to memory: own blocks, and new ones. -/
structure FrM (H H' : Hp) (O O' : List Nat) : Prop where
  ch : ∀ q, H' q ≠ H q → q ∈ O ∨ H q = none
  nw : ∀ q ∈ O', q ∈ O ∨ H q = none
  al : ∀ q, H q ≠ none → H' q ≠ none
theorem FrM.refl {O : List Nat} : FrM H H O O := ⟨fun q h => absurd rfl h, fun q h => .inl h, fun q h => h⟩
theorem FrM.ofExt {O : List Nat} (hx : Ext H H') : FrM H H' O O := ⟨fun q h => .inr (Classical.byContradiction fun hn => h (ext_at hx hn)), fun q h => .inl h, fun q h => by rw [ext_at hx h]; exact h⟩
theorem FrM.trans {H1 H2 : Hp} {O O1 O2 : List Nat} (F : FrM H H1 O O1) (G : FrM H1 H2 O1 O2) : FrM H H2 O O2 := ⟨fun q hq => by
  by_cases e : H1 q = H q
  · by_cases e2 : H2 q = H1 q
    · exact absurd (e2.trans e) hq
    · rcases G.ch q e2 with h | h
      · exact F.nw q h
      · exact .inr (by rw [← e]; exact h)
  · exact F.ch q e, fun q hq => by
  rcases G.nw q hq with h | h
  · exact F.nw q h
  · by_cases e : H1 q = H q
    · exact .inr (by rw [← e]; exact h)
    · exact F.ch q e, fun q hq => G.al q (F.al q hq)⟩
theorem FrM.ext {X : Hp} {O O' : List Nat} (F : FrM H H' O O') (hx : Ext X H) (hO : ∀ q ∈ O, X q = none) : Ext X H' := fun q o hq => by
  have h1 := hx q o hq
  by_cases e : H' q = H q
  · rw [e]; exact h1
  · rcases F.ch q e with h | h
    · rw [hO q h] at hq; cases hq
    · rw [h] at h1; cases h1
theorem FrM.hid {X : Hp} {O O' : List Nat} (F : FrM H H' O O') (hx : Ext X H) (hO : ∀ q ∈ O, X q = none) : ∀ q ∈ O', X q = none := fun q hq => by
  rcases F.nw q hq with h | h
  · exact hO q h
  · exact hx.none h
/-- What stands beside stays. -/
theorem FrM.off {O O' : List Nat} (F : FrM H H' O O') {q : Nat} (hq : q ∉ O) (hl : H q ≠ none) : H' q = H q := Classical.byContradiction fun hn => by
  rcases F.ch q hn with h | h
  · exact hq h
  · exact hl h
theorem FrM.wide {O O' P S : List Nat} (F : FrM H H' O O') : FrM H H' (P ++ O ++ S) (P ++ O' ++ S) := ⟨fun q h => (F.ch q h).imp (fun h => by simp [h]) id, fun q hq => by
  rcases List.mem_append.1 hq with hq | hq
  · rcases List.mem_append.1 hq with hq | hq
    · exact .inl (by simp [hq])
    · exact (F.nw q hq).imp (fun h => by simp [h]) id
  · exact .inl (by simp [hq]), F.al⟩
theorem nodup_swap {P O O' S : List Nat} (h : (P ++ O ++ S).Nodup) (h' : O'.Nodup) (hd : ∀ q ∈ O', q ∈ O ∨ (q ∉ P ∧ q ∉ S)) : (P ++ O' ++ S).Nodup := by
  rw [List.append_assoc, List.nodup_append] at h ⊢
  obtain ⟨h1, h2, h3⟩ := h
  rw [List.nodup_append] at h2
  obtain ⟨h4, h5, h6⟩ := h2
  refine ⟨h1, List.nodup_append.2 ⟨h', h5, fun a ha b hb e => ?_⟩, fun a ha b hb e => ?_⟩
  · subst e
    rcases hd a ha with h | h
    · exact h6 a h a hb rfl
    · exact h.2 hb
  · subst e
    rcases List.mem_append.1 hb with hb | hb
    · rcases hd a hb with h | h
      · exact h3 a ha a (List.mem_append_left _ h) rfl
      · exact h.1 ha
    · exact h3 a ha a (List.mem_append_right _ hb) rfl
end
/-! ### plain: what lies between -/
def zipE {α : Type} : List (List α) → List α → List α
  | k :: ks, e :: es => k ++ e :: zipE ks es
  | _, _ => []
theorem inter_app {α : Type} : ∀ {K1 K : List (List α)} {E1 E : List α}, K1.length = E1.length → inter (K1 ++ K) (E1 ++ E) = zipE K1 E1 ++ inter K E
  | [], K, [], E, _ => rfl
  | k :: K1, K, e :: E1, E, h => by
    show k ++ e :: inter (K1 ++ K) (E1 ++ E) = (k ++ e :: zipE K1 E1) ++ inter K E
    rw [inter_app (by simpa using h)]
    simp
  | [], _, _ :: _, _, h => by simp at h
  | _ :: _, _, [], _, h => by simp at h
def restE {α : Type} : List (List α) → List α → List α
  | ks, [] => inter ks []
  | ks, e :: es => e :: inter ks es
theorem inter_head {α : Type} {k : List α} {ks : List (List α)} {es : List α} : inter (k :: ks) es = k ++ restE ks es := by
  cases es <;> rfl
/-- An entry put where it belongs. -/
def Put (l : List EnM) (e : EnM) (l' : List EnM) : Prop := ∃ a b, l = a ++ b ∧ l' = a ++ e :: b ∧ (∀ x ∈ a, ordE x e < 0) ∧ ∀ x ∈ b, ordE e x < 0
def SrtE (l : List EnM) : Prop := l.Pairwise fun a b => ordE a b < 0
theorem Put.wrap {l l' z r : List EnM} {e : EnM} (h : Put l e l') (hz : ∀ x ∈ z, ordE x e < 0) (hr : ∀ x ∈ r, ordE e x < 0) : Put (z ++ l ++ r) e (z ++ l' ++ r) := by
  obtain ⟨a, b, rfl, rfl, ha, hb⟩ := h
  refine ⟨z ++ a, b ++ r, by simp, by simp, fun x hx => ?_, fun x hx => ?_⟩
  · rcases List.mem_append.1 hx with h | h
    · exact hz x h
    · exact ha x h
  · rcases List.mem_append.1 hx with h | h
    · exact hb x h
    · exact hr x h
theorem Put.mem {l l' : List EnM} {e x : EnM} (h : Put l e l') : x ∈ l' ↔ x = e ∨ x ∈ l := by
  obtain ⟨a, b, rfl, rfl, _, _⟩ := h
  simp only [List.mem_append, List.mem_cons]
  constructor
  · rintro (h | h | h)
    · exact .inr (.inl h)
    · exact .inl h
    · exact .inr (.inr h)
  · rintro (h | h | h)
    · exact .inr (.inl h)
    · exact .inl h
    · exact .inr (.inr h)
theorem Put.srt {l l' : List EnM} {e : EnM} (h : Put l e l') (hs : SrtE l) : SrtE l' := by
  obtain ⟨a, b, rfl, rfl, ha, hb⟩ := h
  unfold SrtE at hs ⊢
  rw [List.pairwise_append] at hs ⊢
  obtain ⟨h1, h2, h3⟩ := hs
  refine ⟨h1, List.pairwise_cons.2 ⟨hb, h2⟩, fun x hx y hy => ?_⟩
  rcases List.mem_cons.1 hy with rfl | hy
  · exact ha x hx
  · exact h3 x hx y hy
end Go.Proofs.YtmelbipidffmpaaGreatDoor.Hw

/- Nodes: place, clone, split. -/
set_option linter.unusedVariables false
set_option linter.unusedSimpArgs false
set_option linter.unusedSectionVars false
set_option maxRecDepth 20000
namespace Go.Proofs.YtmelbipidffmpaaGreatDoor.Hw
open Go Go.Proofs
def cntE (l : List EnM) (e : EnM) : Nat := (l.takeWhile fun x => decide (ordE x e < 0)).length
def hasE (l : List EnM) (e : EnM) : Bool := match l[cntE l e]? with | some x => ordE x e == 0 | none => false
theorem SrtE.le {l : List EnM} (h : SrtE l) {i j : Nat} {a b : EnM} (hij : i ≤ j) (ha : l[i]? = some a) (hb : l[j]? = some b) : ordE a b ≤ 0 := by
  by_cases e : i = j
  · subst e; rw [ha] at hb; cases hb; rw [ordE_ok.self]; omega
  · obtain ⟨h1, h2⟩ := List.getElem?_eq_some_iff.1 ha
    obtain ⟨h3, h4⟩ := List.getElem?_eq_some_iff.1 hb
    have := List.pairwise_iff_getElem.1 h i j h1 h3 (by omega)
    rw [h2, h4] at this
    omega
theorem cnt_mono {l : List EnM} (h : SrtE l) (e : EnM) : ∀ (i j : Nat) (a b : EnM), i ≤ j → l[i]? = some a → l[j]? = some b → (fun x => decide (ordE x e < 0)) b = true → (fun x => decide (ordE x e < 0)) a = true :=
  fun i j a b hij ha hb hp => decide_eq_true (ordE_ok.lt_of' (h.le hij ha hb) (of_decide_eq_true hp))
section
variable {H : Hp} {A : Option Addr} {n c : Nat} {Q : Value → Hp → Prop}
theorem c50 {l : List EnM} {e : EnM} (hl : SlAt enC H A n l) (hkey : ∀ x ∈ l, KeyAt H x) (he : KeyAt H e) (hsrt : SrtE l) (hs : l.length < big)
    (hq : ∀ H', Ext H H' → Q (.tuple #[.int .i64 ((cntE l e : Nat) : Int), .bool (hasE l e)]) H') : HCalls Tryz.prog 50 [.slice A n c, enA e, .func (.func 51) #[] #[]] H Q := by
  refine f50.ok _ _ _ _ _ _ _ _ _ _ ?_
  unfold f50
  obtain rfl := hl.len
  unfold big at hs
  refine loop_to l.length (fun j st H' => Ext H H' ∧ ∃ lo hi : Nat, st = (((lo : Int), ((hi : Int), ())), ()) ∧ lo ≤ hi ∧ hi ≤ l.length ∧ hi - lo + j ≤ l.length ∧ (∀ i a, i < lo → l[i]? = some a → (fun x => decide (ordE x e < 0)) a = true) ∧ (∀ i a, hi ≤ i → l[i]? = some a → (fun x => decide (ordE x e < 0)) a = false)) ⟨Ext.refl _, 0, l.length, rfl, by omega, by omega, by omega, fun i a h => by omega, fun i a h hi => by have := (List.getElem?_eq_some_iff.1 hi).1; omega⟩ ?_
  rintro j st H2 next hj ⟨x2, lo, hi, rfl, h1, h2, h3, h4, h5⟩ hnext
  dsimp only
  refine jn_intro (fun J => ∀ lo' hi' : Nat, ∀ H', Ext H H' → lo' ≤ hi' → hi' ≤ l.length → hi' - lo' + (j + 1) ≤ l.length → (∀ i a, i < lo' → l[i]? = some a → (fun x => decide (ordE x e < 0)) a = true) → (∀ i a, hi' ≤ i → l[i]? = some a → (fun x => decide (ordE x e < 0)) a = false) → j < l.length → J (lo' : Int) (hi' : Int) H') (fun lo' hi' H' x' g1 g2 g3 g4 g5 g6 => ⟨rfl, hnext _ _ g6 ⟨x', lo', hi', rfl, g1, g2, g3, g4, g5⟩⟩) fun J hJ => cndI (fun hlt => ?_) fun hlt => ?_
  · have hlt := of_decide_eq_true hlt
    rw [mid_eq (by omega)]
    obtain ⟨x, hx⟩ := get_of (l := l) (i := (lo + hi) / 2) (by omega)
    have hm := List.mem_of_getElem? hx
    refine ⟨by omega, by omega, by omega, rd_en (hl.ext x2) hx fun q o _ k1 k2 => ⟨_, _, _, k1, _, k2, fnOk 51 rfl, ?_⟩⟩
    refine c51 ((hkey x hm).ext x2) (he.ext x2) fun H8 x8 => ⟨_, rfl, ?_⟩
    by_cases hp : ordE x e < 0
    · refine cndT (decide_eq_true hp) ?_
      rw [wrap_id (by omega) (by omega)]
      exact hJ ((lo + hi) / 2 + 1) hi H8 (x2.trans x8) (by omega) h2 (by omega) (fun i a hi' ha => cnt_mono hsrt e i _ a x (by omega) ha hx (decide_eq_true hp)) h5 (by omega)
    · refine cndF (decide_eq_false hp) (hJ lo ((lo + hi) / 2) H8 (x2.trans x8) (by omega) (by omega) (by omega) h4 (fun i a hi' ha => ?_) (by omega))
      refine decide_eq_false fun hpa => hp ?_
      exact ordE_ok.lt_of' (hsrt.le hi' hx ha) hpa
  · have hlt := of_decide_eq_false hlt
    have hcnt : cntE l e = lo := take_is h4 (fun a ha => h5 lo a (by omega) ha) (by omega)
    unfold hasE at hq
    rw [hcnt] at hq
    refine jn_intro (fun J => ∀ b H', Ext H H' → b = (match l[lo]? with | some x => ordE x e == 0 | none => false) → J b H') (fun b H' x' hb => by rw [hb]; exact hq H' x') fun J hJ => cndI (fun hlt => ?_) fun hlt => ?_
    · have hlt := of_decide_eq_true hlt
      obtain ⟨x, hx⟩ := get_of (l := l) (i := lo) (by omega)
      have hm := List.mem_of_getElem? hx
      refine ⟨by omega, by omega, rd_en (hl.ext x2) hx fun q o _ k1 k2 => ⟨_, _, _, by simpa using k1, _, by simpa using k2, fnOk 51 rfl, ?_⟩⟩
      exact c51 ((hkey x hm).ext x2) (he.ext x2) fun H8 x8 => ⟨_, rfl, hJ _ H8 (x2.trans x8) (by rw [hx])⟩
    · have hlt := of_decide_eq_false hlt
      exact hJ _ H2 x2 (by rw [List.getElem?_eq_none_iff.2 (by omega)])
theorem c78 {t : MT} {e : EnM} (N : NodeM H t) (hkey : ∀ x ∈ t.es, KeyAt H x) (he : KeyAt H e) (hsrt : SrtE t.es) (hs : t.es.length < big)
    (hq : ∀ H', Ext H H' → Q (.tuple #[.int .i64 ((cntE t.es e : Nat) : Int), .bool (hasE t.es e)]) H') : HCalls Tryz.prog 78 [.pointer (some ⟨t.g, 0, none⟩), enA e] H Q := by
  refine f78.ok _ _ _ _ _ _ ?_
  unfold f78
  exact ⟨_, _, _, N.cl0, c50 (N.esAt (by unfold big at hs; unfold huge; omega)) hkey he hsrt hs fun H3 x3 => ⟨_, _, rfl, hq H3 x3⟩⟩
/-- A copy on a block of its own. -/
theorem clo_ok {α : Type} {f : α → List Value} {ty k eby : Nat} {l : List α} (hf : ∀ x, (f x).length = k) (ho : ∀ x, ∀ v ∈ f x, v.oneCell' = true) (hk : 0 < k) (he : eby ≤ 100) (hA : cellsAt H A (l.flatMap f)) (hn : n = l.length) (hs : n < big)
    (hq : ∀ A' c' H', Ext H H' → RowO H' A' n c' k (l.flatMap f) → (∀ q, rowB A' q → H q = none) → Q (.slice A' n c') H') :
    cnd A.isNone (Q (.slice none 0 0) H) (newF H ty [] fun g1 H2 => appendF H2 ty k eby (some ⟨g1, 0, none⟩) 0 0 A n fun A3 n3 c3 H4 => Q (.slice A3 n3 c3) H4) := by
  have hfl : (l.flatMap f).length = n * k := by rw [hn]; exact flat_length fun x _ => hf x
  refine cndI (fun h => ?_) fun h g1 hg1 => ?_
  · have hA0 : A = none := by cases A with | none => rfl | some a => cases h
    have h0 : l.flatMap f = [] := by
      rcases hA with h' | ⟨b, o, e, _⟩
      · exact h'
      · rw [hA0] at e; cases e
    have hn0 : n = 0 := by
      rw [h0] at hfl
      have : n * k = 0 := by simpa using hfl.symm
      rcases Nat.mul_eq_zero.1 this with h | h <;> omega
    subst hn0
    rw [h0] at hq
    exact hq none 0 H (Ext.refl _) RowO.nil fun b ⟨o, q, h⟩ => by cases h
  · have x1 : Ext H (upd g1 (Obj.cells [].toArray ty (0, 0)) H) := Ext.new hg1
    have R0 : RowO (upd g1 (Obj.cells [].toArray ty (0, 0)) H) (some ⟨g1, 0, none⟩) 0 0 k [] := ⟨by simp, Nat.le_refl _, .inr ⟨g1, 0, [], ty, rfl, upd_at, by simp, fun j v h => by simp at h⟩⟩
    refine R0.append (cellsAt_ext x1 hA) hfl (fun v hv => by obtain ⟨x, _, hx⟩ := List.mem_flatMap.1 hv; exact ho x v hx) (by omega) he fun A' c' H' R' F _ => ?_
    rw [Nat.zero_add, List.nil_append] at R'
    have hnw : ∀ q, rowB A' q → H q = none := fun q hq => by
      rcases F.nw q hq with ⟨o, z, h⟩ | h
      · cases h; exact hg1
      · exact x1.none h
    have := hq A' c' H' (fun q o hq => by
      have h2 := x1 q o hq
      by_cases e : H' q = (upd g1 (Obj.cells [].toArray ty (0, 0)) H) q
      · rw [e]; exact h2
      · rcases F.ch q e with ⟨o, z, h⟩ | h
        · cases h; rw [hg1] at hq; cases hq
        · rw [h] at h2; cases h2) R' hnw
    rw [Nat.zero_add]
    exact this
theorem ptC_one (x : MT) : ∀ v ∈ ptC x, v.oneCell' = true := fun v hv => by
  unfold ptC at hv
  rw [List.mem_singleton] at hv
  subst hv; rfl
theorem c62 {l : List EnM} (hA : cellsAt H A (l.flatMap enC)) (hn : n = l.length) (hs : n < big) (hq : ∀ A' c' H', Ext H H' → RowO H' A' n c' 2 (l.flatMap enC) → (∀ q, rowB A' q → H q = none) → Q (.slice A' n c') H') : HCalls Tryz.prog 62 [.slice A n c] H Q := by
  refine f62.ok _ _ _ ?_
  unfold f62
  exact clo_ok enC_len enC_one (by omega) (by omega) hA hn hs hq
theorem c81 {l : List MT} (hA : cellsAt H A (l.flatMap ptC)) (hn : n = l.length) (hs : n < big) (hq : ∀ A' c' H', Ext H H' → RowO H' A' n c' 1 (l.flatMap ptC) → (∀ q, rowB A' q → H q = none) → Q (.slice A' n c') H') : HCalls Tryz.prog 81 [.slice A n c] H Q := by
  refine f81.ok _ _ _ ?_
  unfold f81
  exact clo_ok (fun _ => rfl) ptC_one (by omega) (by omega) hA hn hs hq
/-! ### a node is written -/
theorem setE' {t : MT} {A' : Option Addr} {c' n' : Nat} {es' : List EnM} {K : Hp → Prop} (hc : ∃ ty, H t.g = some (.cells (nodeC t.eA t.es.length t.ec t.kA t.ks.length t.kc).toArray ty (0, 0))) (k : RowO H t.kA t.ks.length t.kc 1 (t.ks.flatMap ptC)) (hn : n' = es'.length) (R : RowO H A' es'.length c' 2 (es'.flatMap enC)) (h1 : ¬ rowB A' t.g) (h2 : ¬ rowB t.kA t.g)
    (hk : ∀ H', NodeM H' (.mk t.g A' c' es' t.kA t.kc t.ks) → (∀ q, q ≠ t.g → H' q = H q) → H' t.g ≠ none → K H') : storeF H t.g (0 + 0) [.slice A' n' c'] K := by
  obtain ⟨ty, hc⟩ := hc
  subst hn
  refine ⟨_, ty, hc, by simp [nodeC], hk _ ⟨⟨ty, by rw [show (MT.mk t.g A' c' es' t.kA t.kc t.ks).g = t.g from rfl, upd_at]; rfl⟩, ?_, ?_⟩ (fun q hq => upd_off hq) (by rw [upd_at]; simp)⟩
  · exact R.keep fun q hq _ => upd_off fun e => h1 (e ▸ hq)
  · exact k.keep fun q hq _ => upd_off fun e => h2 (e ▸ hq)
theorem NodeM.setE {t : MT} {A' : Option Addr} {c' n' : Nat} {es' : List EnM} {K : Hp → Prop} (N : NodeM H t) (hn : n' = es'.length) (R : RowO H A' es'.length c' 2 (es'.flatMap enC)) (h1 : ¬ rowB A' t.g) (h2 : ¬ rowB t.kA t.g)
    (hk : ∀ H', NodeM H' (.mk t.g A' c' es' t.kA t.kc t.ks) → (∀ q, q ≠ t.g → H' q = H q) → H' t.g ≠ none → K H') : storeF H t.g (0 + 0) [.slice A' n' c'] K := setE' N.cell N.kr hn R h1 h2 hk
theorem setK' {t : MT} {A' : Option Addr} {c' n' : Nat} {ks' : List MT} {K : Hp → Prop} (hc : ∃ ty, H t.g = some (.cells (nodeC t.eA t.es.length t.ec t.kA t.ks.length t.kc).toArray ty (0, 0))) (e : RowO H t.eA t.es.length t.ec 2 (t.es.flatMap enC)) (hn : n' = ks'.length) (R : RowO H A' ks'.length c' 1 (ks'.flatMap ptC)) (h1 : ¬ rowB A' t.g) (h2 : ¬ rowB t.eA t.g)
    (hk : ∀ H', NodeM H' (.mk t.g t.eA t.ec t.es A' c' ks') → (∀ q, q ≠ t.g → H' q = H q) → H' t.g ≠ none → K H') : storeF H t.g (0 + 1) [.slice A' n' c'] K := by
  obtain ⟨ty, hc⟩ := hc
  subst hn
  refine ⟨_, ty, hc, by simp [nodeC], hk _ ⟨⟨ty, by rw [show (MT.mk t.g t.eA t.ec t.es A' c' ks').g = t.g from rfl, upd_at]; rfl⟩, ?_, ?_⟩ (fun q hq => upd_off hq) (by rw [upd_at]; simp)⟩
  · exact e.keep fun q hq _ => upd_off fun e => h2 (e ▸ hq)
  · exact R.keep fun q hq _ => upd_off fun e => h1 (e ▸ hq)
theorem NodeM.setK {t : MT} {A' : Option Addr} {c' n' : Nat} {ks' : List MT} {K : Hp → Prop} (N : NodeM H t) (hn : n' = ks'.length) (R : RowO H A' ks'.length c' 1 (ks'.flatMap ptC)) (h1 : ¬ rowB A' t.g) (h2 : ¬ rowB t.eA t.g)
    (hk : ∀ H', NodeM H' (.mk t.g t.eA t.ec t.es A' c' ks') → (∀ q, q ≠ t.g → H' q = H q) → H' t.g ≠ none → K H') : storeF H t.g (0 + 1) [.slice A' n' c'] K := by
  obtain ⟨⟨ty, hc⟩, e, k⟩ := N
  subst hn
  refine ⟨_, ty, hc, by simp [nodeC], hk _ ⟨⟨ty, by rw [show (MT.mk t.g t.eA t.ec t.es A' c' ks').g = t.g from rfl, upd_at]; rfl⟩, ?_, ?_⟩ (fun q hq => upd_off hq) (by rw [upd_at]; simp)⟩
  · exact e.keep fun q hq _ => upd_off fun e => h2 (e ▸ hq)
  · exact R.keep fun q hq _ => upd_off fun e => h1 (e ▸ hq)
end
end Go.Proofs.YtmelbipidffmpaaGreatDoor.Hw

/- Nodes: split. -/
set_option linter.unusedVariables false
set_option linter.unusedSimpArgs false
set_option linter.unusedSectionVars false
set_option maxRecDepth 20000
namespace Go.Proofs.YtmelbipidffmpaaGreatDoor.Hw
open Go Go.Proofs
theorem flat_drop {α : Type} {f : α → List Value} {k : Nat} (hf : ∀ x, (f x).length = k) : ∀ {l : List α} {p : Nat}, (l.flatMap f).drop (p * k) = (l.drop p).flatMap f
  | l, 0 => by simp
  | [], p + 1 => by simp
  | x :: r, p + 1 => by
    rw [List.flatMap_cons, List.drop_succ_cons, ← flat_drop hf (l := r) (p := p), Nat.succ_mul, Nat.add_comm, ← hf x, List.drop_append, List.drop_of_length_le (by omega), List.nil_append]
    congr 1; omega
theorem flat_take {α : Type} {f : α → List Value} {k : Nat} (hf : ∀ x, (f x).length = k) : ∀ {l : List α} {p : Nat}, (l.flatMap f).take (p * k) = (l.take p).flatMap f
  | l, 0 => by simp
  | [], p + 1 => by simp
  | x :: r, p + 1 => by
    rw [List.flatMap_cons, List.take_succ_cons, List.flatMap_cons, ← flat_take hf (l := r) (p := p), Nat.succ_mul, Nat.add_comm, ← hf x, List.take_append, List.take_of_length_le (by omega)]
    congr 2; omega
theorem ptC_len (x : MT) : (ptC x).length = 1 := rfl
theorem half_eq {n : Nat} (h : n < big) : IntKind.i64.wrap (Int.tdiv ((n : Nat) : Int) 2) = ((n / 2 : Nat) : Int) := by
  unfold big at h
  rw [Int.tdiv_eq_ediv_of_nonneg (by omega), wrap_id (by omega) (by omega)]
  omega
section
variable {H : Hp} {A : Option Addr} {n c : Nat} {Q : Value → Hp → Prop}
theorem nd1 {t : MT} (nd : (own1 t).Nodup) : ¬ rowB t.eA t.g ∧ ¬ rowB t.kA t.g ∧ ∀ q, rowB t.eA q → ¬ rowB t.kA q := by
  unfold own1 at nd
  rw [List.nodup_cons, List.nodup_append] at nd
  obtain ⟨h1, h2, h3, h4⟩ := nd
  refine ⟨fun h => h1 (List.mem_append_left _ (blk_row.2 h)), fun h => h1 (List.mem_append_right _ (blk_row.2 h)), fun q hq hk => h4 q (blk_row.2 hq) q (blk_row.2 hk) rfl⟩
theorem nd_mk {g : Nat} {A B : Option Addr} {ec kc : Nat} {es : List EnM} {ks : List MT} (h1 : ¬ rowB A g) (h2 : ¬ rowB B g) (h3 : ∀ q, rowB A q → ¬ rowB B q) : (own1 (.mk g A ec es B kc ks)).Nodup := by
  show (g :: (blkA A ++ blkA B)).Nodup
  rw [List.nodup_cons, List.nodup_append]
  refine ⟨fun h => ?_, ?_, ?_, fun a ha b hb e => h3 a (blk_row.1 ha) (by rw [e]; exact blk_row.1 hb)⟩
  · rcases List.mem_append.1 h with h | h
    · exact h1 (blk_row.1 h)
    · exact h2 (blk_row.1 h)
  · unfold blkA; split <;> simp
  · unfold blkA; split <;> simp
theorem c54 {t : MT} (N : NodeM H t) (h8 : 8 < t.es.length) (hs : t.es.length < 1000) (hks : t.ks = [] ∨ t.ks.length = t.es.length + 1) (nd : (own1 t).Nodup)
    (hq : ∀ H' tl tr mid, t.es[t.es.length / 2]? = some mid → NodeM H' tl → NodeM H' tr → tl.g = t.g → tl.es = t.es.take (t.es.length / 2) → tl.ks = t.ks.take (t.es.length / 2 + 1) → tr.es = t.es.drop (t.es.length / 2 + 1) → tr.ks = t.ks.drop (t.es.length / 2 + 1) → own1 tl = own1 t → (own1 tr).Nodup → (∀ q ∈ own1 tr, H q = none) → FrM H H' (own1 t) (own1 t) → Q (.tuple #[enA mid, .pointer (some ⟨tr.g, 0, none⟩)]) H') :
    HCalls Tryz.prog 54 [.pointer (some ⟨t.g, 0, none⟩)] H Q := by
  refine f54.ok _ _ ?_
  unfold f54
  obtain ⟨m, hm⟩ : ∃ m, m = t.es.length / 2 := ⟨_, rfl⟩
  have ew := half_eq (n := t.es.length) (by unfold big; omega)
  rw [← hm] at ew hq
  have ew2 : IntKind.i64.wrap (((m : Nat) : Int) + 1) = ((m + 1 : Nat) : Int) := by rw [wrap_id (by omega) (by omega)]; omega
  have hle := N.er.le
  have hlk := N.kr.le
  obtain ⟨n1, n2, n3⟩ := nd1 nd
  obtain ⟨mid, hmid⟩ := get_of (l := t.es) (i := m) (by omega)
  refine ⟨_, _, _, N.cl0, by decide, _, _, _, N.cl0, ?_⟩
  rw [ew, ew2]
  simp only [Int.toNat_natCast]
  have D := N.er.drop (p := m + 1) (by omega) (by omega)
  rw [flat_drop enC_len] at D
  refine ⟨by omega, by omega, rd_en (N.esAt (by unfold huge; omega)) hmid fun q o _ k1 k2 => ⟨_, _, _, k1, _, k2, _, _, _, N.cl0, by omega, by omega, ?_⟩⟩
  refine c62 (l := t.es.drop (m + 1)) D.cells (by rw [List.length_drop]) (by unfold big; omega) fun A9 c9 H8 x8 R9 nw9 => ⟨_, _, _, rfl, fun g10 hg10 => ?_⟩
  have x11 : Ext H8 (upd g10 (.cells [.slice A9 (t.es.length - (m + 1)) c9, .slice none 0 0].toArray 91 (0, 0)) H8) := Ext.new hg10
  have Nt := N.ext (x8.trans x11)
  have hl9 : (t.es.drop (m + 1)).length = t.es.length - (m + 1) := List.length_drop
  have g10t : g10 ≠ t.g := fun e => N.live t.g (by simp [own1]) (x8.none (by rw [← e]; exact hg10))
  have hg10H : H g10 = none := x8.none hg10
  have nA9 : ¬ rowB A9 g10 := fun h => R9.live h hg10
  have Nr : NodeM (upd g10 (.cells [.slice A9 (t.es.length - (m + 1)) c9, .slice none 0 0].toArray 91 (0, 0)) H8) (.mk g10 A9 c9 (t.es.drop (m + 1)) none 0 []) := ⟨⟨91, by
    rw [show (MT.mk g10 A9 c9 (t.es.drop (m + 1)) none 0 []).g = g10 from rfl, upd_at]
    show _ = some (Obj.cells (nodeC A9 (t.es.drop (m + 1)).length c9 none 0 0).toArray 91 (0, 0))
    rw [hl9]; rfl⟩, by
    show RowO _ A9 (t.es.drop (m + 1)).length c9 2 _
    rw [hl9]; exact R9.ext x11, RowO.nil⟩
  -- what is done at last
  have fin : ∀ (H20 : Hp) (tk tr : MT), NodeM H20 tk → NodeM H20 tr → tk.g = t.g → tk.eA = t.eA → tk.ec = t.ec → tk.es = t.es → tk.kA = t.kA → tk.ks = t.ks.take (m + 1) → tr.es = t.es.drop (m + 1) → tr.ks = t.ks.drop (m + 1) → tr.g = g10 → (own1 tr).Nodup → (∀ q ∈ own1 tr, H q = none) → FrM H H20 (own1 t) (own1 t) →
      ∃ (A22 : Option Addr) (n22 c22 : Nat), cl H20 t.g (0 + 0) = some (.slice A22 n22 c22) ∧ 0 ≤ (((m : Nat) : Int) : Int) ∧ ((m : Nat) : Int) ≤ ((c22 : Nat) : Int) ∧ storeF H20 t.g (0 + 0) [.slice (cutA A22 (0 * 2) (decide (c22 = 0))) (m - 0) (c22 - 0)] fun H23 => Q (.tuple #[.agg #[.slice mid.A mid.key.length mid.c, .int .i64 mid.id], .pointer (some ⟨g10, 0, none⟩)]) H23 := by
    intro H20 tk tr N1 N2 e1 e2 e3 e4 e5 e6 r1 r2 r3 r4 r5 F
    have c0 := N1.cl0
    rw [e1, e2, e3, e4] at c0
    refine ⟨_, _, _, c0, by omega, by omega, ?_⟩
    rw [cut_zero, Nat.sub_zero, Nat.sub_zero]
    have T := (N1.er.take (p := m) (by rw [e4]; omega))
    rw [flat_take enC_len, e2, e3, e4] at T
    have hlt : (t.es.take m).length = m := by rw [List.length_take]; omega
    have st := N1.setE (A' := t.eA) (c' := t.ec) (n' := m) (es' := t.es.take m) (K := fun H23 => Q (.tuple #[.agg #[.slice mid.A mid.key.length mid.c, .int .i64 mid.id], .pointer (some ⟨g10, 0, none⟩)]) H23) hlt.symm (by rw [hlt]; exact T) (by rw [e1]; exact n1) (by rw [e1, e5]; exact n2) fun H23 N23 off lv => ?_
    · rw [e1] at st; exact st
    · have := hq H23 _ tr mid hmid N23 (N2.keep fun q hq => off q fun e => ?_) e1 rfl e6 r1 r2 (by
        show tk.g :: (blkA t.eA ++ blkA tk.kA) = _
        rw [e1, e5]; rfl) r4 r5 (F.trans ⟨fun q hq => ?_, fun q hq => .inl hq, fun q hq => ?_⟩)
      · rw [r3] at this; exact this
      · rw [e, e1] at hq; exact N.live t.g (by simp [own1]) (r5 _ hq)
      · by_cases e : q = tk.g
        · subst e; rw [e1]; exact .inl (by simp [own1])
        · exact absurd (off q e) hq
      · by_cases e : q = tk.g
        · subst e; exact lv
        · rw [off q e]; exact hq
  refine jn_intro (fun J => ∀ (H20 : Hp) (tk tr : MT), NodeM H20 tk → NodeM H20 tr → tk.g = t.g → tk.eA = t.eA → tk.ec = t.ec → tk.es = t.es → tk.kA = t.kA → tk.ks = t.ks.take (m + 1) → tr.es = t.es.drop (m + 1) → tr.ks = t.ks.drop (m + 1) → tr.g = g10 → (own1 tr).Nodup → (∀ q ∈ own1 tr, H q = none) → FrM H H20 (own1 t) (own1 t) → J H20) fin fun J hJ => ⟨_, _, _, Nt.cl1, ?_⟩
  refine cndI (fun h => ?_) fun h => ?_
  · have h := of_decide_eq_true h
    have hkl : t.ks.length = t.es.length + 1 := by
      rcases hks with h' | h'
      · rw [h'] at h; simp at h
      · exact h'
    have DK := Nt.kr.drop (p := m + 1) (by omega) (by omega)
    rw [flat_drop ptC_len] at DK
    have hlk2 : (t.ks.drop (m + 1)).length = t.ks.length - (m + 1) := List.length_drop
    refine ⟨_, _, _, Nt.cl1, by omega, by omega, c81 (l := t.ks.drop (m + 1)) DK.cells hlk2.symm (by unfold big; omega) fun A16 c16 H15 x15 R16 nw16 => ⟨_, _, _, rfl, ?_⟩⟩
    have Nr15 := Nr.ext x15
    have nA16 : ¬ rowB A16 g10 := fun h => by
      have := nw16 _ h
      rw [upd_at] at this; cases this
    have n916 : ∀ q, rowB A9 q → ¬ rowB A16 q := fun q h9 h16 => by
      have h1 := x11.none (nw16 q h16)
      exact R9.live h9 h1
    have st := Nr15.setK (A' := A16) (c' := c16) (n' := t.ks.length - (m + 1)) (ks' := t.ks.drop (m + 1)) (K := fun H17 => ∃ (A18 : Option Addr) (n18 c18 : Nat), cl H17 t.g (0 + 1) = some (.slice A18 n18 c18) ∧ 0 ≤ (((m + 1 : Nat) : Int) : Int) ∧ ((m + 1 : Nat) : Int) ≤ ((c18 : Nat) : Int) ∧ storeF H17 t.g (0 + 1) [.slice (cutA A18 (0 * 1) (decide (c18 = 0))) ((m + 1) - 0) (c18 - 0)] fun H19 => J H19) hlk2.symm (by rw [hlk2]; exact R16) nA16 nA9 fun H17 N17 off lv => ?_
    · exact st
    · have Nt17 : NodeM H17 t := (Nt.ext x15).keep fun q hq => off q fun e => by
        rw [e] at hq
        exact N.live g10 hq hg10H
      have T := Nt17.kr.take (p := m + 1) (by omega)
      rw [flat_take ptC_len] at T
      have hlt : (t.ks.take (m + 1)).length = m + 1 := by rw [List.length_take]; omega
      refine ⟨_, _, _, Nt17.cl1, by omega, by omega, ?_⟩
      rw [cut_zero, Nat.sub_zero, Nat.sub_zero]
      refine Nt17.setK (A' := t.kA) (c' := t.kc) (n' := m + 1) (ks' := t.ks.take (m + 1)) hlt.symm (by rw [hlt]; exact T) n2 n1 fun H19 N19 off2 lv2 => hJ H19 _ _ N19 (N17.keep fun q hq => off2 q fun e => ?_) rfl rfl rfl rfl rfl rfl rfl rfl rfl (nd_mk nA9 nA16 n916) (fun q hq => ?_) ⟨fun q hq => ?_, fun q hq => .inl hq, fun q hq => ?_⟩
      · -- the right node lies apart from t
        have hq' : H q = none := by
          have hq : q = g10 ∨ rowB A9 q ∨ rowB A16 q := by
            rcases List.mem_cons.1 hq with h | h
            · exact .inl h
            · rcases List.mem_append.1 h with h | h
              · exact .inr (.inl (blk_row.1 h))
              · exact .inr (.inr (blk_row.1 h))
          rcases hq with rfl | h | h
          · exact hg10H
          · exact nw9 q h
          · exact x8.none (x11.none (nw16 q h))
        exact N.live t.g (by simp [own1]) (by rw [← e]; exact hq')
      · rcases List.mem_cons.1 hq with rfl | h
        · exact hg10H
        · rcases List.mem_append.1 h with h | h
          · exact nw9 q (blk_row.1 h)
          · exact x8.none (x11.none (nw16 q (blk_row.1 h)))
      · by_cases e : q = t.g
        · subst e; exact .inl (by simp [own1])
        · refine .inr (Classical.byContradiction fun hn => hq ?_)
          rw [off2 q e, off q (fun e2 => hn (by rw [e2]; exact hg10H))]
          exact ext_at (x8.trans (x11.trans x15)) hn
      · by_cases e : q = t.g
        · subst e; exact lv2
        · rw [off2 q e]
          by_cases e2 : q = g10
          · subst e2; exact lv
          · rw [off q e2, ext_at (x8.trans (x11.trans x15)) hq]; exact hq
  · have h := of_decide_eq_false h
    have hk0 : t.ks = [] := List.eq_nil_of_length_eq_zero (by omega)
    refine hJ _ t _ Nt Nr rfl rfl rfl rfl rfl (by rw [hk0]; rfl) rfl (by rw [hk0]; rfl) rfl (nd_mk nA9 (fun ⟨_, _, h⟩ => by cases h) (fun q _ ⟨_, _, h⟩ => by cases h)) (fun q hq => ?_) (FrM.ofExt (x8.trans x11))
    rcases List.mem_cons.1 hq with rfl | h
    · exact hg10H
    · rcases List.mem_append.1 h with h | h
      · exact nw9 q (blk_row.1 h)
      · simp [blkA, MT.kA] at h
end
end Go.Proofs.YtmelbipidffmpaaGreatDoor.Hw
