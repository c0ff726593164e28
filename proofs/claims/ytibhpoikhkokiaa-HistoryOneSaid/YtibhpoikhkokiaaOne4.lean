/- HwFa (joined by merge.py) -/
import Derived.Test.YtibhpoikhkokiaaOne3
/- What functions of the program come to, by the evaluator: printed by a program of this session (gen.py) and checked here. -/
set_option linter.unusedVariables false
set_option maxRecDepth 100000
namespace Go.Proofs.Ytibhpoikhkokiaa.Hw
open Go Go.Proofs

/-- justiciar justiciarlaw29.HistoryOne -/
def f3 (pl_A : Option Addr) (pl_n pl_c : Nat) (H : Hp) (Q : Value → Hp → Prop) : Prop :=
  cnd (decide ((((pl_n : Nat) : Int) : Int) > 12)) (HCalls Try.prog 4 [] H fun v1 H2 => ∃ x3 : Bool, v1 = .bool x3 ∧ Q (.bool x3) H2) (LoopF (σ := ((Option Addr × Nat × Nat) × (Int × Unit)) × Unit) (((none, 0, 0), (0, ())),
    ()) H fun s4 H5 next6 => cnd (decide ((s4.1.2.1 : Int) < 201)) (newF H5 3 [.int .i64 0] fun g7 H8 => appendF H8 3 1 8 s4.1.1.1 s4.1.1.2.1 s4.1.1.2.2 (some ⟨g7, 0, none⟩) 1 fun A9 n9 c9 H10 => KeepX [some (.v (.slice
    pl_A pl_n pl_c)), some (.v (.slice none 0 0)), some (.v (.slice none 0 0))] [] ∧ next6 (((A9, n9, c9), (IntKind.i64.wrap (s4.1.2.1 + 1), ())), ()) H10) (LoopF (σ := ((Option Addr × Nat × Nat) × ((Option Addr × Nat ×
    Nat) × (Int × Unit))) × Unit) (((none, 0, 0), ((none, 0, 0), (0, ()))), ()) H5 fun s11 H12 next13 => cnd (decide ((s11.1.2.2.1 : Int) < ((pl_n : Nat) : Int))) (0 ≤ (s11.1.2.2.1 : Int) ∧ (s11.1.2.2.1 : Int) < ((pl_n :
    Nat) : Int) ∧ onPtr pl_A fun b14 o14 => ∃ (A15 : Option Addr) (n15 c15 : Nat), cl H12 b14 (o14 + (s11.1.2.2.1 : Int).toNat * 1) = some (.slice A15 n15 c15) ∧ cnd (decide ((((n15 : Nat) : Int) : Int) > 8)) (HCalls
    Try.prog 4 [] H12 fun v16 H17 => ∃ x18 : Bool, v16 = .bool x18 ∧ Q (.bool x18) H17) ((13 : Int) ≠ 0 ∧ newF H12 3 [.int .i64 (IntKind.i64.wrap (1 + (Int.tmod (IntKind.i64.wrap (s11.1.2.2.1 * 7)) 13)))] fun g19 H20 =>
    appendF H20 3 1 8 s11.1.2.1.1 s11.1.2.1.2.1 s11.1.2.1.2.2 (some ⟨g19, 0, none⟩) 1 fun A21 n21 c21 H22 => HCalls Try.prog 5 [.int .i64 (IntKind.i64.wrap (1 + (Int.tmod (IntKind.i64.wrap (s11.1.2.2.1 * 7)) 13)))] H22
    fun v23 H24 => ∃ x25 : Int, ∃ x26 : Int, ∃ x27 : Int, ∃ x28 : Int, ∃ x29 : Int, v23 = .agg #[.int .i64 x25, .int .i64 x26, .int .i64 x27, .int .i64 x28, .int .i64 x29] ∧ newF H24 29 [.int .i64 x25, .int .i64 x26, .int
    .i64 x27, .int .i64 x28, .int .i64 x29] fun g30 H31 => appendF H31 29 5 40 s11.1.1.1 s11.1.1.2.1 s11.1.1.2.2 (some ⟨g30, 0, none⟩) 1 fun A32 n32 c32 H33 => LoopF (σ := ((Option Addr × Nat × Nat) × (Int × Unit)) ×
    Unit) (((A32, n32, c32), (0, ())), ()) H33 fun s34 H35 next36 => cnd (decide ((s34.1.2.1 : Int) < ((n15 : Nat) : Int))) (jn (fun (jA66 : Option Addr) (jn67 : Nat) (jc68 : Nat) (H69 : Hp) => KeepX [some (.v (.slice A21
    n21 c21)), some (.v (.slice s4.1.1.1 s4.1.1.2.1 s4.1.1.2.2)), some (.v (.int .i64 (IntKind.i64.wrap (1 + (Int.tmod (IntKind.i64.wrap (s11.1.2.2.1 * 7)) 13))))), some (.v (.slice pl_A pl_n pl_c)), some (.v (.int .i64
    ((pl_n : Nat) : Int))), some (.v (.int .i64 s11.1.2.2.1)), some (.v (.slice A15 n15 c15)), some (.v (.int .i64 ((n15 : Nat) : Int)))] [] ∧ next36 (((jA66, jn67, jc68), (IntKind.i64.wrap (s34.1.2.1 + 1), ())), ()) H69)
    fun J70 => 0 ≤ (s34.1.2.1 : Int) ∧ (s34.1.2.1 : Int) < ((n15 : Nat) : Int) ∧ onPtr A15 fun b37 o37 => ∃ x38 : Int, cl H35 b37 (o37 + (s34.1.2.1 : Int).toNat * 2) = some (.int .u8 x38) ∧ ∃ x39 : Bool, cl H35 b37 ((o37
    + (s34.1.2.1 : Int).toNat * 2) + 1) = some (.bool x39) ∧ (200 : Int) ≠ 0 ∧ cnd x39 (HCalls Try.prog 6 [.int .i64 (IntKind.i64.wrap (1 + (Int.tmod (IntKind.i64.wrap (s11.1.2.2.1 * 7)) 13))), .int .i64 (IntKind.i64.wrap
    (1 + (Int.tmod (IntKind.i64.wrap x38) 200))), .int .i64 (IntKind.i64.wrap (s34.1.2.1 + 1))] H35 fun v40 H41 => ∃ x42 : Int, ∃ x43 : Int, ∃ x44 : Int, ∃ x45 : Int, ∃ x46 : Int, v40 = .agg #[.int .i64 x42, .int .i64
    x43, .int .i64 x44, .int .i64 x45, .int .i64 x46] ∧ newF H41 29 [.int .i64 x42, .int .i64 x43, .int .i64 x44, .int .i64 x45, .int .i64 x46] fun g47 H48 => appendF H48 29 5 40 s34.1.1.1 s34.1.1.2.1 s34.1.1.2.2 (some
    ⟨g47, 0, none⟩) 1 fun A49 n49 c49 H50 => 0 ≤ (IntKind.i64.wrap (1 + (Int.tmod (IntKind.i64.wrap x38) 200)) : Int) ∧ (IntKind.i64.wrap (1 + (Int.tmod (IntKind.i64.wrap x38) 200)) : Int) < ((s4.1.1.2.1 : Nat) : Int) ∧
    onPtr s4.1.1.1 fun b51 o51 => storeF H50 b51 (o51 + (IntKind.i64.wrap (1 + (Int.tmod (IntKind.i64.wrap x38) 200)) : Int).toNat * 1) [.int .i64 (IntKind.i64.wrap (1 + (Int.tmod (IntKind.i64.wrap (s11.1.2.2.1 * 7))
    13)))] fun H52 => J70 A49 n49 c49 H52) (0 ≤ (IntKind.i64.wrap (1 + (Int.tmod (IntKind.i64.wrap x38) 200)) : Int) ∧ (IntKind.i64.wrap (1 + (Int.tmod (IntKind.i64.wrap x38) 200)) : Int) < ((s4.1.1.2.1 : Nat) : Int) ∧
    onPtr s4.1.1.1 fun b53 o53 => ∃ x54 : Int, cl H35 b53 (o53 + (IntKind.i64.wrap (1 + (Int.tmod (IntKind.i64.wrap x38) 200)) : Int).toNat * 1) = some (.int .i64 x54) ∧ HCalls Try.prog 7 [.int .i64 (IntKind.i64.wrap (1 +
    (Int.tmod (IntKind.i64.wrap (s11.1.2.2.1 * 7)) 13))), .int .i64 (IntKind.i64.wrap (1 + (Int.tmod (IntKind.i64.wrap x38) 200))), .int .i64 x54, .int .i64 (IntKind.i64.wrap (s34.1.2.1 + 1))] H35 fun v55 H56 => ∃ x57 :
    Int, ∃ x58 : Int, ∃ x59 : Int, ∃ x60 : Int, ∃ x61 : Int, v55 = .agg #[.int .i64 x57, .int .i64 x58, .int .i64 x59, .int .i64 x60, .int .i64 x61] ∧ newF H56 29 [.int .i64 x57, .int .i64 x58, .int .i64 x59, .int .i64
    x60, .int .i64 x61] fun g62 H63 => appendF H63 29 5 40 s34.1.1.1 s34.1.1.2.1 s34.1.1.2.2 (some ⟨g62, 0, none⟩) 1 fun A64 n64 c64 H65 => J70 A64 n64 c64 H65)) (HCalls Try.prog 8 [.int .i64 (IntKind.i64.wrap (1 +
    (Int.tmod (IntKind.i64.wrap (s11.1.2.2.1 * 7)) 13)))] H35 fun v71 H72 => ∃ x73 : Int, ∃ x74 : Int, ∃ x75 : Int, ∃ x76 : Int, ∃ x77 : Int, v71 = .agg #[.int .i64 x73, .int .i64 x74, .int .i64 x75, .int .i64 x76, .int
    .i64 x77] ∧ newF H72 29 [.int .i64 x73, .int .i64 x74, .int .i64 x75, .int .i64 x76, .int .i64 x77] fun g78 H79 => appendF H79 29 5 40 s34.1.1.1 s34.1.1.2.1 s34.1.1.2.2 (some ⟨g78, 0, none⟩) 1 fun A80 n80 c80 H81 =>
    KeepX [some (.v (.slice s4.1.1.1 s4.1.1.2.1 s4.1.1.2.2)), some (.v (.slice pl_A pl_n pl_c)), some (.v (.int .i64 ((pl_n : Nat) : Int)))] [] ∧ next13 (((A80, n80, c80), ((A21, n21, c21), (IntKind.i64.wrap (s11.1.2.2.1
    + 1), ()))), ()) H81))) (HCalls Try.prog 9 [.slice s11.1.1.1 s11.1.1.2.1 s11.1.1.2.2] H12 fun v82 H83 => ∃ (A84 : Option Addr) (n84 c84 : Nat), ∃ x85 : Bool, ∃ x86 : Int, v82 = .tuple #[.slice A84 n84 c84, .bool x85,
    .int .i64 x86] ∧ HCalls Try.prog 10 [.slice s11.1.1.1 s11.1.1.2.1 s11.1.1.2.2] H83 fun v87 H88 => ∃ x89 : Bool, ∃ x90 : Int, v87 = .tuple #[.bool x89, .int .i64 x90] ∧ HCalls Try.prog 11 [.slice s11.1.1.1 s11.1.1.2.1
    s11.1.1.2.2] H88 fun v91 H92 => ∃ x93 : Bool, ∃ x94 : Int, v91 = .tuple #[.bool x93, .int .i64 x94] ∧ HCalls Try.prog 12 [.slice s11.1.1.1 s11.1.1.2.1 s11.1.1.2.2] H92 fun v95 H96 => ∃ (A97 : Option Addr) (n97 c97 :
    Nat), ∃ x98 : Int, v95 = .tuple #[.slice A97 n97 c97, .int .i64 x98] ∧ jn (fun (j102 : Bool) (H103 : Hp) => cnd j102 (Q (.bool false) H103) (((201 : Int) = 201 ∧ 0 ≤ (201 : Int) ∧ (201 : Int) ≤ 16777216 ∧ newF H103 3
    (List.replicate ((201 : Int).toNat) [.int .i64 0]).flatten fun g105 H106 => LoopF (σ := (Int × Unit) × Unit) ((0, ()), ()) H106 fun s107 H108 next109 => cnd (decide ((s107.1.1 : Int) < ((s11.1.2.1.2.1 : Nat) : Int)))
    (0 ≤ (s107.1.1 : Int) ∧ (s107.1.1 : Int) < ((s11.1.2.1.2.1 : Nat) : Int) ∧ onPtr s11.1.2.1.1 fun b110 o110 => ∃ x111 : Int, cl H108 b110 (o110 + (s107.1.1 : Int).toNat * 1) = some (.int .i64 x111) ∧ 0 ≤ (x111 : Int) ∧
    (x111 : Int) < ((((201 : Int).toNat) : Nat) : Int) ∧ storeF H108 g105 (0 + (x111 : Int).toNat * 1) [.int .i64 (IntKind.i64.wrap (s107.1.1 + 1))] fun H112 => KeepX [some (.v (.slice s11.1.1.1 s11.1.1.2.1 s11.1.1.2.2)),
    some (.v (.slice A84 n84 c84)), some (.v (.slice (some ⟨g105, 0, none⟩) ((201 : Int).toNat) ((201 : Int).toNat))), some (.v (.slice s11.1.2.1.1 s11.1.2.1.2.1 s11.1.2.1.2.2)), some (.v (.int .i64 ((s11.1.2.1.2.1 : Nat)
    : Int)))] [] ∧ next109 ((IntKind.i64.wrap (s107.1.1 + 1), ()), ()) H112) (LoopF (σ := (Int × Unit) × Unit) ((0, ()), ()) H108 fun s113 H114 next115 => cnd (decide ((s113.1.1 : Int) < ((n84 : Nat) : Int))) (0 ≤
    (s113.1.1 : Int) ∧ (s113.1.1 : Int) < ((n84 : Nat) : Int) ∧ onPtr A84 fun b116 o116 => ∃ x117 : Int, cl H114 b116 (o116 + (s113.1.1 : Int).toNat * 1) = some (.int .i64 x117) ∧ jn (fun (j119 : Bool) => cnd j119 (Q
    (.bool false) H114) (KeepX [some (.v (.slice s11.1.1.1 s11.1.1.2.1 s11.1.1.2.2)), some (.v (.slice (some ⟨g105, 0, none⟩) ((201 : Int).toNat) ((201 : Int).toNat))), some (.v (.slice A84 n84 c84)), some (.v (.int .i64
    ((n84 : Nat) : Int)))] [] ∧ next115 ((IntKind.i64.wrap (s113.1.1 + 1), ()), ()) H114)) fun J120 => cnd (decide ((x117 : Int) < 1)) (J120 true) (cnd (decide ((x117 : Int) > 200)) (J120 true) (0 ≤ (x117 : Int) ∧ (x117 :
    Int) < ((((201 : Int).toNat) : Nat) : Int) ∧ ∃ x118 : Int, cl H114 g105 (0 + (x117 : Int).toNat * 1) = some (.int .i64 x118) ∧ J120 ((x118 : Int) == 0)))) (HCalls Try.prog 14 [.slice s11.1.1.1 s11.1.1.2.1 s11.1.1.2.2]
    H114 fun v121 H122 => ∃ (A123 : Option Addr) (n123 c123 : Nat), ∃ x124 : Int, v121 = .tuple #[.slice A123 n123 c123, .int .i64 x124] ∧ LoopF (σ := (Int × Unit) × Unit) ((0, ()), ()) H122 fun s125 H126 next127 => cnd
    (decide ((s125.1.1 : Int) < ((n123 : Nat) : Int))) (0 ≤ (s125.1.1 : Int) ∧ (s125.1.1 : Int) < ((n123 : Nat) : Int) ∧ onPtr A123 fun b128 o128 => ∃ x129 : Int, cl H126 b128 (o128 + (s125.1.1 : Int).toNat * 4) = some
    (.int .i64 x129) ∧ ∃ x130 : Int, cl H126 b128 ((o128 + (s125.1.1 : Int).toNat * 4) + 1) = some (.int .i64 x130) ∧ ∃ x131 : Int, cl H126 b128 (((o128 + (s125.1.1 : Int).toNat * 4) + 1) + 1) = some (.int .i64 x131) ∧ ∃
    x132 : Int, cl H126 b128 ((((o128 + (s125.1.1 : Int).toNat * 4) + 1) + 1) + 1) = some (.int .i64 x132) ∧ 0 ≤ (x129 : Int) ∧ (x129 : Int) < ((((201 : Int).toNat) : Nat) : Int) ∧ ∃ x133 : Int, cl H126 g105 (0 + (x129 :
    Int).toNat * 1) = some (.int .i64 x133) ∧ 0 ≤ (x130 : Int) ∧ (x130 : Int) < ((((201 : Int).toNat) : Nat) : Int) ∧ ∃ x134 : Int, cl H126 g105 (0 + (x130 : Int).toNat * 1) = some (.int .i64 x134) ∧ cnd (decide ((x133 :
    Int) ≥ x134)) (Q (.bool false) H126) (KeepX [some (.v (.slice (some ⟨g105, 0, none⟩) ((201 : Int).toNat) ((201 : Int).toNat))), some (.v (.int .i64 x124)), some (.v (.slice A123 n123 c123)), some (.v (.int .i64 ((n123
    : Nat) : Int)))] [] ∧ next127 ((IntKind.i64.wrap (s125.1.1 + 1), ()), ()) H126)) (jn (fun (j138 : Bool) (H139 : Hp) => Q (.bool j138) H139) fun J140 => cnd ((x124 : Int) == 0) (HCalls Try.prog 4 [] H126 fun v135 H136
    => ∃ x137 : Bool, v135 = .bool x137 ∧ J140 x137 H136) (J140 false H126))))))) fun J104 => HCalls Try.prog 13 [.slice s11.1.1.1 s11.1.1.2.1 s11.1.1.2.2] H96 fun v99 H100 => ∃ x101 : Bool, v99 = .bool x101 ∧ cnd (!x101)
    (J104 true H100) (cnd (!x85) (J104 true H100) (cnd ((x86 : Int) != 0) (J104 true H100) (cnd (!x89) (J104 true H100) (cnd ((x90 : Int) != 0) (J104 true H100) (cnd (!x93) (J104 true H100) (cnd ((x94 : Int) != 0) (J104
    true H100) (cnd ((((n97 : Nat) : Int) : Int) != 0) (J104 true H100) (cnd ((x98 : Int) != 0) (J104 true H100) (J104 ((((n84 : Nat) : Int) : Int) != ((s11.1.2.1.2.1 : Nat) : Int)) H100))))))))))))
noncomputable def fcx3 : Cx := cx 235 [(10, true), (29, true)] [(6, ⟨[0, 3, 4], [], [(5, .slice), (34, .int .i64)], []⟩), (10, ⟨[5, 40, 41], [], [(3, .slice), (4, .slice), (42, .int .i64)], []⟩), (18, ⟨[4, 5, 8, 40, 41, 42, 64, 65], [], [(3, .slice), (66, .int .i64)], []⟩), (36, ⟨[3, 12, 21, 174, 175], [], [(176, .int .i64)], []⟩), (41, ⟨[3, 21, 187, 188], [], [(189, .int .i64)], []⟩), (48, ⟨[21, 27, 212, 213], [], [(214, .int .i64)], []⟩)] [(50, (.look 0 (.look 1 (.look 2 (.look 3 (.look 4 (.look 5 (.look 6 (.look 7 (.look 8 (.look 9 (.look 10 .done))))))))))))] []
theorem f3.eq (pl_A : Option Addr) (pl_n pl_c : Nat) (H : Hp) (Q : Value → Hp → Prop) : f3 pl_A pl_n pl_c H Q = wFun fcx3 Try.f3 [.slice pl_A pl_n pl_c] H Q := by kernel_rfl
theorem f3.ok (pl_A : Option Addr) (pl_n pl_c : Nat) {H : Hp} {Q : Value → Hp → Prop} (h : f3 pl_A pl_n pl_c H Q) : HCalls Try.prog 3 [.slice pl_A pl_n pl_c] H Q := hcalls_of (cxOk 235 [(10, true), (29, true)] [(6, ⟨[0, 3, 4], [], [(5, .slice), (34, .int .i64)], []⟩), (10, ⟨[5, 40, 41], [], [(3, .slice), (4, .slice), (42, .int .i64)], []⟩), (18, ⟨[4, 5, 8, 40, 41, 42, 64, 65], [], [(3, .slice), (66, .int .i64)], []⟩), (36, ⟨[3, 12, 21, 174, 175], [], [(176, .int .i64)], []⟩), (41, ⟨[3, 21, 187, 188], [], [(189, .int .i64)], []⟩), (48, ⟨[21, 27, 212, 213], [], [(214, .int .i64)], []⟩)] [(50, (.look 0 (.look 1 (.look 2 (.look 3 (.look 4 (.look 5 (.look 6 (.look 7 (.look 8 (.look 9 (.look 10 .done))))))))))))] []) Try.func3 (Eq.mp (f3.eq pl_A pl_n pl_c H Q) h)

/-- justiciar justiciarlaw29.awake -/
def f4  (H : Hp) (Q : Value → Hp → Prop) : Prop :=
  HCalls Try.prog 5 [.int .i64 1] H fun v1 H2 => ∃ x3 : Int, ∃ x4 : Int, ∃ x5 : Int, ∃ x6 : Int, ∃ x7 : Int, v1 = .agg #[.int .i64 x3, .int .i64 x4, .int .i64 x5, .int .i64 x6, .int .i64 x7] ∧ HCalls Try.prog 5 [.int .i64
    2] H2 fun v8 H9 => ∃ x10 : Int, ∃ x11 : Int, ∃ x12 : Int, ∃ x13 : Int, ∃ x14 : Int, v8 = .agg #[.int .i64 x10, .int .i64 x11, .int .i64 x12, .int .i64 x13, .int .i64 x14] ∧ HCalls Try.prog 7 [.int .i64 1, .int .i64 1,
    .int .i64 0, .int .i64 1] H9 fun v15 H16 => ∃ x17 : Int, ∃ x18 : Int, ∃ x19 : Int, ∃ x20 : Int, ∃ x21 : Int, v15 = .agg #[.int .i64 x17, .int .i64 x18, .int .i64 x19, .int .i64 x20, .int .i64 x21] ∧ HCalls Try.prog 7
    [.int .i64 2, .int .i64 1, .int .i64 0, .int .i64 1] H16 fun v22 H23 => ∃ x24 : Int, ∃ x25 : Int, ∃ x26 : Int, ∃ x27 : Int, ∃ x28 : Int, v22 = .agg #[.int .i64 x24, .int .i64 x25, .int .i64 x26, .int .i64 x27, .int
    .i64 x28] ∧ HCalls Try.prog 6 [.int .i64 1, .int .i64 1, .int .i64 2] H23 fun v29 H30 => ∃ x31 : Int, ∃ x32 : Int, ∃ x33 : Int, ∃ x34 : Int, ∃ x35 : Int, v29 = .agg #[.int .i64 x31, .int .i64 x32, .int .i64 x33, .int
    .i64 x34, .int .i64 x35] ∧ HCalls Try.prog 8 [.int .i64 1] H30 fun v36 H37 => ∃ x38 : Int, ∃ x39 : Int, ∃ x40 : Int, ∃ x41 : Int, ∃ x42 : Int, v36 = .agg #[.int .i64 x38, .int .i64 x39, .int .i64 x40, .int .i64 x41,
    .int .i64 x42] ∧ HCalls Try.prog 6 [.int .i64 2, .int .i64 1, .int .i64 2] H37 fun v43 H44 => ∃ x45 : Int, ∃ x46 : Int, ∃ x47 : Int, ∃ x48 : Int, ∃ x49 : Int, v43 = .agg #[.int .i64 x45, .int .i64 x46, .int .i64 x47,
    .int .i64 x48, .int .i64 x49] ∧ HCalls Try.prog 8 [.int .i64 2] H44 fun v50 H51 => ∃ x52 : Int, ∃ x53 : Int, ∃ x54 : Int, ∃ x55 : Int, ∃ x56 : Int, v50 = .agg #[.int .i64 x52, .int .i64 x53, .int .i64 x54, .int .i64
    x55, .int .i64 x56] ∧ newF H51 29 [.int .i64 x3, .int .i64 x4, .int .i64 x5, .int .i64 x6, .int .i64 x7, .int .i64 x10, .int .i64 x11, .int .i64 x12, .int .i64 x13, .int .i64 x14, .int .i64 x17, .int .i64 x18, .int
    .i64 x19, .int .i64 x20, .int .i64 x21, .int .i64 x24, .int .i64 x25, .int .i64 x26, .int .i64 x27, .int .i64 x28, .int .i64 x31, .int .i64 x32, .int .i64 x33, .int .i64 x34, .int .i64 x35, .int .i64 x38, .int .i64
    x39, .int .i64 x40, .int .i64 x41, .int .i64 x42, .int .i64 x45, .int .i64 x46, .int .i64 x47, .int .i64 x48, .int .i64 x49, .int .i64 x52, .int .i64 x53, .int .i64 x54, .int .i64 x55, .int .i64 x56] fun g57 H58 =>
    HCalls Try.prog 12 [.slice (some ⟨g57, 0, none⟩) 8 8] H58 fun v59 H60 => ∃ (A61 : Option Addr) (n61 c61 : Nat), ∃ x62 : Int, v59 = .tuple #[.slice A61 n61 c61, .int .i64 x62] ∧ HCalls Try.prog 10 [.slice (some ⟨g57,
    0, none⟩) 8 8] H60 fun v63 H64 => ∃ x65 : Bool, ∃ x66 : Int, v63 = .tuple #[.bool x65, .int .i64 x66] ∧ HCalls Try.prog 11 [.slice (some ⟨g57, 0, none⟩) 8 8] H64 fun v67 H68 => ∃ x69 : Bool, ∃ x70 : Int, v67 = .tuple
    #[.bool x69, .int .i64 x70] ∧ HCalls Try.prog 14 [.slice (some ⟨g57, 0, none⟩) 8 8] H68 fun v71 H72 => ∃ (A73 : Option Addr) (n73 c73 : Nat), ∃ x74 : Int, v71 = .tuple #[.slice A73 n73 c73, .int .i64 x74] ∧ HCalls
    Try.prog 9 [.slice (some ⟨g57, 0, none⟩) 8 8] H72 fun v75 H76 => ∃ (A77 : Option Addr) (n77 c77 : Nat), ∃ x78 : Bool, ∃ x79 : Int, v75 = .tuple #[.slice A77 n77 c77, .bool x78, .int .i64 x79] ∧ HCalls Try.prog 15
    [.slice (some ⟨g57, 0, none⟩) 8 8] H76 fun v80 H81 => ∃ (A82 : Option Addr) (n82 c82 : Nat), ∃ x83 : Int, v80 = .tuple #[.slice A82 n82 c82, .int .i64 x83] ∧ HCalls Try.prog 5 [.int .i64 2] H81 fun v84 H85 => ∃ x86 :
    Int, ∃ x87 : Int, ∃ x88 : Int, ∃ x89 : Int, ∃ x90 : Int, v84 = .agg #[.int .i64 x86, .int .i64 x87, .int .i64 x88, .int .i64 x89, .int .i64 x90] ∧ HCalls Try.prog 7 [.int .i64 2, .int .i64 1, .int .i64 0, .int .i64 1]
    H85 fun v91 H92 => ∃ x93 : Int, ∃ x94 : Int, ∃ x95 : Int, ∃ x96 : Int, ∃ x97 : Int, v91 = .agg #[.int .i64 x93, .int .i64 x94, .int .i64 x95, .int .i64 x96, .int .i64 x97] ∧ HCalls Try.prog 6 [.int .i64 2, .int .i64
    1, .int .i64 1] H92 fun v98 H99 => ∃ x100 : Int, ∃ x101 : Int, ∃ x102 : Int, ∃ x103 : Int, ∃ x104 : Int, v98 = .agg #[.int .i64 x100, .int .i64 x101, .int .i64 x102, .int .i64 x103, .int .i64 x104] ∧ HCalls Try.prog 8
    [.int .i64 2] H99 fun v105 H106 => ∃ x107 : Int, ∃ x108 : Int, ∃ x109 : Int, ∃ x110 : Int, ∃ x111 : Int, v105 = .agg #[.int .i64 x107, .int .i64 x108, .int .i64 x109, .int .i64 x110, .int .i64 x111] ∧ HCalls Try.prog
    5 [.int .i64 1] H106 fun v112 H113 => ∃ x114 : Int, ∃ x115 : Int, ∃ x116 : Int, ∃ x117 : Int, ∃ x118 : Int, v112 = .agg #[.int .i64 x114, .int .i64 x115, .int .i64 x116, .int .i64 x117, .int .i64 x118] ∧ HCalls
    Try.prog 7 [.int .i64 1, .int .i64 1, .int .i64 2, .int .i64 1] H113 fun v119 H120 => ∃ x121 : Int, ∃ x122 : Int, ∃ x123 : Int, ∃ x124 : Int, ∃ x125 : Int, v119 = .agg #[.int .i64 x121, .int .i64 x122, .int .i64 x123,
    .int .i64 x124, .int .i64 x125] ∧ HCalls Try.prog 8 [.int .i64 1] H120 fun v126 H127 => ∃ x128 : Int, ∃ x129 : Int, ∃ x130 : Int, ∃ x131 : Int, ∃ x132 : Int, v126 = .agg #[.int .i64 x128, .int .i64 x129, .int .i64
    x130, .int .i64 x131, .int .i64 x132] ∧ newF H127 29 [.int .i64 x86, .int .i64 x87, .int .i64 x88, .int .i64 x89, .int .i64 x90, .int .i64 x93, .int .i64 x94, .int .i64 x95, .int .i64 x96, .int .i64 x97, .int .i64
    x100, .int .i64 x101, .int .i64 x102, .int .i64 x103, .int .i64 x104, .int .i64 x107, .int .i64 x108, .int .i64 x109, .int .i64 x110, .int .i64 x111, .int .i64 x114, .int .i64 x115, .int .i64 x116, .int .i64 x117,
    .int .i64 x118, .int .i64 x121, .int .i64 x122, .int .i64 x123, .int .i64 x124, .int .i64 x125, .int .i64 x128, .int .i64 x129, .int .i64 x130, .int .i64 x131, .int .i64 x132] fun g133 H134 => HCalls Try.prog 9
    [.slice (some ⟨g133, 0, none⟩) 7 7] H134 fun v135 H136 => ∃ (A137 : Option Addr) (n137 c137 : Nat), ∃ x138 : Bool, ∃ x139 : Int, v135 = .tuple #[.slice A137 n137 c137, .bool x138, .int .i64 x139] ∧ newF H136 3 [.int
    .i64 1, .int .i64 2] fun g140 H141 => HCalls Try.prog 16 [.slice (some ⟨g133, 0, none⟩) 7 7, .slice (some ⟨g140, 0, none⟩) 2 2] H141 fun v142 H143 => ∃ x144 : Bool, ∃ x145 : Int, v142 = .tuple #[.bool x144, .int .i64
    x145] ∧ newF H143 3 [.int .i64 1] fun g146 H147 => HCalls Try.prog 17 [.slice (some ⟨g133, 0, none⟩) 7 7, .slice (some ⟨g146, 0, none⟩) 1 1] H147 fun v148 H149 => ∃ (A150 : Option Addr) (n150 c150 : Nat), ∃ x151 :
    Int, v148 = .tuple #[.slice A150 n150 c150, .int .i64 x151] ∧ HCalls Try.prog 5 [.int .i64 0] H149 fun v152 H153 => ∃ x154 : Int, ∃ x155 : Int, ∃ x156 : Int, ∃ x157 : Int, ∃ x158 : Int, v152 = .agg #[.int .i64 x154,
    .int .i64 x155, .int .i64 x156, .int .i64 x157, .int .i64 x158] ∧ newF H153 29 [.int .i64 x154, .int .i64 x155, .int .i64 x156, .int .i64 x157, .int .i64 x158] fun g159 H160 => HCalls Try.prog 14 [.slice (some ⟨g159,
    0, none⟩) 1 1] H160 fun v161 H162 => ∃ (A163 : Option Addr) (n163 c163 : Nat), ∃ x164 : Int, v161 = .tuple #[.slice A163 n163 c163, .int .i64 x164] ∧ jn (fun (j165 : Bool) => cnd j165 (Q (.bool false) H162) (jn (fun
    (j194 : Bool) (H195 : Hp) => Q (.bool j194) H195) fun J196 => 0 ≤ (0 : Int) ∧ (0 : Int) < ((n61 : Nat) : Int) ∧ onPtr A61 fun b167 o167 => ∃ s168 : ByteArray, cl H162 b167 (o167 + (0 : Int).toNat * 1) = some (.string
    s168) ∧ cnd (s168.toList == ({ data := #[99, 105, 114, 99, 108, 101, 32, 114, 119] } : ByteArray).toList) (cnd ((x62 : Int) == 0) (cnd (!x65) (cnd ((x66 : Int) == 0) (cnd x69 (cnd ((x70 : Int) == 0) (0 ≤ (0 : Int) ∧
    (0 : Int) < ((n73 : Nat) : Int) ∧ onPtr A73 fun b169 o169 => ∃ x170 : Int, cl H162 b169 (o169 + (0 : Int).toNat * 4) = some (.int .i64 x170) ∧ ∃ x171 : Int, cl H162 b169 ((o169 + (0 : Int).toNat * 4) + 1) = some (.int
    .i64 x171) ∧ ∃ x172 : Int, cl H162 b169 (((o169 + (0 : Int).toNat * 4) + 1) + 1) = some (.int .i64 x172) ∧ ∃ x173 : Int, cl H162 b169 ((((o169 + (0 : Int).toNat * 4) + 1) + 1) + 1) = some (.int .i64 x173) ∧ cnd
    (((x170 : Int) == 1) && (((x171 : Int) == 2) && (((x172 : Int) == 1) && (((x173 : Int) == 1) && true)))) (0 ≤ (1 : Int) ∧ (1 : Int) < ((n73 : Nat) : Int) ∧ onPtr A73 fun b174 o174 => ∃ x175 : Int, cl H162 b174 (o174 +
    (1 : Int).toNat * 4) = some (.int .i64 x175) ∧ ∃ x176 : Int, cl H162 b174 ((o174 + (1 : Int).toNat * 4) + 1) = some (.int .i64 x176) ∧ ∃ x177 : Int, cl H162 b174 (((o174 + (1 : Int).toNat * 4) + 1) + 1) = some (.int
    .i64 x177) ∧ ∃ x178 : Int, cl H162 b174 ((((o174 + (1 : Int).toNat * 4) + 1) + 1) + 1) = some (.int .i64 x178) ∧ cnd (((x175 : Int) == 2) && (((x176 : Int) == 1) && (((x177 : Int) == 3) && (((x178 : Int) == 1) &&
    true)))) (cnd ((x74 : Int) == 0) (cnd (!x78) (cnd ((x79 : Int) == 0) (newF H162 3 [.int .i64 1, .int .i64 2] fun g179 H180 => HCalls Try.prog 18 [.slice A82 n82 c82, .slice (some ⟨g179, 0, none⟩) 2 2] H180 fun v181
    H182 => ∃ x183 : Bool, v181 = .bool x183 ∧ cnd x183 (cnd ((x83 : Int) == 0) (cnd x138 (newF H182 3 [.int .i64 2, .int .i64 1] fun g184 H185 => HCalls Try.prog 18 [.slice A137 n137 c137, .slice (some ⟨g184, 0, none⟩) 2
    2] H185 fun v186 H187 => ∃ x188 : Bool, v186 = .bool x188 ∧ cnd x188 (cnd ((x139 : Int) == 0) (cnd x144 (cnd ((x145 : Int) == 0) (0 ≤ (1 : Int) ∧ (1 : Int) < ((n150 : Nat) : Int) ∧ onPtr A150 fun b189 o189 => ∃ x190 :
    Int, cl H187 b189 ((o189 + (1 : Int).toNat * 5) + 3) = some (.int .i64 x190) ∧ cnd ((x190 : Int) == 0) (cnd ((x151 : Int) == 0) (cnd ((x164 : Int) == 2) (HCalls Try.prog 13 [.slice (some ⟨g57, 0, none⟩) 8 8] H187 fun
    v191 H192 => ∃ x193 : Bool, v191 = .bool x193 ∧ J196 x193 H192) (J196 false H187)) (J196 false H187)) (J196 false H187)) (J196 false H187)) (J196 false H187)) (J196 false H187)) (J196 false H187)) (J196 false H182))
    (J196 false H182)) (J196 false H182)) (J196 false H162)) (J196 false H162)) (J196 false H162)) (J196 false H162)) (J196 false H162)) (J196 false H162)) (J196 false H162)) (J196 false H162)) (J196 false H162)) (J196
    false H162)) (J196 false H162))) fun J166 => cnd ((((n61 : Nat) : Int) : Int) != 1) (J166 true) (cnd ((((n73 : Nat) : Int) : Int) != 2) (J166 true) (J166 ((((n150 : Nat) : Int) : Int) != 3)))
noncomputable def fcx4 : Cx := cx 206 [] [] [] []
theorem f4.eq  (H : Hp) (Q : Value → Hp → Prop) : f4  H Q = wFun fcx4 Try.f4 [] H Q := by kernel_rfl
theorem f4.ok  {H : Hp} {Q : Value → Hp → Prop} (h : f4  H Q) : HCalls Try.prog 4 [] H Q := hcalls_of (cxOk 206 [] [] [] []) Try.func4 (Eq.mp (f4.eq  H Q) h)

/-- justiciar justiciarlaw29.begin -/
def f5 (pn : Int) (H : Hp) (Q : Value → Hp → Prop) : Prop :=
  Q (.agg #[.int .i64 1, .int .i64 pn, .int .i64 0, .int .i64 0, .int .i64 0]) H
noncomputable def fcx5 : Cx := cx 5 [(2, true)] [] [] []
theorem f5.eq (pn : Int) (H : Hp) (Q : Value → Hp → Prop) : f5 pn H Q = wFun fcx5 Try.f5 [.int .i64 pn] H Q := by kernel_rfl
theorem f5.ok (pn : Int) {H : Hp} {Q : Value → Hp → Prop} (h : f5 pn H Q) : HCalls Try.prog 5 [.int .i64 pn] H Q := hcalls_of (cxOk 5 [(2, true)] [] [] []) Try.func5 (Eq.mp (f5.eq pn H Q) h)

/-- justiciar justiciarlaw29.write -/
def f6 (pn : Int) (pitem : Int) (pstmt : Int) (H : Hp) (Q : Value → Hp → Prop) : Prop :=
  Q (.agg #[.int .i64 3, .int .i64 pn, .int .i64 pitem, .int .i64 0, .int .i64 pstmt]) H
noncomputable def fcx6 : Cx := cx 11 [(6, true)] [] [] []
theorem f6.eq (pn : Int) (pitem : Int) (pstmt : Int) (H : Hp) (Q : Value → Hp → Prop) : f6 pn pitem pstmt H Q = wFun fcx6 Try.f6 [.int .i64 pn, .int .i64 pitem, .int .i64 pstmt] H Q := by kernel_rfl
theorem f6.ok (pn : Int) (pitem : Int) (pstmt : Int) {H : Hp} {Q : Value → Hp → Prop} (h : f6 pn pitem pstmt H Q) : HCalls Try.prog 6 [.int .i64 pn, .int .i64 pitem, .int .i64 pstmt] H Q := hcalls_of (cxOk 11 [(6, true)] [] [] []) Try.func6 (Eq.mp (f6.eq pn pitem pstmt H Q) h)

/-- justiciar justiciarlaw29.read -/
def f7 (pn : Int) (pitem : Int) (pfrm : Int) (pstmt : Int) (H : Hp) (Q : Value → Hp → Prop) : Prop :=
  Q (.agg #[.int .i64 2, .int .i64 pn, .int .i64 pitem, .int .i64 pfrm, .int .i64 pstmt]) H
noncomputable def fcx7 : Cx := cx 14 [(8, true)] [] [] []
theorem f7.eq (pn : Int) (pitem : Int) (pfrm : Int) (pstmt : Int) (H : Hp) (Q : Value → Hp → Prop) : f7 pn pitem pfrm pstmt H Q = wFun fcx7 Try.f7 [.int .i64 pn, .int .i64 pitem, .int .i64 pfrm, .int .i64 pstmt] H Q := by kernel_rfl
theorem f7.ok (pn : Int) (pitem : Int) (pfrm : Int) (pstmt : Int) {H : Hp} {Q : Value → Hp → Prop} (h : f7 pn pitem pfrm pstmt H Q) : HCalls Try.prog 7 [.int .i64 pn, .int .i64 pitem, .int .i64 pfrm, .int .i64 pstmt] H Q := hcalls_of (cxOk 14 [(8, true)] [] [] []) Try.func7 (Eq.mp (f7.eq pn pitem pfrm pstmt H Q) h)

/-- justiciar justiciarlaw29.commit -/
def f8 (pn : Int) (H : Hp) (Q : Value → Hp → Prop) : Prop :=
  Q (.agg #[.int .i64 4, .int .i64 pn, .int .i64 0, .int .i64 0, .int .i64 0]) H
noncomputable def fcx8 : Cx := cx 5 [(2, true)] [] [] []
theorem f8.eq (pn : Int) (H : Hp) (Q : Value → Hp → Prop) : f8 pn H Q = wFun fcx8 Try.f8 [.int .i64 pn] H Q := by kernel_rfl
theorem f8.ok (pn : Int) {H : Hp} {Q : Value → Hp → Prop} (h : f8 pn H Q) : HCalls Try.prog 8 [.int .i64 pn] H Q := hcalls_of (cxOk 5 [(2, true)] [] [] []) Try.func8 (Eq.mp (f8.eq pn H Q) h)

/-- justiciar history.Order -/
def f9 (pl_A : Option Addr) (pl_n pl_c : Nat) (H : Hp) (Q : Value → Hp → Prop) : Prop :=
  HCalls Try.prog 13 [.slice pl_A pl_n pl_c] H fun v1 H2 => ∃ x3 : Bool, v1 = .bool x3 ∧ cnd (!x3) (Q (.tuple #[.slice none 0 0, .bool false, .int .i64 2]) H2) (HCalls Try.prog 19 [.slice pl_A pl_n pl_c] H2 fun v4 H5 => ∃
    p6 : Option Addr, v4 = .pointer p6 ∧ HCalls Try.prog 20 [.pointer p6] H5 fun v7 H8 => ∃ x9 : Bool, ∃ x10 : Bool, v7 = .tuple #[.bool x9, .bool x10] ∧ jn (fun (j11 : Bool) => cnd j11 (Q (.tuple #[.slice none 0 0, .bool
    false, .int .i64 0]) H8) (HCalls Try.prog 21 [.pointer p6] H8 fun v13 H14 => ∃ (A15 : Option Addr) (n15 c15 : Nat), v13 = .slice A15 n15 c15 ∧ newMapF H14 fun m16 H17 => newF H17 61 [.map none] fun g18 H19 => storeF
    H19 g18 0 [.map (some m16)] fun H20 => onPtr p6 fun b21 o21 => ∃ r22 : Option Nat, cl H20 b21 (o21 + 1) = some (.map r22) ∧ rangeF H20 r22 fun i23 H24 => LoopF (σ := Unit × Unit) ((), ()) H24 fun s25 H26 next27 => jn
    (fun (j33 : Bool) (H34 : Hp) => cnd j33 (entryF H34 i23 0 fun k36 v37 => ∃ x38 : Int, k36 = .int .i64 x38 ∧ ∃ x39 : Int, v37 = .int .i64 x39 ∧ ∃ r40 : Option Nat, cl H34 g18 0 = some (.map r40) ∧ putF H34 .i64 r40 x38
    (.bool true) fun H41 => KeepX [some (.v (.slice A15 n15 c15)), some (.v (.pointer (some ⟨g18, 0, none⟩))), some (.v (.pointer (some ⟨i23, 0, none⟩)))] [] ∧ next27 ((), ()) H41) (LoopF (σ := ((Option Addr × Nat × Nat)
    × Unit) × Unit) (((none, 0, 0), ()), ()) H34 fun s42 H43 next44 => ∃ r45 : Option Nat, cl H43 g18 0 = some (.map r45) ∧ sizeF H43 r45 fun n46 => cnd (decide ((((n46 : Nat) : Int) : Int) > 0)) (jn (fun (j66 : Int) (H67
    : Hp) => cnd ((j66 : Int) == 0) (Q (.tuple #[.slice none 0 0, .bool false, .int .i64 0]) H67) (∃ r69 : Option Nat, cl H67 g18 0 = some (.map r69) ∧ delF H67 .i64 r69 j66 fun H70 => newF H70 3 [.int .i64 j66] fun g71
    H72 => appendF H72 3 1 8 s42.1.1.1 s42.1.1.2.1 s42.1.1.2.2 (some ⟨g71, 0, none⟩) 1 fun A73 n73 c73 H74 => KeepX [some (.v (.slice A15 n15 c15)), some (.v (.pointer (some ⟨g18, 0, none⟩)))] [] ∧ next44 (((A73, n73,
    c73), ()), ()) H74)) fun J68 => ∃ r47 : Option Nat, cl H43 g18 0 = some (.map r47) ∧ HCalls Try.prog 23 [.map r47] H43 fun v48 H49 => ∃ (f50 : FuncId) (a50 b50 : Array Value), v48 = .func (.func f50) a50 b50 ∧ HCalls
    Try.prog 22 [.func (.func f50) a50 b50] H49 fun v51 H52 => ∃ (A53 : Option Addr) (n53 c53 : Nat), v51 = .slice A53 n53 c53 ∧ LoopF (σ := (Int × (Int × Unit)) × Unit) ((0, (0, ())), ()) H52 fun s54 H55 next56 => cnd
    (decide ((s54.1.2.1 : Int) < ((n53 : Nat) : Int))) (0 ≤ (s54.1.2.1 : Int) ∧ (s54.1.2.1 : Int) < ((n53 : Nat) : Int) ∧ onPtr A53 fun b57 o57 => ∃ x58 : Int, cl H55 b57 (o57 + (s54.1.2.1 : Int).toNat * 1) = some (.int
    .i64 x58) ∧ newF H55 3 [.int .i64 0] fun g59 H60 => storeF H60 g59 0 [.int .i64 x58] fun H61 => HCalls Try.prog 24 [.slice A15 n15 c15, .func (.func 25) #[] #[.pointer (some ⟨g59, 0, none⟩), .pointer (some ⟨g18, 0,
    none⟩)]] H61 fun v62 H63 => ∃ x64 : Bool, v62 = .bool x64 ∧ cnd (!x64) (∃ x65 : Int, cl H63 g59 0 = some (.int .i64 x65) ∧ J68 x65 H63) (KeepX [some (.v (.slice A15 n15 c15)), some (.v (.pointer (some ⟨g18, 0,
    none⟩))), some (.v (.slice s42.1.1.1 s42.1.1.2.1 s42.1.1.2.2)), some (.v (.slice A53 n53 c53)), some (.v (.int .i64 ((n53 : Nat) : Int)))] [] ∧ next56 ((s54.1.1, (IntKind.i64.wrap (s54.1.2.1 + 1), ())), ()) H63)) (J68
    s54.1.1 H55)) (Q (.tuple #[.slice s42.1.1.1 s42.1.1.2.1 s42.1.1.2.2, .bool true, .int .i64 0]) H43))) fun J35 => nextF H26 i23 0 (J35 false H26) fun k28 v29 H30 => ∃ x31 : Int, k28 = .int .i64 x31 ∧ ∃ x32 : Int, v29 =
    .int .i64 x32 ∧ J35 true H30)) fun J12 => cnd x9 (J12 true) (J12 x10))
noncomputable def fcx9 : Cx := cx 69 [] [(10, ⟨[8, 9, 36], [], [], []⟩), (14, ⟨[8, 9], [], [(11, .slice)], []⟩), (17, ⟨[8, 9, 11, 48, 49], [], [(12, .int .i64), (50, .int .i64)], []⟩)] [] [(37, ((.int .i64 0), (.int .i64 0))), (39, ((.int .i64 0), (.int .i64 0)))]
theorem f9.eq (pl_A : Option Addr) (pl_n pl_c : Nat) (H : Hp) (Q : Value → Hp → Prop) : f9 pl_A pl_n pl_c H Q = wFun fcx9 Try.f9 [.slice pl_A pl_n pl_c] H Q := by kernel_rfl
theorem f9.ok (pl_A : Option Addr) (pl_n pl_c : Nat) {H : Hp} {Q : Value → Hp → Prop} (h : f9 pl_A pl_n pl_c H Q) : HCalls Try.prog 9 [.slice pl_A pl_n pl_c] H Q := hcalls_of (cxOk 69 [] [(10, ⟨[8, 9, 36], [], [], []⟩), (14, ⟨[8, 9], [], [(11, .slice)], []⟩), (17, ⟨[8, 9, 11, 48, 49], [], [(12, .int .i64), (50, .int .i64)], []⟩)] [] [(37, ((.int .i64 0), (.int .i64 0))), (39, ((.int .i64 0), (.int .i64 0)))]) Try.func9 (Eq.mp (f9.eq pl_A pl_n pl_c H Q) h)

/-- justiciar history.Serial -/
def f10 (pl_A : Option Addr) (pl_n pl_c : Nat) (H : Hp) (Q : Value → Hp → Prop) : Prop :=
  LoopF (σ := ((Option Addr × Nat × Nat) × (Int × Unit)) × Unit) (((none, 0, 0), (1, ())), ()) H fun s1 H2 next3 => cnd (decide ((s1.1.2.1 : Int) ≤ 200)) (newF H2 3 [.int .i64 s1.1.2.1] fun g4 H5 => appendF H5 3 1 8
    s1.1.1.1 s1.1.1.2.1 s1.1.1.2.2 (some ⟨g4, 0, none⟩) 1 fun A6 n6 c6 H7 => KeepX [some (.v (.slice pl_A pl_n pl_c))] [] ∧ next3 (((A6, n6, c6), (IntKind.i64.wrap (s1.1.2.1 + 1), ())), ()) H7) (HCalls Try.prog 16 [.slice
    pl_A pl_n pl_c, .slice s1.1.1.1 s1.1.1.2.1 s1.1.1.2.2] H2 fun v8 H9 => ∃ x10 : Bool, ∃ x11 : Int, v8 = .tuple #[.bool x10, .int .i64 x11] ∧ Q (.tuple #[.bool x10, .int .i64 x11]) H9)
noncomputable def fcx10 : Cx := cx 19 [] [(3, ⟨[0], [], [(4, .slice), (5, .int .i64)], []⟩)] [] []
theorem f10.eq (pl_A : Option Addr) (pl_n pl_c : Nat) (H : Hp) (Q : Value → Hp → Prop) : f10 pl_A pl_n pl_c H Q = wFun fcx10 Try.f10 [.slice pl_A pl_n pl_c] H Q := by kernel_rfl
theorem f10.ok (pl_A : Option Addr) (pl_n pl_c : Nat) {H : Hp} {Q : Value → Hp → Prop} (h : f10 pl_A pl_n pl_c H Q) : HCalls Try.prog 10 [.slice pl_A pl_n pl_c] H Q := hcalls_of (cxOk 19 [] [(3, ⟨[0], [], [(4, .slice), (5, .int .i64)], []⟩)] [] []) Try.func10 (Eq.mp (f10.eq pl_A pl_n pl_c H Q) h)

/-- justiciar history.Committed -/
def f11 (pl_A : Option Addr) (pl_n pl_c : Nat) (H : Hp) (Q : Value → Hp → Prop) : Prop :=
  HCalls Try.prog 16 [.slice pl_A pl_n pl_c, .slice none 0 0] H fun v1 H2 => ∃ x3 : Bool, ∃ x4 : Int, v1 = .tuple #[.bool x3, .int .i64 x4] ∧ Q (.tuple #[.bool x3, .int .i64 x4]) H2
noncomputable def fcx11 : Cx := cx 8 [] [] [] []
theorem f11.eq (pl_A : Option Addr) (pl_n pl_c : Nat) (H : Hp) (Q : Value → Hp → Prop) : f11 pl_A pl_n pl_c H Q = wFun fcx11 Try.f11 [.slice pl_A pl_n pl_c] H Q := by kernel_rfl
theorem f11.ok (pl_A : Option Addr) (pl_n pl_c : Nat) {H : Hp} {Q : Value → Hp → Prop} (h : f11 pl_A pl_n pl_c H Q) : HCalls Try.prog 11 [.slice pl_A pl_n pl_c] H Q := hcalls_of (cxOk 8 [] [] [] []) Try.func11 (Eq.mp (f11.eq pl_A pl_n pl_c H Q) h)

/-- justiciar history.Faults -/
def f12 (pl_A : Option Addr) (pl_n pl_c : Nat) (H : Hp) (Q : Value → Hp → Prop) : Prop :=
  HCalls Try.prog 13 [.slice pl_A pl_n pl_c] H fun v1 H2 => ∃ x3 : Bool, v1 = .bool x3 ∧ cnd (!x3) (Q (.tuple #[.slice none 0 0, .int .i64 2]) H2) (HCalls Try.prog 19 [.slice pl_A pl_n pl_c] H2 fun v4 H5 => ∃ p6 : Option
    Addr, v4 = .pointer p6 ∧ HCalls Try.prog 21 [.pointer p6] H5 fun v7 H8 => ∃ (A9 : Option Addr) (n9 c9 : Nat), v7 = .slice A9 n9 c9 ∧ newF H8 40 [.slice none 0 0] fun g10 H11 => HCalls Try.prog 20 [.pointer p6] H11 fun
    v12 H13 => ∃ x14 : Bool, ∃ x15 : Bool, v12 = .tuple #[.bool x14, .bool x15] ∧ FnOk Try.prog 26 ∧ HCalls Try.prog 26 [.bool x14, .string ({ data := #[97, 98, 111, 114, 116, 101, 100, 32, 114, 101, 97, 100] } :
    ByteArray), .pointer (some ⟨g10, 0, none⟩)] H13 fun v16 H17 => ∃ x18 : Bool, v16 = .bool x18 ∧ FnOk Try.prog 26 ∧ HCalls Try.prog 26 [.bool x15, .string ({ data := #[114, 101, 97, 100, 32, 98, 101, 116, 119, 101, 101,
    110] } : ByteArray), .pointer (some ⟨g10, 0, none⟩)] H17 fun v19 H20 => ∃ x21 : Bool, v19 = .bool x21 ∧ HCalls Try.prog 27 [.slice A9 n9 c9, .func (.func 28) #[] #[]] H20 fun v22 H23 => ∃ r24 : Option Nat, v22 = .map
    r24 ∧ HCalls Try.prog 27 [.slice A9 n9 c9, .func (.func 29) #[] #[]] H23 fun v25 H26 => ∃ r27 : Option Nat, v25 = .map r27 ∧ HCalls Try.prog 27 [.slice A9 n9 c9, .func (.func 30) #[] #[]] H26 fun v28 H29 => ∃ r30 :
    Option Nat, v28 = .map r30 ∧ HCalls Try.prog 31 [.slice A9 n9 c9, .int .i64 1, .map r24] H29 fun v31 H32 => ∃ x33 : Bool, v31 = .bool x33 ∧ FnOk Try.prog 26 ∧ HCalls Try.prog 26 [.bool x33, .string ({ data := #[99,
    105, 114, 99, 108, 101, 32, 119, 119] } : ByteArray), .pointer (some ⟨g10, 0, none⟩)] H32 fun v34 H35 => ∃ x36 : Bool, v34 = .bool x36 ∧ HCalls Try.prog 31 [.slice A9 n9 c9, .int .i64 2, .map r27] H35 fun v37 H38 => ∃
    x39 : Bool, v37 = .bool x39 ∧ FnOk Try.prog 26 ∧ HCalls Try.prog 26 [.bool x39, .string ({ data := #[99, 105, 114, 99, 108, 101, 32, 119, 114] } : ByteArray), .pointer (some ⟨g10, 0, none⟩)] H38 fun v40 H41 => ∃ x42 :
    Bool, v40 = .bool x42 ∧ HCalls Try.prog 31 [.slice A9 n9 c9, .int .i64 3, .map r27] H41 fun v43 H44 => ∃ x45 : Bool, v43 = .bool x45 ∧ FnOk Try.prog 26 ∧ HCalls Try.prog 26 [.bool x45, .string ({ data := #[99, 105,
    114, 99, 108, 101, 32, 114, 119] } : ByteArray), .pointer (some ⟨g10, 0, none⟩)] H44 fun v46 H47 => ∃ x48 : Bool, v46 = .bool x48 ∧ jn (fun (H64 : Hp) => ∃ (A66 : Option Addr) (n66 c66 : Nat), cl H64 g10 0 = some
    (.slice A66 n66 c66) ∧ Q (.tuple #[.slice A66 n66 c66, .int .i64 0]) H64) fun J65 => cnd (!x36) (cnd (!x42) (cnd (!x48) (HCalls Try.prog 32 [.map r30] H47 fun v49 H50 => ∃ x51 : Bool, v49 = .bool x51 ∧ FnOk Try.prog
    26 ∧ HCalls Try.prog 26 [.bool x51, .string ({ data := #[99, 105, 114, 99, 108, 101, 115, 32, 114, 119] } : ByteArray), .pointer (some ⟨g10, 0, none⟩)] H50 fun v52 H53 => ∃ x54 : Bool, v52 = .bool x54 ∧ J65 H53) (FnOk
    Try.prog 26 ∧ HCalls Try.prog 26 [.bool false, .string ({ data := #[99, 105, 114, 99, 108, 101, 115, 32, 114, 119] } : ByteArray), .pointer (some ⟨g10, 0, none⟩)] H47 fun v55 H56 => ∃ x57 : Bool, v55 = .bool x57 ∧ J65
    H56)) (FnOk Try.prog 26 ∧ HCalls Try.prog 26 [.bool false, .string ({ data := #[99, 105, 114, 99, 108, 101, 115, 32, 114, 119] } : ByteArray), .pointer (some ⟨g10, 0, none⟩)] H47 fun v58 H59 => ∃ x60 : Bool, v58 =
    .bool x60 ∧ J65 H59)) (FnOk Try.prog 26 ∧ HCalls Try.prog 26 [.bool false, .string ({ data := #[99, 105, 114, 99, 108, 101, 115, 32, 114, 119] } : ByteArray), .pointer (some ⟨g10, 0, none⟩)] H47 fun v61 H62 => ∃ x63 :
    Bool, v61 = .bool x63 ∧ J65 H62))
noncomputable def fcx12 : Cx := cx 73 [] [] [] []
theorem f12.eq (pl_A : Option Addr) (pl_n pl_c : Nat) (H : Hp) (Q : Value → Hp → Prop) : f12 pl_A pl_n pl_c H Q = wFun fcx12 Try.f12 [.slice pl_A pl_n pl_c] H Q := by kernel_rfl
theorem f12.ok (pl_A : Option Addr) (pl_n pl_c : Nat) {H : Hp} {Q : Value → Hp → Prop} (h : f12 pl_A pl_n pl_c H Q) : HCalls Try.prog 12 [.slice pl_A pl_n pl_c] H Q := hcalls_of (cxOk 73 [] [] [] []) Try.func12 (Eq.mp (f12.eq pl_A pl_n pl_c H Q) h)

/-- justiciar history.Valid -/
def f13 (pl_A : Option Addr) (pl_n pl_c : Nat) (H : Hp) (Q : Value → Hp → Prop) : Prop :=
  newMapF H fun m1 H2 => newMapF H2 fun m3 H4 => newMapF H4 fun m5 H6 => newF H6 82 [.map (some m1), .map (some m3), .map (some m5)] fun g7 H8 => newF H8 78 [.pointer none] fun g9 H10 => storeF H10 g9 0 [.pointer (some ⟨g7,
    0, none⟩)] fun H11 => jn (fun (j15 : Bool) (H16 : Hp) => Q (.bool j15) H16) fun J17 => cnd (decide ((((pl_n : Nat) : Int) : Int) ≤ 2000)) (HCalls Try.prog 33 [.slice pl_A pl_n pl_c, .func (.func 34) #[] #[.pointer
    (some ⟨g9, 0, none⟩)]] H11 fun v12 H13 => ∃ x14 : Bool, v12 = .bool x14 ∧ J17 (!x14) H13) (J17 false H11)
noncomputable def fcx13 : Cx := cx 18 [] [] [] []
theorem f13.eq (pl_A : Option Addr) (pl_n pl_c : Nat) (H : Hp) (Q : Value → Hp → Prop) : f13 pl_A pl_n pl_c H Q = wFun fcx13 Try.f13 [.slice pl_A pl_n pl_c] H Q := by kernel_rfl
theorem f13.ok (pl_A : Option Addr) (pl_n pl_c : Nat) {H : Hp} {Q : Value → Hp → Prop} (h : f13 pl_A pl_n pl_c H Q) : HCalls Try.prog 13 [.slice pl_A pl_n pl_c] H Q := hcalls_of (cxOk 18 [] [] [] []) Try.func13 (Eq.mp (f13.eq pl_A pl_n pl_c H Q) h)

/-- justiciar history.Arcs -/
def f14 (pl_A : Option Addr) (pl_n pl_c : Nat) (H : Hp) (Q : Value → Hp → Prop) : Prop :=
  HCalls Try.prog 13 [.slice pl_A pl_n pl_c] H fun v1 H2 => ∃ x3 : Bool, v1 = .bool x3 ∧ cnd (!x3) (Q (.tuple #[.slice none 0 0, .int .i64 2]) H2) (HCalls Try.prog 19 [.slice pl_A pl_n pl_c] H2 fun v4 H5 => ∃ p6 : Option
    Addr, v4 = .pointer p6 ∧ HCalls Try.prog 21 [.pointer p6] H5 fun v7 H8 => ∃ (A9 : Option Addr) (n9 c9 : Nat), v7 = .slice A9 n9 c9 ∧ Q (.tuple #[.slice A9 n9 c9, .int .i64 0]) H8)
noncomputable def fcx14 : Cx := cx 10 [] [] [] []
theorem f14.eq (pl_A : Option Addr) (pl_n pl_c : Nat) (H : Hp) (Q : Value → Hp → Prop) : f14 pl_A pl_n pl_c H Q = wFun fcx14 Try.f14 [.slice pl_A pl_n pl_c] H Q := by kernel_rfl
theorem f14.ok (pl_A : Option Addr) (pl_n pl_c : Nat) {H : Hp} {Q : Value → Hp → Prop} (h : f14 pl_A pl_n pl_c H Q) : HCalls Try.prog 14 [.slice pl_A pl_n pl_c] H Q := hcalls_of (cxOk 10 [] [] [] []) Try.func14 (Eq.mp (f14.eq pl_A pl_n pl_c H Q) h)

/-- justiciar history.Anomaly -/
def f15 (pl_A : Option Addr) (pl_n pl_c : Nat) (H : Hp) (Q : Value → Hp → Prop) : Prop :=
  HCalls Try.prog 13 [.slice pl_A pl_n pl_c] H fun v1 H2 => ∃ x3 : Bool, v1 = .bool x3 ∧ cnd (!x3) (Q (.tuple #[.slice none 0 0, .int .i64 2]) H2) (HCalls Try.prog 19 [.slice pl_A pl_n pl_c] H2 fun v4 H5 => ∃ p6 : Option
    Addr, v4 = .pointer p6 ∧ HCalls Try.prog 21 [.pointer p6] H5 fun v7 H8 => ∃ (A9 : Option Addr) (n9 c9 : Nat), v7 = .slice A9 n9 c9 ∧ HCalls Try.prog 27 [.slice A9 n9 c9, .func (.func 36) #[] #[]] H8 fun v10 H11 => ∃
    r12 : Option Nat, v10 = .map r12 ∧ HCalls Try.prog 37 [.map r12] H11 fun v13 H14 => ∃ (f15 : FuncId) (a15 b15 : Array Value), v13 = .func (.func f15) a15 b15 ∧ HCalls Try.prog 22 [.func (.func f15) a15 b15] H14 fun
    v16 H17 => ∃ (A18 : Option Addr) (n18 c18 : Nat), v16 = .slice A18 n18 c18 ∧ LoopF (σ := ((Option Addr × Nat × Nat) × (Int × Unit)) × Unit) (((none, 0, 0), (0, ())), ()) H17 fun s19 H20 next21 => cnd (decide
    ((s19.1.2.1 : Int) < ((n18 : Nat) : Int))) (jn (fun (jA29 : Option Addr) (jn30 : Nat) (jc31 : Nat) (H32 : Hp) => KeepX [some (.v (.map r12)), some (.v (.slice A18 n18 c18)), some (.v (.int .i64 ((n18 : Nat) : Int)))]
    [] ∧ next21 (((jA29, jn30, jc31), (IntKind.i64.wrap (s19.1.2.1 + 1), ())), ()) H32) fun J33 => 0 ≤ (s19.1.2.1 : Int) ∧ (s19.1.2.1 : Int) < ((n18 : Nat) : Int) ∧ onPtr A18 fun b22 o22 => ∃ x23 : Int, cl H20 b22 (o22 +
    (s19.1.2.1 : Int).toNat * 1) = some (.int .i64 x23) ∧ HCalls Try.prog 38 [.map r12, .int .i64 x23] H20 fun v24 H25 => ∃ (A26 : Option Addr) (n26 c26 : Nat), v24 = .slice A26 n26 c26 ∧ jn (fun (j27 : Bool) => cnd j27
    (J33 A26 n26 c26 H25) (J33 s19.1.1.1 s19.1.1.2.1 s19.1.1.2.2 H25)) fun J28 => cnd (!A26.isNone) (cnd s19.1.1.1.isNone (J28 true) (J28 (decide ((((n26 : Nat) : Int) : Int) < ((s19.1.1.2.1 : Nat) : Int))))) (J28 false))
    (cnd s19.1.1.1.isNone (Q (.tuple #[.slice none 0 0, .int .i64 4]) H20) (Q (.tuple #[.slice s19.1.1.1 s19.1.1.2.1 s19.1.1.2.2, .int .i64 0]) H20)))
noncomputable def fcx15 : Cx := cx 45 [] [(6, ⟨[4, 18, 19], [], [(5, .slice), (20, .int .i64)], []⟩)] [] []
theorem f15.eq (pl_A : Option Addr) (pl_n pl_c : Nat) (H : Hp) (Q : Value → Hp → Prop) : f15 pl_A pl_n pl_c H Q = wFun fcx15 Try.f15 [.slice pl_A pl_n pl_c] H Q := by kernel_rfl
theorem f15.ok (pl_A : Option Addr) (pl_n pl_c : Nat) {H : Hp} {Q : Value → Hp → Prop} (h : f15 pl_A pl_n pl_c H Q) : HCalls Try.prog 15 [.slice pl_A pl_n pl_c] H Q := hcalls_of (cxOk 45 [] [(6, ⟨[4, 18, 19], [], [(5, .slice), (20, .int .i64)], []⟩)] [] []) Try.func15 (Eq.mp (f15.eq pl_A pl_n pl_c H Q) h)

/-- justiciar history.Fits -/
def f16 (pl_A : Option Addr) (pl_n pl_c : Nat) (pserial_A : Option Addr) (pserial_n pserial_c : Nat) (H : Hp) (Q : Value → Hp → Prop) : Prop :=
  HCalls Try.prog 13 [.slice pl_A pl_n pl_c] H fun v1 H2 => ∃ x3 : Bool, v1 = .bool x3 ∧ cnd (!x3) (Q (.tuple #[.bool false, .int .i64 2]) H2) (HCalls Try.prog 19 [.slice pl_A pl_n pl_c] H2 fun v4 H5 => ∃ p6 : Option Addr,
    v4 = .pointer p6 ∧ onPtr p6 fun b7 o7 => ∃ r8 : Option Nat, cl H5 b7 (o7 + 1) = some (.map r8) ∧ rangeF H5 r8 fun i9 H10 => LoopF (σ := Unit × Unit) ((), ()) H10 fun s11 H12 next13 => jn (fun (j19 : Bool) (H20 : Hp)
    => cnd j19 (entryF H20 i9 0 fun k22 v23 => ∃ x24 : Int, k22 = .int .i64 x24 ∧ ∃ x25 : Int, v23 = .int .i64 x25 ∧ jn (fun (jf29 : Nat) (H30 : Hp) => FnOk Try.prog jf29 ∧ HCalls Try.prog jf29 ((#[.pointer p6] : Array
    Value).toList ++ [.int .i64 x24] ++ (#[] : Array Value).toList) H30 fun v32 H33 => ∃ x34 : Bool, v32 = .bool x34 ∧ cnd (!x34) (Q (.tuple #[.bool false, .int .i64 0]) H33) (KeepX [some (.v (.slice pserial_A pserial_n
    pserial_c)), some (.v (.pointer p6)), some (.v (.pointer (some ⟨i9, 0, none⟩)))] [] ∧ next13 ((), ()) H33)) fun J31 => HCalls Try.prog 40 [.slice pserial_A pserial_n pserial_c, .int .i64 x24] H20 fun v26 H27 => ∃ x28
    : Bool, v26 = .bool x28 ∧ cnd x28 (J31 41 H27) (J31 39 H27)) (Q (.tuple #[.bool true, .int .i64 0]) H20)) fun J21 => nextF H12 i9 0 (J21 false H12) fun k14 v15 H16 => ∃ x17 : Int, k14 = .int .i64 x17 ∧ ∃ x18 : Int,
    v15 = .int .i64 x18 ∧ J21 true H16)
noncomputable def fcx16 : Cx := cx 34 [] [(5, ⟨[1, 6, 18], [], [], []⟩)] [] [(19, ((.int .i64 0), (.int .i64 0))), (21, ((.int .i64 0), (.int .i64 0)))]
theorem f16.eq (pl_A : Option Addr) (pl_n pl_c : Nat) (pserial_A : Option Addr) (pserial_n pserial_c : Nat) (H : Hp) (Q : Value → Hp → Prop) : f16 pl_A pl_n pl_c pserial_A pserial_n pserial_c H Q = wFun fcx16 Try.f16 [.slice pl_A pl_n pl_c, .slice pserial_A pserial_n pserial_c] H Q := by kernel_rfl
theorem f16.ok (pl_A : Option Addr) (pl_n pl_c : Nat) (pserial_A : Option Addr) (pserial_n pserial_c : Nat) {H : Hp} {Q : Value → Hp → Prop} (h : f16 pl_A pl_n pl_c pserial_A pserial_n pserial_c H Q) : HCalls Try.prog 16 [.slice pl_A pl_n pl_c, .slice pserial_A pserial_n pserial_c] H Q := hcalls_of (cxOk 34 [] [(5, ⟨[1, 6, 18], [], [], []⟩)] [] [(19, ((.int .i64 0), (.int .i64 0))), (21, ((.int .i64 0), (.int .i64 0)))]) Try.func16 (Eq.mp (f16.eq pl_A pl_n pl_c pserial_A pserial_n pserial_c H Q) h)

/-- justiciar history.Only -/
def f17 (pl_A : Option Addr) (pl_n pl_c : Nat) (ptxns_A : Option Addr) (ptxns_n ptxns_c : Nat) (H : Hp) (Q : Value → Hp → Prop) : Prop :=
  HCalls Try.prog 13 [.slice pl_A pl_n pl_c] H fun v1 H2 => ∃ x3 : Bool, v1 = .bool x3 ∧ cnd (!x3) (Q (.tuple #[.slice none 0 0, .int .i64 2]) H2) (LoopF (σ := ((Option Addr × Nat × Nat) × (Int × Unit)) × Unit) (((none, 0,
    0), (0, ())), ()) H2 fun s4 H5 next6 => cnd (decide ((s4.1.2.1 : Int) < ((pl_n : Nat) : Int))) (jn (fun (jA29 : Option Addr) (jn30 : Nat) (jc31 : Nat) (H32 : Hp) => KeepX [some (.v (.slice ptxns_A ptxns_n ptxns_c)),
    some (.v (.slice pl_A pl_n pl_c)), some (.v (.int .i64 ((pl_n : Nat) : Int)))] [] ∧ next6 (((jA29, jn30, jc31), (IntKind.i64.wrap (s4.1.2.1 + 1), ())), ()) H32) fun J33 => 0 ≤ (s4.1.2.1 : Int) ∧ (s4.1.2.1 : Int) <
    ((pl_n : Nat) : Int) ∧ onPtr pl_A fun b7 o7 => ∃ x8 : Int, cl H5 b7 (o7 + (s4.1.2.1 : Int).toNat * 5) = some (.int .i64 x8) ∧ ∃ x9 : Int, cl H5 b7 ((o7 + (s4.1.2.1 : Int).toNat * 5) + 1) = some (.int .i64 x9) ∧ ∃ x10
    : Int, cl H5 b7 (((o7 + (s4.1.2.1 : Int).toNat * 5) + 1) + 1) = some (.int .i64 x10) ∧ ∃ x11 : Int, cl H5 b7 ((((o7 + (s4.1.2.1 : Int).toNat * 5) + 1) + 1) + 1) = some (.int .i64 x11) ∧ ∃ x12 : Int, cl H5 b7 (((((o7 +
    (s4.1.2.1 : Int).toNat * 5) + 1) + 1) + 1) + 1) = some (.int .i64 x12) ∧ HCalls Try.prog 40 [.slice ptxns_A ptxns_n ptxns_c, .int .i64 x9] H5 fun v13 H14 => ∃ x15 : Bool, v13 = .bool x15 ∧ cnd (!x15) (J33 s4.1.1.1
    s4.1.1.2.1 s4.1.1.2.2 H14) (jn (fun (j22 : Int) (H23 : Hp) => newF H23 29 [.int .i64 x8, .int .i64 x9, .int .i64 x10, .int .i64 j22, .int .i64 x12] fun g25 H26 => appendF H26 29 5 40 s4.1.1.1 s4.1.1.2.1 s4.1.1.2.2
    (some ⟨g25, 0, none⟩) 1 fun A27 n27 c27 H28 => J33 A27 n27 c27 H28) fun J24 => jn (fun (j19 : Bool) (H20 : Hp) => cnd j19 (J24 0 H20) (J24 x11 H20)) fun J21 => cnd ((x11 : Int) != 0) (HCalls Try.prog 40 [.slice
    ptxns_A ptxns_n ptxns_c, .int .i64 x11] H14 fun v16 H17 => ∃ x18 : Bool, v16 = .bool x18 ∧ J21 (!x18) H17) (J21 false H14))) (Q (.tuple #[.slice s4.1.1.1 s4.1.1.2.1 s4.1.1.2.2, .int .i64 0]) H5))
noncomputable def fcx17 : Cx := cx 40 [(8, true)] [(5, ⟨[1, 12, 13], [], [(6, .slice), (14, .int .i64)], []⟩)] [] []
theorem f17.eq (pl_A : Option Addr) (pl_n pl_c : Nat) (ptxns_A : Option Addr) (ptxns_n ptxns_c : Nat) (H : Hp) (Q : Value → Hp → Prop) : f17 pl_A pl_n pl_c ptxns_A ptxns_n ptxns_c H Q = wFun fcx17 Try.f17 [.slice pl_A pl_n pl_c, .slice ptxns_A ptxns_n ptxns_c] H Q := by kernel_rfl
theorem f17.ok (pl_A : Option Addr) (pl_n pl_c : Nat) (ptxns_A : Option Addr) (ptxns_n ptxns_c : Nat) {H : Hp} {Q : Value → Hp → Prop} (h : f17 pl_A pl_n pl_c ptxns_A ptxns_n ptxns_c H Q) : HCalls Try.prog 17 [.slice pl_A pl_n pl_c, .slice ptxns_A ptxns_n ptxns_c] H Q := hcalls_of (cxOk 40 [(8, true)] [(5, ⟨[1, 12, 13], [], [(6, .slice), (14, .int .i64)], []⟩)] [] []) Try.func17 (Eq.mp (f17.eq pl_A pl_n pl_c ptxns_A ptxns_n ptxns_c H Q) h)

/-- justiciar justiciarref18.SameInts -/
def f18 (pa_A : Option Addr) (pa_n pa_c : Nat) (pb_A : Option Addr) (pb_n pb_c : Nat) (H : Hp) (Q : Value → Hp → Prop) : Prop :=
  cnd ((((pa_n : Nat) : Int) : Int) != ((pb_n : Nat) : Int)) (Q (.bool false) H) (LoopF (σ := (Int × Unit) × Unit) ((0, ()), ()) H fun s1 H2 next3 => cnd (decide ((s1.1.1 : Int) < ((pa_n : Nat) : Int))) (0 ≤ (s1.1.1 : Int)
    ∧ (s1.1.1 : Int) < ((pa_n : Nat) : Int) ∧ onPtr pa_A fun b4 o4 => ∃ x5 : Int, cl H2 b4 (o4 + (s1.1.1 : Int).toNat * 1) = some (.int .i64 x5) ∧ 0 ≤ (s1.1.1 : Int) ∧ (s1.1.1 : Int) < ((pb_n : Nat) : Int) ∧ onPtr pb_A
    fun b6 o6 => ∃ x7 : Int, cl H2 b6 (o6 + (s1.1.1 : Int).toNat * 1) = some (.int .i64 x7) ∧ cnd ((x5 : Int) != x7) (Q (.bool false) H2) (KeepX [some (.v (.slice pa_A pa_n pa_c)), some (.v (.slice pb_A pb_n pb_c)), some
    (.v (.int .i64 ((pa_n : Nat) : Int)))] [] ∧ next3 ((IntKind.i64.wrap (s1.1.1 + 1), ()), ()) H2)) (Q (.bool true) H2))
noncomputable def fcx18 : Cx := cx 26 [] [(4, ⟨[0, 1, 12], [], [(13, .int .i64)], []⟩)] [(6, (.look 0 (.look 1 (.look 2 (.look 3 (.look 4 (.look 5 (.look 6 (.look 7 (.look 8 .done))))))))))] []
theorem f18.eq (pa_A : Option Addr) (pa_n pa_c : Nat) (pb_A : Option Addr) (pb_n pb_c : Nat) (H : Hp) (Q : Value → Hp → Prop) : f18 pa_A pa_n pa_c pb_A pb_n pb_c H Q = wFun fcx18 Try.f18 [.slice pa_A pa_n pa_c, .slice pb_A pb_n pb_c] H Q := by kernel_rfl
theorem f18.ok (pa_A : Option Addr) (pa_n pa_c : Nat) (pb_A : Option Addr) (pb_n pb_c : Nat) {H : Hp} {Q : Value → Hp → Prop} (h : f18 pa_A pa_n pa_c pb_A pb_n pb_c H Q) : HCalls Try.prog 18 [.slice pa_A pa_n pa_c, .slice pb_A pb_n pb_c] H Q := hcalls_of (cxOk 26 [] [(4, ⟨[0, 1, 12], [], [(13, .int .i64)], []⟩)] [(6, (.look 0 (.look 1 (.look 2 (.look 3 (.look 4 (.look 5 (.look 6 (.look 7 (.look 8 .done))))))))))] []) Try.func18 (Eq.mp (f18.eq pa_A pa_n pa_c pb_A pb_n pb_c H Q) h)

/-- justiciar history.of -/
def f19 (pl_A : Option Addr) (pl_n pl_c : Nat) (H : Hp) (Q : Value → Hp → Prop) : Prop :=
  newMapF H fun m1 H2 => newMapF H2 fun m3 H4 => newMapF H4 fun m5 H6 => newMapF H6 fun m7 H8 => newF H8 66 [.slice pl_A pl_n pl_c, .map (some m1), .map (some m3), .map (some m5), .map (some m7)] fun g9 H10 => newMapF H10
    fun m11 H12 => LoopF (σ := (Int × Unit) × Unit) ((0, ()), ()) H12 fun s13 H14 next15 => cnd (decide ((s13.1.1 : Int) < ((pl_n : Nat) : Int))) (jn (fun (H75 : Hp) => KeepX [some (.v (.pointer (some ⟨g9, 0, none⟩))),
    some (.v (.map (some m11))), some (.v (.slice pl_A pl_n pl_c)), some (.v (.int .i64 ((pl_n : Nat) : Int)))] [] ∧ next15 ((IntKind.i64.wrap (s13.1.1 + 1), ()), ()) H75) fun J76 => 0 ≤ (s13.1.1 : Int) ∧ (s13.1.1 : Int)
    < ((pl_n : Nat) : Int) ∧ onPtr pl_A fun b16 o16 => ∃ x17 : Int, cl H14 b16 (o16 + (s13.1.1 : Int).toNat * 5) = some (.int .i64 x17) ∧ ∃ x18 : Int, cl H14 b16 ((o16 + (s13.1.1 : Int).toNat * 5) + 1) = some (.int .i64
    x18) ∧ ∃ x19 : Int, cl H14 b16 (((o16 + (s13.1.1 : Int).toNat * 5) + 1) + 1) = some (.int .i64 x19) ∧ ∃ x20 : Int, cl H14 b16 ((((o16 + (s13.1.1 : Int).toNat * 5) + 1) + 1) + 1) = some (.int .i64 x20) ∧ ∃ x21 : Int,
    cl H14 b16 (((((o16 + (s13.1.1 : Int).toNat * 5) + 1) + 1) + 1) + 1) = some (.int .i64 x21) ∧ cnd ((x17 : Int) == 1) (∃ r22 : Option Nat, cl H14 g9 (0 + 2) = some (.map r22) ∧ putF H14 .i64 r22 x18 (.int .i64 s13.1.1)
    fun H23 => newMapF H23 fun m24 H25 => putF H25 .i64 (some m11) x18 (.map (some m24)) fun H26 => J76 H26) (cnd ((x17 : Int) == 3) (lookF H14 .i64 (some m11) x18 (.map none) fun v27 b28 => ∃ r29 : Option Nat, v27 = .map
    r29 ∧ putF H14 .i64 r29 x19 (.bool true) fun H30 => ∃ r31 : Option Nat, cl H30 g9 (0 + 4) = some (.map r31) ∧ putF2 H30 r31 x18 x19 (.int .i64 s13.1.1) fun H32 => J76 H32) (cnd ((x17 : Int) == 4) (∃ r33 : Option Nat,
    cl H14 g9 (0 + 1) = some (.map r33) ∧ putF H14 .i64 r33 x18 (.int .i64 s13.1.1) fun H34 => lookF H34 .i64 (some m11) x18 (.map none) fun v35 b36 => ∃ r37 : Option Nat, v35 = .map r37 ∧ rangeF H34 r37 fun i38 H39 =>
    LoopF (σ := Unit × Unit) ((), ()) H39 fun s40 H41 next42 => jn (fun (H73 : Hp) => KeepX [some (.v (.pointer (some ⟨g9, 0, none⟩))), some (.v (.map (some m11))), some (.loc 6 0), some (.v (.slice pl_A pl_n pl_c)), some
    (.v (.int .i64 ((pl_n : Nat) : Int))), some (.v (.int .i64 s13.1.1)), some (.v (.pointer (some ⟨i38, 0, none⟩)))] [some (true, [.int .i64 x17, .int .i64 x18, .int .i64 x19, .int .i64 x20, .int .i64 x21])] ∧ next42
    ((), ()) H73) fun J74 => jn (fun (j48 : Bool) (H49 : Hp) => cnd j48 (entryF H49 i38 0 fun k51 v52 => ∃ x53 : Int, k51 = .int .i64 x53 ∧ ∃ x54 : Bool, v52 = .bool x54 ∧ ∃ r55 : Option Nat, cl H49 g9 (0 + 3) = some
    (.map r55) ∧ ∃ r56 : Option Nat, cl H49 g9 (0 + 3) = some (.map r56) ∧ (lookF H49 .i64 r56 x53 (.slice none 0 0) fun v57 b58 => ∃ (A59 : Option Addr) (n59 c59 : Nat), v57 = .slice A59 n59 c59 ∧ H49 g9 = H49 g9 ∧ newF
    H49 3 [.int .i64 x18] fun g60 H61 => appendF H61 3 1 8 A59 n59 c59 (some ⟨g60, 0, none⟩) 1 fun A62 n62 c62 H63 => H63 g9 = H61 g9 ∧ putF H63 .i64 r55 x53 (.slice A62 n62 c62) fun H64 => J74 H64) ∧ (newF H49 3 [.int
    .i64 x18] fun g65 H66 => lookF H66 .i64 r56 x53 (.slice none 0 0) fun v67 b68 => ∃ (A69 : Option Addr) (n69 c69 : Nat), v67 = .slice A69 n69 c69 ∧ H66 g9 = H66 g9 ∧ appendF H66 3 1 8 A69 n69 c69 (some ⟨g65, 0, none⟩)
    1 fun A70 n70 c70 H71 => H71 g9 = H66 g9 ∧ putF H71 .i64 r55 x53 (.slice A70 n70 c70) fun H72 => J74 H72)) (J76 H49)) fun J50 => nextF H41 i38 0 (J50 false H41) fun k43 v44 H45 => ∃ x46 : Int, k43 = .int .i64 x46 ∧ ∃
    x47 : Bool, v44 = .bool x47 ∧ J50 true H45) (J76 H14)))) (Q (.pointer (some ⟨g9, 0, none⟩)) H14)
noncomputable def fcx19 : Cx := cx 91 [(6, true)] [(4, ⟨[3, 4, 16, 17], [], [(18, .int .i64)], []⟩), (16, ⟨[3, 4, 6, 16, 17, 18, 69], [6], [], []⟩)] [(8, (.look 0 (.look 1 (.look 2 (.look 3 (.look 4 (.look 5 (.look 6 (.act 7 .done .done))))))))), (12, (.look 0 (.look 1 (.look 2 (.look 3 (.look 4 (.look 5 (.look 6 (.look 7 (.look 8 (.look 9 (.act 10 .done .done)))))))))))), (14, (.look 0 (.look 1 (.look 2 (.look 3 (.look 4 (.look 5 (.look 6 (.act 7 .done .done))))))))), (18, (.look 0 (.look 1 (.look 2 (.look 3 (.look 4 (.look 5 (.look 6 (.look 7 (.look 8 (.look 9 (.look 11 (.look 12 (.act 10 (.act 13 (.act 14 (.act 15 .done .done) .done) .done) (.act 13 (.act 10 (.act 14 (.act 15 .done .done) .done) .done) .done)))))))))))))))] [(70, ((.int .i64 0), (.bool false))), (72, ((.int .i64 0), (.bool false)))]
theorem f19.eq (pl_A : Option Addr) (pl_n pl_c : Nat) (H : Hp) (Q : Value → Hp → Prop) : f19 pl_A pl_n pl_c H Q = wFun fcx19 Try.f19 [.slice pl_A pl_n pl_c] H Q := by kernel_rfl
theorem f19.ok (pl_A : Option Addr) (pl_n pl_c : Nat) {H : Hp} {Q : Value → Hp → Prop} (h : f19 pl_A pl_n pl_c H Q) : HCalls Try.prog 19 [.slice pl_A pl_n pl_c] H Q := hcalls_of (cxOk 91 [(6, true)] [(4, ⟨[3, 4, 16, 17], [], [(18, .int .i64)], []⟩), (16, ⟨[3, 4, 6, 16, 17, 18, 69], [6], [], []⟩)] [(8, (.look 0 (.look 1 (.look 2 (.look 3 (.look 4 (.look 5 (.look 6 (.act 7 .done .done))))))))), (12, (.look 0 (.look 1 (.look 2 (.look 3 (.look 4 (.look 5 (.look 6 (.look 7 (.look 8 (.look 9 (.act 10 .done .done)))))))))))), (14, (.look 0 (.look 1 (.look 2 (.look 3 (.look 4 (.look 5 (.look 6 (.act 7 .done .done))))))))), (18, (.look 0 (.look 1 (.look 2 (.look 3 (.look 4 (.look 5 (.look 6 (.look 7 (.look 8 (.look 9 (.look 11 (.look 12 (.act 10 (.act 13 (.act 14 (.act 15 .done .done) .done) .done) (.act 13 (.act 10 (.act 14 (.act 15 .done .done) .done) .done) .done)))))))))))))))] [(70, ((.int .i64 0), (.bool false))), (72, ((.int .i64 0), (.bool false)))]) Try.func19 (Eq.mp (f19.eq pl_A pl_n pl_c H Q) h)

/-- (*justiciar history.book).reads -/
def f20 (pb_b pb_o : Nat) (H : Hp) (Q : Value → Hp → Prop) : Prop :=
  ∃ (A1 : Option Addr) (n1 c1 : Nat), cl H pb_b (pb_o + 0) = some (.slice A1 n1 c1) ∧ LoopF (σ := (Bool × (Bool × (Int × Unit))) × Unit) ((false, (false, (0, ()))), ()) H fun s2 H3 next4 => cnd (decide ((s2.1.2.2.1 : Int) <
    ((n1 : Nat) : Int))) (jn (fun (j27 : Bool) (j28 : Bool) (H29 : Hp) => KeepX [some (.v (.pointer (some ⟨pb_b, pb_o, none⟩))), some (.v (.slice A1 n1 c1)), some (.v (.int .i64 ((n1 : Nat) : Int)))] [] ∧ next4 ((j27,
    (j28, (IntKind.i64.wrap (s2.1.2.2.1 + 1), ()))), ()) H29) fun J30 => 0 ≤ (s2.1.2.2.1 : Int) ∧ (s2.1.2.2.1 : Int) < ((n1 : Nat) : Int) ∧ onPtr A1 fun b5 o5 => ∃ x6 : Int, cl H3 b5 (o5 + (s2.1.2.2.1 : Int).toNat * 5) =
    some (.int .i64 x6) ∧ ∃ x7 : Int, cl H3 b5 ((o5 + (s2.1.2.2.1 : Int).toNat * 5) + 1) = some (.int .i64 x7) ∧ ∃ x8 : Int, cl H3 b5 (((o5 + (s2.1.2.2.1 : Int).toNat * 5) + 1) + 1) = some (.int .i64 x8) ∧ ∃ x9 : Int, cl
    H3 b5 ((((o5 + (s2.1.2.2.1 : Int).toNat * 5) + 1) + 1) + 1) = some (.int .i64 x9) ∧ ∃ x10 : Int, cl H3 b5 (((((o5 + (s2.1.2.2.1 : Int).toNat * 5) + 1) + 1) + 1) + 1) = some (.int .i64 x10) ∧ jn (fun (j14 : Bool) (H15
    : Hp) => cnd j14 (J30 s2.1.1 s2.1.2.1 H15) (jn (fun (j20 : Bool) (H21 : Hp) => cnd s2.1.2.1 (J30 j20 true H21) (∃ r23 : Option Nat, cl H21 pb_b (pb_o + 4) = some (.map r23) ∧ lookF2 H21 r23 x9 x8 (.int .i64 0) fun v24
    b25 => ∃ x26 : Int, v24 = .int .i64 x26 ∧ J30 j20 (decide ((x26 : Int) > s2.1.2.2.1)) H21)) fun J22 => cnd s2.1.1 (J22 true H15) (HCalls Try.prog 42 [.pointer (some ⟨pb_b, pb_o, none⟩), .int .i64 x9] H15 fun v17 H18
    => ∃ x19 : Bool, v17 = .bool x19 ∧ J22 (!x19) H18))) fun J16 => cnd ((x6 : Int) != 2) (J16 true H3) (cnd ((x9 : Int) == 0) (J16 true H3) (cnd ((x9 : Int) == x7) (J16 true H3) (HCalls Try.prog 42 [.pointer (some ⟨pb_b,
    pb_o, none⟩), .int .i64 x7] H3 fun v11 H12 => ∃ x13 : Bool, v11 = .bool x13 ∧ J16 (!x13) H12)))) (Q (.tuple #[.bool s2.1.1, .bool s2.1.2.1]) H3)
noncomputable def fcx20 : Cx := cx 64 [(5, true)] [(2, ⟨[0, 9, 10], [], [(2, .bool), (3, .bool), (11, .int .i64)], []⟩)] [(6, (.look 0 (.look 1 (.look 2 (.look 3 (.look 4 (.look 5 (.look 6 (.look 7 (.look 8 (.look 9 (.look 10 (.look 12 (.act 11 (.look 13 (.look 14 (.act 15 .done .done))) .done))))))))))))))] []
theorem f20.eq (pb_b pb_o : Nat) (H : Hp) (Q : Value → Hp → Prop) : f20 pb_b pb_o H Q = wFun fcx20 Try.f20 [.pointer (some ⟨pb_b, pb_o, none⟩)] H Q := by kernel_rfl
theorem f20.ok (pb_b pb_o : Nat) {H : Hp} {Q : Value → Hp → Prop} (h : f20 pb_b pb_o H Q) : HCalls Try.prog 20 [.pointer (some ⟨pb_b, pb_o, none⟩)] H Q := hcalls_of (cxOk 64 [(5, true)] [(2, ⟨[0, 9, 10], [], [(2, .bool), (3, .bool), (11, .int .i64)], []⟩)] [(6, (.look 0 (.look 1 (.look 2 (.look 3 (.look 4 (.look 5 (.look 6 (.look 7 (.look 8 (.look 9 (.look 10 (.look 12 (.act 11 (.look 13 (.look 14 (.act 15 .done .done))) .done))))))))))))))] []) Try.func20 (Eq.mp (f20.eq pb_b pb_o H Q) h)

/-- (*justiciar history.book).arcs -/
def f21 (pb_b pb_o : Nat) (H : Hp) (Q : Value → Hp → Prop) : Prop :=
  newF H 56 [.pointer (some ⟨pb_b, pb_o, none⟩)] fun g1 H2 => newF H2 44 [.slice none 0 0] fun g3 H4 => ∃ p5 : Option Addr, cl H4 g1 0 = some (.pointer p5) ∧ onPtr p5 fun b6 o6 => ∃ r7 : Option Nat, cl H4 b6 (o6 + 3) = some
    (.map r7) ∧ rangeF H4 r7 fun i8 H9 => LoopF (σ := Unit × Unit) ((), ()) H9 fun s10 H11 next12 => jn (fun (j18 : Bool) (H19 : Hp) => cnd j18 (entryF H19 i8 0 fun k21 v22 => ∃ x23 : Int, k21 = .int .i64 x23 ∧ ∃ (A24 :
    Option Addr) (n24 c24 : Nat), v22 = .slice A24 n24 c24 ∧ LoopF (σ := (Int × Unit) × Unit) ((1, ()), ()) H19 fun s25 H26 next27 => cnd (decide ((s25.1.1 : Int) < ((n24 : Nat) : Int))) (0 ≤ (IntKind.i64.wrap (s25.1.1 -
    1) : Int) ∧ (IntKind.i64.wrap (s25.1.1 - 1) : Int) < ((n24 : Nat) : Int) ∧ onPtr A24 fun b28 o28 => ∃ x29 : Int, cl H26 b28 (o28 + (IntKind.i64.wrap (s25.1.1 - 1) : Int).toNat * 1) = some (.int .i64 x29) ∧ 0 ≤
    (s25.1.1 : Int) ∧ (s25.1.1 : Int) < ((n24 : Nat) : Int) ∧ onPtr A24 fun b30 o30 => ∃ x31 : Int, cl H26 b30 (o30 + (s25.1.1 : Int).toNat * 1) = some (.int .i64 x31) ∧ FnOk Try.prog 43 ∧ HCalls Try.prog 43 [.int .i64
    x29, .int .i64 x31, .int .i64 1, .int .i64 x23, .pointer (some ⟨g1, 0, none⟩), .pointer (some ⟨g3, 0, none⟩)] H26 fun v32 H33 => KeepX [some (.v (.pointer (some ⟨g1, 0, none⟩))), some (.v (.pointer (some ⟨g3, 0,
    none⟩))), some (.v (.func (.func 43) #[] #[.pointer (some ⟨g1, 0, none⟩), .pointer (some ⟨g3, 0, none⟩)])), some (.v (.int .i64 x23)), some (.v (.slice A24 n24 c24)), some (.v (.pointer (some ⟨i8, 0, none⟩)))] [] ∧
    next27 ((IntKind.i64.wrap (s25.1.1 + 1), ()), ()) H33) (KeepX [some (.v (.pointer (some ⟨g1, 0, none⟩))), some (.v (.pointer (some ⟨g3, 0, none⟩))), some (.v (.func (.func 43) #[] #[.pointer (some ⟨g1, 0, none⟩),
    .pointer (some ⟨g3, 0, none⟩)])), some (.v (.pointer (some ⟨i8, 0, none⟩)))] [] ∧ next12 ((), ()) H26)) (∃ p34 : Option Addr, cl H19 g1 0 = some (.pointer p34) ∧ onPtr p34 fun b35 o35 => ∃ (A36 : Option Addr) (n36 c36
    : Nat), cl H19 b35 (o35 + 0) = some (.slice A36 n36 c36) ∧ LoopF (σ := (Int × Unit) × Unit) ((0, ()), ()) H19 fun s37 H38 next39 => cnd (decide ((s37.1.1 : Int) < ((n36 : Nat) : Int))) (jn (fun (H69 : Hp) => KeepX
    [some (.v (.pointer (some ⟨g1, 0, none⟩))), some (.v (.pointer (some ⟨g3, 0, none⟩))), some (.v (.func (.func 43) #[] #[.pointer (some ⟨g1, 0, none⟩), .pointer (some ⟨g3, 0, none⟩)])), some (.v (.slice A36 n36 c36)),
    some (.v (.int .i64 ((n36 : Nat) : Int)))] [] ∧ next39 ((IntKind.i64.wrap (s37.1.1 + 1), ()), ()) H69) fun J70 => 0 ≤ (s37.1.1 : Int) ∧ (s37.1.1 : Int) < ((n36 : Nat) : Int) ∧ onPtr A36 fun b40 o40 => ∃ x41 : Int, cl
    H38 b40 (o40 + (s37.1.1 : Int).toNat * 5) = some (.int .i64 x41) ∧ ∃ x42 : Int, cl H38 b40 ((o40 + (s37.1.1 : Int).toNat * 5) + 1) = some (.int .i64 x42) ∧ ∃ x43 : Int, cl H38 b40 (((o40 + (s37.1.1 : Int).toNat * 5) +
    1) + 1) = some (.int .i64 x43) ∧ ∃ x44 : Int, cl H38 b40 ((((o40 + (s37.1.1 : Int).toNat * 5) + 1) + 1) + 1) = some (.int .i64 x44) ∧ ∃ x45 : Int, cl H38 b40 (((((o40 + (s37.1.1 : Int).toNat * 5) + 1) + 1) + 1) + 1) =
    some (.int .i64 x45) ∧ cnd ((x41 : Int) != 2) (J70 H38) (jn (fun (H54 : Hp) => jn (fun (j60 : Bool) (H61 : Hp) => cnd j60 (∃ p63 : Option Addr, cl H61 g1 0 = some (.pointer p63) ∧ HCalls Try.prog 44 [.pointer p63,
    .int .i64 x43, .int .i64 x44] H61 fun v64 H65 => ∃ x66 : Int, v64 = .int .i64 x66 ∧ FnOk Try.prog 43 ∧ HCalls Try.prog 43 [.int .i64 x42, .int .i64 x66, .int .i64 3, .int .i64 x43, .pointer (some ⟨g1, 0, none⟩),
    .pointer (some ⟨g3, 0, none⟩)] H65 fun v67 H68 => J70 H68) (J70 H61)) fun J62 => cnd ((x44 : Int) == 0) (J62 true H54) (∃ p56 : Option Addr, cl H54 g1 0 = some (.pointer p56) ∧ HCalls Try.prog 42 [.pointer p56, .int
    .i64 x44] H54 fun v57 H58 => ∃ x59 : Bool, v57 = .bool x59 ∧ J62 x59 H58)) fun J55 => ∃ p46 : Option Addr, cl H38 g1 0 = some (.pointer p46) ∧ onPtr p46 fun b47 o47 => ∃ r48 : Option Nat, cl H38 b47 (o47 + 4) = some
    (.map r48) ∧ lookF2 H38 r48 x44 x43 (.int .i64 0) fun v49 b50 => ∃ x51 : Int, v49 = .int .i64 x51 ∧ cnd (decide ((x51 : Int) < s37.1.1)) (FnOk Try.prog 43 ∧ HCalls Try.prog 43 [.int .i64 x44, .int .i64 x42, .int .i64
    2, .int .i64 x43, .pointer (some ⟨g1, 0, none⟩), .pointer (some ⟨g3, 0, none⟩)] H38 fun v52 H53 => J55 H53) (J55 H38))) (∃ (A71 : Option Addr) (n71 c71 : Nat), cl H38 g3 0 = some (.slice A71 n71 c71) ∧ HCalls Try.prog
    45 [.slice A71 n71 c71, .func (.func 46) #[] #[]] H38 fun v72 H73 => v72 = .tuple #[] ∧ ∃ (A74 : Option Addr) (n74 c74 : Nat), cl H73 g3 0 = some (.slice A74 n74 c74) ∧ HCalls Try.prog 47 [.slice A74 n74 c74] H73 fun
    v75 H76 => ∃ (A77 : Option Addr) (n77 c77 : Nat), v75 = .slice A77 n77 c77 ∧ Q (.slice A77 n77 c77) H76))) fun J20 => nextF H11 i8 0 (J20 false H11) fun k13 v14 H15 => ∃ x16 : Int, k13 = .int .i64 x16 ∧ ∃ (A17 :
    Option Addr) (n17 c17 : Nat), v14 = .slice A17 n17 c17 ∧ J20 true H15
noncomputable def fcx21 : Cx := cx 98 [(9, true)] [(4, ⟨[1, 3, 4, 15], [], [], []⟩), (7, ⟨[1, 3, 4, 5, 6, 15], [], [(7, .int .i64)], []⟩), (11, ⟨[1, 3, 4, 42, 43], [], [(44, .int .i64)], []⟩)] [(9, (.look 0 (.look 1 (.look 2 (.look 3 (.look 4 (.look 5 (.look 6 (.look 7 (.look 8 (.look 9 (.look 10 (.act 11 .done .done))))))))))))), (14, (.look 0 (.look 1 (.look 2 (.look 3 (.look 4 (.look 5 (.look 6 (.look 7 (.look 8 (.look 10 (.act 9 (.look 11 .done) .done)))))))))))), (17, (.look 0 (.look 1 (.look 2 (.look 3 (.look 4 (.look 5 (.look 6 (.look 7 (.look 9 (.look 10 (.act 8 (.act 11 .done .done) .done))))))))))))] [(16, ((.int .i64 0), (.slice none 0 0))), (18, ((.int .i64 0), (.slice none 0 0)))]
theorem f21.eq (pb_b pb_o : Nat) (H : Hp) (Q : Value → Hp → Prop) : f21 pb_b pb_o H Q = wFun fcx21 Try.f21 [.pointer (some ⟨pb_b, pb_o, none⟩)] H Q := by kernel_rfl
theorem f21.ok (pb_b pb_o : Nat) {H : Hp} {Q : Value → Hp → Prop} (h : f21 pb_b pb_o H Q) : HCalls Try.prog 21 [.pointer (some ⟨pb_b, pb_o, none⟩)] H Q := hcalls_of (cxOk 98 [(9, true)] [(4, ⟨[1, 3, 4, 15], [], [], []⟩), (7, ⟨[1, 3, 4, 5, 6, 15], [], [(7, .int .i64)], []⟩), (11, ⟨[1, 3, 4, 42, 43], [], [(44, .int .i64)], []⟩)] [(9, (.look 0 (.look 1 (.look 2 (.look 3 (.look 4 (.look 5 (.look 6 (.look 7 (.look 8 (.look 9 (.look 10 (.act 11 .done .done))))))))))))), (14, (.look 0 (.look 1 (.look 2 (.look 3 (.look 4 (.look 5 (.look 6 (.look 7 (.look 8 (.look 10 (.act 9 (.look 11 .done) .done)))))))))))), (17, (.look 0 (.look 1 (.look 2 (.look 3 (.look 4 (.look 5 (.look 6 (.look 7 (.look 9 (.look 10 (.act 8 (.act 11 .done .done) .done))))))))))))] [(16, ((.int .i64 0), (.slice none 0 0))), (18, ((.int .i64 0), (.slice none 0 0)))]) Try.func21 (Eq.mp (f21.eq pb_b pb_o H Q) h)

/-- maps.Keys[map[int]bool,int,bool] -/
def f23 (pm : Option Nat) (H : Hp) (Q : Value → Hp → Prop) : Prop :=
  newF H 61 [.map pm] fun g1 H2 => Q (.func (.func 50) #[] #[.pointer (some ⟨g1, 0, none⟩)]) H2
noncomputable def fcx23 : Cx := cx 4 [] [] [] []
theorem f23.eq (pm : Option Nat) (H : Hp) (Q : Value → Hp → Prop) : f23 pm H Q = wFun fcx23 Try.f23 [.map pm] H Q := by kernel_rfl
theorem f23.ok (pm : Option Nat) {H : Hp} {Q : Value → Hp → Prop} (h : f23 pm H Q) : HCalls Try.prog 23 [.map pm] H Q := hcalls_of (cxOk 4 [] [] [] []) Try.func23 (Eq.mp (f23.eq pm H Q) h)

/-- slices.ContainsFunc[[]justiciar api.Arc,justiciar api.Arc] -/
def f24 (ps_A : Option Addr) (ps_n ps_c : Nat) (pf_f : FuncId) (pf_a pf_c : Array Value) (H : Hp) (Q : Value → Hp → Prop) : Prop :=
  HCalls Try.prog 51 [.slice ps_A ps_n ps_c, .func (.func pf_f) pf_a pf_c] H fun v1 H2 => ∃ x3 : Int, v1 = .int .i64 x3 ∧ Q (.bool (decide ((x3 : Int) ≥ 0))) H2
noncomputable def fcx24 : Cx := cx 9 [] [] [] []
theorem f24.eq (ps_A : Option Addr) (ps_n ps_c : Nat) (pf_f : FuncId) (pf_a pf_c : Array Value) (H : Hp) (Q : Value → Hp → Prop) : f24 ps_A ps_n ps_c pf_f pf_a pf_c H Q = wFun fcx24 Try.f24 [.slice ps_A ps_n ps_c, .func (.func pf_f) pf_a pf_c] H Q := by kernel_rfl
theorem f24.ok (ps_A : Option Addr) (ps_n ps_c : Nat) (pf_f : FuncId) (pf_a pf_c : Array Value) {H : Hp} {Q : Value → Hp → Prop} (h : f24 ps_A ps_n ps_c pf_f pf_a pf_c H Q) : HCalls Try.prog 24 [.slice ps_A ps_n ps_c, .func (.func pf_f) pf_a pf_c] H Q := hcalls_of (cxOk 9 [] [] [] []) Try.func24 (Eq.mp (f24.eq ps_A ps_n ps_c pf_f pf_a pf_c H Q) h)

/-- justiciar history.Order$1 -/
def f25 (px_0 : Int) (px_1 : Int) (px_2 : Int) (px_3 : Int) (fra_b fra_o : Nat) (frb_b frb_o : Nat) (H : Hp) (Q : Value → Hp → Prop) : Prop :=
  jn (fun (j6 : Bool) => Q (.bool j6) H) fun J7 => ∃ x1 : Int, cl H fra_b fra_o = some (.int .i64 x1) ∧ cnd ((px_1 : Int) == x1) (∃ r2 : Option Nat, cl H frb_b frb_o = some (.map r2) ∧ lookF H .i64 r2 px_0 (.bool false) fun
    v3 b4 => ∃ x5 : Bool, v3 = .bool x5 ∧ J7 x5) (J7 false)
noncomputable def fcx25 : Cx := cx 15 [(3, true)] [] [] []
theorem f25.eq (px_0 : Int) (px_1 : Int) (px_2 : Int) (px_3 : Int) (fra_b fra_o : Nat) (frb_b frb_o : Nat) (H : Hp) (Q : Value → Hp → Prop) : f25 px_0 px_1 px_2 px_3 fra_b fra_o frb_b frb_o H Q = wFun fcx25 Try.f25 [.agg #[.int .i64 px_0, .int .i64 px_1, .int .i64 px_2, .int .i64 px_3], .pointer (some ⟨fra_b, fra_o, none⟩), .pointer (some ⟨frb_b, frb_o, none⟩)] H Q := by kernel_rfl
theorem f25.ok (px_0 : Int) (px_1 : Int) (px_2 : Int) (px_3 : Int) (fra_b fra_o : Nat) (frb_b frb_o : Nat) {H : Hp} {Q : Value → Hp → Prop} (h : f25 px_0 px_1 px_2 px_3 fra_b fra_o frb_b frb_o H Q) : HCalls Try.prog 25 [.agg #[.int .i64 px_0, .int .i64 px_1, .int .i64 px_2, .int .i64 px_3], .pointer (some ⟨fra_b, fra_o, none⟩), .pointer (some ⟨frb_b, frb_o, none⟩)] H Q := hcalls_of (cxOk 15 [(3, true)] [] [] []) Try.func25 (Eq.mp (f25.eq px_0 px_1 px_2 px_3 fra_b fra_o frb_b frb_o H Q) h)

/-- justiciar history.Faults$1 -/
def f26 (pis : Bool) (ps : ByteArray) (fra_b fra_o : Nat) (H : Hp) (Q : Value → Hp → Prop) : Prop :=
  jn (fun (H7 : Hp) => Q (.bool pis) H7) fun J8 => cnd pis (∃ (A1 : Option Addr) (n1 c1 : Nat), cl H fra_b fra_o = some (.slice A1 n1 c1) ∧ newF H 9 [.string ps] fun g2 H3 => appendF H3 9 1 16 A1 n1 c1 (some ⟨g2, 0, none⟩)
    1 fun A4 n4 c4 H5 => storeF H5 fra_b fra_o [.slice A4 n4 c4] fun H6 => J8 H6) (J8 H)
noncomputable def fcx26 : Cx := cx 12 [] [] [] []
theorem f26.eq (pis : Bool) (ps : ByteArray) (fra_b fra_o : Nat) (H : Hp) (Q : Value → Hp → Prop) : f26 pis ps fra_b fra_o H Q = wFun fcx26 Try.f26 [.bool pis, .string ps, .pointer (some ⟨fra_b, fra_o, none⟩)] H Q := by kernel_rfl
theorem f26.ok (pis : Bool) (ps : ByteArray) (fra_b fra_o : Nat) {H : Hp} {Q : Value → Hp → Prop} (h : f26 pis ps fra_b fra_o H Q) : HCalls Try.prog 26 [.bool pis, .string ps, .pointer (some ⟨fra_b, fra_o, none⟩)] H Q := hcalls_of (cxOk 12 [] [] [] []) Try.func26 (Eq.mp (f26.eq pis ps fra_b fra_o H Q) h)

/-- justiciar history.graphOf -/
def f27 (pl_A : Option Addr) (pl_n pl_c : Nat) (pwant_f : FuncId) (pwant_a pwant_c : Array Value) (H : Hp) (Q : Value → Hp → Prop) : Prop :=
  newMapF H fun m1 H2 => LoopF (σ := (Int × Unit) × Unit) ((0, ()), ()) H2 fun s3 H4 next5 => cnd (decide ((s3.1.1 : Int) < ((pl_n : Nat) : Int))) (jn (fun (H39 : Hp) => KeepX [some (.v (.func (.func pwant_f) pwant_a
    pwant_c)), some (.v (.map (some m1))), some (.v (.slice pl_A pl_n pl_c)), some (.v (.int .i64 ((pl_n : Nat) : Int)))] [] ∧ next5 ((IntKind.i64.wrap (s3.1.1 + 1), ()), ()) H39) fun J40 => 0 ≤ (s3.1.1 : Int) ∧ (s3.1.1 :
    Int) < ((pl_n : Nat) : Int) ∧ onPtr pl_A fun b6 o6 => ∃ x7 : Int, cl H4 b6 (o6 + (s3.1.1 : Int).toNat * 4) = some (.int .i64 x7) ∧ ∃ x8 : Int, cl H4 b6 ((o6 + (s3.1.1 : Int).toNat * 4) + 1) = some (.int .i64 x8) ∧ ∃
    x9 : Int, cl H4 b6 (((o6 + (s3.1.1 : Int).toNat * 4) + 1) + 1) = some (.int .i64 x9) ∧ ∃ x10 : Int, cl H4 b6 ((((o6 + (s3.1.1 : Int).toNat * 4) + 1) + 1) + 1) = some (.int .i64 x10) ∧ jn (fun (j20 : Bool) (H21 : Hp)
    => cnd j20 ((lookF H21 .i64 (some m1) x7 (.slice none 0 0) fun v23 b24 => ∃ (A25 : Option Addr) (n25 c25 : Nat), v23 = .slice A25 n25 c25 ∧ newF H21 3 [.int .i64 x8] fun g26 H27 => appendF H27 3 1 8 A25 n25 c25 (some
    ⟨g26, 0, none⟩) 1 fun A28 n28 c28 H29 => putF H29 .i64 (some m1) x7 (.slice A28 n28 c28) fun H30 => J40 H30) ∧ (newF H21 3 [.int .i64 x8] fun g31 H32 => lookF H32 .i64 (some m1) x7 (.slice none 0 0) fun v33 b34 => ∃
    (A35 : Option Addr) (n35 c35 : Nat), v33 = .slice A35 n35 c35 ∧ appendF H32 3 1 8 A35 n35 c35 (some ⟨g31, 0, none⟩) 1 fun A36 n36 c36 H37 => putF H37 .i64 (some m1) x7 (.slice A36 n36 c36) fun H38 => J40 H38)) (J40
    H21)) fun J22 => FnOk Try.prog pwant_f ∧ HCalls Try.prog pwant_f (pwant_a.toList ++ [.int .i64 x9] ++ pwant_c.toList) H4 fun v11 H12 => ∃ x13 : Bool, v11 = .bool x13 ∧ cnd x13 (lookF H12 .i64 (some m1) x7 (.slice none
    0 0) fun v14 b15 => ∃ (A16 : Option Addr) (n16 c16 : Nat), v14 = .slice A16 n16 c16 ∧ HCalls Try.prog 40 [.slice A16 n16 c16, .int .i64 x8] H12 fun v17 H18 => ∃ x19 : Bool, v17 = .bool x19 ∧ J22 (!x19) H18) (J22 false
    H12)) (rangeF H4 (some m1) fun i41 H42 => LoopF (σ := Unit × Unit) ((), ()) H42 fun s43 H44 next45 => jn (fun (j51 : Bool) (H52 : Hp) => cnd j51 (entryF H52 i41 0 fun k54 v55 => ∃ x56 : Int, k54 = .int .i64 x56 ∧ ∃
    (A57 : Option Addr) (n57 c57 : Nat), v55 = .slice A57 n57 c57 ∧ HCalls Try.prog 49 [.slice A57 n57 c57] H52 fun v58 H59 => v58 = .tuple #[] ∧ KeepX [some (.v (.map (some m1))), some (.v (.pointer (some ⟨i41, 0,
    none⟩)))] [] ∧ next45 ((), ()) H59) (Q (.map (some m1)) H52)) fun J53 => nextF H44 i41 0 (J53 false H44) fun k46 v47 H48 => ∃ x49 : Int, k46 = .int .i64 x49 ∧ ∃ (A50 : Option Addr) (n50 c50 : Nat), v47 = .slice A50
    n50 c50 ∧ J53 true H48)
noncomputable def fcx27 : Cx := cx 52 [(7, true)] [(3, ⟨[1, 5, 11, 12], [], [(13, .int .i64)], []⟩), (9, ⟨[5, 44], [], [], []⟩)] [(6, (.look 0 (.look 1 (.look 2 (.look 3 (.look 4 (.look 5 (.look 7 (.look 8 (.act 6 (.act 9 (.act 10 (.act 11 .done .done) .done) .done) (.act 9 (.act 6 (.act 10 (.act 11 .done .done) .done) .done) .done)))))))))))] [(45, ((.int .i64 0), (.slice none 0 0))), (47, ((.int .i64 0), (.slice none 0 0)))]
theorem f27.eq (pl_A : Option Addr) (pl_n pl_c : Nat) (pwant_f : FuncId) (pwant_a pwant_c : Array Value) (H : Hp) (Q : Value → Hp → Prop) : f27 pl_A pl_n pl_c pwant_f pwant_a pwant_c H Q = wFun fcx27 Try.f27 [.slice pl_A pl_n pl_c, .func (.func pwant_f) pwant_a pwant_c] H Q := by kernel_rfl
theorem f27.ok (pl_A : Option Addr) (pl_n pl_c : Nat) (pwant_f : FuncId) (pwant_a pwant_c : Array Value) {H : Hp} {Q : Value → Hp → Prop} (h : f27 pl_A pl_n pl_c pwant_f pwant_a pwant_c H Q) : HCalls Try.prog 27 [.slice pl_A pl_n pl_c, .func (.func pwant_f) pwant_a pwant_c] H Q := hcalls_of (cxOk 52 [(7, true)] [(3, ⟨[1, 5, 11, 12], [], [(13, .int .i64)], []⟩), (9, ⟨[5, 44], [], [], []⟩)] [(6, (.look 0 (.look 1 (.look 2 (.look 3 (.look 4 (.look 5 (.look 7 (.look 8 (.act 6 (.act 9 (.act 10 (.act 11 .done .done) .done) .done) (.act 9 (.act 6 (.act 10 (.act 11 .done .done) .done) .done) .done)))))))))))] [(45, ((.int .i64 0), (.slice none 0 0))), (47, ((.int .i64 0), (.slice none 0 0)))]) Try.func27 (Eq.mp (f27.eq pl_A pl_n pl_c pwant_f pwant_a pwant_c H Q) h)

/-- justiciar history.Faults$2 -/
def f28 (pkind : Int) (H : Hp) (Q : Value → Hp → Prop) : Prop :=
  Q (.bool ((pkind : Int) == 1)) H
noncomputable def fcx28 : Cx := cx 5 [] [] [] []
theorem f28.eq (pkind : Int) (H : Hp) (Q : Value → Hp → Prop) : f28 pkind H Q = wFun fcx28 Try.f28 [.int .i64 pkind] H Q := by kernel_rfl
theorem f28.ok (pkind : Int) {H : Hp} {Q : Value → Hp → Prop} (h : f28 pkind H Q) : HCalls Try.prog 28 [.int .i64 pkind] H Q := hcalls_of (cxOk 5 [] [] [] []) Try.func28 (Eq.mp (f28.eq pkind H Q) h)

/-- justiciar history.Faults$3 -/
def f29 (pkind : Int) (H : Hp) (Q : Value → Hp → Prop) : Prop :=
  Q (.bool ((pkind : Int) != 3)) H
noncomputable def fcx29 : Cx := cx 5 [] [] [] []
theorem f29.eq (pkind : Int) (H : Hp) (Q : Value → Hp → Prop) : f29 pkind H Q = wFun fcx29 Try.f29 [.int .i64 pkind] H Q := by kernel_rfl
theorem f29.ok (pkind : Int) {H : Hp} {Q : Value → Hp → Prop} (h : f29 pkind H Q) : HCalls Try.prog 29 [.int .i64 pkind] H Q := hcalls_of (cxOk 5 [] [] [] []) Try.func29 (Eq.mp (f29.eq pkind H Q) h)

/-- justiciar history.Faults$4 -/
def f30 (pax : Int) (H : Hp) (Q : Value → Hp → Prop) : Prop :=
  Q (.bool true) H
noncomputable def fcx30 : Cx := cx 3 [] [] [] []
theorem f30.eq (pax : Int) (H : Hp) (Q : Value → Hp → Prop) : f30 pax H Q = wFun fcx30 Try.f30 [.int .i64 pax] H Q := by kernel_rfl
theorem f30.ok (pax : Int) {H : Hp} {Q : Value → Hp → Prop} (h : f30 pax H Q) : HCalls Try.prog 30 [.int .i64 pax] H Q := hcalls_of (cxOk 3 [] [] [] []) Try.func30 (Eq.mp (f30.eq pax H Q) h)

/-- justiciar history.circle -/
def f31 (pl_A : Option Addr) (pl_n pl_c : Nat) (pkind : Int) (pg : Option Nat) (H : Hp) (Q : Value → Hp → Prop) : Prop :=
  newF H 3 [.int .i64 pkind] fun g1 H2 => newF H2 74 [.map pg] fun g3 H4 => HCalls Try.prog 24 [.slice pl_A pl_n pl_c, .func (.func 52) #[] #[.pointer (some ⟨g1, 0, none⟩), .pointer (some ⟨g3, 0, none⟩)]] H4 fun v5 H6 => ∃
    x7 : Bool, v5 = .bool x7 ∧ Q (.bool x7) H6
noncomputable def fcx31 : Cx := cx 10 [] [] [] []
theorem f31.eq (pl_A : Option Addr) (pl_n pl_c : Nat) (pkind : Int) (pg : Option Nat) (H : Hp) (Q : Value → Hp → Prop) : f31 pl_A pl_n pl_c pkind pg H Q = wFun fcx31 Try.f31 [.slice pl_A pl_n pl_c, .int .i64 pkind, .map pg] H Q := by kernel_rfl
theorem f31.ok (pl_A : Option Addr) (pl_n pl_c : Nat) (pkind : Int) (pg : Option Nat) {H : Hp} {Q : Value → Hp → Prop} (h : f31 pl_A pl_n pl_c pkind pg H Q) : HCalls Try.prog 31 [.slice pl_A pl_n pl_c, .int .i64 pkind, .map pg] H Q := hcalls_of (cxOk 10 [] [] [] []) Try.func31 (Eq.mp (f31.eq pl_A pl_n pl_c pkind pg H Q) h)

/-- (justiciar history.graph).circles -/
def f32 (pg : Option Nat) (H : Hp) (Q : Value → Hp → Prop) : Prop :=
  newF H 74 [.map pg] fun g1 H2 => ∃ r3 : Option Nat, cl H2 g1 0 = some (.map r3) ∧ rangeF H2 r3 fun i4 H5 => LoopF (σ := Unit × Unit) ((), ()) H5 fun s6 H7 next8 => jn (fun (j14 : Bool) (H15 : Hp) => cnd j14 (entryF H15 i4
    0 fun k17 v18 => ∃ x19 : Int, k17 = .int .i64 x19 ∧ ∃ (A20 : Option Addr) (n20 c20 : Nat), v18 = .slice A20 n20 c20 ∧ newF H15 3 [.int .i64 0] fun g21 H22 => storeF H22 g21 0 [.int .i64 x19] fun H23 => HCalls Try.prog
    54 [.slice A20 n20 c20, .func (.func 55) #[] #[.pointer (some ⟨g1, 0, none⟩), .pointer (some ⟨g21, 0, none⟩)]] H23 fun v24 H25 => ∃ x26 : Bool, v24 = .bool x26 ∧ cnd x26 (Q (.bool true) H25) (KeepX [some (.v (.pointer
    (some ⟨g1, 0, none⟩))), some (.v (.pointer (some ⟨i4, 0, none⟩)))] [] ∧ next8 ((), ()) H25)) (Q (.bool false) H15)) fun J16 => nextF H7 i4 0 (J16 false H7) fun k9 v10 H11 => ∃ x12 : Int, k9 = .int .i64 x12 ∧ ∃ (A13 :
    Option Addr) (n13 c13 : Nat), v10 = .slice A13 n13 c13 ∧ J16 true H11
noncomputable def fcx32 : Cx := cx 15 [] [(2, ⟨[1, 6], [], [], []⟩)] [] [(7, ((.int .i64 0), (.slice none 0 0))), (9, ((.int .i64 0), (.slice none 0 0)))]
theorem f32.eq (pg : Option Nat) (H : Hp) (Q : Value → Hp → Prop) : f32 pg H Q = wFun fcx32 Try.f32 [.map pg] H Q := by kernel_rfl
theorem f32.ok (pg : Option Nat) {H : Hp} {Q : Value → Hp → Prop} (h : f32 pg H Q) : HCalls Try.prog 32 [.map pg] H Q := hcalls_of (cxOk 15 [] [(2, ⟨[1, 6], [], [], []⟩)] [] [(7, ((.int .i64 0), (.slice none 0 0))), (9, ((.int .i64 0), (.slice none 0 0)))]) Try.func32 (Eq.mp (f32.eq pg H Q) h)

/-- slices.ContainsFunc[[]justiciar api.His,justiciar api.His] -/
def f33 (ps_A : Option Addr) (ps_n ps_c : Nat) (pf_f : FuncId) (pf_a pf_c : Array Value) (H : Hp) (Q : Value → Hp → Prop) : Prop :=
  HCalls Try.prog 56 [.slice ps_A ps_n ps_c, .func (.func pf_f) pf_a pf_c] H fun v1 H2 => ∃ x3 : Int, v1 = .int .i64 x3 ∧ Q (.bool (decide ((x3 : Int) ≥ 0))) H2
noncomputable def fcx33 : Cx := cx 9 [] [] [] []
theorem f33.eq (ps_A : Option Addr) (ps_n ps_c : Nat) (pf_f : FuncId) (pf_a pf_c : Array Value) (H : Hp) (Q : Value → Hp → Prop) : f33 ps_A ps_n ps_c pf_f pf_a pf_c H Q = wFun fcx33 Try.f33 [.slice ps_A ps_n ps_c, .func (.func pf_f) pf_a pf_c] H Q := by kernel_rfl
theorem f33.ok (ps_A : Option Addr) (ps_n ps_c : Nat) (pf_f : FuncId) (pf_a pf_c : Array Value) {H : Hp} {Q : Value → Hp → Prop} (h : f33 ps_A ps_n ps_c pf_f pf_a pf_c H Q) : HCalls Try.prog 33 [.slice ps_A ps_n ps_c, .func (.func pf_f) pf_a pf_c] H Q := hcalls_of (cxOk 9 [] [] [] []) Try.func33 (Eq.mp (f33.eq ps_A ps_n ps_c pf_f pf_a pf_c H Q) h)

/-- justiciar history.Valid$1 -/
def f34 (px_0 : Int) (px_1 : Int) (px_2 : Int) (px_3 : Int) (px_4 : Int) (fra_b fra_o : Nat) (H : Hp) (Q : Value → Hp → Prop) : Prop :=
  ∃ p1 : Option Addr, cl H fra_b fra_o = some (.pointer p1) ∧ HCalls Try.prog 35 [.pointer p1, .agg #[.int .i64 px_0, .int .i64 px_1, .int .i64 px_2, .int .i64 px_3, .int .i64 px_4]] H fun v2 H3 => ∃ x4 : Bool, v2 = .bool
    x4 ∧ Q (.bool (!x4)) H3
noncomputable def fcx34 : Cx := cx 8 [(2, true)] [] [] []
theorem f34.eq (px_0 : Int) (px_1 : Int) (px_2 : Int) (px_3 : Int) (px_4 : Int) (fra_b fra_o : Nat) (H : Hp) (Q : Value → Hp → Prop) : f34 px_0 px_1 px_2 px_3 px_4 fra_b fra_o H Q = wFun fcx34 Try.f34 [.agg #[.int .i64 px_0, .int .i64 px_1, .int .i64 px_2, .int .i64 px_3, .int .i64 px_4], .pointer (some ⟨fra_b, fra_o, none⟩)] H Q := by kernel_rfl
theorem f34.ok (px_0 : Int) (px_1 : Int) (px_2 : Int) (px_3 : Int) (px_4 : Int) (fra_b fra_o : Nat) {H : Hp} {Q : Value → Hp → Prop} (h : f34 px_0 px_1 px_2 px_3 px_4 fra_b fra_o H Q) : HCalls Try.prog 34 [.agg #[.int .i64 px_0, .int .i64 px_1, .int .i64 px_2, .int .i64 px_3, .int .i64 px_4], .pointer (some ⟨fra_b, fra_o, none⟩)] H Q := hcalls_of (cxOk 8 [(2, true)] [] [] []) Try.func34 (Eq.mp (f34.eq px_0 px_1 px_2 px_3 px_4 fra_b fra_o H Q) h)

/-- (*justiciar history.checker).event -/
def f35 (pc_b pc_o : Nat) (px_0 : Int) (px_1 : Int) (px_2 : Int) (px_3 : Int) (px_4 : Int) (H : Hp) (Q : Value → Hp → Prop) : Prop :=
  newF H 29 [.int .i64 px_0, .int .i64 px_1, .int .i64 px_2, .int .i64 px_3, .int .i64 px_4] fun g1 H2 => ∃ r3 : Option Nat, cl H2 pc_b (pc_o + 0) = some (.map r3) ∧ ∃ x4 : Int, cl H2 g1 (0 + 1) = some (.int .i64 x4) ∧
    lookF H2 .i64 r3 x4 (.pointer none) fun v5 b6 => ∃ p7 : Option Addr, v5 = .pointer p7 ∧ jn (fun (jp13 : Option Addr) (H14 : Hp) => jn (fun (j25 : Bool) (H26 : Hp) => cnd j25 (Q (.bool false) H26) (∃ x28 : Int, cl H26
    g1 (0 + 0) = some (.int .i64 x28) ∧ ∃ x29 : Int, cl H26 g1 (0 + 1) = some (.int .i64 x29) ∧ jn (fun (j92 : Bool) (j93 : Int) (j94 : Int) (j95 : Int) (H96 : Hp) => jn (fun (j103 : Bool) => Q (.bool j103) H96) fun J104
    => cnd j92 (∃ x98 : Int, cl H96 g1 0 = some (.int .i64 x98) ∧ ∃ x99 : Int, cl H96 g1 (0 + 1) = some (.int .i64 x99) ∧ ∃ x100 : Int, cl H96 g1 ((0 + 1) + 1) = some (.int .i64 x100) ∧ ∃ x101 : Int, cl H96 g1 (((0 + 1) +
    1) + 1) = some (.int .i64 x101) ∧ ∃ x102 : Int, cl H96 g1 ((((0 + 1) + 1) + 1) + 1) = some (.int .i64 x102) ∧ J104 (((x98 : Int) == x28) && (((x99 : Int) == x29) && (((x100 : Int) == j93) && (((x101 : Int) == j94) &&
    (((x102 : Int) == j95) && true)))))) (J104 false)) fun J97 => ∃ x30 : Int, cl H26 g1 (0 + 0) = some (.int .i64 x30) ∧ cnd ((x30 : Int) == 1) (onPtr jp13 fun b31 o31 => storeF H26 b31 (o31 + 0) [.bool true] fun H32 =>
    J97 true 0 0 0 H32) (cnd ((x30 : Int) == 2) (∃ x33 : Int, cl H26 g1 (0 + 2) = some (.int .i64 x33) ∧ ∃ x34 : Int, cl H26 g1 (0 + 3) = some (.int .i64 x34) ∧ ∃ x35 : Int, cl H26 g1 (0 + 4) = some (.int .i64 x35) ∧ jn
    (fun (j50 : Bool) (H51 : Hp) => ∃ x53 : Int, cl H51 g1 (0 + 4) = some (.int .i64 x53) ∧ onPtr jp13 fun b54 o54 => storeF H51 b54 (o54 + 2) [.int .i64 x53] fun H55 => J97 j50 x33 x34 x35 H55) fun J52 => ∃ x36 : Int, cl
    H26 g1 (0 + 2) = some (.int .i64 x36) ∧ HCalls Try.prog 57 [.int .i64 x36] H26 fun v37 H38 => ∃ x39 : Bool, v37 = .bool x39 ∧ cnd x39 (∃ x40 : Int, cl H38 g1 (0 + 4) = some (.int .i64 x40) ∧ onPtr jp13 fun b41 o41 =>
    ∃ x42 : Int, cl H38 b41 (o41 + 2) = some (.int .i64 x42) ∧ H38 g1 = H38 g1 ∧ cnd (decide ((x40 : Int) ≥ (if (1 : Int) > x42 then 1 else x42))) (∃ x43 : Int, cl H38 g1 (0 + 3) = some (.int .i64 x43) ∧ cnd ((x43 : Int)
    == 0) (J52 true H38) (∃ r44 : Option Nat, cl H38 pc_b (pc_o + 1) = some (.map r44) ∧ ∃ x45 : Int, cl H38 g1 (0 + 3) = some (.int .i64 x45) ∧ ∃ x46 : Int, cl H38 g1 (0 + 2) = some (.int .i64 x46) ∧ lookF2 H38 r44 x45
    x46 (.bool false) fun v47 b48 => ∃ x49 : Bool, v47 = .bool x49 ∧ J52 x49 H38)) (J52 false H38)) (J52 false H38)) (cnd ((x30 : Int) == 3) (∃ x56 : Int, cl H26 g1 (0 + 2) = some (.int .i64 x56) ∧ ∃ x57 : Int, cl H26 g1
    (0 + 4) = some (.int .i64 x57) ∧ ∃ r58 : Option Nat, cl H26 pc_b (pc_o + 2) = some (.map r58) ∧ ∃ x59 : Int, cl H26 g1 (0 + 2) = some (.int .i64 x59) ∧ lookF H26 .i64 r58 x59 (.int .i64 0) fun v60 b61 => ∃ x62 : Int,
    v60 = .int .i64 x62 ∧ jn (fun (j71 : Bool) (H72 : Hp) => ∃ x74 : Int, cl H72 g1 (0 + 4) = some (.int .i64 x74) ∧ onPtr jp13 fun b75 o75 => storeF H72 b75 (o75 + 2) [.int .i64 x74] fun H76 => ∃ r77 : Option Nat, cl H76
    pc_b (pc_o + 1) = some (.map r77) ∧ ∃ x78 : Int, cl H76 g1 (0 + 1) = some (.int .i64 x78) ∧ ∃ x79 : Int, cl H76 g1 (0 + 2) = some (.int .i64 x79) ∧ putF2 H76 r77 x78 x79 (.bool true) fun H80 => ∃ r81 : Option Nat, cl
    H80 pc_b (pc_o + 2) = some (.map r81) ∧ ∃ x82 : Int, cl H80 g1 (0 + 2) = some (.int .i64 x82) ∧ ∃ x83 : Int, cl H80 g1 (0 + 1) = some (.int .i64 x83) ∧ putF H80 .i64 r81 x82 (.int .i64 x83) fun H84 => J97 j71 x56 0
    x57 H84) fun J73 => ∃ x63 : Int, cl H26 g1 (0 + 2) = some (.int .i64 x63) ∧ HCalls Try.prog 57 [.int .i64 x63] H26 fun v64 H65 => ∃ x66 : Bool, v64 = .bool x66 ∧ cnd x66 (∃ x67 : Int, cl H65 g1 (0 + 4) = some (.int
    .i64 x67) ∧ onPtr jp13 fun b68 o68 => ∃ x69 : Int, cl H65 b68 (o68 + 2) = some (.int .i64 x69) ∧ H65 g1 = H65 g1 ∧ cnd (decide ((x67 : Int) ≥ (if (1 : Int) > x69 then 1 else x69))) (cnd (!b61) (J73 true H65) (∃ x70 :
    Int, cl H65 g1 (0 + 1) = some (.int .i64 x70) ∧ J73 ((x62 : Int) == x70) H65)) (J73 false H65)) (J73 false H65)) (jn (fun (j85 : Bool) => cnd j85 (onPtr jp13 fun b87 o87 => storeF H26 b87 (o87 + 1) [.bool true] fun
    H88 => ∃ r89 : Option Nat, cl H88 pc_b (pc_o + 2) = some (.map r89) ∧ HCalls Try.prog 58 [.map r89, .func (.func 59) #[] #[.pointer (some ⟨g1, 0, none⟩)]] H88 fun v90 H91 => v90 = .tuple #[] ∧ J97 true 0 0 0 H91) (J97
    false 0 0 0 H26)) fun J86 => cnd ((x30 : Int) == 4) (J86 ((x30 : Int) == 4)) (J86 ((x30 : Int) == 5))))))) fun J27 => ∃ x16 : Int, cl H14 g1 (0 + 1) = some (.int .i64 x16) ∧ HCalls Try.prog 57 [.int .i64 x16] H14 fun
    v17 H18 => ∃ x19 : Bool, v17 = .bool x19 ∧ cnd (!x19) (J27 true H18) (onPtr jp13 fun b20 o20 => ∃ x21 : Bool, cl H18 b20 (o20 + 1) = some (.bool x21) ∧ cnd x21 (J27 true H18) (onPtr jp13 fun b22 o22 => ∃ x23 : Bool,
    cl H18 b22 (o22 + 0) = some (.bool x23) ∧ ∃ x24 : Int, cl H18 g1 (0 + 0) = some (.int .i64 x24) ∧ J27 (x23 == ((x24 : Int) == 1)) H18))) fun J15 => cnd ((p7).isNone) (newF H2 102 [.bool false, .bool false, .int .i64
    0] fun g8 H9 => ∃ r10 : Option Nat, cl H9 pc_b (pc_o + 0) = some (.map r10) ∧ ∃ x11 : Int, cl H9 g1 (0 + 1) = some (.int .i64 x11) ∧ putF H9 .i64 r10 x11 (.pointer (some ⟨g8, 0, none⟩)) fun H12 => J15 (some ⟨g8, 0,
    none⟩) H12) (J15 p7 H2)
noncomputable def fcx35 : Cx := cx 187 [(6, true)] [] [(1, (.look 0 (.look 1 (.look 2 (.look 3 (.look 4 (.look 5 (.act 6 (.act 7 .done .done) .done)))))))), (4, (.look 0 (.look 1 (.look 2 (.look 3 (.look 4 (.look 5 (.look 6 (.act 7 .done .done))))))))), (5, (.look 0 (.look 1 (.act 2 (.look 3 (.look 4 (.look 5 (.look 6 (.look 7 (.look 8 (.look 9 (.look 10 (.look 11 (.look 12 (.look 13 (.look 14 (.look 15 (.look 16 (.look 17 (.look 18 (.look 19 .done))))))))))))))))) .done)))), (13, (.look 0 (.look 1 (.look 2 (.look 3 (.look 4 (.look 5 (.look 6 (.act 7 (.look 8 (.act 9 (.look 10 (.act 11 .done .done)) .done)) .done))))))))), (14, (.look 0 (.look 1 (.act 2 (.look 3 (.look 4 (.look 5 (.look 6 (.look 7 (.look 8 (.look 9 (.act 10 (.look 11 (.look 12 (.look 13 (.look 14 (.look 15 (.look 16 (.look 17 (.look 18 (.look 19 (.look 20 (.look 21 (.look 22 (.look 23 (.look 24 (.look 25 (.look 26 (.act 27 (.look 28 (.look 29 (.act 30 .done .done))) .done))))))))))))))))) .done)))))))) .done)))), (17, (.look 0 (.look 1 (.look 2 (.look 3 (.look 4 (.act 5 (.look 6 (.act 7 .done .done)) .done))))))), (18, (.look 0 (.look 1 (.look 2 (.look 3 (.look 4 (.look 5 (.act 6 (.look 7 (.look 8 (.look 9 (.act 10 (.act 11 .done .done) .done)))) .done)))))))), (19, (.look 0 (.look 1 (.act 2 (.look 3 (.look 4 (.look 5 (.look 6 (.look 7 (.look 8 (.look 9 (.act 10 (.look 11 (.look 12 (.look 13 (.look 14 (.look 15 (.look 16 (.look 17 (.look 18 (.look 19 (.look 20 (.look 21 (.look 22 (.act 23 .done .done))))))))))))) .done)))))))) .done)))), (21, (.look 0 (.look 1 (.look 2 (.look 3 (.look 4 (.look 5 (.look 6 (.look 7 (.look 8 (.act 9 .done .done))))))))))), (22, (.look 0 (.look 1 (.look 2 (.look 3 (.look 4 (.look 5 (.look 6 (.look 7 (.act 8 .done .done))))))))))] []
theorem f35.eq (pc_b pc_o : Nat) (px_0 : Int) (px_1 : Int) (px_2 : Int) (px_3 : Int) (px_4 : Int) (H : Hp) (Q : Value → Hp → Prop) : f35 pc_b pc_o px_0 px_1 px_2 px_3 px_4 H Q = wFun fcx35 Try.f35 [.pointer (some ⟨pc_b, pc_o, none⟩), .agg #[.int .i64 px_0, .int .i64 px_1, .int .i64 px_2, .int .i64 px_3, .int .i64 px_4]] H Q := by kernel_rfl
theorem f35.ok (pc_b pc_o : Nat) (px_0 : Int) (px_1 : Int) (px_2 : Int) (px_3 : Int) (px_4 : Int) {H : Hp} {Q : Value → Hp → Prop} (h : f35 pc_b pc_o px_0 px_1 px_2 px_3 px_4 H Q) : HCalls Try.prog 35 [.pointer (some ⟨pc_b, pc_o, none⟩), .agg #[.int .i64 px_0, .int .i64 px_1, .int .i64 px_2, .int .i64 px_3, .int .i64 px_4]] H Q := hcalls_of (cxOk 187 [(6, true)] [] [(1, (.look 0 (.look 1 (.look 2 (.look 3 (.look 4 (.look 5 (.act 6 (.act 7 .done .done) .done)))))))), (4, (.look 0 (.look 1 (.look 2 (.look 3 (.look 4 (.look 5 (.look 6 (.act 7 .done .done))))))))), (5, (.look 0 (.look 1 (.act 2 (.look 3 (.look 4 (.look 5 (.look 6 (.look 7 (.look 8 (.look 9 (.look 10 (.look 11 (.look 12 (.look 13 (.look 14 (.look 15 (.look 16 (.look 17 (.look 18 (.look 19 .done))))))))))))))))) .done)))), (13, (.look 0 (.look 1 (.look 2 (.look 3 (.look 4 (.look 5 (.look 6 (.act 7 (.look 8 (.act 9 (.look 10 (.act 11 .done .done)) .done)) .done))))))))), (14, (.look 0 (.look 1 (.act 2 (.look 3 (.look 4 (.look 5 (.look 6 (.look 7 (.look 8 (.look 9 (.act 10 (.look 11 (.look 12 (.look 13 (.look 14 (.look 15 (.look 16 (.look 17 (.look 18 (.look 19 (.look 20 (.look 21 (.look 22 (.look 23 (.look 24 (.look 25 (.look 26 (.act 27 (.look 28 (.look 29 (.act 30 .done .done))) .done))))))))))))))))) .done)))))))) .done)))), (17, (.look 0 (.look 1 (.look 2 (.look 3 (.look 4 (.act 5 (.look 6 (.act 7 .done .done)) .done))))))), (18, (.look 0 (.look 1 (.look 2 (.look 3 (.look 4 (.look 5 (.act 6 (.look 7 (.look 8 (.look 9 (.act 10 (.act 11 .done .done) .done)))) .done)))))))), (19, (.look 0 (.look 1 (.act 2 (.look 3 (.look 4 (.look 5 (.look 6 (.look 7 (.look 8 (.look 9 (.act 10 (.look 11 (.look 12 (.look 13 (.look 14 (.look 15 (.look 16 (.look 17 (.look 18 (.look 19 (.look 20 (.look 21 (.look 22 (.act 23 .done .done))))))))))))) .done)))))))) .done)))), (21, (.look 0 (.look 1 (.look 2 (.look 3 (.look 4 (.look 5 (.look 6 (.look 7 (.look 8 (.act 9 .done .done))))))))))), (22, (.look 0 (.look 1 (.look 2 (.look 3 (.look 4 (.look 5 (.look 6 (.look 7 (.act 8 .done .done))))))))))] []) Try.func35 (Eq.mp (f35.eq pc_b pc_o px_0 px_1 px_2 px_3 px_4 H Q) h)

/-- justiciar history.Anomaly$1 -/
def f36 (pax : Int) (H : Hp) (Q : Value → Hp → Prop) : Prop :=
  Q (.bool true) H
noncomputable def fcx36 : Cx := cx 3 [] [] [] []
theorem f36.eq (pax : Int) (H : Hp) (Q : Value → Hp → Prop) : f36 pax H Q = wFun fcx36 Try.f36 [.int .i64 pax] H Q := by kernel_rfl
theorem f36.ok (pax : Int) {H : Hp} {Q : Value → Hp → Prop} (h : f36 pax H Q) : HCalls Try.prog 36 [.int .i64 pax] H Q := hcalls_of (cxOk 3 [] [] [] []) Try.func36 (Eq.mp (f36.eq pax H Q) h)

/-- maps.Keys[justiciar history.graph,int,[]int] -/
def f37 (pm : Option Nat) (H : Hp) (Q : Value → Hp → Prop) : Prop :=
  newF H 74 [.map pm] fun g1 H2 => Q (.func (.func 60) #[] #[.pointer (some ⟨g1, 0, none⟩)]) H2
noncomputable def fcx37 : Cx := cx 4 [] [] [] []
theorem f37.eq (pm : Option Nat) (H : Hp) (Q : Value → Hp → Prop) : f37 pm H Q = wFun fcx37 Try.f37 [.map pm] H Q := by kernel_rfl
theorem f37.ok (pm : Option Nat) {H : Hp} {Q : Value → Hp → Prop} (h : f37 pm H Q) : HCalls Try.prog 37 [.map pm] H Q := hcalls_of (cxOk 4 [] [] [] []) Try.func37 (Eq.mp (f37.eq pm H Q) h)

/-- (justiciar history.graph).shortest -/
def f38 (pg : Option Nat) (pfrm : Int) (H : Hp) (Q : Value → Hp → Prop) : Prop :=
  newMapF H fun m1 H2 => putF H2 .i64 (some m1) pfrm (.int .i64 0) fun H3 => LoopF (σ := (Bool × Unit) × Unit) ((true, ()), ()) H3 fun s4 H5 next6 => cnd s4.1.1 (rangeF H5 pg fun i7 H8 => LoopF (σ := (Bool × Unit) × Unit)
    ((false, ()), ()) H8 fun s9 H10 next11 => jn (fun (j17 : Bool) (H18 : Hp) => cnd j17 (entryF H18 i7 0 fun k20 v21 => ∃ x22 : Int, k20 = .int .i64 x22 ∧ ∃ (A23 : Option Addr) (n23 c23 : Nat), v21 = .slice A23 n23 c23 ∧
    LoopF (σ := (Bool × (Int × Unit)) × Unit) ((s9.1.1, (0, ())), ()) H18 fun s24 H25 next26 => cnd (decide ((s24.1.2.1 : Int) < ((n23 : Nat) : Int))) (jn (fun (j38 : Bool) (H39 : Hp) => KeepX [some (.v (.map pg)), some
    (.v (.int .i64 pfrm)), some (.v (.map (some m1))), some (.v (.int .i64 x22)), some (.v (.pointer (some ⟨i7, 0, none⟩))), some (.v (.slice A23 n23 c23)), some (.v (.int .i64 ((n23 : Nat) : Int)))] [] ∧ next26 ((j38,
    (IntKind.i64.wrap (s24.1.2.1 + 1), ())), ()) H39) fun J40 => 0 ≤ (s24.1.2.1 : Int) ∧ (s24.1.2.1 : Int) < ((n23 : Nat) : Int) ∧ onPtr A23 fun b27 o27 => ∃ x28 : Int, cl H25 b27 (o27 + (s24.1.2.1 : Int).toNat * 1) =
    some (.int .i64 x28) ∧ lookF H25 .i64 (some m1) x28 (.int .i64 0) fun v29 b30 => ∃ x31 : Int, v29 = .int .i64 x31 ∧ lookF H25 .i64 (some m1) x22 (.int .i64 0) fun v32 b33 => ∃ x34 : Int, v32 = .int .i64 x34 ∧ jn (fun
    (j35 : Bool) => cnd j35 (putF H25 .i64 (some m1) x22 (.int .i64 (IntKind.i64.wrap (x31 + 1))) fun H37 => J40 true H37) (J40 s24.1.1 H25)) fun J36 => cnd (decide ((x22 : Int) > pfrm)) (cnd b30 (cnd (!b33) (J36 true)
    (J36 (decide ((IntKind.i64.wrap (x31 + 1) : Int) < x34)))) (J36 false)) (J36 false)) (KeepX [some (.v (.map pg)), some (.v (.int .i64 pfrm)), some (.v (.map (some m1))), some (.v (.pointer (some ⟨i7, 0, none⟩)))] [] ∧
    next11 ((s24.1.1, ()), ()) H25)) (KeepX [some (.v (.map pg)), some (.v (.int .i64 pfrm)), some (.v (.map (some m1)))] [] ∧ next6 ((s9.1.1, ()), ()) H18)) fun J19 => nextF H10 i7 0 (J19 false H10) fun k12 v13 H14 => ∃
    x15 : Int, k12 = .int .i64 x15 ∧ ∃ (A16 : Option Addr) (n16 c16 : Nat), v13 = .slice A16 n16 c16 ∧ J19 true H14) (newF H5 3 [.int .i64 pfrm] fun g41 H42 => LoopF (σ := ((Option Addr × Nat × Nat) × (Int × Unit)) ×
    Unit) ((((some ⟨g41, 0, none⟩), 1, 1), (pfrm, ())), ()) H42 fun s43 H44 next45 => lookF H44 .i64 pg s43.1.2.1 (.slice none 0 0) fun v46 b47 => ∃ (A48 : Option Addr) (n48 c48 : Nat), v46 = .slice A48 n48 c48 ∧ LoopF (σ
    := (Int × (Bool × (Int × Unit))) × Unit) ((0, (false, (0, ()))), ()) H44 fun s49 H50 next51 => cnd (decide ((s49.1.2.2.1 : Int) < ((n48 : Nat) : Int))) (jn (fun (j62 : Int) (j63 : Bool) => KeepX [some (.v (.map pg)),
    some (.v (.int .i64 pfrm)), some (.v (.map (some m1))), some (.v (.slice s43.1.1.1 s43.1.1.2.1 s43.1.1.2.2)), some (.v (.slice A48 n48 c48)), some (.v (.int .i64 ((n48 : Nat) : Int)))] [] ∧ next51 ((j62, (j63,
    (IntKind.i64.wrap (s49.1.2.2.1 + 1), ()))), ()) H50) fun J64 => 0 ≤ (s49.1.2.2.1 : Int) ∧ (s49.1.2.2.1 : Int) < ((n48 : Nat) : Int) ∧ onPtr A48 fun b52 o52 => ∃ x53 : Int, cl H50 b52 (o52 + (s49.1.2.2.1 : Int).toNat *
    1) = some (.int .i64 x53) ∧ lookF H50 .i64 (some m1) x53 (.int .i64 0) fun v54 b55 => ∃ x56 : Int, v54 = .int .i64 x56 ∧ jn (fun (j60 : Bool) => cnd j60 (J64 x53 true) (J64 s49.1.1 s49.1.2.1)) fun J61 => cnd (decide
    ((x53 : Int) ≥ pfrm)) (cnd b55 (cnd (!s49.1.2.1) (J61 true) (lookF H50 .i64 (some m1) s49.1.1 (.int .i64 0) fun v57 b58 => ∃ x59 : Int, v57 = .int .i64 x59 ∧ J61 (decide ((x56 : Int) < x59)))) (J61 false)) (J61
    false)) (cnd (!s49.1.2.1) (Q (.slice none 0 0) H50) (cnd ((s49.1.1 : Int) == pfrm) (Q (.slice s43.1.1.1 s43.1.1.2.1 s43.1.1.2.2) H50) (newF H50 3 [.int .i64 s49.1.1] fun g65 H66 => appendF H66 3 1 8 s43.1.1.1
    s43.1.1.2.1 s43.1.1.2.2 (some ⟨g65, 0, none⟩) 1 fun A67 n67 c67 H68 => KeepX [some (.v (.map pg)), some (.v (.int .i64 pfrm)), some (.v (.map (some m1)))] [] ∧ next45 (((A67, n67, c67), (s49.1.1, ())), ()) H68))))
noncomputable def fcx38 : Cx := cx 122 [] [(3, ⟨[0, 1, 5], [], [(6, .bool)], []⟩), (6, ⟨[0, 1, 5, 28], [], [(6, .bool)], []⟩), (9, ⟨[0, 1, 5, 7, 28, 34, 35], [], [(6, .bool), (36, .int .i64)], []⟩), (18, ⟨[0, 1, 5], [], [(15, .slice), (16, .int .i64)], []⟩), (20, ⟨[0, 1, 5, 15, 78, 79], [], [(17, .int .i64), (18, .bool), (80, .int .i64)], []⟩)] [] [(29, ((.int .i64 0), (.slice none 0 0))), (31, ((.int .i64 0), (.slice none 0 0)))]
theorem f38.eq (pg : Option Nat) (pfrm : Int) (H : Hp) (Q : Value → Hp → Prop) : f38 pg pfrm H Q = wFun fcx38 Try.f38 [.map pg, .int .i64 pfrm] H Q := by kernel_rfl
theorem f38.ok (pg : Option Nat) (pfrm : Int) {H : Hp} {Q : Value → Hp → Prop} (h : f38 pg pfrm H Q) : HCalls Try.prog 38 [.map pg, .int .i64 pfrm] H Q := hcalls_of (cxOk 122 [] [(3, ⟨[0, 1, 5], [], [(6, .bool)], []⟩), (6, ⟨[0, 1, 5, 28], [], [(6, .bool)], []⟩), (9, ⟨[0, 1, 5, 7, 28, 34, 35], [], [(6, .bool), (36, .int .i64)], []⟩), (18, ⟨[0, 1, 5], [], [(15, .slice), (16, .int .i64)], []⟩), (20, ⟨[0, 1, 5, 15, 78, 79], [], [(17, .int .i64), (18, .bool), (80, .int .i64)], []⟩)] [] [(29, ((.int .i64 0), (.slice none 0 0))), (31, ((.int .i64 0), (.slice none 0 0)))]) Try.func38 (Eq.mp (f38.eq pg pfrm H Q) h)

/-- (*justiciar history.book).each -/
def f39 (pb_b pb_o : Nat) (pt : Int) (H : Hp) (Q : Value → Hp → Prop) : Prop :=
  ∃ r1 : Option Nat, cl H pb_b (pb_o + 2) = some (.map r1) ∧ lookF H .i64 r1 pt (.int .i64 0) fun v2 b3 => ∃ x4 : Int, v2 = .int .i64 x4 ∧ ∃ r5 : Option Nat, cl H pb_b (pb_o + 2) = some (.map r5) ∧ lookF H .i64 r5 pt (.int
    .i64 0) fun v6 b7 => ∃ x8 : Int, v6 = .int .i64 x8 ∧ LoopF (σ := (Int × (Int × (Int × Unit))) × Unit) ((x4, (0, (IntKind.i64.wrap (x8 + 1), ()))), ()) H fun s9 H10 next11 => ∃ r12 : Option Nat, cl H10 pb_b (pb_o + 1)
    = some (.map r12) ∧ lookF H10 .i64 r12 pt (.int .i64 0) fun v13 b14 => ∃ x15 : Int, v13 = .int .i64 x15 ∧ cnd (decide ((s9.1.2.2.1 : Int) < x15)) (jn (fun (j29 : Int) (j30 : Int) (H31 : Hp) => KeepX [some (.v
    (.pointer (some ⟨pb_b, pb_o, none⟩))), some (.v (.int .i64 pt))] [] ∧ next11 ((j29, (j30, (IntKind.i64.wrap (s9.1.2.2.1 + 1), ()))), ()) H31) fun J32 => ∃ (A16 : Option Addr) (n16 c16 : Nat), cl H10 pb_b (pb_o + 0) =
    some (.slice A16 n16 c16) ∧ 0 ≤ (s9.1.2.2.1 : Int) ∧ (s9.1.2.2.1 : Int) < ((n16 : Nat) : Int) ∧ onPtr A16 fun b17 o17 => ∃ x18 : Int, cl H10 b17 (o17 + (s9.1.2.2.1 : Int).toNat * 5) = some (.int .i64 x18) ∧ ∃ x19 :
    Int, cl H10 b17 ((o17 + (s9.1.2.2.1 : Int).toNat * 5) + 1) = some (.int .i64 x19) ∧ ∃ x20 : Int, cl H10 b17 (((o17 + (s9.1.2.2.1 : Int).toNat * 5) + 1) + 1) = some (.int .i64 x20) ∧ ∃ x21 : Int, cl H10 b17 ((((o17 +
    (s9.1.2.2.1 : Int).toNat * 5) + 1) + 1) + 1) = some (.int .i64 x21) ∧ ∃ x22 : Int, cl H10 b17 (((((o17 + (s9.1.2.2.1 : Int).toNat * 5) + 1) + 1) + 1) + 1) = some (.int .i64 x22) ∧ cnd ((x19 : Int) != pt) (J32 s9.1.1
    s9.1.2.1 H10) (jn (fun (j26 : Bool) (H27 : Hp) => cnd j26 (Q (.bool false) H27) (J32 s9.1.2.2.1 x22 H27)) fun J28 => cnd ((x22 : Int) != s9.1.2.1) (HCalls Try.prog 61 [.pointer (some ⟨pb_b, pb_o, none⟩), .int .i64 pt,
    .int .i64 x22, .int .i64 (IntKind.i64.wrap (s9.1.1 + 1)), .int .i64 s9.1.2.2.1, .int .i64 (-1)] H10 fun v23 H24 => ∃ x25 : Bool, v23 = .bool x25 ∧ J28 (!x25) H24) (J28 false H10))) (Q (.bool true) H10)
noncomputable def fcx39 : Cx := cx 61 [(8, true)] [(3, ⟨[0, 1], [], [(5, .int .i64), (6, .int .i64), (7, .int .i64)], []⟩)] [(9, (.look 0 (.look 1 (.look 2 (.act 3 (.act 4 .done .done) .done)))))] []
theorem f39.eq (pb_b pb_o : Nat) (pt : Int) (H : Hp) (Q : Value → Hp → Prop) : f39 pb_b pb_o pt H Q = wFun fcx39 Try.f39 [.pointer (some ⟨pb_b, pb_o, none⟩), .int .i64 pt] H Q := by kernel_rfl
theorem f39.ok (pb_b pb_o : Nat) (pt : Int) {H : Hp} {Q : Value → Hp → Prop} (h : f39 pb_b pb_o pt H Q) : HCalls Try.prog 39 [.pointer (some ⟨pb_b, pb_o, none⟩), .int .i64 pt] H Q := hcalls_of (cxOk 61 [(8, true)] [(3, ⟨[0, 1], [], [(5, .int .i64), (6, .int .i64), (7, .int .i64)], []⟩)] [(9, (.look 0 (.look 1 (.look 2 (.act 3 (.act 4 .done .done) .done)))))] []) Try.func39 (Eq.mp (f39.eq pb_b pb_o pt H Q) h)

/-- slices.Contains[[]int,int] -/
def f40 (ps_A : Option Addr) (ps_n ps_c : Nat) (pv : Int) (H : Hp) (Q : Value → Hp → Prop) : Prop :=
  HCalls Try.prog 62 [.slice ps_A ps_n ps_c, .int .i64 pv] H fun v1 H2 => ∃ x3 : Int, v1 = .int .i64 x3 ∧ Q (.bool (decide ((x3 : Int) ≥ 0))) H2
noncomputable def fcx40 : Cx := cx 9 [] [] [] []
theorem f40.eq (ps_A : Option Addr) (ps_n ps_c : Nat) (pv : Int) (H : Hp) (Q : Value → Hp → Prop) : f40 ps_A ps_n ps_c pv H Q = wFun fcx40 Try.f40 [.slice ps_A ps_n ps_c, .int .i64 pv] H Q := by kernel_rfl
theorem f40.ok (ps_A : Option Addr) (ps_n ps_c : Nat) (pv : Int) {H : Hp} {Q : Value → Hp → Prop} (h : f40 ps_A ps_n ps_c pv H Q) : HCalls Try.prog 40 [.slice ps_A ps_n ps_c, .int .i64 pv] H Q := hcalls_of (cxOk 9 [] [] [] []) Try.func40 (Eq.mp (f40.eq ps_A ps_n ps_c pv H Q) h)

/-- (*justiciar history.book).serial -/
def f41 (pb_b pb_o : Nat) (pt : Int) (H : Hp) (Q : Value → Hp → Prop) : Prop :=
  ∃ r1 : Option Nat, cl H pb_b (pb_o + 1) = some (.map r1) ∧ lookF H .i64 r1 pt (.int .i64 0) fun v2 b3 => ∃ x4 : Int, v2 = .int .i64 x4 ∧ ∃ r5 : Option Nat, cl H pb_b (pb_o + 2) = some (.map r5) ∧ lookF H .i64 r5 pt (.int
    .i64 0) fun v6 b7 => ∃ x8 : Int, v6 = .int .i64 x8 ∧ LoopF (σ := (Int × (Int × Unit)) × Unit) ((x4, (x8, ())), ()) H fun s9 H10 next11 => cnd (decide ((s9.1.2.1 : Int) < s9.1.1)) (jn (fun (j21 : Int) => KeepX [some
    (.v (.pointer (some ⟨pb_b, pb_o, none⟩))), some (.v (.int .i64 pt))] [] ∧ next11 ((j21, (IntKind.i64.wrap (s9.1.2.1 + 1), ())), ()) H10) fun J22 => ∃ (A12 : Option Addr) (n12 c12 : Nat), cl H10 pb_b (pb_o + 0) = some
    (.slice A12 n12 c12) ∧ 0 ≤ (s9.1.2.1 : Int) ∧ (s9.1.2.1 : Int) < ((n12 : Nat) : Int) ∧ onPtr A12 fun b13 o13 => ∃ x14 : Int, cl H10 b13 (o13 + (s9.1.2.1 : Int).toNat * 5) = some (.int .i64 x14) ∧ ∃ x15 : Int, cl H10
    b13 ((o13 + (s9.1.2.1 : Int).toNat * 5) + 1) = some (.int .i64 x15) ∧ ∃ x16 : Int, cl H10 b13 (((o13 + (s9.1.2.1 : Int).toNat * 5) + 1) + 1) = some (.int .i64 x16) ∧ ∃ x17 : Int, cl H10 b13 ((((o13 + (s9.1.2.1 :
    Int).toNat * 5) + 1) + 1) + 1) = some (.int .i64 x17) ∧ ∃ x18 : Int, cl H10 b13 (((((o13 + (s9.1.2.1 : Int).toNat * 5) + 1) + 1) + 1) + 1) = some (.int .i64 x18) ∧ jn (fun (j19 : Bool) => cnd j19 (J22 s9.1.2.1) (J22
    s9.1.1)) fun J20 => cnd ((x15 : Int) == pt) (cnd ((x14 : Int) == 2) (J20 true) (J20 ((x14 : Int) == 3))) (J20 false)) (jn (fun (j43 : Bool) (H44 : Hp) => Q (.bool j43) H44) fun J45 => ∃ r23 : Option Nat, cl H10 pb_b
    (pb_o + 2) = some (.map r23) ∧ ∃ r24 : Option Nat, cl H10 pb_b (pb_o + 1) = some (.map r24) ∧ (lookF H10 .i64 r23 pt (.int .i64 0) fun v25 b26 => ∃ x27 : Int, v25 = .int .i64 x27 ∧ H10 pb_b = H10 pb_b ∧ lookF H10 .i64
    r24 pt (.int .i64 0) fun v28 b29 => ∃ x30 : Int, v28 = .int .i64 x30 ∧ H10 pb_b = H10 pb_b ∧ HCalls Try.prog 61 [.pointer (some ⟨pb_b, pb_o, none⟩), .int .i64 pt, .int .i64 0, .int .i64 (IntKind.i64.wrap (x27 + 1)),
    .int .i64 s9.1.1, .int .i64 x30] H10 fun v31 H32 => ∃ x33 : Bool, v31 = .bool x33 ∧ J45 x33 H32) ∧ (lookF H10 .i64 r24 pt (.int .i64 0) fun v34 b35 => ∃ x36 : Int, v34 = .int .i64 x36 ∧ H10 pb_b = H10 pb_b ∧ lookF H10
    .i64 r23 pt (.int .i64 0) fun v37 b38 => ∃ x39 : Int, v37 = .int .i64 x39 ∧ H10 pb_b = H10 pb_b ∧ HCalls Try.prog 61 [.pointer (some ⟨pb_b, pb_o, none⟩), .int .i64 pt, .int .i64 0, .int .i64 (IntKind.i64.wrap (x39 +
    1)), .int .i64 s9.1.1, .int .i64 x36] H10 fun v40 H41 => ∃ x42 : Bool, v40 = .bool x42 ∧ J45 x42 H41))
noncomputable def fcx41 : Cx := cx 64 [(7, true)] [(3, ⟨[0, 1], [], [(5, .int .i64), (6, .int .i64)], []⟩)] [(8, (.look 0 (.look 1 (.look 2 (.look 3 (.look 4 (.look 5 (.look 6 (.look 9 (.look 10 (.look 11 (.look 12 (.look 13 (.look 14 (.act 7 (.look 8 (.act 15 (.act 16 (.act 17 .done .done) .done) .done)) (.act 15 (.act 7 (.look 8 (.act 16 (.act 17 .done .done) .done)) .done) .done))))))))))))))))] []
theorem f41.eq (pb_b pb_o : Nat) (pt : Int) (H : Hp) (Q : Value → Hp → Prop) : f41 pb_b pb_o pt H Q = wFun fcx41 Try.f41 [.pointer (some ⟨pb_b, pb_o, none⟩), .int .i64 pt] H Q := by kernel_rfl
theorem f41.ok (pb_b pb_o : Nat) (pt : Int) {H : Hp} {Q : Value → Hp → Prop} (h : f41 pb_b pb_o pt H Q) : HCalls Try.prog 41 [.pointer (some ⟨pb_b, pb_o, none⟩), .int .i64 pt] H Q := hcalls_of (cxOk 64 [(7, true)] [(3, ⟨[0, 1], [], [(5, .int .i64), (6, .int .i64)], []⟩)] [(8, (.look 0 (.look 1 (.look 2 (.look 3 (.look 4 (.look 5 (.look 6 (.look 9 (.look 10 (.look 11 (.look 12 (.look 13 (.look 14 (.act 7 (.look 8 (.act 15 (.act 16 (.act 17 .done .done) .done) .done)) (.act 15 (.act 7 (.look 8 (.act 16 (.act 17 .done .done) .done)) .done) .done))))))))))))))))] []) Try.func41 (Eq.mp (f41.eq pb_b pb_o pt H Q) h)

/-- (*justiciar history.book).committed -/
def f42 (pb_b pb_o : Nat) (pt : Int) (H : Hp) (Q : Value → Hp → Prop) : Prop :=
  ∃ r1 : Option Nat, cl H pb_b (pb_o + 1) = some (.map r1) ∧ lookF H .i64 r1 pt (.int .i64 0) fun v2 b3 => ∃ x4 : Int, v2 = .int .i64 x4 ∧ Q (.bool b3) H
noncomputable def fcx42 : Cx := cx 17 [] [] [] []
theorem f42.eq (pb_b pb_o : Nat) (pt : Int) (H : Hp) (Q : Value → Hp → Prop) : f42 pb_b pb_o pt H Q = wFun fcx42 Try.f42 [.pointer (some ⟨pb_b, pb_o, none⟩), .int .i64 pt] H Q := by kernel_rfl
theorem f42.ok (pb_b pb_o : Nat) (pt : Int) {H : Hp} {Q : Value → Hp → Prop} (h : f42 pb_b pb_o pt H Q) : HCalls Try.prog 42 [.pointer (some ⟨pb_b, pb_o, none⟩), .int .i64 pt] H Q := hcalls_of (cxOk 17 [] [] [] []) Try.func42 (Eq.mp (f42.eq pb_b pb_o pt H Q) h)

/-- (*justiciar history.book).arcs$1 -/
def f43 (px : Int) (py : Int) (pkind : Int) (pitem : Int) (fra_b fra_o : Nat) (frb_b frb_o : Nat) (H : Hp) (Q : Value → Hp → Prop) : Prop :=
  jn (fun (j9 : Bool) (H10 : Hp) => cnd j9 (∃ (A12 : Option Addr) (n12 c12 : Nat), cl H10 frb_b frb_o = some (.slice A12 n12 c12) ∧ newF H10 48 [.int .i64 px, .int .i64 py, .int .i64 pkind, .int .i64 pitem] fun g13 H14 =>
    appendF H14 48 4 32 A12 n12 c12 (some ⟨g13, 0, none⟩) 1 fun A15 n15 c15 H16 => storeF H16 frb_b frb_o [.slice A15 n15 c15] fun H17 => Q (.tuple #[]) H17) (Q (.tuple #[]) H10)) fun J11 => cnd ((px : Int) != py) (∃ p1 :
    Option Addr, cl H fra_b fra_o = some (.pointer p1) ∧ HCalls Try.prog 42 [.pointer p1, .int .i64 px] H fun v2 H3 => ∃ x4 : Bool, v2 = .bool x4 ∧ cnd x4 (∃ p5 : Option Addr, cl H3 fra_b fra_o = some (.pointer p5) ∧
    HCalls Try.prog 42 [.pointer p5, .int .i64 py] H3 fun v6 H7 => ∃ x8 : Bool, v6 = .bool x8 ∧ J11 x8 H7) (J11 false H3)) (J11 false H)
noncomputable def fcx43 : Cx := cx 31 [] [] [] []
theorem f43.eq (px : Int) (py : Int) (pkind : Int) (pitem : Int) (fra_b fra_o : Nat) (frb_b frb_o : Nat) (H : Hp) (Q : Value → Hp → Prop) : f43 px py pkind pitem fra_b fra_o frb_b frb_o H Q = wFun fcx43 Try.f43 [.int .i64 px, .int .i64 py, .int .i64 pkind, .int .i64 pitem, .pointer (some ⟨fra_b, fra_o, none⟩), .pointer (some ⟨frb_b, frb_o, none⟩)] H Q := by kernel_rfl
theorem f43.ok (px : Int) (py : Int) (pkind : Int) (pitem : Int) (fra_b fra_o : Nat) (frb_b frb_o : Nat) {H : Hp} {Q : Value → Hp → Prop} (h : f43 px py pkind pitem fra_b fra_o frb_b frb_o H Q) : HCalls Try.prog 43 [.int .i64 px, .int .i64 py, .int .i64 pkind, .int .i64 pitem, .pointer (some ⟨fra_b, fra_o, none⟩), .pointer (some ⟨frb_b, frb_o, none⟩)] H Q := hcalls_of (cxOk 31 [] [] [] []) Try.func43 (Eq.mp (f43.eq px py pkind pitem fra_b fra_o frb_b frb_o H Q) h)

/-- (*justiciar history.book).next -/
def f44 (pb_b pb_o : Nat) (pitem : Int) (pfrm : Int) (H : Hp) (Q : Value → Hp → Prop) : Prop :=
  ∃ r1 : Option Nat, cl H pb_b (pb_o + 3) = some (.map r1) ∧ lookF H .i64 r1 pitem (.slice none 0 0) fun v2 b3 => ∃ (A4 : Option Addr) (n4 c4 : Nat), v2 = .slice A4 n4 c4 ∧ jn (fun (j8 : Int) (H9 : Hp) => cnd (decide
    ((IntKind.i64.wrap (j8 + 1) : Int) < ((n4 : Nat) : Int))) (0 ≤ (IntKind.i64.wrap (j8 + 1) : Int) ∧ (IntKind.i64.wrap (j8 + 1) : Int) < ((n4 : Nat) : Int) ∧ onPtr A4 fun b11 o11 => ∃ x12 : Int, cl H9 b11 (o11 +
    (IntKind.i64.wrap (j8 + 1) : Int).toNat * 1) = some (.int .i64 x12) ∧ Q (.int .i64 x12) H9) (Q (.int .i64 0) H9)) fun J10 => cnd ((pfrm : Int) != 0) (HCalls Try.prog 62 [.slice A4 n4 c4, .int .i64 pfrm] H fun v5 H6 =>
    ∃ x7 : Int, v5 = .int .i64 x7 ∧ cnd (decide ((x7 : Int) < 0)) (Q (.int .i64 0) H6) (J10 x7 H6)) (J10 (-1) H)
noncomputable def fcx44 : Cx := cx 32 [] [] [] []
theorem f44.eq (pb_b pb_o : Nat) (pitem : Int) (pfrm : Int) (H : Hp) (Q : Value → Hp → Prop) : f44 pb_b pb_o pitem pfrm H Q = wFun fcx44 Try.f44 [.pointer (some ⟨pb_b, pb_o, none⟩), .int .i64 pitem, .int .i64 pfrm] H Q := by kernel_rfl
theorem f44.ok (pb_b pb_o : Nat) (pitem : Int) (pfrm : Int) {H : Hp} {Q : Value → Hp → Prop} (h : f44 pb_b pb_o pitem pfrm H Q) : HCalls Try.prog 44 [.pointer (some ⟨pb_b, pb_o, none⟩), .int .i64 pitem, .int .i64 pfrm] H Q := hcalls_of (cxOk 32 [] [] [] []) Try.func44 (Eq.mp (f44.eq pb_b pb_o pitem pfrm H Q) h)

/-- slices.SortFunc[[]justiciar api.Arc,justiciar api.Arc] -/
def f45 (px_A : Option Addr) (px_n px_c : Nat) (pcmp_f : FuncId) (pcmp_a pcmp_c : Array Value) (H : Hp) (Q : Value → Hp → Prop) : Prop :=
  HCalls Try.prog 64 [.int .u64 (IntKind.u64.wrap ((px_n : Nat) : Int))] H fun v1 H2 => ∃ x3 : Int, v1 = .int .i64 x3 ∧ HCalls Try.prog 63 [.slice px_A px_n px_c, .int .i64 0, .int .i64 ((px_n : Nat) : Int), .int .i64 x3,
    .func (.func pcmp_f) pcmp_a pcmp_c] H2 fun v4 H5 => v4 = .tuple #[] ∧ Q (.tuple #[]) H5
/-- justiciar history.order -/
def f46 (pa_0 : Int) (pa_1 : Int) (pa_2 : Int) (pa_3 : Int) (pb_0 : Int) (pb_1 : Int) (pb_2 : Int) (pb_3 : Int) (H : Hp) (Q : Value → Hp → Prop) : Prop :=
  HCalls Try.prog 66 [.int .i64 pa_0, .int .i64 pb_0] H fun v1 H2 => ∃ x3 : Int, v1 = .int .i64 x3 ∧ HCalls Try.prog 66 [.int .i64 pa_1, .int .i64 pb_1] H2 fun v4 H5 => ∃ x6 : Int, v4 = .int .i64 x6 ∧ HCalls Try.prog 66
    [.int .i64 pa_2, .int .i64 pb_2] H5 fun v7 H8 => ∃ x9 : Int, v7 = .int .i64 x9 ∧ HCalls Try.prog 66 [.int .i64 pa_3, .int .i64 pb_3] H8 fun v10 H11 => ∃ x12 : Int, v10 = .int .i64 x12 ∧ newF H11 3 [.int .i64 x3, .int
    .i64 x6, .int .i64 x9, .int .i64 x12] fun g13 H14 => HCalls Try.prog 65 [.slice (some ⟨g13, 0, none⟩) 4 4] H14 fun v15 H16 => ∃ x17 : Int, v15 = .int .i64 x17 ∧ Q (.int .i64 x17) H16
noncomputable def fcx46 : Cx := cx 27 [(2, true), (3, true)] [] [(1, (.look 0 (.look 1 (.look 2 (.look 3 (.look 5 (.look 6 (.look 7 (.look 8 (.look 10 (.look 11 (.look 12 (.look 13 (.look 15 (.look 16 (.look 17 (.look 18 (.act 4 (.act 9 (.act 14 (.act 19 (.act 20 (.act 21 (.act 22 .done .done) .done) .done) .done) .done) .done) .done))))))))))))))))))] []
theorem f46.eq (pa_0 : Int) (pa_1 : Int) (pa_2 : Int) (pa_3 : Int) (pb_0 : Int) (pb_1 : Int) (pb_2 : Int) (pb_3 : Int) (H : Hp) (Q : Value → Hp → Prop) : f46 pa_0 pa_1 pa_2 pa_3 pb_0 pb_1 pb_2 pb_3 H Q = wFun fcx46 Try.f46 [.agg #[.int .i64 pa_0, .int .i64 pa_1, .int .i64 pa_2, .int .i64 pa_3], .agg #[.int .i64 pb_0, .int .i64 pb_1, .int .i64 pb_2, .int .i64 pb_3]] H Q := by kernel_rfl
theorem f46.ok (pa_0 : Int) (pa_1 : Int) (pa_2 : Int) (pa_3 : Int) (pb_0 : Int) (pb_1 : Int) (pb_2 : Int) (pb_3 : Int) {H : Hp} {Q : Value → Hp → Prop} (h : f46 pa_0 pa_1 pa_2 pa_3 pb_0 pb_1 pb_2 pb_3 H Q) : HCalls Try.prog 46 [.agg #[.int .i64 pa_0, .int .i64 pa_1, .int .i64 pa_2, .int .i64 pa_3], .agg #[.int .i64 pb_0, .int .i64 pb_1, .int .i64 pb_2, .int .i64 pb_3]] H Q := hcalls_of (cxOk 27 [(2, true), (3, true)] [] [(1, (.look 0 (.look 1 (.look 2 (.look 3 (.look 5 (.look 6 (.look 7 (.look 8 (.look 10 (.look 11 (.look 12 (.look 13 (.look 15 (.look 16 (.look 17 (.look 18 (.act 4 (.act 9 (.act 14 (.act 19 (.act 20 (.act 21 (.act 22 .done .done) .done) .done) .done) .done) .done) .done))))))))))))))))))] []) Try.func46 (Eq.mp (f46.eq pa_0 pa_1 pa_2 pa_3 pb_0 pb_1 pb_2 pb_3 H Q) h)

/-- slices.Compact[[]justiciar api.Arc,justiciar api.Arc] -/
def f47 (ps_A : Option Addr) (ps_n ps_c : Nat) (H : Hp) (Q : Value → Hp → Prop) : Prop :=
  cnd (decide ((((ps_n : Nat) : Int) : Int) < 2)) (Q (.slice ps_A ps_n ps_c) H) (LoopF (σ := (Int × Unit) × Unit) ((1, ()), ()) H fun s1 H2 next3 => cnd (decide ((s1.1.1 : Int) < ((ps_n : Nat) : Int))) (0 ≤ (s1.1.1 : Int) ∧
    (s1.1.1 : Int) < ((ps_n : Nat) : Int) ∧ onPtr ps_A fun b4 o4 => ∃ x5 : Int, cl H2 b4 (o4 + (s1.1.1 : Int).toNat * 4) = some (.int .i64 x5) ∧ ∃ x6 : Int, cl H2 b4 ((o4 + (s1.1.1 : Int).toNat * 4) + 1) = some (.int .i64
    x6) ∧ ∃ x7 : Int, cl H2 b4 (((o4 + (s1.1.1 : Int).toNat * 4) + 1) + 1) = some (.int .i64 x7) ∧ ∃ x8 : Int, cl H2 b4 ((((o4 + (s1.1.1 : Int).toNat * 4) + 1) + 1) + 1) = some (.int .i64 x8) ∧ 0 ≤ (IntKind.i64.wrap
    (s1.1.1 - 1) : Int) ∧ (IntKind.i64.wrap (s1.1.1 - 1) : Int) < ((ps_n : Nat) : Int) ∧ onPtr ps_A fun b9 o9 => ∃ x10 : Int, cl H2 b9 (o9 + (IntKind.i64.wrap (s1.1.1 - 1) : Int).toNat * 4) = some (.int .i64 x10) ∧ ∃ x11
    : Int, cl H2 b9 ((o9 + (IntKind.i64.wrap (s1.1.1 - 1) : Int).toNat * 4) + 1) = some (.int .i64 x11) ∧ ∃ x12 : Int, cl H2 b9 (((o9 + (IntKind.i64.wrap (s1.1.1 - 1) : Int).toNat * 4) + 1) + 1) = some (.int .i64 x12) ∧ ∃
    x13 : Int, cl H2 b9 ((((o9 + (IntKind.i64.wrap (s1.1.1 - 1) : Int).toNat * 4) + 1) + 1) + 1) = some (.int .i64 x13) ∧ cnd (((x5 : Int) == x10) && (((x6 : Int) == x11) && (((x7 : Int) == x12) && (((x8 : Int) == x13) &&
    true)))) (0 ≤ (s1.1.1 : Int) ∧ (s1.1.1 : Int) ≤ ((ps_n : Nat) : Int) ∧ LoopF (σ := (Int × (Int × Unit)) × Unit) ((s1.1.1, (1, ())), ()) H2 fun s14 H15 next16 => cnd (decide ((s14.1.2.1 : Int) < ((ps_n - ((s1.1.1 :
    Int).toNat) : Nat) : Int))) (jn (fun (j34 : Int) (H35 : Hp) => KeepX [some (.v (.slice ps_A ps_n ps_c)), some (.v (.slice (cutA ps_A (((s1.1.1 : Int).toNat) * 4) (decide (ps_c = ((s1.1.1 : Int).toNat)))) (ps_n -
    ((s1.1.1 : Int).toNat)) (ps_c - ((s1.1.1 : Int).toNat))))] [] ∧ next16 ((j34, (IntKind.i64.wrap (s14.1.2.1 + 1), ())), ()) H35) fun J36 => 0 ≤ (s14.1.2.1 : Int) ∧ (s14.1.2.1 : Int) < ((ps_n - ((s1.1.1 : Int).toNat) :
    Nat) : Int) ∧ onPtr (cutA ps_A (((s1.1.1 : Int).toNat) * 4) (decide (ps_c = ((s1.1.1 : Int).toNat)))) fun b17 o17 => ∃ x18 : Int, cl H15 b17 (o17 + (s14.1.2.1 : Int).toNat * 4) = some (.int .i64 x18) ∧ ∃ x19 : Int, cl
    H15 b17 ((o17 + (s14.1.2.1 : Int).toNat * 4) + 1) = some (.int .i64 x19) ∧ ∃ x20 : Int, cl H15 b17 (((o17 + (s14.1.2.1 : Int).toNat * 4) + 1) + 1) = some (.int .i64 x20) ∧ ∃ x21 : Int, cl H15 b17 ((((o17 + (s14.1.2.1
    : Int).toNat * 4) + 1) + 1) + 1) = some (.int .i64 x21) ∧ 0 ≤ (IntKind.i64.wrap (s14.1.2.1 - 1) : Int) ∧ (IntKind.i64.wrap (s14.1.2.1 - 1) : Int) < ((ps_n - ((s1.1.1 : Int).toNat) : Nat) : Int) ∧ onPtr (cutA ps_A
    (((s1.1.1 : Int).toNat) * 4) (decide (ps_c = ((s1.1.1 : Int).toNat)))) fun b22 o22 => ∃ x23 : Int, cl H15 b22 (o22 + (IntKind.i64.wrap (s14.1.2.1 - 1) : Int).toNat * 4) = some (.int .i64 x23) ∧ ∃ x24 : Int, cl H15 b22
    ((o22 + (IntKind.i64.wrap (s14.1.2.1 - 1) : Int).toNat * 4) + 1) = some (.int .i64 x24) ∧ ∃ x25 : Int, cl H15 b22 (((o22 + (IntKind.i64.wrap (s14.1.2.1 - 1) : Int).toNat * 4) + 1) + 1) = some (.int .i64 x25) ∧ ∃ x26 :
    Int, cl H15 b22 ((((o22 + (IntKind.i64.wrap (s14.1.2.1 - 1) : Int).toNat * 4) + 1) + 1) + 1) = some (.int .i64 x26) ∧ cnd (!(((x18 : Int) == x23) && (((x19 : Int) == x24) && (((x20 : Int) == x25) && (((x21 : Int) ==
    x26) && true))))) (0 ≤ (s14.1.2.1 : Int) ∧ (s14.1.2.1 : Int) < ((ps_n - ((s1.1.1 : Int).toNat) : Nat) : Int) ∧ onPtr (cutA ps_A (((s1.1.1 : Int).toNat) * 4) (decide (ps_c = ((s1.1.1 : Int).toNat)))) fun b27 o27 => ∃
    x28 : Int, cl H15 b27 (o27 + (s14.1.2.1 : Int).toNat * 4) = some (.int .i64 x28) ∧ ∃ x29 : Int, cl H15 b27 ((o27 + (s14.1.2.1 : Int).toNat * 4) + 1) = some (.int .i64 x29) ∧ ∃ x30 : Int, cl H15 b27 (((o27 + (s14.1.2.1
    : Int).toNat * 4) + 1) + 1) = some (.int .i64 x30) ∧ ∃ x31 : Int, cl H15 b27 ((((o27 + (s14.1.2.1 : Int).toNat * 4) + 1) + 1) + 1) = some (.int .i64 x31) ∧ 0 ≤ (s14.1.1 : Int) ∧ (s14.1.1 : Int) < ((ps_n : Nat) : Int)
    ∧ onPtr ps_A fun b32 o32 => storeF H15 b32 (o32 + (s14.1.1 : Int).toNat * 4) [.int .i64 x28, .int .i64 x29, .int .i64 x30, .int .i64 x31] fun H33 => J36 (IntKind.i64.wrap (s14.1.1 + 1)) H33) (J36 s14.1.1 H15)) (jn
    (fun (H39 : Hp) => 0 ≤ (s14.1.1 : Int) ∧ (s14.1.1 : Int) ≤ ((ps_c : Nat) : Int) ∧ Q (.slice (cutA ps_A (0 * 4) (decide (ps_c = 0))) (((s14.1.1 : Int).toNat) - 0) (ps_c - 0)) H39) fun J40 => 0 ≤ (s14.1.1 : Int) ∧
    (s14.1.1 : Int) ≤ ((ps_n : Nat) : Int) ∧ (ps_n - ((s14.1.1 : Int).toNat) = 0 → J40 H15) ∧ (0 < ps_n - ((s14.1.1 : Int).toNat) → onPtr (cutA ps_A (((s14.1.1 : Int).toNat) * 4) (decide (ps_c = ((s14.1.1 : Int).toNat))))
    fun b37 o37 => storeF H15 b37 o37 (List.replicate (ps_n - ((s14.1.1 : Int).toNat)) [.int .i64 0, .int .i64 0, .int .i64 0, .int .i64 0]).flatten fun H38 => J40 H38))) (KeepX [some (.v (.slice ps_A ps_n ps_c))] [] ∧
    next3 ((IntKind.i64.wrap (s1.1.1 + 1), ()), ()) H2)) (Q (.slice ps_A ps_n ps_c) H2))
noncomputable def fcx47 : Cx := cx 61 [] [(4, ⟨[0], [], [(3, .int .i64)], []⟩), (9, ⟨[0, 4], [], [(3, .int .i64), (5, .int .i64)], []⟩)] [(6, (.look 0 (.look 1 (.look 2 (.look 3 (.look 4 (.look 5 (.look 6 (.look 7 (.look 8 (.look 9 .done))))))))))), (11, (.look 0 (.look 1 (.look 2 (.look 3 (.look 4 (.look 5 (.look 6 (.look 7 (.look 8 (.look 9 .done)))))))))))] []
theorem f47.eq (ps_A : Option Addr) (ps_n ps_c : Nat) (H : Hp) (Q : Value → Hp → Prop) : f47 ps_A ps_n ps_c H Q = wFun fcx47 Try.f47 [.slice ps_A ps_n ps_c] H Q := by kernel_rfl
theorem f47.ok (ps_A : Option Addr) (ps_n ps_c : Nat) {H : Hp} {Q : Value → Hp → Prop} (h : f47 ps_A ps_n ps_c H Q) : HCalls Try.prog 47 [.slice ps_A ps_n ps_c] H Q := hcalls_of (cxOk 61 [] [(4, ⟨[0], [], [(3, .int .i64)], []⟩), (9, ⟨[0, 4], [], [(3, .int .i64), (5, .int .i64)], []⟩)] [(6, (.look 0 (.look 1 (.look 2 (.look 3 (.look 4 (.look 5 (.look 6 (.look 7 (.look 8 (.look 9 .done))))))))))), (11, (.look 0 (.look 1 (.look 2 (.look 3 (.look 4 (.look 5 (.look 6 (.look 7 (.look 8 (.look 9 .done)))))))))))] []) Try.func47 (Eq.mp (f47.eq ps_A ps_n ps_c H Q) h)

/-- maps.Keys[map[int]bool,int,bool]$1 -/
def f50 (pyield_f : FuncId) (pyield_a pyield_c : Array Value) (fra_b fra_o : Nat) (H : Hp) (Q : Value → Hp → Prop) : Prop :=
  ∃ r1 : Option Nat, cl H fra_b fra_o = some (.map r1) ∧ rangeF H r1 fun i2 H3 => LoopF (σ := Unit × Unit) ((), ()) H3 fun s4 H5 next6 => jn (fun (j12 : Bool) (H13 : Hp) => cnd j12 (entryF H13 i2 0 fun k15 v16 => ∃ x17 :
    Int, k15 = .int .i64 x17 ∧ ∃ x18 : Bool, v16 = .bool x18 ∧ FnOk Try.prog pyield_f ∧ HCalls Try.prog pyield_f (pyield_a.toList ++ [.int .i64 x17] ++ pyield_c.toList) H13 fun v19 H20 => ∃ x21 : Bool, v19 = .bool x21 ∧
    cnd (!x21) (Q (.tuple #[]) H20) (KeepX [some (.v (.func (.func pyield_f) pyield_a pyield_c)), some (.v (.pointer (some ⟨i2, 0, none⟩)))] [] ∧ next6 ((), ()) H20)) (Q (.tuple #[]) H13)) fun J14 => nextF H5 i2 0 (J14
    false H5) fun k7 v8 H9 => ∃ x10 : Int, k7 = .int .i64 x10 ∧ ∃ x11 : Bool, v8 = .bool x11 ∧ J14 true H9
/-- slices.IndexFunc[[]justiciar api.Arc,justiciar api.Arc] -/
def f51 (ps_A : Option Addr) (ps_n ps_c : Nat) (pf_f : FuncId) (pf_a pf_c : Array Value) (H : Hp) (Q : Value → Hp → Prop) : Prop :=
  LoopF (σ := (Int × Unit) × Unit) ((0, ()), ()) H fun s1 H2 next3 => cnd (decide ((s1.1.1 : Int) < ((ps_n : Nat) : Int))) (0 ≤ (s1.1.1 : Int) ∧ (s1.1.1 : Int) < ((ps_n : Nat) : Int) ∧ onPtr ps_A fun b4 o4 => ∃ x5 : Int, cl
    H2 b4 (o4 + (s1.1.1 : Int).toNat * 4) = some (.int .i64 x5) ∧ ∃ x6 : Int, cl H2 b4 ((o4 + (s1.1.1 : Int).toNat * 4) + 1) = some (.int .i64 x6) ∧ ∃ x7 : Int, cl H2 b4 (((o4 + (s1.1.1 : Int).toNat * 4) + 1) + 1) = some
    (.int .i64 x7) ∧ ∃ x8 : Int, cl H2 b4 ((((o4 + (s1.1.1 : Int).toNat * 4) + 1) + 1) + 1) = some (.int .i64 x8) ∧ FnOk Try.prog pf_f ∧ HCalls Try.prog pf_f (pf_a.toList ++ [.agg #[.int .i64 x5, .int .i64 x6, .int .i64
    x7, .int .i64 x8]] ++ pf_c.toList) H2 fun v9 H10 => ∃ x11 : Bool, v9 = .bool x11 ∧ cnd x11 (Q (.int .i64 s1.1.1) H10) (KeepX [some (.v (.slice ps_A ps_n ps_c)), some (.v (.func (.func pf_f) pf_a pf_c)), some (.v (.int
    .i64 ((ps_n : Nat) : Int)))] [] ∧ next3 ((IntKind.i64.wrap (s1.1.1 + 1), ()), ()) H10)) (Q (.int .i64 (-1)) H2)
noncomputable def fcx51 : Cx := cx 19 [] [(2, ⟨[0, 1, 7], [], [(8, .int .i64)], []⟩)] [] []
theorem f51.eq (ps_A : Option Addr) (ps_n ps_c : Nat) (pf_f : FuncId) (pf_a pf_c : Array Value) (H : Hp) (Q : Value → Hp → Prop) : f51 ps_A ps_n ps_c pf_f pf_a pf_c H Q = wFun fcx51 Try.f51 [.slice ps_A ps_n ps_c, .func (.func pf_f) pf_a pf_c] H Q := by kernel_rfl
theorem f51.ok (ps_A : Option Addr) (ps_n ps_c : Nat) (pf_f : FuncId) (pf_a pf_c : Array Value) {H : Hp} {Q : Value → Hp → Prop} (h : f51 ps_A ps_n ps_c pf_f pf_a pf_c H Q) : HCalls Try.prog 51 [.slice ps_A ps_n ps_c, .func (.func pf_f) pf_a pf_c] H Q := hcalls_of (cxOk 19 [] [(2, ⟨[0, 1, 7], [], [(8, .int .i64)], []⟩)] [] []) Try.func51 (Eq.mp (f51.eq ps_A ps_n ps_c pf_f pf_a pf_c H Q) h)

/-- justiciar history.circle$1 -/
def f52 (px_0 : Int) (px_1 : Int) (px_2 : Int) (px_3 : Int) (fra_b fra_o : Nat) (frb_b frb_o : Nat) (H : Hp) (Q : Value → Hp → Prop) : Prop :=
  jn (fun (j9 : Bool) (H10 : Hp) => Q (.bool j9) H10) fun J11 => ∃ x1 : Int, cl H fra_b fra_o = some (.int .i64 x1) ∧ cnd ((px_2 : Int) == x1) (∃ r2 : Option Nat, cl H frb_b frb_o = some (.map r2) ∧ HCalls Try.prog 53 [.map
    r2, .int .i64 px_1] H fun v3 H4 => ∃ r5 : Option Nat, v3 = .map r5 ∧ lookF H4 .i64 r5 px_0 (.bool false) fun v6 b7 => ∃ x8 : Bool, v6 = .bool x8 ∧ J11 x8 H4) (J11 false H)
noncomputable def fcx52 : Cx := cx 18 [(3, true)] [] [(1, (.look 0 (.look 1 (.look 2 (.look 3 (.look 4 (.look 5 (.look 6 (.look 7 (.look 9 (.look 10 (.act 8 (.act 11 (.look 12 (.act 13 .done .done)) .done) .done))))))))))))] []
theorem f52.eq (px_0 : Int) (px_1 : Int) (px_2 : Int) (px_3 : Int) (fra_b fra_o : Nat) (frb_b frb_o : Nat) (H : Hp) (Q : Value → Hp → Prop) : f52 px_0 px_1 px_2 px_3 fra_b fra_o frb_b frb_o H Q = wFun fcx52 Try.f52 [.agg #[.int .i64 px_0, .int .i64 px_1, .int .i64 px_2, .int .i64 px_3], .pointer (some ⟨fra_b, fra_o, none⟩), .pointer (some ⟨frb_b, frb_o, none⟩)] H Q := by kernel_rfl
theorem f52.ok (px_0 : Int) (px_1 : Int) (px_2 : Int) (px_3 : Int) (fra_b fra_o : Nat) (frb_b frb_o : Nat) {H : Hp} {Q : Value → Hp → Prop} (h : f52 px_0 px_1 px_2 px_3 fra_b fra_o frb_b frb_o H Q) : HCalls Try.prog 52 [.agg #[.int .i64 px_0, .int .i64 px_1, .int .i64 px_2, .int .i64 px_3], .pointer (some ⟨fra_b, fra_o, none⟩), .pointer (some ⟨frb_b, frb_o, none⟩)] H Q := hcalls_of (cxOk 18 [(3, true)] [] [(1, (.look 0 (.look 1 (.look 2 (.look 3 (.look 4 (.look 5 (.look 6 (.look 7 (.look 9 (.look 10 (.act 8 (.act 11 (.look 12 (.act 13 .done .done)) .done) .done))))))))))))] []) Try.func52 (Eq.mp (f52.eq px_0 px_1 px_2 px_3 fra_b fra_o frb_b frb_o H Q) h)

/-- (justiciar history.graph).reach -/
def f53 (pg : Option Nat) (pfrm : Int) (H : Hp) (Q : Value → Hp → Prop) : Prop :=
  newMapF H fun m1 H2 => putF H2 .i64 (some m1) pfrm (.bool true) fun H3 => newF H3 3 [.int .i64 pfrm] fun g4 H5 => LoopF (σ := ((Option Addr × Nat × Nat) × Unit) × Unit) ((((some ⟨g4, 0, none⟩), 1, 1), ()), ()) H5 fun s6
    H7 next8 => cnd (decide ((((s6.1.1.2.1 : Nat) : Int) : Int) > 0)) (0 ≤ (0 : Int) ∧ (0 : Int) < ((s6.1.1.2.1 : Nat) : Int) ∧ onPtr s6.1.1.1 fun b9 o9 => ∃ x10 : Int, cl H7 b9 (o9 + (0 : Int).toNat * 1) = some (.int
    .i64 x10) ∧ 0 ≤ (1 : Int) ∧ (1 : Int) ≤ ((s6.1.1.2.1 : Nat) : Int) ∧ lookF H7 .i64 pg x10 (.slice none 0 0) fun v11 b12 => ∃ (A13 : Option Addr) (n13 c13 : Nat), v11 = .slice A13 n13 c13 ∧ LoopF (σ := ((Option Addr ×
    Nat × Nat) × (Int × Unit)) × Unit) (((cutA s6.1.1.1 (((1 : Int).toNat) * 1) (decide (s6.1.1.2.2 = ((1 : Int).toNat))), s6.1.1.2.1 - ((1 : Int).toNat), s6.1.1.2.2 - ((1 : Int).toNat)), (0, ())), ()) H7 fun s14 H15
    next16 => cnd (decide ((s14.1.2.1 : Int) < ((n13 : Nat) : Int))) (jn (fun (jA27 : Option Addr) (jn28 : Nat) (jc29 : Nat) (H30 : Hp) => KeepX [some (.v (.map pg)), some (.v (.map (some m1))), some (.v (.slice A13 n13
    c13)), some (.v (.int .i64 ((n13 : Nat) : Int)))] [] ∧ next16 (((jA27, jn28, jc29), (IntKind.i64.wrap (s14.1.2.1 + 1), ())), ()) H30) fun J31 => 0 ≤ (s14.1.2.1 : Int) ∧ (s14.1.2.1 : Int) < ((n13 : Nat) : Int) ∧ onPtr
    A13 fun b17 o17 => ∃ x18 : Int, cl H15 b17 (o17 + (s14.1.2.1 : Int).toNat * 1) = some (.int .i64 x18) ∧ lookF H15 .i64 (some m1) x18 (.bool false) fun v19 b20 => ∃ x21 : Bool, v19 = .bool x21 ∧ cnd (!x21) (putF H15
    .i64 (some m1) x18 (.bool true) fun H22 => newF H22 3 [.int .i64 x18] fun g23 H24 => appendF H24 3 1 8 s14.1.1.1 s14.1.1.2.1 s14.1.1.2.2 (some ⟨g23, 0, none⟩) 1 fun A25 n25 c25 H26 => J31 A25 n25 c25 H26) (J31
    s14.1.1.1 s14.1.1.2.1 s14.1.1.2.2 H15)) (KeepX [some (.v (.map pg)), some (.v (.map (some m1)))] [] ∧ next8 (((s14.1.1.1, s14.1.1.2.1, s14.1.1.2.2), ()), ()) H15)) (Q (.map (some m1)) H7)
noncomputable def fcx53 : Cx := cx 43 [] [(3, ⟨[0, 5], [], [(6, .slice)], []⟩), (7, ⟨[0, 5, 25, 26], [], [(6, .slice), (27, .int .i64)], []⟩)] [] []
theorem f53.eq (pg : Option Nat) (pfrm : Int) (H : Hp) (Q : Value → Hp → Prop) : f53 pg pfrm H Q = wFun fcx53 Try.f53 [.map pg, .int .i64 pfrm] H Q := by kernel_rfl
theorem f53.ok (pg : Option Nat) (pfrm : Int) {H : Hp} {Q : Value → Hp → Prop} (h : f53 pg pfrm H Q) : HCalls Try.prog 53 [.map pg, .int .i64 pfrm] H Q := hcalls_of (cxOk 43 [] [(3, ⟨[0, 5], [], [(6, .slice)], []⟩), (7, ⟨[0, 5, 25, 26], [], [(6, .slice), (27, .int .i64)], []⟩)] [] []) Try.func53 (Eq.mp (f53.eq pg pfrm H Q) h)

/-- slices.ContainsFunc[[]int,int] -/
def f54 (ps_A : Option Addr) (ps_n ps_c : Nat) (pf_f : FuncId) (pf_a pf_c : Array Value) (H : Hp) (Q : Value → Hp → Prop) : Prop :=
  HCalls Try.prog 69 [.slice ps_A ps_n ps_c, .func (.func pf_f) pf_a pf_c] H fun v1 H2 => ∃ x3 : Int, v1 = .int .i64 x3 ∧ Q (.bool (decide ((x3 : Int) ≥ 0))) H2
noncomputable def fcx54 : Cx := cx 9 [] [] [] []
theorem f54.eq (ps_A : Option Addr) (ps_n ps_c : Nat) (pf_f : FuncId) (pf_a pf_c : Array Value) (H : Hp) (Q : Value → Hp → Prop) : f54 ps_A ps_n ps_c pf_f pf_a pf_c H Q = wFun fcx54 Try.f54 [.slice ps_A ps_n ps_c, .func (.func pf_f) pf_a pf_c] H Q := by kernel_rfl
theorem f54.ok (ps_A : Option Addr) (ps_n ps_c : Nat) (pf_f : FuncId) (pf_a pf_c : Array Value) {H : Hp} {Q : Value → Hp → Prop} (h : f54 ps_A ps_n ps_c pf_f pf_a pf_c H Q) : HCalls Try.prog 54 [.slice ps_A ps_n ps_c, .func (.func pf_f) pf_a pf_c] H Q := hcalls_of (cxOk 9 [] [] [] []) Try.func54 (Eq.mp (f54.eq ps_A ps_n ps_c pf_f pf_a pf_c H Q) h)

/-- (justiciar history.graph).circles$1 -/
def f55 (py : Int) (fra_b fra_o : Nat) (frb_b frb_o : Nat) (H : Hp) (Q : Value → Hp → Prop) : Prop :=
  ∃ r1 : Option Nat, cl H fra_b fra_o = some (.map r1) ∧ ∃ x2 : Int, cl H frb_b frb_o = some (.int .i64 x2) ∧ HCalls Try.prog 53 [.map r1, .int .i64 py] H fun v3 H4 => ∃ r5 : Option Nat, v3 = .map r5 ∧ H4 frb_b = H frb_b ∧
    lookF H4 .i64 r5 x2 (.bool false) fun v6 b7 => ∃ x8 : Bool, v6 = .bool x8 ∧ Q (.bool x8) H4
noncomputable def fcx55 : Cx := cx 10 [] [] [(1, (.look 0 (.look 1 (.look 3 (.act 2 (.act 4 (.act 5 .done .done) .done) .done)))))] []
theorem f55.eq (py : Int) (fra_b fra_o : Nat) (frb_b frb_o : Nat) (H : Hp) (Q : Value → Hp → Prop) : f55 py fra_b fra_o frb_b frb_o H Q = wFun fcx55 Try.f55 [.int .i64 py, .pointer (some ⟨fra_b, fra_o, none⟩), .pointer (some ⟨frb_b, frb_o, none⟩)] H Q := by kernel_rfl
theorem f55.ok (py : Int) (fra_b fra_o : Nat) (frb_b frb_o : Nat) {H : Hp} {Q : Value → Hp → Prop} (h : f55 py fra_b fra_o frb_b frb_o H Q) : HCalls Try.prog 55 [.int .i64 py, .pointer (some ⟨fra_b, fra_o, none⟩), .pointer (some ⟨frb_b, frb_o, none⟩)] H Q := hcalls_of (cxOk 10 [] [] [(1, (.look 0 (.look 1 (.look 3 (.act 2 (.act 4 (.act 5 .done .done) .done) .done)))))] []) Try.func55 (Eq.mp (f55.eq py fra_b fra_o frb_b frb_o H Q) h)

/-- slices.IndexFunc[[]justiciar api.His,justiciar api.His] -/
def f56 (ps_A : Option Addr) (ps_n ps_c : Nat) (pf_f : FuncId) (pf_a pf_c : Array Value) (H : Hp) (Q : Value → Hp → Prop) : Prop :=
  LoopF (σ := (Int × Unit) × Unit) ((0, ()), ()) H fun s1 H2 next3 => cnd (decide ((s1.1.1 : Int) < ((ps_n : Nat) : Int))) (0 ≤ (s1.1.1 : Int) ∧ (s1.1.1 : Int) < ((ps_n : Nat) : Int) ∧ onPtr ps_A fun b4 o4 => ∃ x5 : Int, cl
    H2 b4 (o4 + (s1.1.1 : Int).toNat * 5) = some (.int .i64 x5) ∧ ∃ x6 : Int, cl H2 b4 ((o4 + (s1.1.1 : Int).toNat * 5) + 1) = some (.int .i64 x6) ∧ ∃ x7 : Int, cl H2 b4 (((o4 + (s1.1.1 : Int).toNat * 5) + 1) + 1) = some
    (.int .i64 x7) ∧ ∃ x8 : Int, cl H2 b4 ((((o4 + (s1.1.1 : Int).toNat * 5) + 1) + 1) + 1) = some (.int .i64 x8) ∧ ∃ x9 : Int, cl H2 b4 (((((o4 + (s1.1.1 : Int).toNat * 5) + 1) + 1) + 1) + 1) = some (.int .i64 x9) ∧ FnOk
    Try.prog pf_f ∧ HCalls Try.prog pf_f (pf_a.toList ++ [.agg #[.int .i64 x5, .int .i64 x6, .int .i64 x7, .int .i64 x8, .int .i64 x9]] ++ pf_c.toList) H2 fun v10 H11 => ∃ x12 : Bool, v10 = .bool x12 ∧ cnd x12 (Q (.int
    .i64 s1.1.1) H11) (KeepX [some (.v (.slice ps_A ps_n ps_c)), some (.v (.func (.func pf_f) pf_a pf_c)), some (.v (.int .i64 ((ps_n : Nat) : Int)))] [] ∧ next3 ((IntKind.i64.wrap (s1.1.1 + 1), ()), ()) H11)) (Q (.int
    .i64 (-1)) H2)
noncomputable def fcx56 : Cx := cx 19 [] [(2, ⟨[0, 1, 7], [], [(8, .int .i64)], []⟩)] [] []
theorem f56.eq (ps_A : Option Addr) (ps_n ps_c : Nat) (pf_f : FuncId) (pf_a pf_c : Array Value) (H : Hp) (Q : Value → Hp → Prop) : f56 ps_A ps_n ps_c pf_f pf_a pf_c H Q = wFun fcx56 Try.f56 [.slice ps_A ps_n ps_c, .func (.func pf_f) pf_a pf_c] H Q := by kernel_rfl
theorem f56.ok (ps_A : Option Addr) (ps_n ps_c : Nat) (pf_f : FuncId) (pf_a pf_c : Array Value) {H : Hp} {Q : Value → Hp → Prop} (h : f56 ps_A ps_n ps_c pf_f pf_a pf_c H Q) : HCalls Try.prog 56 [.slice ps_A ps_n ps_c, .func (.func pf_f) pf_a pf_c] H Q := hcalls_of (cxOk 19 [] [(2, ⟨[0, 1, 7], [], [(8, .int .i64)], []⟩)] [] []) Try.func56 (Eq.mp (f56.eq ps_A ps_n ps_c pf_f pf_a pf_c H Q) h)

/-- justiciar history.in -/
def f57 (pn : Int) (H : Hp) (Q : Value → Hp → Prop) : Prop :=
  jn (fun (j1 : Bool) => Q (.bool j1) H) fun J2 => cnd (decide ((pn : Int) ≥ 1)) (J2 (decide ((pn : Int) ≤ 200))) (J2 false)
noncomputable def fcx57 : Cx := cx 9 [] [] [] []
theorem f57.eq (pn : Int) (H : Hp) (Q : Value → Hp → Prop) : f57 pn H Q = wFun fcx57 Try.f57 [.int .i64 pn] H Q := by kernel_rfl
theorem f57.ok (pn : Int) {H : Hp} {Q : Value → Hp → Prop} (h : f57 pn H Q) : HCalls Try.prog 57 [.int .i64 pn] H Q := hcalls_of (cxOk 9 [] [] [] []) Try.func57 (Eq.mp (f57.eq pn H Q) h)

/-- maps.DeleteFunc[map[int]int,int,int] -/
def f58 (pm : Option Nat) (pdel_f : FuncId) (pdel_a pdel_c : Array Value) (H : Hp) (Q : Value → Hp → Prop) : Prop :=
  rangeF H pm fun i1 H2 => LoopF (σ := Unit × Unit) ((), ()) H2 fun s3 H4 next5 => jn (fun (H22 : Hp) => KeepX [some (.v (.map pm)), some (.v (.func (.func pdel_f) pdel_a pdel_c)), some (.v (.pointer (some ⟨i1, 0, none⟩)))]
    [] ∧ next5 ((), ()) H22) fun J23 => jn (fun (j11 : Bool) (H12 : Hp) => cnd j11 (entryF H12 i1 0 fun k14 v15 => ∃ x16 : Int, k14 = .int .i64 x16 ∧ ∃ x17 : Int, v15 = .int .i64 x17 ∧ FnOk Try.prog pdel_f ∧ HCalls
    Try.prog pdel_f (pdel_a.toList ++ [.int .i64 x16, .int .i64 x17] ++ pdel_c.toList) H12 fun v18 H19 => ∃ x20 : Bool, v18 = .bool x20 ∧ cnd x20 (delF H19 .i64 pm x16 fun H21 => J23 H21) (J23 H19)) (Q (.tuple #[]) H12))
    fun J13 => nextF H4 i1 0 (J13 false H4) fun k6 v7 H8 => ∃ x9 : Int, k6 = .int .i64 x9 ∧ ∃ x10 : Int, v7 = .int .i64 x10 ∧ J13 true H8
noncomputable def fcx58 : Cx := cx 19 [] [(1, ⟨[0, 1, 7], [], [], []⟩)] [] [(8, ((.int .i64 0), (.int .i64 0))), (10, ((.int .i64 0), (.int .i64 0)))]
theorem f58.eq (pm : Option Nat) (pdel_f : FuncId) (pdel_a pdel_c : Array Value) (H : Hp) (Q : Value → Hp → Prop) : f58 pm pdel_f pdel_a pdel_c H Q = wFun fcx58 Try.f58 [.map pm, .func (.func pdel_f) pdel_a pdel_c] H Q := by kernel_rfl
theorem f58.ok (pm : Option Nat) (pdel_f : FuncId) (pdel_a pdel_c : Array Value) {H : Hp} {Q : Value → Hp → Prop} (h : f58 pm pdel_f pdel_a pdel_c H Q) : HCalls Try.prog 58 [.map pm, .func (.func pdel_f) pdel_a pdel_c] H Q := hcalls_of (cxOk 19 [] [(1, ⟨[0, 1, 7], [], [], []⟩)] [] [(8, ((.int .i64 0), (.int .i64 0))), (10, ((.int .i64 0), (.int .i64 0)))]) Try.func58 (Eq.mp (f58.eq pm pdel_f pdel_a pdel_c H Q) h)

/-- (*justiciar history.checker).event$1 -/
def f59 (pax : Int) (pwho : Int) (fra_b fra_o : Nat) (H : Hp) (Q : Value → Hp → Prop) : Prop :=
  ∃ x1 : Int, cl H fra_b (fra_o + 1) = some (.int .i64 x1) ∧ Q (.bool ((pwho : Int) == x1)) H
noncomputable def fcx59 : Cx := cx 10 [] [] [] []
theorem f59.eq (pax : Int) (pwho : Int) (fra_b fra_o : Nat) (H : Hp) (Q : Value → Hp → Prop) : f59 pax pwho fra_b fra_o H Q = wFun fcx59 Try.f59 [.int .i64 pax, .int .i64 pwho, .pointer (some ⟨fra_b, fra_o, none⟩)] H Q := by kernel_rfl
theorem f59.ok (pax : Int) (pwho : Int) (fra_b fra_o : Nat) {H : Hp} {Q : Value → Hp → Prop} (h : f59 pax pwho fra_b fra_o H Q) : HCalls Try.prog 59 [.int .i64 pax, .int .i64 pwho, .pointer (some ⟨fra_b, fra_o, none⟩)] H Q := hcalls_of (cxOk 10 [] [] [] []) Try.func59 (Eq.mp (f59.eq pax pwho fra_b fra_o H Q) h)

/-- maps.Keys[justiciar history.graph,int,[]int]$1 -/
def f60 (pyield_f : FuncId) (pyield_a pyield_c : Array Value) (fra_b fra_o : Nat) (H : Hp) (Q : Value → Hp → Prop) : Prop :=
  ∃ r1 : Option Nat, cl H fra_b fra_o = some (.map r1) ∧ rangeF H r1 fun i2 H3 => LoopF (σ := Unit × Unit) ((), ()) H3 fun s4 H5 next6 => jn (fun (j12 : Bool) (H13 : Hp) => cnd j12 (entryF H13 i2 0 fun k15 v16 => ∃ x17 :
    Int, k15 = .int .i64 x17 ∧ ∃ (A18 : Option Addr) (n18 c18 : Nat), v16 = .slice A18 n18 c18 ∧ FnOk Try.prog pyield_f ∧ HCalls Try.prog pyield_f (pyield_a.toList ++ [.int .i64 x17] ++ pyield_c.toList) H13 fun v19 H20 =>
    ∃ x21 : Bool, v19 = .bool x21 ∧ cnd (!x21) (Q (.tuple #[]) H20) (KeepX [some (.v (.func (.func pyield_f) pyield_a pyield_c)), some (.v (.pointer (some ⟨i2, 0, none⟩)))] [] ∧ next6 ((), ()) H20)) (Q (.tuple #[]) H13))
    fun J14 => nextF H5 i2 0 (J14 false H5) fun k7 v8 H9 => ∃ x10 : Int, k7 = .int .i64 x10 ∧ ∃ (A11 : Option Addr) (n11 c11 : Nat), v8 = .slice A11 n11 c11 ∧ J14 true H9
/-- (*justiciar history.book).found -/
def f61 (pb_b pb_o : Nat) (pt : Int) (pstmt : Int) (plow : Int) (phigh : Int) (puntil : Int) (H : Hp) (Q : Value → Hp → Prop) : Prop :=
  LoopF (σ := (Int × Unit) × Unit) ((plow, ()), ()) H fun s1 H2 next3 => cnd (decide ((s1.1.1 : Int) ≤ phigh)) (HCalls Try.prog 70 [.pointer (some ⟨pb_b, pb_o, none⟩), .int .i64 pt, .int .i64 pstmt, .int .i64 s1.1.1, .int
    .i64 puntil] H2 fun v4 H5 => ∃ x6 : Bool, v4 = .bool x6 ∧ cnd x6 (Q (.bool true) H5) (KeepX [some (.v (.pointer (some ⟨pb_b, pb_o, none⟩))), some (.v (.int .i64 pt)), some (.v (.int .i64 pstmt)), some (.v (.int .i64
    phigh)), some (.v (.int .i64 puntil))] [] ∧ next3 ((IntKind.i64.wrap (s1.1.1 + 1), ()), ()) H5)) (Q (.bool false) H2)
noncomputable def fcx61 : Cx := cx 26 [] [(2, ⟨[0, 1, 2, 4, 5], [], [(13, .int .i64)], []⟩)] [] []
theorem f61.eq (pb_b pb_o : Nat) (pt : Int) (pstmt : Int) (plow : Int) (phigh : Int) (puntil : Int) (H : Hp) (Q : Value → Hp → Prop) : f61 pb_b pb_o pt pstmt plow phigh puntil H Q = wFun fcx61 Try.f61 [.pointer (some ⟨pb_b, pb_o, none⟩), .int .i64 pt, .int .i64 pstmt, .int .i64 plow, .int .i64 phigh, .int .i64 puntil] H Q := by kernel_rfl
theorem f61.ok (pb_b pb_o : Nat) (pt : Int) (pstmt : Int) (plow : Int) (phigh : Int) (puntil : Int) {H : Hp} {Q : Value → Hp → Prop} (h : f61 pb_b pb_o pt pstmt plow phigh puntil H Q) : HCalls Try.prog 61 [.pointer (some ⟨pb_b, pb_o, none⟩), .int .i64 pt, .int .i64 pstmt, .int .i64 plow, .int .i64 phigh, .int .i64 puntil] H Q := hcalls_of (cxOk 26 [] [(2, ⟨[0, 1, 2, 4, 5], [], [(13, .int .i64)], []⟩)] [] []) Try.func61 (Eq.mp (f61.eq pb_b pb_o pt pstmt plow phigh puntil H Q) h)

/-- slices.Index[[]int,int] -/
def f62 (ps_A : Option Addr) (ps_n ps_c : Nat) (pv : Int) (H : Hp) (Q : Value → Hp → Prop) : Prop :=
  LoopF (σ := (Int × Unit) × Unit) ((0, ()), ()) H fun s1 H2 next3 => cnd (decide ((s1.1.1 : Int) < ((ps_n : Nat) : Int))) (0 ≤ (s1.1.1 : Int) ∧ (s1.1.1 : Int) < ((ps_n : Nat) : Int) ∧ onPtr ps_A fun b4 o4 => ∃ x5 : Int, cl
    H2 b4 (o4 + (s1.1.1 : Int).toNat * 1) = some (.int .i64 x5) ∧ cnd ((pv : Int) == x5) (Q (.int .i64 s1.1.1) H2) (KeepX [some (.v (.slice ps_A ps_n ps_c)), some (.v (.int .i64 pv)), some (.v (.int .i64 ((ps_n : Nat) :
    Int)))] [] ∧ next3 ((IntKind.i64.wrap (s1.1.1 + 1), ()), ()) H2)) (Q (.int .i64 (-1)) H2)
noncomputable def fcx62 : Cx := cx 19 [] [(2, ⟨[0, 1, 7], [], [(8, .int .i64)], []⟩)] [] []
theorem f62.eq (ps_A : Option Addr) (ps_n ps_c : Nat) (pv : Int) (H : Hp) (Q : Value → Hp → Prop) : f62 ps_A ps_n ps_c pv H Q = wFun fcx62 Try.f62 [.slice ps_A ps_n ps_c, .int .i64 pv] H Q := by kernel_rfl
theorem f62.ok (ps_A : Option Addr) (ps_n ps_c : Nat) (pv : Int) {H : Hp} {Q : Value → Hp → Prop} (h : f62 ps_A ps_n ps_c pv H Q) : HCalls Try.prog 62 [.slice ps_A ps_n ps_c, .int .i64 pv] H Q := hcalls_of (cxOk 19 [] [(2, ⟨[0, 1, 7], [], [(8, .int .i64)], []⟩)] [] []) Try.func62 (Eq.mp (f62.eq ps_A ps_n ps_c pv H Q) h)

/-- cmp.Or[int] -/
def f65 (pvals_A : Option Addr) (pvals_n pvals_c : Nat) (H : Hp) (Q : Value → Hp → Prop) : Prop :=
  LoopF (σ := (Int × Unit) × Unit) ((0, ()), ()) H fun s1 H2 next3 => cnd (decide ((s1.1.1 : Int) < ((pvals_n : Nat) : Int))) (0 ≤ (s1.1.1 : Int) ∧ (s1.1.1 : Int) < ((pvals_n : Nat) : Int) ∧ onPtr pvals_A fun b4 o4 => ∃ x5
    : Int, cl H2 b4 (o4 + (s1.1.1 : Int).toNat * 1) = some (.int .i64 x5) ∧ cnd ((x5 : Int) != 0) (Q (.int .i64 x5) H2) (KeepX [some (.v (.int .i64 0)), some (.v (.slice pvals_A pvals_n pvals_c)), some (.v (.int .i64
    ((pvals_n : Nat) : Int)))] [] ∧ next3 ((IntKind.i64.wrap (s1.1.1 + 1), ()), ()) H2)) (Q (.int .i64 0) H2)
noncomputable def fcx65 : Cx := cx 18 [] [(3, ⟨[3, 6, 7], [], [(8, .int .i64)], []⟩)] [] []
theorem f65.eq (pvals_A : Option Addr) (pvals_n pvals_c : Nat) (H : Hp) (Q : Value → Hp → Prop) : f65 pvals_A pvals_n pvals_c H Q = wFun fcx65 Try.f65 [.slice pvals_A pvals_n pvals_c] H Q := by kernel_rfl
theorem f65.ok (pvals_A : Option Addr) (pvals_n pvals_c : Nat) {H : Hp} {Q : Value → Hp → Prop} (h : f65 pvals_A pvals_n pvals_c H Q) : HCalls Try.prog 65 [.slice pvals_A pvals_n pvals_c] H Q := hcalls_of (cxOk 18 [] [(3, ⟨[3, 6, 7], [], [(8, .int .i64)], []⟩)] [] []) Try.func65 (Eq.mp (f65.eq pvals_A pvals_n pvals_c H Q) h)

/-- cmp.Compare[int] -/
def f66 (px : Int) (py : Int) (H : Hp) (Q : Value → Hp → Prop) : Prop :=
  HCalls Try.prog 81 [.int .i64 px] H fun v1 H2 => ∃ x3 : Bool, v1 = .bool x3 ∧ HCalls Try.prog 81 [.int .i64 py] H2 fun v4 H5 => ∃ x6 : Bool, v4 = .bool x6 ∧ cnd x3 (cnd x6 (Q (.int .i64 0) H5) (Q (.int .i64 (-1)) H5))
    (cnd x6 (Q (.int .i64 1) H5) (cnd (decide ((px : Int) < py)) (Q (.int .i64 (-1)) H5) (cnd (decide ((px : Int) > py)) (Q (.int .i64 1) H5) (Q (.int .i64 0) H5))))
noncomputable def fcx66 : Cx := cx 20 [] [] [] []
theorem f66.eq (px : Int) (py : Int) (H : Hp) (Q : Value → Hp → Prop) : f66 px py H Q = wFun fcx66 Try.f66 [.int .i64 px, .int .i64 py] H Q := by kernel_rfl
theorem f66.ok (px : Int) (py : Int) {H : Hp} {Q : Value → Hp → Prop} (h : f66 px py H Q) : HCalls Try.prog 66 [.int .i64 px, .int .i64 py] H Q := hcalls_of (cxOk 20 [] [] [] []) Try.func66 (Eq.mp (f66.eq px py H Q) h)

/-- slices.IndexFunc[[]int,int] -/
def f69 (ps_A : Option Addr) (ps_n ps_c : Nat) (pf_f : FuncId) (pf_a pf_c : Array Value) (H : Hp) (Q : Value → Hp → Prop) : Prop :=
  LoopF (σ := (Int × Unit) × Unit) ((0, ()), ()) H fun s1 H2 next3 => cnd (decide ((s1.1.1 : Int) < ((ps_n : Nat) : Int))) (0 ≤ (s1.1.1 : Int) ∧ (s1.1.1 : Int) < ((ps_n : Nat) : Int) ∧ onPtr ps_A fun b4 o4 => ∃ x5 : Int, cl
    H2 b4 (o4 + (s1.1.1 : Int).toNat * 1) = some (.int .i64 x5) ∧ FnOk Try.prog pf_f ∧ HCalls Try.prog pf_f (pf_a.toList ++ [.int .i64 x5] ++ pf_c.toList) H2 fun v6 H7 => ∃ x8 : Bool, v6 = .bool x8 ∧ cnd x8 (Q (.int .i64
    s1.1.1) H7) (KeepX [some (.v (.slice ps_A ps_n ps_c)), some (.v (.func (.func pf_f) pf_a pf_c)), some (.v (.int .i64 ((ps_n : Nat) : Int)))] [] ∧ next3 ((IntKind.i64.wrap (s1.1.1 + 1), ()), ()) H7)) (Q (.int .i64
    (-1)) H2)
noncomputable def fcx69 : Cx := cx 19 [] [(2, ⟨[0, 1, 7], [], [(8, .int .i64)], []⟩)] [] []
theorem f69.eq (ps_A : Option Addr) (ps_n ps_c : Nat) (pf_f : FuncId) (pf_a pf_c : Array Value) (H : Hp) (Q : Value → Hp → Prop) : f69 ps_A ps_n ps_c pf_f pf_a pf_c H Q = wFun fcx69 Try.f69 [.slice ps_A ps_n ps_c, .func (.func pf_f) pf_a pf_c] H Q := by kernel_rfl
theorem f69.ok (ps_A : Option Addr) (ps_n ps_c : Nat) (pf_f : FuncId) (pf_a pf_c : Array Value) {H : Hp} {Q : Value → Hp → Prop} (h : f69 ps_A ps_n ps_c pf_f pf_a pf_c H Q) : HCalls Try.prog 69 [.slice ps_A ps_n ps_c, .func (.func pf_f) pf_a pf_c] H Q := hcalls_of (cxOk 19 [] [(2, ⟨[0, 1, 7], [], [(8, .int .i64)], []⟩)] [] []) Try.func69 (Eq.mp (f69.eq ps_A ps_n ps_c pf_f pf_a pf_c H Q) h)

/-- (*justiciar history.book).fits -/
def f70 (pb_b pb_o : Nat) (pt : Int) (pstmt : Int) (pplace : Int) (puntil : Int) (H : Hp) (Q : Value → Hp → Prop) : Prop :=
  newMapF H fun m1 H2 => ∃ r3 : Option Nat, cl H2 pb_b (pb_o + 2) = some (.map r3) ∧ lookF H2 .i64 r3 pt (.int .i64 0) fun v4 b5 => ∃ x6 : Int, v4 = .int .i64 x6 ∧ LoopF (σ := (Int × Unit) × Unit) ((x6, ()), ()) H2 fun s7
    H8 next9 => ∃ (A10 : Option Addr) (n10 c10 : Nat), cl H8 pb_b (pb_o + 0) = some (.slice A10 n10 c10) ∧ cnd (decide ((s7.1.1 : Int) < ((n10 : Nat) : Int))) (jn (fun (H40 : Hp) => KeepX [some (.v (.pointer (some ⟨pb_b,
    pb_o, none⟩))), some (.v (.int .i64 pt)), some (.v (.int .i64 pstmt)), some (.v (.int .i64 pplace)), some (.v (.int .i64 puntil)), some (.v (.map (some m1)))] [] ∧ next9 ((IntKind.i64.wrap (s7.1.1 + 1), ()), ()) H40)
    fun J41 => ∃ (A11 : Option Addr) (n11 c11 : Nat), cl H8 pb_b (pb_o + 0) = some (.slice A11 n11 c11) ∧ 0 ≤ (s7.1.1 : Int) ∧ (s7.1.1 : Int) < ((n11 : Nat) : Int) ∧ onPtr A11 fun b12 o12 => ∃ x13 : Int, cl H8 b12 (o12 +
    (s7.1.1 : Int).toNat * 5) = some (.int .i64 x13) ∧ ∃ x14 : Int, cl H8 b12 ((o12 + (s7.1.1 : Int).toNat * 5) + 1) = some (.int .i64 x14) ∧ ∃ x15 : Int, cl H8 b12 (((o12 + (s7.1.1 : Int).toNat * 5) + 1) + 1) = some
    (.int .i64 x15) ∧ ∃ x16 : Int, cl H8 b12 ((((o12 + (s7.1.1 : Int).toNat * 5) + 1) + 1) + 1) = some (.int .i64 x16) ∧ ∃ x17 : Int, cl H8 b12 (((((o12 + (s7.1.1 : Int).toNat * 5) + 1) + 1) + 1) + 1) = some (.int .i64
    x17) ∧ cnd ((x14 : Int) != pt) (J41 H8) (jn (fun (j18 : Bool) => cnd ((x13 : Int) == 2) (jn (fun (j26 : Int) (H27 : Hp) => jn (fun (j29 : Bool) => cnd j29 (Q (.bool false) H27) (J41 H27)) fun J30 => cnd j18 (J30 ((x16
    : Int) != j26)) (J30 false)) fun J28 => lookF H8 .i64 (some m1) x15 (.bool false) fun v20 b21 => ∃ x22 : Bool, v20 = .bool x22 ∧ cnd (!x22) (HCalls Try.prog 91 [.pointer (some ⟨pb_b, pb_o, none⟩), .int .i64 x15, .int
    .i64 pplace] H8 fun v23 H24 => ∃ x25 : Int, v23 = .int .i64 x25 ∧ J28 x25 H24) (J28 pt H8)) (cnd ((x13 : Int) == 3) (jn (fun (j31 : Int) => jn (fun (j36 : Bool) (H37 : Hp) => cnd j36 (Q (.bool false) H37) (putF H37
    .i64 (some m1) x15 (.bool true) fun H39 => J41 H39)) fun J38 => cnd j18 (HCalls Try.prog 92 [.pointer (some ⟨pb_b, pb_o, none⟩), .int .i64 pt, .int .i64 x15, .int .i64 pplace, .int .i64 j31] H8 fun v33 H34 => ∃ x35 :
    Bool, v33 = .bool x35 ∧ J38 (!x35) H34) (J38 false H8)) fun J32 => cnd (decide ((puntil : Int) < 0)) (J32 s7.1.1) (J32 puntil)) (J41 H8))) fun J19 => cnd ((pstmt : Int) == 0) (J19 true) (J19 ((x17 : Int) == pstmt))))
    (Q (.bool true) H8)
noncomputable def fcx70 : Cx := cx 94 [(13, true)] [(3, ⟨[0, 1, 2, 3, 4, 11], [], [(12, .int .i64)], []⟩)] [] []
theorem f70.eq (pb_b pb_o : Nat) (pt : Int) (pstmt : Int) (pplace : Int) (puntil : Int) (H : Hp) (Q : Value → Hp → Prop) : f70 pb_b pb_o pt pstmt pplace puntil H Q = wFun fcx70 Try.f70 [.pointer (some ⟨pb_b, pb_o, none⟩), .int .i64 pt, .int .i64 pstmt, .int .i64 pplace, .int .i64 puntil] H Q := by kernel_rfl
theorem f70.ok (pb_b pb_o : Nat) (pt : Int) (pstmt : Int) (pplace : Int) (puntil : Int) {H : Hp} {Q : Value → Hp → Prop} (h : f70 pb_b pb_o pt pstmt pplace puntil H Q) : HCalls Try.prog 70 [.pointer (some ⟨pb_b, pb_o, none⟩), .int .i64 pt, .int .i64 pstmt, .int .i64 pplace, .int .i64 puntil] H Q := hcalls_of (cxOk 94 [(13, true)] [(3, ⟨[0, 1, 2, 3, 4, 11], [], [(12, .int .i64)], []⟩)] [] []) Try.func70 (Eq.mp (f70.eq pb_b pb_o pt pstmt pplace puntil H Q) h)

/-- cmp.isNaN[int] -/
def f81 (px : Int) (H : Hp) (Q : Value → Hp → Prop) : Prop :=
  Q (.bool ((px : Int) != px)) H
noncomputable def fcx81 : Cx := cx 6 [] [] [] []
theorem f81.eq (px : Int) (H : Hp) (Q : Value → Hp → Prop) : f81 px H Q = wFun fcx81 Try.f81 [.int .i64 px] H Q := by kernel_rfl
theorem f81.ok (px : Int) {H : Hp} {Q : Value → Hp → Prop} (h : f81 px H Q) : HCalls Try.prog 81 [.int .i64 px] H Q := hcalls_of (cxOk 6 [] [] [] []) Try.func81 (Eq.mp (f81.eq px H Q) h)

/-- cmp.Less[int] -/
def f88 (px : Int) (py : Int) (H : Hp) (Q : Value → Hp → Prop) : Prop :=
  jn (fun (j7 : Bool) (H8 : Hp) => Q (.bool j7) H8) fun J9 => HCalls Try.prog 81 [.int .i64 px] H fun v1 H2 => ∃ x3 : Bool, v1 = .bool x3 ∧ cnd x3 (HCalls Try.prog 81 [.int .i64 py] H2 fun v4 H5 => ∃ x6 : Bool, v4 = .bool
    x6 ∧ cnd (!x6) (J9 true H5) (J9 (decide ((px : Int) < py)) H5)) (J9 (decide ((px : Int) < py)) H2)
/-- (*justiciar history.book).last -/
def f91 (pb_b pb_o : Nat) (pitem : Int) (pplace : Int) (H : Hp) (Q : Value → Hp → Prop) : Prop :=
  ∃ r1 : Option Nat, cl H pb_b (pb_o + 3) = some (.map r1) ∧ lookF H .i64 r1 pitem (.slice none 0 0) fun v2 b3 => ∃ (A4 : Option Addr) (n4 c4 : Nat), v2 = .slice A4 n4 c4 ∧ LoopF (σ := (Int × (Int × Unit)) × Unit) ((0, (0,
    ())), ()) H fun s5 H6 next7 => cnd (decide ((s5.1.2.1 : Int) < ((n4 : Nat) : Int))) (jn (fun (j14 : Int) => KeepX [some (.v (.pointer (some ⟨pb_b, pb_o, none⟩))), some (.v (.int .i64 pplace)), some (.v (.slice A4 n4
    c4)), some (.v (.int .i64 ((n4 : Nat) : Int)))] [] ∧ next7 ((j14, (IntKind.i64.wrap (s5.1.2.1 + 1), ())), ()) H6) fun J15 => 0 ≤ (s5.1.2.1 : Int) ∧ (s5.1.2.1 : Int) < ((n4 : Nat) : Int) ∧ onPtr A4 fun b8 o8 => ∃ x9 :
    Int, cl H6 b8 (o8 + (s5.1.2.1 : Int).toNat * 1) = some (.int .i64 x9) ∧ ∃ r10 : Option Nat, cl H6 pb_b (pb_o + 1) = some (.map r10) ∧ lookF H6 .i64 r10 x9 (.int .i64 0) fun v11 b12 => ∃ x13 : Int, v11 = .int .i64 x13
    ∧ cnd (decide ((x13 : Int) < pplace)) (J15 x9) (J15 s5.1.1)) (Q (.int .i64 s5.1.1) H6)
noncomputable def fcx91 : Cx := cx 32 [] [(3, ⟨[0, 2, 15, 16], [], [(7, .int .i64), (17, .int .i64)], []⟩)] [] []
theorem f91.eq (pb_b pb_o : Nat) (pitem : Int) (pplace : Int) (H : Hp) (Q : Value → Hp → Prop) : f91 pb_b pb_o pitem pplace H Q = wFun fcx91 Try.f91 [.pointer (some ⟨pb_b, pb_o, none⟩), .int .i64 pitem, .int .i64 pplace] H Q := by kernel_rfl
theorem f91.ok (pb_b pb_o : Nat) (pitem : Int) (pplace : Int) {H : Hp} {Q : Value → Hp → Prop} (h : f91 pb_b pb_o pitem pplace H Q) : HCalls Try.prog 91 [.pointer (some ⟨pb_b, pb_o, none⟩), .int .i64 pitem, .int .i64 pplace] H Q := hcalls_of (cxOk 32 [] [(3, ⟨[0, 2, 15, 16], [], [(7, .int .i64), (17, .int .i64)], []⟩)] [] []) Try.func91 (Eq.mp (f91.eq pb_b pb_o pitem pplace H Q) h)

/-- (*justiciar history.book).clean -/
def f92 (pb_b pb_o : Nat) (pt : Int) (pitem : Int) (pfrm : Int) (pto : Int) (H : Hp) (Q : Value → Hp → Prop) : Prop :=
  newF H 56 [.pointer (some ⟨pb_b, pb_o, none⟩)] fun g1 H2 => newF H2 3 [.int .i64 pt] fun g3 H4 => newF H4 3 [.int .i64 pfrm] fun g5 H6 => newF H6 3 [.int .i64 pto] fun g7 H8 => ∃ p9 : Option Addr, cl H8 g1 0 = some
    (.pointer p9) ∧ onPtr p9 fun b10 o10 => ∃ r11 : Option Nat, cl H8 b10 (o10 + 3) = some (.map r11) ∧ lookF H8 .i64 r11 pitem (.slice none 0 0) fun v12 b13 => ∃ (A14 : Option Addr) (n14 c14 : Nat), v12 = .slice A14 n14
    c14 ∧ HCalls Try.prog 54 [.slice A14 n14 c14, .func (.func 101) #[] #[.pointer (some ⟨g3, 0, none⟩), .pointer (some ⟨g1, 0, none⟩), .pointer (some ⟨g5, 0, none⟩), .pointer (some ⟨g7, 0, none⟩)]] H8 fun v15 H16 => ∃
    x17 : Bool, v15 = .bool x17 ∧ Q (.bool (!x17)) H16
noncomputable def fcx92 : Cx := cx 20 [] [] [] []
theorem f92.eq (pb_b pb_o : Nat) (pt : Int) (pitem : Int) (pfrm : Int) (pto : Int) (H : Hp) (Q : Value → Hp → Prop) : f92 pb_b pb_o pt pitem pfrm pto H Q = wFun fcx92 Try.f92 [.pointer (some ⟨pb_b, pb_o, none⟩), .int .i64 pt, .int .i64 pitem, .int .i64 pfrm, .int .i64 pto] H Q := by kernel_rfl
theorem f92.ok (pb_b pb_o : Nat) (pt : Int) (pitem : Int) (pfrm : Int) (pto : Int) {H : Hp} {Q : Value → Hp → Prop} (h : f92 pb_b pb_o pt pitem pfrm pto H Q) : HCalls Try.prog 92 [.pointer (some ⟨pb_b, pb_o, none⟩), .int .i64 pt, .int .i64 pitem, .int .i64 pfrm, .int .i64 pto] H Q := hcalls_of (cxOk 20 [] [] [] []) Try.func92 (Eq.mp (f92.eq pb_b pb_o pt pitem pfrm pto H Q) h)

/-- (*justiciar history.book).clean$1 -/
def f101 (pu : Int) (fra_b fra_o : Nat) (frb_b frb_o : Nat) (frc_b frc_o : Nat) (frd_b frd_o : Nat) (H : Hp) (Q : Value → Hp → Prop) : Prop :=
  jn (fun (j16 : Bool) => Q (.bool j16) H) fun J17 => ∃ x1 : Int, cl H fra_b fra_o = some (.int .i64 x1) ∧ cnd ((pu : Int) != x1) (∃ p2 : Option Addr, cl H frb_b frb_o = some (.pointer p2) ∧ onPtr p2 fun b3 o3 => ∃ r4 :
    Option Nat, cl H b3 (o3 + 1) = some (.map r4) ∧ ∃ x5 : Int, cl H frc_b frc_o = some (.int .i64 x5) ∧ lookF H .i64 r4 pu (.int .i64 0) fun v6 b7 => ∃ x8 : Int, v6 = .int .i64 x8 ∧ H frc_b = H frc_b ∧ cnd (decide ((x8 :
    Int) ≥ x5)) (∃ p9 : Option Addr, cl H frb_b frb_o = some (.pointer p9) ∧ onPtr p9 fun b10 o10 => ∃ r11 : Option Nat, cl H b10 (o10 + 1) = some (.map r11) ∧ ∃ x12 : Int, cl H frd_b frd_o = some (.int .i64 x12) ∧ lookF
    H .i64 r11 pu (.int .i64 0) fun v13 b14 => ∃ x15 : Int, v13 = .int .i64 x15 ∧ H frd_b = H frd_b ∧ J17 (decide ((x15 : Int) < x12))) (H frd_b = H frd_b ∧ J17 false)) (H frc_b = H frc_b ∧ H frd_b = H frd_b ∧ J17 false)
noncomputable def fcx101 : Cx := cx 30 [] [] [(1, (.look 0 (.look 1 (.look 2 (.look 3 (.look 4 (.look 5 (.look 6 (.look 7 (.look 8 (.look 10 (.act 9 (.look 11 (.look 12 (.look 13 (.look 14 (.look 15 (.look 16 (.look 17 (.look 18 (.look 20 (.act 19 (.look 21 (.look 22 (.act 23 .done .done))) .done)))))))))) .done))))))))))))] []
theorem f101.eq (pu : Int) (fra_b fra_o : Nat) (frb_b frb_o : Nat) (frc_b frc_o : Nat) (frd_b frd_o : Nat) (H : Hp) (Q : Value → Hp → Prop) : f101 pu fra_b fra_o frb_b frb_o frc_b frc_o frd_b frd_o H Q = wFun fcx101 Try.f101 [.int .i64 pu, .pointer (some ⟨fra_b, fra_o, none⟩), .pointer (some ⟨frb_b, frb_o, none⟩), .pointer (some ⟨frc_b, frc_o, none⟩), .pointer (some ⟨frd_b, frd_o, none⟩)] H Q := by kernel_rfl
theorem f101.ok (pu : Int) (fra_b fra_o : Nat) (frb_b frb_o : Nat) (frc_b frc_o : Nat) (frd_b frd_o : Nat) {H : Hp} {Q : Value → Hp → Prop} (h : f101 pu fra_b fra_o frb_b frb_o frc_b frc_o frd_b frd_o H Q) : HCalls Try.prog 101 [.int .i64 pu, .pointer (some ⟨fra_b, fra_o, none⟩), .pointer (some ⟨frb_b, frb_o, none⟩), .pointer (some ⟨frc_b, frc_o, none⟩), .pointer (some ⟨frd_b, frd_o, none⟩)] H Q := hcalls_of (cxOk 30 [] [] [(1, (.look 0 (.look 1 (.look 2 (.look 3 (.look 4 (.look 5 (.look 6 (.look 7 (.look 8 (.look 10 (.act 9 (.look 11 (.look 12 (.look 13 (.look 14 (.look 15 (.look 16 (.look 17 (.look 18 (.look 20 (.act 19 (.look 21 (.look 22 (.act 23 .done .done))) .done)))))))))) .done))))))))))))] []) Try.func101 (Eq.mp (f101.eq pu fra_b fra_o frb_b frb_o frc_b frc_o frd_b frd_o H Q) h)

end Go.Proofs.Ytibhpoikhkokiaa.Hw
