/- What functions of the program come to, by the evaluator: printed by a program of this session (gen.py) and checked here. -/
import Derived.Test.YtkkmoeimcedkgaaHwTab
set_option linter.unusedVariables false
set_option maxRecDepth 100000
namespace Go.Proofs.Ytkkmoeimcedkgaa.Hw
open Go Go.Proofs

/-- justiciar justiciarlaw23.PairDoes -/
def f3 (pp_0_A : Option Addr) (pp_0_n pp_0_c : Nat) (pp_1_A : Option Addr) (pp_1_n pp_1_c : Nat) (pa_0 : Int) (pa_1 : Int) (pa_2 : Int) (H : Hp) (Q : Value → Hp → Prop) : Prop :=
  HCalls Try.prog 8 [.agg #[.slice pp_0_A pp_0_n pp_0_c, .slice pp_1_A pp_1_n pp_1_c]] H fun v1 H2 => ∃ x3 : Bool, v1 = .bool x3 ∧ cnd (!x3) (HCalls Try.prog 9 [] H2 fun v4 H5 => ∃ x6 : Bool, v4 = .bool x6 ∧ Q (.bool x6)
    H5) (HCalls Try.prog 10 [.agg #[.slice pp_0_A pp_0_n pp_0_c, .slice pp_1_A pp_1_n pp_1_c]] H2 fun v7 H8 => ∃ (A9 : Option Addr) (n9 c9 : Nat), ∃ (A10 : Option Addr) (n10 c10 : Nat), v7 = .agg #[.slice A9 n9 c9, .slice
    A10 n10 c10] ∧ HCalls Try.prog 11 [.agg #[.slice pp_0_A pp_0_n pp_0_c, .slice pp_1_A pp_1_n pp_1_c], .agg #[.int .i64 pa_0, .int .i64 pa_1, .int .i64 pa_2]] H8 fun v11 H12 => ∃ (A13 : Option Addr) (n13 c13 : Nat), ∃
    (A14 : Option Addr) (n14 c14 : Nat), ∃ x15 : Int, v11 = .tuple #[.agg #[.slice A13 n13 c13, .slice A14 n14 c14], .int .i64 x15] ∧ HCalls Try.prog 12 [.agg #[.slice pp_0_A pp_0_n pp_0_c, .slice pp_1_A pp_1_n pp_1_c],
    .agg #[.int .i64 pa_0, .int .i64 pa_1, .int .i64 pa_2]] H12 fun v16 H17 => ∃ (A18 : Option Addr) (n18 c18 : Nat), ∃ (A19 : Option Addr) (n19 c19 : Nat), ∃ x20 : Int, v16 = .tuple #[.agg #[.slice A18 n18 c18, .slice
    A19 n19 c19], .int .i64 x20] ∧ jn (fun (j24 : Bool) (H25 : Hp) => cnd j24 (Q (.bool false) H25) (HCalls Try.prog 14 [.agg #[.slice pp_0_A pp_0_n pp_0_c, .slice pp_1_A pp_1_n pp_1_c]] H25 fun v27 H28 => ∃ x29 : Int, ∃
    x30 : Int, v27 = .tuple #[.int .i64 x29, .int .i64 x30] ∧ HCalls Try.prog 15 [.agg #[.slice pp_0_A pp_0_n pp_0_c, .slice pp_1_A pp_1_n pp_1_c]] H28 fun v31 H32 => ∃ x33 : Int, ∃ x34 : Int, v31 = .tuple #[.int .i64
    x33, .int .i64 x34] ∧ jn (fun (j35 : Bool) => cnd j35 (Q (.bool false) H32) (HCalls Try.prog 16 [.agg #[.slice pp_0_A pp_0_n pp_0_c, .slice pp_1_A pp_1_n pp_1_c]] H32 fun v37 H38 => ∃ x39 : Bool, ∃ x40 : Int, v37 =
    .tuple #[.bool x39, .int .i64 x40] ∧ HCalls Try.prog 17 [.agg #[.slice pp_0_A pp_0_n pp_0_c, .slice pp_1_A pp_1_n pp_1_c]] H38 fun v41 H42 => ∃ x43 : Bool, ∃ x44 : Int, v41 = .tuple #[.bool x43, .int .i64 x44] ∧ jn
    (fun (j45 : Bool) => cnd j45 (Q (.bool false) H42) (HCalls Try.prog 18 [.agg #[.slice pp_0_A pp_0_n pp_0_c, .slice pp_1_A pp_1_n pp_1_c]] H42 fun v47 H48 => ∃ x49 : Bool, ∃ x50 : Int, v47 = .tuple #[.bool x49, .int
    .i64 x50] ∧ HCalls Try.prog 19 [.agg #[.slice pp_0_A pp_0_n pp_0_c, .slice pp_1_A pp_1_n pp_1_c]] H48 fun v51 H52 => ∃ x53 : Bool, ∃ x54 : Int, v51 = .tuple #[.bool x53, .int .i64 x54] ∧ HCalls Try.prog 20 [.agg
    #[.slice pp_0_A pp_0_n pp_0_c, .slice pp_1_A pp_1_n pp_1_c]] H52 fun v55 H56 => ∃ (A57 : Option Addr) (n57 c57 : Nat), ∃ x58 : Int, v55 = .tuple #[.slice A57 n57 c57, .int .i64 x58] ∧ jn (fun (j68 : Bool) (H69 : Hp)
    => Q (.bool j68) H69) fun J70 => cnd (x49 == x53) (cnd ((x50 : Int) == x54) (HCalls Try.prog 21 [.agg #[.slice pp_0_A pp_0_n pp_0_c, .slice pp_1_A pp_1_n pp_1_c]] H56 fun v59 H60 => ∃ x61 : Bool, v59 = .bool x61 ∧ cnd
    (((x58 : Int) == 2) == (!x61)) (HCalls Try.prog 13 [.agg #[.slice A9 n9 c9, .slice A10 n10 c10], .agg #[.slice pp_0_A pp_0_n pp_0_c, .slice pp_1_A pp_1_n pp_1_c]] H60 fun v62 H63 => ∃ x64 : Bool, v62 = .bool x64 ∧ cnd
    x64 (HCalls Try.prog 9 [] H63 fun v65 H66 => ∃ x67 : Bool, v65 = .bool x67 ∧ J70 x67 H66) (J70 false H63)) (J70 false H60)) (J70 false H56)) (J70 false H56))) fun J46 => cnd (!(x39 == x43)) (J46 true) (J46 ((x40 :
    Int) != x44)))) fun J36 => cnd ((x29 : Int) != x33) (J36 true) (J36 ((x30 : Int) != x34)))) fun J26 => HCalls Try.prog 13 [.agg #[.slice A13 n13 c13, .slice A14 n14 c14], .agg #[.slice A18 n18 c18, .slice A19 n19
    c19]] H17 fun v21 H22 => ∃ x23 : Bool, v21 = .bool x23 ∧ cnd (!x23) (J26 true H22) (J26 ((x15 : Int) != x20) H22))
noncomputable def fcx3 : Cx := cx 118 [(2, true), (3, true), (5, true), (6, true), (8, true)] [] []
theorem f3.eq (pp_0_A : Option Addr) (pp_0_n pp_0_c : Nat) (pp_1_A : Option Addr) (pp_1_n pp_1_c : Nat) (pa_0 : Int) (pa_1 : Int) (pa_2 : Int) (H : Hp) (Q : Value → Hp → Prop) : f3 pp_0_A pp_0_n pp_0_c pp_1_A pp_1_n pp_1_c pa_0 pa_1 pa_2 H Q = wFun fcx3 Try.f3 [.agg #[.slice pp_0_A pp_0_n pp_0_c, .slice pp_1_A pp_1_n pp_1_c], .agg #[.int .i64 pa_0, .int .i64 pa_1, .int .i64 pa_2]] H Q := by kernel_rfl
theorem f3.ok (pp_0_A : Option Addr) (pp_0_n pp_0_c : Nat) (pp_1_A : Option Addr) (pp_1_n pp_1_c : Nat) (pa_0 : Int) (pa_1 : Int) (pa_2 : Int) {H : Hp} {Q : Value → Hp → Prop} (h : f3 pp_0_A pp_0_n pp_0_c pp_1_A pp_1_n pp_1_c pa_0 pa_1 pa_2 H Q) : HCalls Try.prog 3 [.agg #[.slice pp_0_A pp_0_n pp_0_c, .slice pp_1_A pp_1_n pp_1_c], .agg #[.int .i64 pa_0, .int .i64 pa_1, .int .i64 pa_2]] H Q := hcalls_of (cxOk 118 [(2, true), (3, true), (5, true), (6, true), (8, true)] [] []) Try.func3 (Eq.mp (f3.eq pp_0_A pp_0_n pp_0_c pp_1_A pp_1_n pp_1_c pa_0 pa_1 pa_2 H Q) h)

/-- justiciar justiciarlaw23.PairRuns -/
def f4 (pl_A : Option Addr) (pl_n pl_c : Nat) (H : Hp) (Q : Value → Hp → Prop) : Prop :=
  cnd (decide ((((pl_n : Nat) : Int) : Int) > 300)) (HCalls Try.prog 9 [] H fun v1 H2 => ∃ x3 : Bool, v1 = .bool x3 ∧ Q (.bool x3) H2) (HCalls Try.prog 22 [.slice pl_A pl_n pl_c] H fun v4 H5 => ∃ (A6 : Option Addr) (n6 c6 :
    Nat), ∃ (A7 : Option Addr) (n7 c7 : Nat), ∃ (A8 : Option Addr) (n8 c8 : Nat), v4 = .tuple #[.agg #[.slice A6 n6 c6, .slice A7 n7 c7], .slice A8 n8 c8] ∧ HCalls Try.prog 23 [.slice pl_A pl_n pl_c] H5 fun v9 H10 => ∃
    (A11 : Option Addr) (n11 c11 : Nat), ∃ (A12 : Option Addr) (n12 c12 : Nat), ∃ (A13 : Option Addr) (n13 c13 : Nat), v9 = .tuple #[.agg #[.slice A11 n11 c11, .slice A12 n12 c12], .slice A13 n13 c13] ∧ jn (fun (j17 :
    Bool) (H18 : Hp) => cnd j17 (Q (.bool false) H18) (LoopF (σ := (Int × Unit) × Unit) ((0, ()), ()) H18 fun s20 H21 next22 => cnd (decide ((s20.1.1 : Int) < ((n8 : Nat) : Int))) (0 ≤ (s20.1.1 : Int) ∧ (s20.1.1 : Int) <
    ((n8 : Nat) : Int) ∧ onPtr A8 fun b23 o23 => ∃ x24 : Int, cl H21 b23 (o23 + (s20.1.1 : Int).toNat * 1) = some (.int .i64 x24) ∧ 0 ≤ (s20.1.1 : Int) ∧ (s20.1.1 : Int) < ((n13 : Nat) : Int) ∧ onPtr A13 fun b25 o25 => ∃
    x26 : Int, cl H21 b25 (o25 + (s20.1.1 : Int).toNat * 1) = some (.int .i64 x26) ∧ cnd ((x24 : Int) != x26) (Q (.bool false) H21) (KeepX [some (.v (.slice A8 n8 c8)), some (.v (.slice A13 n13 c13)), some (.v (.int .i64
    ((n8 : Nat) : Int)))] [] ∧ next22 ((IntKind.i64.wrap (s20.1.1 + 1), ()), ()) H21)) (HCalls Try.prog 9 [] H21 fun v27 H28 => ∃ x29 : Bool, v27 = .bool x29 ∧ Q (.bool x29) H28))) fun J19 => HCalls Try.prog 13 [.agg
    #[.slice A6 n6 c6, .slice A7 n7 c7], .agg #[.slice A11 n11 c11, .slice A12 n12 c12]] H10 fun v14 H15 => ∃ x16 : Bool, v14 = .bool x16 ∧ cnd (!x16) (J19 true H15) (J19 ((((n8 : Nat) : Int) : Int) != ((n13 : Nat) :
    Int)) H15))
noncomputable def fcx4 : Cx := cx 49 [(3, true), (5, true)] [(8, ⟨[4, 6, 34], [], [(35, .int .i64)], []⟩)] [(10, (.look 0 (.look 1 (.look 2 (.look 3 (.look 4 (.look 5 (.look 6 (.look 7 (.look 8 .done))))))))))]
theorem f4.eq (pl_A : Option Addr) (pl_n pl_c : Nat) (H : Hp) (Q : Value → Hp → Prop) : f4 pl_A pl_n pl_c H Q = wFun fcx4 Try.f4 [.slice pl_A pl_n pl_c] H Q := by kernel_rfl
theorem f4.ok (pl_A : Option Addr) (pl_n pl_c : Nat) {H : Hp} {Q : Value → Hp → Prop} (h : f4 pl_A pl_n pl_c H Q) : HCalls Try.prog 4 [.slice pl_A pl_n pl_c] H Q := hcalls_of (cxOk 49 [(3, true), (5, true)] [(8, ⟨[4, 6, 34], [], [(35, .int .i64)], []⟩)] [(10, (.look 0 (.look 1 (.look 2 (.look 3 (.look 4 (.look 5 (.look 6 (.look 7 (.look 8 .done))))))))))]) Try.func4 (Eq.mp (f4.eq pl_A pl_n pl_c H Q) h)

/-- justiciar justiciarlaw23.PairWhole -/
def f5 (pl_A : Option Addr) (pl_n pl_c : Nat) (H : Hp) (Q : Value → Hp → Prop) : Prop :=
  cnd (decide ((((pl_n : Nat) : Int) : Int) > 300)) (HCalls Try.prog 9 [] H fun v1 H2 => ∃ x3 : Bool, v1 = .bool x3 ∧ Q (.bool x3) H2) (HCalls Try.prog 24 [] H fun v4 H5 => ∃ (A6 : Option Addr) (n6 c6 : Nat), ∃ (A7 : Option
    Addr) (n7 c7 : Nat), v4 = .agg #[.slice A6 n6 c6, .slice A7 n7 c7] ∧ LoopF (σ := (Int × Unit) × (((Option Addr × Nat × Nat) × ((Option Addr × Nat × Nat) × Unit)) × Unit)) ((0, ()), (((A6, n6, c6), ((A7, n7, c7), ())),
    ())) H5 fun s8 H9 next10 => cnd (decide ((s8.1.1 : Int) < ((pl_n : Nat) : Int))) (jn (fun (jA169 : Option Addr) (jn170 : Nat) (jc171 : Nat) (jA172 : Option Addr) (jn173 : Nat) (jc174 : Nat) (H175 : Hp) => KeepX [some
    (.loc 3 0), some (.v (.slice pl_A pl_n pl_c)), some (.v (.int .i64 ((pl_n : Nat) : Int)))] [] ∧ next10 ((IntKind.i64.wrap (s8.1.1 + 1), ()), (((jA169, jn170, jc171), ((jA172, jn173, jc174), ())), ())) H175) fun J176
    => 0 ≤ (s8.1.1 : Int) ∧ (s8.1.1 : Int) < ((pl_n : Nat) : Int) ∧ onPtr pl_A fun b11 o11 => ∃ x12 : Int, cl H9 b11 (o11 + (s8.1.1 : Int).toNat * 3) = some (.int .i64 x12) ∧ ∃ x13 : Int, cl H9 b11 ((o11 + (s8.1.1 :
    Int).toNat * 3) + 1) = some (.int .i64 x13) ∧ ∃ x14 : Int, cl H9 b11 (((o11 + (s8.1.1 : Int).toNat * 3) + 1) + 1) = some (.int .i64 x14) ∧ HCalls Try.prog 11 [.agg #[.slice s8.2.1.1.1 s8.2.1.1.2.1 s8.2.1.1.2.2, .slice
    s8.2.1.2.1.1 s8.2.1.2.1.2.1 s8.2.1.2.1.2.2], .agg #[.int .i64 x12, .int .i64 x13, .int .i64 x14]] H9 fun v15 H16 => ∃ (A17 : Option Addr) (n17 c17 : Nat), ∃ (A18 : Option Addr) (n18 c18 : Nat), ∃ x19 : Int, v15 =
    .tuple #[.agg #[.slice A17 n17 c17, .slice A18 n18 c18], .int .i64 x19] ∧ cnd ((x19 : Int) != 0) (J176 s8.2.1.1.1 s8.2.1.1.2.1 s8.2.1.1.2.2 s8.2.1.2.1.1 s8.2.1.2.1.2.1 s8.2.1.2.1.2.2 H16) (cnd ((((n17 : Nat) : Int) :
    Int) != 2) (Q (.bool false) H16) (jn (fun (j34 : Bool) (H35 : Hp) => jn (fun (j51 : Bool) (H52 : Hp) => jn (fun (j138 : Bool) (H139 : Hp) => cnd j138 (Q (.bool false) H139) (LoopF (σ := (Int × Unit) × Unit) ((0, ()),
    ()) H139 fun s141 H142 next143 => cnd (decide ((s141.1.1 : Int) < 2)) (0 ≤ (s141.1.1 : Int) ∧ (s141.1.1 : Int) < ((s8.2.1.1.2.1 : Nat) : Int) ∧ onPtr s8.2.1.1.1 fun b144 o144 => ∃ (A145 : Option Addr) (n145 c145 :
    Nat), cl H142 b144 ((o144 + (s141.1.1 : Int).toNat * 3) + 2) = some (.slice A145 n145 c145) ∧ 0 ≤ (s141.1.1 : Int) ∧ (s141.1.1 : Int) < ((n17 : Nat) : Int) ∧ onPtr A17 fun b146 o146 => ∃ (A147 : Option Addr) (n147
    c147 : Nat), cl H142 b146 ((o146 + (s141.1.1 : Int).toNat * 3) + 2) = some (.slice A147 n147 c147) ∧ jn (fun (j156 : Bool) => cnd j156 (Q (.bool false) H142) (LoopF (σ := (Int × Unit) × Unit) ((0, ()), ()) H142 fun
    s158 H159 next160 => cnd (decide ((s158.1.1 : Int) < ((n145 : Nat) : Int))) (0 ≤ (s141.1.1 : Int) ∧ (s141.1.1 : Int) < ((s8.2.1.1.2.1 : Nat) : Int) ∧ onPtr s8.2.1.1.1 fun b161 o161 => ∃ (A162 : Option Addr) (n162 c162
    : Nat), cl H159 b161 ((o161 + (s141.1.1 : Int).toNat * 3) + 2) = some (.slice A162 n162 c162) ∧ 0 ≤ (s158.1.1 : Int) ∧ (s158.1.1 : Int) < ((n162 : Nat) : Int) ∧ onPtr A162 fun b163 o163 => ∃ x164 : Int, cl H159 b163
    (o163 + (s158.1.1 : Int).toNat * 1) = some (.int .i64 x164) ∧ 0 ≤ (s141.1.1 : Int) ∧ (s141.1.1 : Int) < ((n17 : Nat) : Int) ∧ onPtr A17 fun b165 o165 => ∃ (A166 : Option Addr) (n166 c166 : Nat), cl H159 b165 ((o165 +
    (s141.1.1 : Int).toNat * 3) + 2) = some (.slice A166 n166 c166) ∧ 0 ≤ (s158.1.1 : Int) ∧ (s158.1.1 : Int) < ((n166 : Nat) : Int) ∧ onPtr A166 fun b167 o167 => ∃ x168 : Int, cl H159 b167 (o167 + (s158.1.1 : Int).toNat
    * 1) = some (.int .i64 x168) ∧ cnd ((x164 : Int) != x168) (Q (.bool false) H159) (KeepX [some (.loc 3 0), some (.loc 6 0), some (.v (.int .i64 s141.1.1)), some (.v (.slice pl_A pl_n pl_c)), some (.v (.int .i64 ((pl_n
    : Nat) : Int))), some (.v (.int .i64 s8.1.1)), some (.v (.int .i64 s141.1.1)), some (.v (.int .i64 ((n145 : Nat) : Int)))] [some (true, [.slice s8.2.1.1.1 s8.2.1.1.2.1 s8.2.1.1.2.2, .slice s8.2.1.2.1.1 s8.2.1.2.1.2.1
    s8.2.1.2.1.2.2]), some (true, [.slice A17 n17 c17, .slice A18 n18 c18])] ∧ next160 ((IntKind.i64.wrap (s158.1.1 + 1), ()), ()) H159)) (KeepX [some (.loc 3 0), some (.loc 6 0), some (.v (.slice pl_A pl_n pl_c)), some
    (.v (.int .i64 ((pl_n : Nat) : Int))), some (.v (.int .i64 s8.1.1))] [some (true, [.slice s8.2.1.1.1 s8.2.1.1.2.1 s8.2.1.1.2.2, .slice s8.2.1.2.1.1 s8.2.1.2.1.2.1 s8.2.1.2.1.2.2]), some (true, [.slice A17 n17 c17,
    .slice A18 n18 c18])] ∧ next143 ((IntKind.i64.wrap (s141.1.1 + 1), ()), ()) H159))) fun J157 => cnd (decide ((((n147 : Nat) : Int) : Int) < ((n145 : Nat) : Int))) (J157 true) (cnd (decide ((((n145 : Nat) : Int) : Int)
    > 0)) (0 ≤ (s141.1.1 : Int) ∧ (s141.1.1 : Int) < ((s8.2.1.1.2.1 : Nat) : Int) ∧ onPtr s8.2.1.1.1 fun b148 o148 => ∃ (A149 : Option Addr) (n149 c149 : Nat), cl H142 b148 ((o148 + (s141.1.1 : Int).toNat * 3) + 2) = some
    (.slice A149 n149 c149) ∧ 0 ≤ (IntKind.i64.wrap (((n145 : Nat) : Int) - 1) : Int) ∧ (IntKind.i64.wrap (((n145 : Nat) : Int) - 1) : Int) < ((n149 : Nat) : Int) ∧ onPtr A149 fun b150 o150 => ∃ x151 : Int, cl H142 b150
    (o150 + (IntKind.i64.wrap (((n145 : Nat) : Int) - 1) : Int).toNat * 1) = some (.int .i64 x151) ∧ cnd ((x151 : Int) == 3) (J157 (decide ((((n147 : Nat) : Int) : Int) > ((n145 : Nat) : Int)))) (0 ≤ (s141.1.1 : Int) ∧
    (s141.1.1 : Int) < ((s8.2.1.1.2.1 : Nat) : Int) ∧ onPtr s8.2.1.1.1 fun b152 o152 => ∃ (A153 : Option Addr) (n153 c153 : Nat), cl H142 b152 ((o152 + (s141.1.1 : Int).toNat * 3) + 2) = some (.slice A153 n153 c153) ∧ 0 ≤
    (IntKind.i64.wrap (((n145 : Nat) : Int) - 1) : Int) ∧ (IntKind.i64.wrap (((n145 : Nat) : Int) - 1) : Int) < ((n153 : Nat) : Int) ∧ onPtr A153 fun b154 o154 => ∃ x155 : Int, cl H142 b154 (o154 + (IntKind.i64.wrap
    (((n145 : Nat) : Int) - 1) : Int).toNat * 1) = some (.int .i64 x155) ∧ cnd ((x155 : Int) == 4) (J157 (decide ((((n147 : Nat) : Int) : Int) > ((n145 : Nat) : Int)))) (J157 false))) (J157 false))) (J176 A17 n17 c17 A18
    n18 c18 H142))) fun J140 => cnd j34 (cnd j51 (J140 true H52) (0 ≤ (0 : Int) ∧ (0 : Int) < ((n17 : Nat) : Int) ∧ onPtr A17 fun b54 o54 => ∃ x55 : Int, cl H52 b54 (o54 + (0 : Int).toNat * 3) = some (.int .i64 x55) ∧ ∃
    x56 : Bool, cl H52 b54 ((o54 + (0 : Int).toNat * 3) + 1) = some (.bool x56) ∧ ∃ (A57 : Option Addr) (n57 c57 : Nat), cl H52 b54 (((o54 + (0 : Int).toNat * 3) + 1) + 1) = some (.slice A57 n57 c57) ∧ HCalls Try.prog 25
    [.agg #[.int .i64 x55, .bool x56, .slice A57 n57 c57], .int .i64 3] H52 fun v58 H59 => ∃ x60 : Bool, v58 = .bool x60 ∧ cnd x60 (0 ≤ (1 : Int) ∧ (1 : Int) < ((n17 : Nat) : Int) ∧ onPtr A17 fun b61 o61 => ∃ x62 : Int,
    cl H59 b61 (o61 + (1 : Int).toNat * 3) = some (.int .i64 x62) ∧ ∃ x63 : Bool, cl H59 b61 ((o61 + (1 : Int).toNat * 3) + 1) = some (.bool x63) ∧ ∃ (A64 : Option Addr) (n64 c64 : Nat), cl H59 b61 (((o61 + (1 :
    Int).toNat * 3) + 1) + 1) = some (.slice A64 n64 c64) ∧ HCalls Try.prog 25 [.agg #[.int .i64 x62, .bool x63, .slice A64 n64 c64], .int .i64 2] H59 fun v65 H66 => ∃ x67 : Bool, v65 = .bool x67 ∧ cnd (!x67) (J140 true
    H66) (0 ≤ (1 : Int) ∧ (1 : Int) < ((n17 : Nat) : Int) ∧ onPtr A17 fun b68 o68 => ∃ x69 : Int, cl H66 b68 (o68 + (1 : Int).toNat * 3) = some (.int .i64 x69) ∧ ∃ x70 : Bool, cl H66 b68 ((o68 + (1 : Int).toNat * 3) + 1)
    = some (.bool x70) ∧ ∃ (A71 : Option Addr) (n71 c71 : Nat), cl H66 b68 (((o68 + (1 : Int).toNat * 3) + 1) + 1) = some (.slice A71 n71 c71) ∧ HCalls Try.prog 25 [.agg #[.int .i64 x69, .bool x70, .slice A71 n71 c71],
    .int .i64 3] H66 fun v72 H73 => ∃ x74 : Bool, v72 = .bool x74 ∧ cnd x74 (0 ≤ (0 : Int) ∧ (0 : Int) < ((n17 : Nat) : Int) ∧ onPtr A17 fun b75 o75 => ∃ x76 : Int, cl H73 b75 (o75 + (0 : Int).toNat * 3) = some (.int .i64
    x76) ∧ ∃ x77 : Bool, cl H73 b75 ((o75 + (0 : Int).toNat * 3) + 1) = some (.bool x77) ∧ ∃ (A78 : Option Addr) (n78 c78 : Nat), cl H73 b75 (((o75 + (0 : Int).toNat * 3) + 1) + 1) = some (.slice A78 n78 c78) ∧ HCalls
    Try.prog 25 [.agg #[.int .i64 x76, .bool x77, .slice A78 n78 c78], .int .i64 3] H73 fun v79 H80 => ∃ x81 : Bool, v79 = .bool x81 ∧ J140 (!x81) H80) (J140 false H73))) (0 ≤ (1 : Int) ∧ (1 : Int) < ((n17 : Nat) : Int) ∧
    onPtr A17 fun b82 o82 => ∃ x83 : Int, cl H59 b82 (o82 + (1 : Int).toNat * 3) = some (.int .i64 x83) ∧ ∃ x84 : Bool, cl H59 b82 ((o82 + (1 : Int).toNat * 3) + 1) = some (.bool x84) ∧ ∃ (A85 : Option Addr) (n85 c85 :
    Nat), cl H59 b82 (((o82 + (1 : Int).toNat * 3) + 1) + 1) = some (.slice A85 n85 c85) ∧ HCalls Try.prog 25 [.agg #[.int .i64 x83, .bool x84, .slice A85 n85 c85], .int .i64 3] H59 fun v86 H87 => ∃ x88 : Bool, v86 =
    .bool x88 ∧ cnd x88 (0 ≤ (0 : Int) ∧ (0 : Int) < ((n17 : Nat) : Int) ∧ onPtr A17 fun b89 o89 => ∃ x90 : Int, cl H87 b89 (o89 + (0 : Int).toNat * 3) = some (.int .i64 x90) ∧ ∃ x91 : Bool, cl H87 b89 ((o89 + (0 :
    Int).toNat * 3) + 1) = some (.bool x91) ∧ ∃ (A92 : Option Addr) (n92 c92 : Nat), cl H87 b89 (((o89 + (0 : Int).toNat * 3) + 1) + 1) = some (.slice A92 n92 c92) ∧ HCalls Try.prog 25 [.agg #[.int .i64 x90, .bool x91,
    .slice A92 n92 c92], .int .i64 3] H87 fun v93 H94 => ∃ x95 : Bool, v93 = .bool x95 ∧ J140 (!x95) H94) (J140 false H87)))) (0 ≤ (0 : Int) ∧ (0 : Int) < ((n17 : Nat) : Int) ∧ onPtr A17 fun b96 o96 => ∃ x97 : Int, cl H52
    b96 (o96 + (0 : Int).toNat * 3) = some (.int .i64 x97) ∧ ∃ x98 : Bool, cl H52 b96 ((o96 + (0 : Int).toNat * 3) + 1) = some (.bool x98) ∧ ∃ (A99 : Option Addr) (n99 c99 : Nat), cl H52 b96 (((o96 + (0 : Int).toNat * 3)
    + 1) + 1) = some (.slice A99 n99 c99) ∧ HCalls Try.prog 25 [.agg #[.int .i64 x97, .bool x98, .slice A99 n99 c99], .int .i64 3] H52 fun v100 H101 => ∃ x102 : Bool, v100 = .bool x102 ∧ cnd x102 (0 ≤ (1 : Int) ∧ (1 :
    Int) < ((n17 : Nat) : Int) ∧ onPtr A17 fun b103 o103 => ∃ x104 : Int, cl H101 b103 (o103 + (1 : Int).toNat * 3) = some (.int .i64 x104) ∧ ∃ x105 : Bool, cl H101 b103 ((o103 + (1 : Int).toNat * 3) + 1) = some (.bool
    x105) ∧ ∃ (A106 : Option Addr) (n106 c106 : Nat), cl H101 b103 (((o103 + (1 : Int).toNat * 3) + 1) + 1) = some (.slice A106 n106 c106) ∧ HCalls Try.prog 25 [.agg #[.int .i64 x104, .bool x105, .slice A106 n106 c106],
    .int .i64 2] H101 fun v107 H108 => ∃ x109 : Bool, v107 = .bool x109 ∧ cnd (!x109) (J140 true H108) (0 ≤ (1 : Int) ∧ (1 : Int) < ((n17 : Nat) : Int) ∧ onPtr A17 fun b110 o110 => ∃ x111 : Int, cl H108 b110 (o110 + (1 :
    Int).toNat * 3) = some (.int .i64 x111) ∧ ∃ x112 : Bool, cl H108 b110 ((o110 + (1 : Int).toNat * 3) + 1) = some (.bool x112) ∧ ∃ (A113 : Option Addr) (n113 c113 : Nat), cl H108 b110 (((o110 + (1 : Int).toNat * 3) + 1)
    + 1) = some (.slice A113 n113 c113) ∧ HCalls Try.prog 25 [.agg #[.int .i64 x111, .bool x112, .slice A113 n113 c113], .int .i64 3] H108 fun v114 H115 => ∃ x116 : Bool, v114 = .bool x116 ∧ cnd x116 (0 ≤ (0 : Int) ∧ (0 :
    Int) < ((n17 : Nat) : Int) ∧ onPtr A17 fun b117 o117 => ∃ x118 : Int, cl H115 b117 (o117 + (0 : Int).toNat * 3) = some (.int .i64 x118) ∧ ∃ x119 : Bool, cl H115 b117 ((o117 + (0 : Int).toNat * 3) + 1) = some (.bool
    x119) ∧ ∃ (A120 : Option Addr) (n120 c120 : Nat), cl H115 b117 (((o117 + (0 : Int).toNat * 3) + 1) + 1) = some (.slice A120 n120 c120) ∧ HCalls Try.prog 25 [.agg #[.int .i64 x118, .bool x119, .slice A120 n120 c120],
    .int .i64 3] H115 fun v121 H122 => ∃ x123 : Bool, v121 = .bool x123 ∧ J140 (!x123) H122) (J140 false H115))) (0 ≤ (1 : Int) ∧ (1 : Int) < ((n17 : Nat) : Int) ∧ onPtr A17 fun b124 o124 => ∃ x125 : Int, cl H101 b124
    (o124 + (1 : Int).toNat * 3) = some (.int .i64 x125) ∧ ∃ x126 : Bool, cl H101 b124 ((o124 + (1 : Int).toNat * 3) + 1) = some (.bool x126) ∧ ∃ (A127 : Option Addr) (n127 c127 : Nat), cl H101 b124 (((o124 + (1 :
    Int).toNat * 3) + 1) + 1) = some (.slice A127 n127 c127) ∧ HCalls Try.prog 25 [.agg #[.int .i64 x125, .bool x126, .slice A127 n127 c127], .int .i64 3] H101 fun v128 H129 => ∃ x130 : Bool, v128 = .bool x130 ∧ cnd x130
    (0 ≤ (0 : Int) ∧ (0 : Int) < ((n17 : Nat) : Int) ∧ onPtr A17 fun b131 o131 => ∃ x132 : Int, cl H129 b131 (o131 + (0 : Int).toNat * 3) = some (.int .i64 x132) ∧ ∃ x133 : Bool, cl H129 b131 ((o131 + (0 : Int).toNat * 3)
    + 1) = some (.bool x133) ∧ ∃ (A134 : Option Addr) (n134 c134 : Nat), cl H129 b131 (((o131 + (0 : Int).toNat * 3) + 1) + 1) = some (.slice A134 n134 c134) ∧ HCalls Try.prog 25 [.agg #[.int .i64 x132, .bool x133, .slice
    A134 n134 c134], .int .i64 3] H129 fun v135 H136 => ∃ x137 : Bool, v135 = .bool x137 ∧ J140 (!x137) H136) (J140 false H129)))) fun J53 => 0 ≤ (0 : Int) ∧ (0 : Int) < ((n17 : Nat) : Int) ∧ onPtr A17 fun b37 o37 => ∃
    x38 : Int, cl H35 b37 (o37 + (0 : Int).toNat * 3) = some (.int .i64 x38) ∧ ∃ x39 : Bool, cl H35 b37 ((o37 + (0 : Int).toNat * 3) + 1) = some (.bool x39) ∧ ∃ (A40 : Option Addr) (n40 c40 : Nat), cl H35 b37 (((o37 + (0
    : Int).toNat * 3) + 1) + 1) = some (.slice A40 n40 c40) ∧ HCalls Try.prog 25 [.agg #[.int .i64 x38, .bool x39, .slice A40 n40 c40], .int .i64 4] H35 fun v41 H42 => ∃ x43 : Bool, v41 = .bool x43 ∧ cnd x43 (J53 true
    H42) (0 ≤ (1 : Int) ∧ (1 : Int) < ((n17 : Nat) : Int) ∧ onPtr A17 fun b44 o44 => ∃ x45 : Int, cl H42 b44 (o44 + (1 : Int).toNat * 3) = some (.int .i64 x45) ∧ ∃ x46 : Bool, cl H42 b44 ((o44 + (1 : Int).toNat * 3) + 1)
    = some (.bool x46) ∧ ∃ (A47 : Option Addr) (n47 c47 : Nat), cl H42 b44 (((o44 + (1 : Int).toNat * 3) + 1) + 1) = some (.slice A47 n47 c47) ∧ HCalls Try.prog 25 [.agg #[.int .i64 x45, .bool x46, .slice A47 n47 c47],
    .int .i64 4] H42 fun v48 H49 => ∃ x50 : Bool, v48 = .bool x50 ∧ J53 x50 H49)) fun J36 => 0 ≤ (0 : Int) ∧ (0 : Int) < ((n17 : Nat) : Int) ∧ onPtr A17 fun b20 o20 => ∃ x21 : Int, cl H16 b20 (o20 + (0 : Int).toNat * 3) =
    some (.int .i64 x21) ∧ ∃ x22 : Bool, cl H16 b20 ((o20 + (0 : Int).toNat * 3) + 1) = some (.bool x22) ∧ ∃ (A23 : Option Addr) (n23 c23 : Nat), cl H16 b20 (((o20 + (0 : Int).toNat * 3) + 1) + 1) = some (.slice A23 n23
    c23) ∧ HCalls Try.prog 25 [.agg #[.int .i64 x21, .bool x22, .slice A23 n23 c23], .int .i64 3] H16 fun v24 H25 => ∃ x26 : Bool, v24 = .bool x26 ∧ cnd x26 (J36 true H25) (0 ≤ (1 : Int) ∧ (1 : Int) < ((n17 : Nat) : Int)
    ∧ onPtr A17 fun b27 o27 => ∃ x28 : Int, cl H25 b27 (o27 + (1 : Int).toNat * 3) = some (.int .i64 x28) ∧ ∃ x29 : Bool, cl H25 b27 ((o27 + (1 : Int).toNat * 3) + 1) = some (.bool x29) ∧ ∃ (A30 : Option Addr) (n30 c30 :
    Nat), cl H25 b27 (((o27 + (1 : Int).toNat * 3) + 1) + 1) = some (.slice A30 n30 c30) ∧ HCalls Try.prog 25 [.agg #[.int .i64 x28, .bool x29, .slice A30 n30 c30], .int .i64 3] H25 fun v31 H32 => ∃ x33 : Bool, v31 =
    .bool x33 ∧ J36 x33 H32)))) (HCalls Try.prog 9 [] H9 fun v177 H178 => ∃ x179 : Bool, v177 = .bool x179 ∧ Q (.bool x179) H178))
noncomputable def fcx5 : Cx := cx 178 [(3, true), (5, true), (6, true)] [(5, ⟨[3, 19, 20], [], [(21, .int .i64)], [(3, [.slice, .slice])]⟩), (16, ⟨[3, 6, 19, 20, 21], [3, 6], [(95, .int .i64)], []⟩), (22, ⟨[3, 6, 10, 19, 20, 21, 95, 150], [3, 6], [(151, .int .i64)], []⟩)] [(18, (.look 0 (.look 1 (.look 2 (.look 3 (.look 4 (.look 5 (.look 6 (.look 7 (.look 8 (.look 9 (.look 10 (.look 11 (.look 12 (.look 13 (.act 14 (.act 15 .done .done) .done)))))))))))))))), (24, (.look 0 (.look 1 (.look 2 (.look 3 (.look 4 (.look 5 (.look 6 (.look 7 (.look 8 (.look 9 (.look 10 (.look 11 (.look 12 (.look 13 (.look 14 (.look 15 (.look 16 (.look 17 (.look 18 .done))))))))))))))))))))]
theorem f5.eq (pl_A : Option Addr) (pl_n pl_c : Nat) (H : Hp) (Q : Value → Hp → Prop) : f5 pl_A pl_n pl_c H Q = wFun fcx5 Try.f5 [.slice pl_A pl_n pl_c] H Q := by kernel_rfl
theorem f5.ok (pl_A : Option Addr) (pl_n pl_c : Nat) {H : Hp} {Q : Value → Hp → Prop} (h : f5 pl_A pl_n pl_c H Q) : HCalls Try.prog 5 [.slice pl_A pl_n pl_c] H Q := hcalls_of (cxOk 178 [(3, true), (5, true), (6, true)] [(5, ⟨[3, 19, 20], [], [(21, .int .i64)], [(3, [.slice, .slice])]⟩), (16, ⟨[3, 6, 19, 20, 21], [3, 6], [(95, .int .i64)], []⟩), (22, ⟨[3, 6, 10, 19, 20, 21, 95, 150], [3, 6], [(151, .int .i64)], []⟩)] [(18, (.look 0 (.look 1 (.look 2 (.look 3 (.look 4 (.look 5 (.look 6 (.look 7 (.look 8 (.look 9 (.look 10 (.look 11 (.look 12 (.look 13 (.act 14 (.act 15 .done .done) .done)))))))))))))))), (24, (.look 0 (.look 1 (.look 2 (.look 3 (.look 4 (.look 5 (.look 6 (.look 7 (.look 8 (.look 9 (.look 10 (.look 11 (.look 12 (.look 13 (.look 14 (.look 15 (.look 16 (.look 17 (.look 18 .done))))))))))))))))))))]) Try.func5 (Eq.mp (f5.eq pl_A pl_n pl_c H Q) h)

/-- justiciar justiciarlaw23.PairEnds -/
def f6 (pl_A : Option Addr) (pl_n pl_c : Nat) (H : Hp) (Q : Value → Hp → Prop) : Prop :=
  cnd (decide ((((pl_n : Nat) : Int) : Int) > 300)) (HCalls Try.prog 9 [] H fun v1 H2 => ∃ x3 : Bool, v1 = .bool x3 ∧ Q (.bool x3) H2) (HCalls Try.prog 22 [.slice pl_A pl_n pl_c] H fun v4 H5 => ∃ (A6 : Option Addr) (n6 c6 :
    Nat), ∃ (A7 : Option Addr) (n7 c7 : Nat), ∃ (A8 : Option Addr) (n8 c8 : Nat), v4 = .tuple #[.agg #[.slice A6 n6 c6, .slice A7 n7 c7], .slice A8 n8 c8] ∧ HCalls Try.prog 20 [.agg #[.slice A6 n6 c6, .slice A7 n7 c7]] H5
    fun v9 H10 => ∃ (A11 : Option Addr) (n11 c11 : Nat), ∃ x12 : Int, v9 = .tuple #[.slice A11 n11 c11, .int .i64 x12] ∧ jn (fun (j13 : Bool) => cnd j13 (Q (.bool false) H10) (LoopF (σ := (Bool × (Int × Unit)) × (((Option
    Addr × Nat × Nat) × ((Option Addr × Nat × Nat) × Unit)) × Unit)) ((false, (0, ())), (((A6, n6, c6), ((A7, n7, c7), ())), ())) H10 fun s15 H16 next17 => cnd (decide ((s15.1.2.1 : Int) < ((n11 : Nat) : Int))) (0 ≤
    (s15.1.2.1 : Int) ∧ (s15.1.2.1 : Int) < ((n11 : Nat) : Int) ∧ onPtr A11 fun b18 o18 => ∃ x19 : Int, cl H16 b18 (o18 + (s15.1.2.1 : Int).toNat * 3) = some (.int .i64 x19) ∧ ∃ x20 : Int, cl H16 b18 ((o18 + (s15.1.2.1 :
    Int).toNat * 3) + 1) = some (.int .i64 x20) ∧ ∃ x21 : Int, cl H16 b18 (((o18 + (s15.1.2.1 : Int).toNat * 3) + 1) + 1) = some (.int .i64 x21) ∧ jn (fun (j24 : Bool) => HCalls Try.prog 11 [.agg #[.slice s15.2.1.1.1
    s15.2.1.1.2.1 s15.2.1.1.2.2, .slice s15.2.1.2.1.1 s15.2.1.2.1.2.1 s15.2.1.2.1.2.2], .agg #[.int .i64 x19, .int .i64 x20, .int .i64 x21]] H16 fun v26 H27 => ∃ (A28 : Option Addr) (n28 c28 : Nat), ∃ (A29 : Option Addr)
    (n29 c29 : Nat), ∃ x30 : Int, v26 = .tuple #[.agg #[.slice A28 n28 c28, .slice A29 n29 c29], .int .i64 x30] ∧ cnd ((x30 : Int) != 0) (Q (.bool false) H27) (KeepX [some (.loc 3 0), some (.v (.slice A11 n11 c11)), some
    (.v (.int .i64 ((n11 : Nat) : Int)))] [] ∧ next17 ((j24, (IntKind.i64.wrap (s15.1.2.1 + 1), ())), (((A28, n28, c28), ((A29, n29, c29), ())), ())) H27)) fun J25 => cnd ((x19 : Int) == 7) (cnd s15.1.1 (Q (.bool false)
    H16) (J25 s15.1.1)) (jn (fun (j22 : Bool) => cnd j22 (J25 true) (Q (.bool false) H16)) fun J23 => cnd ((x19 : Int) == 3) (J23 ((x19 : Int) == 3)) (cnd ((x19 : Int) == 2) (J23 ((x19 : Int) == 2)) (cnd ((x19 : Int) ==
    8) (J23 ((x19 : Int) == 8)) (J23 ((x19 : Int) == 9)))))) (HCalls Try.prog 18 [.agg #[.slice s15.2.1.1.1 s15.2.1.1.2.1 s15.2.1.1.2.2, .slice s15.2.1.2.1.1 s15.2.1.2.1.2.1 s15.2.1.2.1.2.2]] H16 fun v31 H32 => ∃ x33 :
    Bool, ∃ x34 : Int, v31 = .tuple #[.bool x33, .int .i64 x34] ∧ jn (fun (j38 : Bool) (H39 : Hp) => Q (.bool j38) H39) fun J40 => cnd x33 (cnd ((x34 : Int) == 0) (HCalls Try.prog 9 [] H32 fun v35 H36 => ∃ x37 : Bool, v35
    = .bool x37 ∧ J40 x37 H36) (J40 false H32)) (J40 false H32)))) fun J14 => cnd ((x12 : Int) != 0) (J14 true) (J14 (decide ((((n11 : Nat) : Int) : Int) > 60))))
noncomputable def fcx6 : Cx := cx 74 [(3, true), (9, true), (10, true)] [(9, ⟨[3, 35, 36], [], [(7, .bool), (37, .int .i64)], [(3, [.slice, .slice])]⟩)] []
theorem f6.eq (pl_A : Option Addr) (pl_n pl_c : Nat) (H : Hp) (Q : Value → Hp → Prop) : f6 pl_A pl_n pl_c H Q = wFun fcx6 Try.f6 [.slice pl_A pl_n pl_c] H Q := by kernel_rfl
theorem f6.ok (pl_A : Option Addr) (pl_n pl_c : Nat) {H : Hp} {Q : Value → Hp → Prop} (h : f6 pl_A pl_n pl_c H Q) : HCalls Try.prog 6 [.slice pl_A pl_n pl_c] H Q := hcalls_of (cxOk 74 [(3, true), (9, true), (10, true)] [(9, ⟨[3, 35, 36], [], [(7, .bool), (37, .int .i64)], [(3, [.slice, .slice])]⟩)] []) Try.func6 (Eq.mp (f6.eq pl_A pl_n pl_c H Q) h)

/-- justiciar justiciarlaw23.PairAlone -/
def f7 (pl_A : Option Addr) (pl_n pl_c : Nat) (pa_0 : Int) (pa_1 : Int) (pa_2 : Int) (H : Hp) (Q : Value → Hp → Prop) : Prop :=
  cnd (decide ((((pl_n : Nat) : Int) : Int) > 300)) (HCalls Try.prog 9 [] H fun v1 H2 => ∃ x3 : Bool, v1 = .bool x3 ∧ Q (.bool x3) H2) (HCalls Try.prog 22 [.slice pl_A pl_n pl_c] H fun v4 H5 => ∃ (A6 : Option Addr) (n6 c6 :
    Nat), ∃ (A7 : Option Addr) (n7 c7 : Nat), ∃ (A8 : Option Addr) (n8 c8 : Nat), v4 = .tuple #[.agg #[.slice A6 n6 c6, .slice A7 n7 c7], .slice A8 n8 c8] ∧ cnd ((((n6 : Nat) : Int) : Int) != 2) (Q (.bool false) H5) (0 ≤
    (1 : Int) ∧ (1 : Int) < ((n6 : Nat) : Int) ∧ onPtr A6 fun b9 o9 => ∃ x10 : Int, cl H5 b9 (o9 + (1 : Int).toNat * 3) = some (.int .i64 x10) ∧ ∃ x11 : Bool, cl H5 b9 ((o9 + (1 : Int).toNat * 3) + 1) = some (.bool x11) ∧
    ∃ (A12 : Option Addr) (n12 c12 : Nat), cl H5 b9 (((o9 + (1 : Int).toNat * 3) + 1) + 1) = some (.slice A12 n12 c12) ∧ HCalls Try.prog 11 [.agg #[.slice A6 n6 c6, .slice A7 n7 c7], .agg #[.int .i64 9, .int .i64 1, .int
    .i64 0]] H5 fun v13 H14 => ∃ (A15 : Option Addr) (n15 c15 : Nat), ∃ (A16 : Option Addr) (n16 c16 : Nat), ∃ x17 : Int, v13 = .tuple #[.agg #[.slice A15 n15 c15, .slice A16 n16 c16], .int .i64 x17] ∧ jn (HCalls Try.prog
    11 [.agg #[.slice A6 n6 c6, .slice A7 n7 c7], .agg #[.int .i64 pa_0, .int .i64 pa_1, .int .i64 pa_2]] H14 fun v25 H26 => ∃ (A27 : Option Addr) (n27 c27 : Nat), ∃ (A28 : Option Addr) (n28 c28 : Nat), ∃ x29 : Int, v25 =
    .tuple #[.agg #[.slice A27 n27 c27, .slice A28 n28 c28], .int .i64 x29] ∧ jn (fun (j30 : Bool) => cnd j30 (HCalls Try.prog 9 [] H26 fun v32 H33 => ∃ x34 : Bool, v32 = .bool x34 ∧ Q (.bool x34) H33) (jn (fun (j42 :
    Bool) (H43 : Hp) => Q (.bool j42) H43) fun J44 => cnd ((((n27 : Nat) : Int) : Int) == 2) (0 ≤ (1 : Int) ∧ (1 : Int) < ((n27 : Nat) : Int) ∧ onPtr A27 fun b35 o35 => ∃ x36 : Int, cl H26 b35 ((o35 + (1 : Int).toNat * 3)
    + 0) = some (.int .i64 x36) ∧ cnd ((x36 : Int) == 2) (0 ≤ (1 : Int) ∧ (1 : Int) < ((n27 : Nat) : Int) ∧ onPtr A27 fun b37 o37 => ∃ (A38 : Option Addr) (n38 c38 : Nat), cl H26 b37 ((o37 + (1 : Int).toNat * 3) + 2) =
    some (.slice A38 n38 c38) ∧ cnd ((((n38 : Nat) : Int) : Int) == ((n12 : Nat) : Int)) (HCalls Try.prog 9 [] H26 fun v39 H40 => ∃ x41 : Bool, v39 = .bool x41 ∧ J44 x41 H40) (J44 false H26)) (J44 false H26)) (J44 false
    H26))) fun J31 => cnd ((x29 : Int) != 0) (J31 true) (cnd (!x11) (J31 true) (cnd ((x10 : Int) != 2) (J31 true) (cnd ((pa_0 : Int) == 3) (J31 true) (J31 ((pa_0 : Int) == 6)))))) fun J24 => jn (fun (j18 : Bool) => cnd
    j18 (jn (fun (j22 : Bool) => cnd j22 (Q (.bool false) H14) (J24)) fun J23 => cnd ((x17 : Int) != 0) (J23 true) (cnd ((((n15 : Nat) : Int) : Int) != 2) (J23 true) (0 ≤ (1 : Int) ∧ (1 : Int) < ((n15 : Nat) : Int) ∧
    onPtr A15 fun b20 o20 => ∃ x21 : Int, cl H14 b20 ((o20 + (1 : Int).toNat * 3) + 0) = some (.int .i64 x21) ∧ J23 ((x21 : Int) != 4)))) (cnd ((x17 : Int) != 5) (Q (.bool false) H14) (J24))) fun J19 => cnd x11 (J19 ((x10
    : Int) == 1)) (J19 false)))
noncomputable def fcx7 : Cx := cx 116 [(3, true), (5, true), (7, true), (8, true), (10, true)] [] [(16, (.look 0 (.look 1 (.look 2 (.look 3 (.look 4 (.look 5 (.look 6 (.look 7 (.look 8 (.look 9 (.look 10 (.look 11 (.look 12 (.look 13 (.look 14 (.look 15 (.look 16 (.look 17 (.look 18 (.look 19 (.look 20 (.look 21 (.look 22 (.look 23 (.look 24 (.act 25 (.look 26 (.act 27 .done .done)) .done)))))))))))))))))))))))))))]
theorem f7.eq (pl_A : Option Addr) (pl_n pl_c : Nat) (pa_0 : Int) (pa_1 : Int) (pa_2 : Int) (H : Hp) (Q : Value → Hp → Prop) : f7 pl_A pl_n pl_c pa_0 pa_1 pa_2 H Q = wFun fcx7 Try.f7 [.slice pl_A pl_n pl_c, .agg #[.int .i64 pa_0, .int .i64 pa_1, .int .i64 pa_2]] H Q := by kernel_rfl
theorem f7.ok (pl_A : Option Addr) (pl_n pl_c : Nat) (pa_0 : Int) (pa_1 : Int) (pa_2 : Int) {H : Hp} {Q : Value → Hp → Prop} (h : f7 pl_A pl_n pl_c pa_0 pa_1 pa_2 H Q) : HCalls Try.prog 7 [.slice pl_A pl_n pl_c, .agg #[.int .i64 pa_0, .int .i64 pa_1, .int .i64 pa_2]] H Q := hcalls_of (cxOk 116 [(3, true), (5, true), (7, true), (8, true), (10, true)] [] [(16, (.look 0 (.look 1 (.look 2 (.look 3 (.look 4 (.look 5 (.look 6 (.look 7 (.look 8 (.look 9 (.look 10 (.look 11 (.look 12 (.look 13 (.look 14 (.look 15 (.look 16 (.look 17 (.look 18 (.look 19 (.look 20 (.look 21 (.look 22 (.look 23 (.look 24 (.act 25 (.look 26 (.act 27 .done .done)) .done)))))))))))))))))))))))))))]) Try.func7 (Eq.mp (f7.eq pl_A pl_n pl_c pa_0 pa_1 pa_2 H Q) h)

/-- justiciar justiciarref23.Few -/
def f8 (pp_0_A : Option Addr) (pp_0_n pp_0_c : Nat) (pp_1_A : Option Addr) (pp_1_n pp_1_c : Nat) (H : Hp) (Q : Value → Hp → Prop) : Prop :=
  LoopF (σ := (Int × (Int × Unit)) × Unit) ((IntKind.i64.wrap (((pp_0_n : Nat) : Int) + ((pp_1_n : Nat) : Int)), (0, ())), ()) H fun s1 H2 next3 => jn (fun (j4 : Bool) => cnd j4 (0 ≤ (s1.1.2.1 : Int) ∧ (s1.1.2.1 : Int) <
    ((pp_0_n : Nat) : Int) ∧ onPtr pp_0_A fun b6 o6 => ∃ (A7 : Option Addr) (n7 c7 : Nat), cl H2 b6 ((o6 + (s1.1.2.1 : Int).toNat * 3) + 2) = some (.slice A7 n7 c7) ∧ KeepX [some (.loc 1 0)] [some (true, [.slice pp_0_A
    pp_0_n pp_0_c, .slice pp_1_A pp_1_n pp_1_c])] ∧ next3 ((IntKind.i64.wrap (s1.1.1 + ((n7 : Nat) : Int)), (IntKind.i64.wrap (s1.1.2.1 + 1), ())), ()) H2) (Q (.bool (decide ((s1.1.1 : Int) < 1000))) H2)) fun J5 => cnd
    (decide ((s1.1.2.1 : Int) < ((pp_0_n : Nat) : Int))) (J5 (decide ((s1.1.1 : Int) < 1000))) (J5 false)
noncomputable def fcx8 : Cx := cx 34 [(1, true)] [(3, ⟨[1], [1], [(3, .int .i64), (4, .int .i64)], []⟩)] []
theorem f8.eq (pp_0_A : Option Addr) (pp_0_n pp_0_c : Nat) (pp_1_A : Option Addr) (pp_1_n pp_1_c : Nat) (H : Hp) (Q : Value → Hp → Prop) : f8 pp_0_A pp_0_n pp_0_c pp_1_A pp_1_n pp_1_c H Q = wFun fcx8 Try.f8 [.agg #[.slice pp_0_A pp_0_n pp_0_c, .slice pp_1_A pp_1_n pp_1_c]] H Q := by kernel_rfl
theorem f8.ok (pp_0_A : Option Addr) (pp_0_n pp_0_c : Nat) (pp_1_A : Option Addr) (pp_1_n pp_1_c : Nat) {H : Hp} {Q : Value → Hp → Prop} (h : f8 pp_0_A pp_0_n pp_0_c pp_1_A pp_1_n pp_1_c H Q) : HCalls Try.prog 8 [.agg #[.slice pp_0_A pp_0_n pp_0_c, .slice pp_1_A pp_1_n pp_1_c]] H Q := hcalls_of (cxOk 34 [(1, true)] [(3, ⟨[1], [1], [(3, .int .i64), (4, .int .i64)], []⟩)] []) Try.func8 (Eq.mp (f8.eq pp_0_A pp_0_n pp_0_c pp_1_A pp_1_n pp_1_c H Q) h)

/-- justiciar justiciarlaw23.awake -/
def f9  (H : Hp) (Q : Value → Hp → Prop) : Prop :=
  HCalls Try.prog 26 [] H fun v1 H2 => ∃ (A3 : Option Addr) (n3 c3 : Nat), v1 = .slice A3 n3 c3 ∧ HCalls Try.prog 22 [.slice A3 n3 c3] H2 fun v4 H5 => ∃ (A6 : Option Addr) (n6 c6 : Nat), ∃ (A7 : Option Addr) (n7 c7 : Nat),
    ∃ (A8 : Option Addr) (n8 c8 : Nat), v4 = .tuple #[.agg #[.slice A6 n6 c6, .slice A7 n7 c7], .slice A8 n8 c8] ∧ HCalls Try.prog 14 [.agg #[.slice A6 n6 c6, .slice A7 n7 c7]] H5 fun v9 H10 => ∃ x11 : Int, ∃ x12 : Int,
    v9 = .tuple #[.int .i64 x11, .int .i64 x12] ∧ HCalls Try.prog 18 [.agg #[.slice A6 n6 c6, .slice A7 n7 c7]] H10 fun v13 H14 => ∃ x15 : Bool, ∃ x16 : Int, v13 = .tuple #[.bool x15, .int .i64 x16] ∧ HCalls Try.prog 26
    [] H14 fun v17 H18 => ∃ (A19 : Option Addr) (n19 c19 : Nat), v17 = .slice A19 n19 c19 ∧ 0 ≤ (3 : Int) ∧ (3 : Int) ≤ ((c19 : Nat) : Int) ∧ 0 ≤ (3 : Int) ∧ (3 : Int) ≤ (3 : Int) ∧ newF H18 28 [.int .i64 6, .int .i64 0,
    .int .i64 0] fun g20 H21 => appendF H21 28 3 24 (cutA A19 (0 * 3) (decide (((3 : Int).toNat) = 0))) (((3 : Int).toNat) - 0) (((3 : Int).toNat) - 0) (some ⟨g20, 0, none⟩) 1 fun A22 n22 c22 H23 => HCalls Try.prog 22
    [.slice A22 n22 c22] H23 fun v24 H25 => ∃ (A26 : Option Addr) (n26 c26 : Nat), ∃ (A27 : Option Addr) (n27 c27 : Nat), ∃ (A28 : Option Addr) (n28 c28 : Nat), v24 = .tuple #[.agg #[.slice A26 n26 c26, .slice A27 n27
    c27], .slice A28 n28 c28] ∧ HCalls Try.prog 16 [.agg #[.slice A26 n26 c26, .slice A27 n27 c27]] H25 fun v29 H30 => ∃ x31 : Bool, ∃ x32 : Int, v29 = .tuple #[.bool x31, .int .i64 x32] ∧ HCalls Try.prog 20 [.agg
    #[.slice A26 n26 c26, .slice A27 n27 c27]] H30 fun v33 H34 => ∃ (A35 : Option Addr) (n35 c35 : Nat), ∃ x36 : Int, v33 = .tuple #[.slice A35 n35 c35, .int .i64 x36] ∧ HCalls Try.prog 11 [.agg #[.slice A26 n26 c26,
    .slice A27 n27 c27], .agg #[.int .i64 2, .int .i64 0, .int .i64 0]] H34 fun v37 H38 => ∃ (A39 : Option Addr) (n39 c39 : Nat), ∃ (A40 : Option Addr) (n40 c40 : Nat), ∃ x41 : Int, v37 = .tuple #[.agg #[.slice A39 n39
    c39, .slice A40 n40 c40], .int .i64 x41] ∧ HCalls Try.prog 11 [.agg #[.slice A26 n26 c26, .slice A27 n27 c27], .agg #[.int .i64 6, .int .i64 2, .int .i64 0]] H38 fun v42 H43 => ∃ (A44 : Option Addr) (n44 c44 : Nat), ∃
    (A45 : Option Addr) (n45 c45 : Nat), ∃ x46 : Int, v42 = .tuple #[.agg #[.slice A44 n44 c44, .slice A45 n45 c45], .int .i64 x46] ∧ HCalls Try.prog 11 [.agg #[.slice A26 n26 c26, .slice A27 n27 c27], .agg #[.int .i64 0,
    .int .i64 0, .int .i64 0]] H43 fun v47 H48 => ∃ (A49 : Option Addr) (n49 c49 : Nat), ∃ (A50 : Option Addr) (n50 c50 : Nat), ∃ x51 : Int, v47 = .tuple #[.agg #[.slice A49 n49 c49, .slice A50 n50 c50], .int .i64 x51] ∧
    jn (fun (j52 : Bool) => cnd j52 (Q (.bool false) H48) (jn (fun (j69 : Bool) (H70 : Hp) => Q (.bool j69) H70) fun J71 => 0 ≤ (0 : Int) ∧ (0 : Int) < ((n6 : Nat) : Int) ∧ onPtr A6 fun b54 o54 => ∃ x55 : Int, cl H48 b54
    ((o54 + (0 : Int).toNat * 3) + 0) = some (.int .i64 x55) ∧ cnd ((x55 : Int) == 3) (0 ≤ (1 : Int) ∧ (1 : Int) < ((n6 : Nat) : Int) ∧ onPtr A6 fun b56 o56 => ∃ x57 : Int, cl H48 b56 ((o56 + (1 : Int).toNat * 3) + 0) =
    some (.int .i64 x57) ∧ cnd ((x57 : Int) == 3) (cnd ((x11 : Int) == 3) (cnd ((x12 : Int) == 0) (cnd x15 (cnd ((x16 : Int) == 0) (cnd x31 (cnd ((x32 : Int) == 0) (cnd (decide ((((n35 : Nat) : Int) : Int) > 0)) (cnd
    ((x36 : Int) == 0) (cnd ((x41 : Int) == 5) (cnd ((x46 : Int) == 21) (cnd ((x51 : Int) == 2) (HCalls Try.prog 24 [] H48 fun v58 H59 => ∃ (A60 : Option Addr) (n60 c60 : Nat), ∃ (A61 : Option Addr) (n61 c61 : Nat), v58 =
    .agg #[.slice A60 n60 c60, .slice A61 n61 c61] ∧ HCalls Try.prog 27 [] H59 fun v62 H63 => ∃ (A64 : Option Addr) (n64 c64 : Nat), ∃ (A65 : Option Addr) (n65 c65 : Nat), v62 = .agg #[.slice A64 n64 c64, .slice A65 n65
    c65] ∧ HCalls Try.prog 13 [.agg #[.slice A60 n60 c60, .slice A61 n61 c61], .agg #[.slice A64 n64 c64, .slice A65 n65 c65]] H63 fun v66 H67 => ∃ x68 : Bool, v66 = .bool x68 ∧ J71 x68 H67) (J71 false H48)) (J71 false
    H48)) (J71 false H48)) (J71 false H48)) (J71 false H48)) (J71 false H48)) (J71 false H48)) (J71 false H48)) (J71 false H48)) (J71 false H48)) (J71 false H48)) (J71 false H48)) (J71 false H48))) fun J53 => cnd ((((n6 :
    Nat) : Int) : Int) != 2) (J53 true) (J53 ((((n8 : Nat) : Int) : Int) != 5))
noncomputable def fcx9 : Cx := cx 142 [(1, true), (7, true), (13, true), (15, true), (17, true)] [] []
theorem f9.eq  (H : Hp) (Q : Value → Hp → Prop) : f9  H Q = wFun fcx9 Try.f9 [] H Q := by kernel_rfl
theorem f9.ok  {H : Hp} {Q : Value → Hp → Prop} (h : f9  H Q) : HCalls Try.prog 9 [] H Q := hcalls_of (cxOk 142 [(1, true), (7, true), (13, true), (15, true), (17, true)] [] []) Try.func9 (Eq.mp (f9.eq  H Q) h)

/-- justiciar justiciarref23.Copy -/
def f10 (pp_0_A : Option Addr) (pp_0_n pp_0_c : Nat) (pp_1_A : Option Addr) (pp_1_n pp_1_c : Nat) (H : Hp) (Q : Value → Hp → Prop) : Prop :=
  newF H 66 [] fun g1 H2 => appendF H2 66 2 16 (some ⟨g1, 0, none⟩) 0 0 pp_1_A pp_1_n fun A3 n3 c3 H4 => LoopF (σ := (Int × Unit) × (((Option Addr × Nat × Nat) × ((Option Addr × Nat × Nat) × Unit)) × Unit)) ((0, ()),
    (((none, 0, 0), ((A3, n3, c3), ())), ())) H4 fun s5 H6 next7 => cnd (decide ((s5.1.1 : Int) < ((pp_0_n : Nat) : Int))) (0 ≤ (s5.1.1 : Int) ∧ (s5.1.1 : Int) < ((pp_0_n : Nat) : Int) ∧ onPtr pp_0_A fun b8 o8 => ∃ x9 :
    Int, cl H6 b8 (o8 + (s5.1.1 : Int).toNat * 3) = some (.int .i64 x9) ∧ ∃ x10 : Bool, cl H6 b8 ((o8 + (s5.1.1 : Int).toNat * 3) + 1) = some (.bool x10) ∧ ∃ (A11 : Option Addr) (n11 c11 : Nat), cl H6 b8 (((o8 + (s5.1.1 :
    Int).toNat * 3) + 1) + 1) = some (.slice A11 n11 c11) ∧ newF H6 50 [] fun g12 H13 => appendF H13 50 1 8 (some ⟨g12, 0, none⟩) 0 0 A11 n11 fun A14 n14 c14 H15 => newF H15 53 [.int .i64 x9, .bool x10, .slice A14 n14
    c14] fun g16 H17 => appendF H17 53 3 40 s5.2.1.1.1 s5.2.1.1.2.1 s5.2.1.1.2.2 (some ⟨g16, 0, none⟩) 1 fun A18 n18 c18 H19 => KeepX [some (.loc 2 0), some (.loc 3 0), some (.v (.slice pp_0_A pp_0_n pp_0_c)), some (.v
    (.int .i64 ((pp_0_n : Nat) : Int)))] [some (true, [.slice none 0 0, .slice none 0 0])] ∧ next7 ((IntKind.i64.wrap (s5.1.1 + 1), ()), (((A18, n18, c18), ((s5.2.1.2.1.1, s5.2.1.2.1.2.1, s5.2.1.2.1.2.2), ())), ())) H19)
    (Q (.agg #[.slice s5.2.1.1.1 s5.2.1.1.2.1 s5.2.1.1.2.2, .slice s5.2.1.2.1.1 s5.2.1.2.1.2.1 s5.2.1.2.1.2.2]) H6)
noncomputable def fcx10 : Cx := cx 31 [(1, true), (2, true), (3, true), (5, true)] [(3, ⟨[2, 3, 12, 13], [2], [(14, .int .i64)], [(3, [.slice, .slice])]⟩)] []
theorem f10.eq (pp_0_A : Option Addr) (pp_0_n pp_0_c : Nat) (pp_1_A : Option Addr) (pp_1_n pp_1_c : Nat) (H : Hp) (Q : Value → Hp → Prop) : f10 pp_0_A pp_0_n pp_0_c pp_1_A pp_1_n pp_1_c H Q = wFun fcx10 Try.f10 [.agg #[.slice pp_0_A pp_0_n pp_0_c, .slice pp_1_A pp_1_n pp_1_c]] H Q := by kernel_rfl
theorem f10.ok (pp_0_A : Option Addr) (pp_0_n pp_0_c : Nat) (pp_1_A : Option Addr) (pp_1_n pp_1_c : Nat) {H : Hp} {Q : Value → Hp → Prop} (h : f10 pp_0_A pp_0_n pp_0_c pp_1_A pp_1_n pp_1_c H Q) : HCalls Try.prog 10 [.agg #[.slice pp_0_A pp_0_n pp_0_c, .slice pp_1_A pp_1_n pp_1_c]] H Q := hcalls_of (cxOk 31 [(1, true), (2, true), (3, true), (5, true)] [(3, ⟨[2, 3, 12, 13], [2], [(14, .int .i64)], [(3, [.slice, .slice])]⟩)] []) Try.func10 (Eq.mp (f10.eq pp_0_A pp_0_n pp_0_c pp_1_A pp_1_n pp_1_c H Q) h)

/-- justiciar pair.Do -/
def f11 (pp_0_A : Option Addr) (pp_0_n pp_0_c : Nat) (pp_1_A : Option Addr) (pp_1_n pp_1_c : Nat) (px_0 : Int) (px_1 : Int) (px_2 : Int) (H : Hp) (Q : Value → Hp → Prop) : Prop :=
  jn (fun (j4 : Bool) (H5 : Hp) => cnd j4 (Q (.tuple #[.agg #[.slice none 0 0, .slice none 0 0], .int .i64 2]) H5) (HCalls Try.prog 29 [.agg #[.slice pp_0_A pp_0_n pp_0_c, .slice pp_1_A pp_1_n pp_1_c]] H5 fun v7 H8 => ∃ (A9
    : Option Addr) (n9 c9 : Nat), ∃ (A10 : Option Addr) (n10 c10 : Nat), v7 = .agg #[.slice A9 n9 c9, .slice A10 n10 c10] ∧ newF H8 58 [.slice A9 n9 c9, .slice A10 n10 c10] fun g11 H12 => HCalls Try.prog 30 [.pointer
    (some ⟨g11, 0, none⟩), .agg #[.int .i64 px_0, .int .i64 px_1, .int .i64 px_2]] H12 fun v13 H14 => ∃ x15 : Int, v13 = .int .i64 x15 ∧ cnd ((x15 : Int) != 0) (Q (.tuple #[.agg #[.slice none 0 0, .slice none 0 0], .int
    .i64 x15]) H14) (∃ (A16 : Option Addr) (n16 c16 : Nat), cl H14 g11 ((0 + 0) + 1) = some (.slice A16 n16 c16) ∧ cnd (decide ((((n16 : Nat) : Int) : Int) > 20)) (Q (.tuple #[.agg #[.slice none 0 0, .slice none 0 0],
    .int .i64 3]) H14) (∃ (A17 : Option Addr) (n17 c17 : Nat), cl H14 g11 (0 + 0) = some (.slice A17 n17 c17) ∧ ∃ (A18 : Option Addr) (n18 c18 : Nat), cl H14 g11 ((0 + 0) + 1) = some (.slice A18 n18 c18) ∧ Q (.tuple
    #[.agg #[.slice A17 n17 c17, .slice A18 n18 c18], .int .i64 0]) H14)))) fun J6 => HCalls Try.prog 28 [.agg #[.slice pp_0_A pp_0_n pp_0_c, .slice pp_1_A pp_1_n pp_1_c]] H fun v1 H2 => ∃ x3 : Bool, v1 = .bool x3 ∧ cnd
    (!x3) (J6 true H2) (cnd (decide ((px_0 : Int) < 1)) (J6 true H2) (J6 (decide ((px_0 : Int) > 9)) H2))
noncomputable def fcx11 : Cx := cx 47 [(2, true), (3, true), (4, true)] [] []
theorem f11.eq (pp_0_A : Option Addr) (pp_0_n pp_0_c : Nat) (pp_1_A : Option Addr) (pp_1_n pp_1_c : Nat) (px_0 : Int) (px_1 : Int) (px_2 : Int) (H : Hp) (Q : Value → Hp → Prop) : f11 pp_0_A pp_0_n pp_0_c pp_1_A pp_1_n pp_1_c px_0 px_1 px_2 H Q = wFun fcx11 Try.f11 [.agg #[.slice pp_0_A pp_0_n pp_0_c, .slice pp_1_A pp_1_n pp_1_c], .agg #[.int .i64 px_0, .int .i64 px_1, .int .i64 px_2]] H Q := by kernel_rfl
theorem f11.ok (pp_0_A : Option Addr) (pp_0_n pp_0_c : Nat) (pp_1_A : Option Addr) (pp_1_n pp_1_c : Nat) (px_0 : Int) (px_1 : Int) (px_2 : Int) {H : Hp} {Q : Value → Hp → Prop} (h : f11 pp_0_A pp_0_n pp_0_c pp_1_A pp_1_n pp_1_c px_0 px_1 px_2 H Q) : HCalls Try.prog 11 [.agg #[.slice pp_0_A pp_0_n pp_0_c, .slice pp_1_A pp_1_n pp_1_c], .agg #[.int .i64 px_0, .int .i64 px_1, .int .i64 px_2]] H Q := hcalls_of (cxOk 47 [(2, true), (3, true), (4, true)] [] []) Try.func11 (Eq.mp (f11.eq pp_0_A pp_0_n pp_0_c pp_1_A pp_1_n pp_1_c px_0 px_1 px_2 H Q) h)

/-- justiciar justiciarref23.Do -/
def f12 (pp_0_A : Option Addr) (pp_0_n pp_0_c : Nat) (pp_1_A : Option Addr) (pp_1_n pp_1_c : Nat) (pa_0 : Int) (pa_1 : Int) (pa_2 : Int) (H : Hp) (Q : Value → Hp → Prop) : Prop :=
  jn (fun (j4 : Bool) (H5 : Hp) => cnd j4 (Q (.tuple #[.agg #[.slice none 0 0, .slice none 0 0], .int .i64 2]) H5) (jn (fun (j7 : Bool) => jn (fun (j9 : Bool) => jn (fun (j11 : Bool) => cnd j11 (Q (.tuple #[.agg #[.slice
    none 0 0, .slice none 0 0], .int .i64 21]) H5) (HCalls Try.prog 10 [.agg #[.slice pp_0_A pp_0_n pp_0_c, .slice pp_1_A pp_1_n pp_1_c]] H5 fun v13 H14 => ∃ (A15 : Option Addr) (n15 c15 : Nat), ∃ (A16 : Option Addr) (n16
    c16 : Nat), v13 = .agg #[.slice A15 n15 c15, .slice A16 n16 c16] ∧ newF H14 62 [.slice A15 n15 c15, .slice A16 n16 c16] fun g17 H18 => HCalls Try.prog 31 [.pointer (some ⟨g17, 0, none⟩), .agg #[.int .i64 pa_0, .int
    .i64 pa_1, .int .i64 pa_2]] H18 fun v19 H20 => ∃ x21 : Bool, v19 = .bool x21 ∧ cnd (!x21) (Q (.tuple #[.agg #[.slice none 0 0, .slice none 0 0], .int .i64 5]) H20) (∃ (A22 : Option Addr) (n22 c22 : Nat), cl H20 g17
    ((0 + 0) + 1) = some (.slice A22 n22 c22) ∧ cnd (decide ((((n22 : Nat) : Int) : Int) > 20)) (Q (.tuple #[.agg #[.slice none 0 0, .slice none 0 0], .int .i64 3]) H20) (∃ (A23 : Option Addr) (n23 c23 : Nat), cl H20 g17
    (0 + 0) = some (.slice A23 n23 c23) ∧ ∃ (A24 : Option Addr) (n24 c24 : Nat), cl H20 g17 ((0 + 0) + 1) = some (.slice A24 n24 c24) ∧ Q (.tuple #[.agg #[.slice A23 n23 c23, .slice A24 n24 c24], .int .i64 0]) H20)))) fun
    J12 => cnd j7 (cnd ((pa_1 : Int) != 0) (cnd ((pa_1 : Int) != 1) (J12 true) (cnd j9 (cnd (decide ((pa_2 : Int) < 0)) (J12 true) (J12 (decide ((pa_2 : Int) ≥ ((pp_1_n : Nat) : Int))))) (J12 false))) (cnd j9 (cnd (decide
    ((pa_2 : Int) < 0)) (J12 true) (J12 (decide ((pa_2 : Int) ≥ ((pp_1_n : Nat) : Int))))) (J12 false))) (cnd j9 (cnd (decide ((pa_2 : Int) < 0)) (J12 true) (J12 (decide ((pa_2 : Int) ≥ ((pp_1_n : Nat) : Int))))) (J12
    false))) fun J10 => cnd ((pa_0 : Int) == 3) (J10 true) (cnd ((pa_0 : Int) == 4) (J10 true) (J10 ((pa_0 : Int) == 5)))) fun J8 => cnd ((pa_0 : Int) == 6) (J8 true) (cnd ((pa_0 : Int) == 7) (J8 true) (J8 ((pa_0 : Int)
    == 9))))) fun J6 => HCalls Try.prog 21 [.agg #[.slice pp_0_A pp_0_n pp_0_c, .slice pp_1_A pp_1_n pp_1_c]] H fun v1 H2 => ∃ x3 : Bool, v1 = .bool x3 ∧ cnd (!x3) (J6 true H2) (cnd (decide ((pa_0 : Int) < 1)) (J6 true
    H2) (J6 (decide ((pa_0 : Int) > 9)) H2))
noncomputable def fcx12 : Cx := cx 100 [(2, true), (3, true), (4, true)] [] []
theorem f12.eq (pp_0_A : Option Addr) (pp_0_n pp_0_c : Nat) (pp_1_A : Option Addr) (pp_1_n pp_1_c : Nat) (pa_0 : Int) (pa_1 : Int) (pa_2 : Int) (H : Hp) (Q : Value → Hp → Prop) : f12 pp_0_A pp_0_n pp_0_c pp_1_A pp_1_n pp_1_c pa_0 pa_1 pa_2 H Q = wFun fcx12 Try.f12 [.agg #[.slice pp_0_A pp_0_n pp_0_c, .slice pp_1_A pp_1_n pp_1_c], .agg #[.int .i64 pa_0, .int .i64 pa_1, .int .i64 pa_2]] H Q := by kernel_rfl
theorem f12.ok (pp_0_A : Option Addr) (pp_0_n pp_0_c : Nat) (pp_1_A : Option Addr) (pp_1_n pp_1_c : Nat) (pa_0 : Int) (pa_1 : Int) (pa_2 : Int) {H : Hp} {Q : Value → Hp → Prop} (h : f12 pp_0_A pp_0_n pp_0_c pp_1_A pp_1_n pp_1_c pa_0 pa_1 pa_2 H Q) : HCalls Try.prog 12 [.agg #[.slice pp_0_A pp_0_n pp_0_c, .slice pp_1_A pp_1_n pp_1_c], .agg #[.int .i64 pa_0, .int .i64 pa_1, .int .i64 pa_2]] H Q := hcalls_of (cxOk 100 [(2, true), (3, true), (4, true)] [] []) Try.func12 (Eq.mp (f12.eq pp_0_A pp_0_n pp_0_c pp_1_A pp_1_n pp_1_c pa_0 pa_1 pa_2 H Q) h)

/-- justiciar justiciarref23.Same -/
def f13 (pa_0_A : Option Addr) (pa_0_n pa_0_c : Nat) (pa_1_A : Option Addr) (pa_1_n pa_1_c : Nat) (pb_0_A : Option Addr) (pb_0_n pb_0_c : Nat) (pb_1_A : Option Addr) (pb_1_n pb_1_c : Nat) (H : Hp) (Q : Value → Hp → Prop) : Prop :=
  jn (fun (j1 : Bool) => cnd j1 (Q (.bool false) H) (LoopF (σ := (Int × Unit) × Unit) ((0, ()), ()) H fun s3 H4 next5 => cnd (decide ((s3.1.1 : Int) < ((pa_0_n : Nat) : Int))) (0 ≤ (s3.1.1 : Int) ∧ (s3.1.1 : Int) < ((pa_0_n
    : Nat) : Int) ∧ onPtr pa_0_A fun b6 o6 => ∃ x7 : Int, cl H4 b6 (o6 + (s3.1.1 : Int).toNat * 3) = some (.int .i64 x7) ∧ ∃ x8 : Bool, cl H4 b6 ((o6 + (s3.1.1 : Int).toNat * 3) + 1) = some (.bool x8) ∧ ∃ (A9 : Option
    Addr) (n9 c9 : Nat), cl H4 b6 (((o6 + (s3.1.1 : Int).toNat * 3) + 1) + 1) = some (.slice A9 n9 c9) ∧ 0 ≤ (s3.1.1 : Int) ∧ (s3.1.1 : Int) < ((pb_0_n : Nat) : Int) ∧ onPtr pb_0_A fun b10 o10 => ∃ x11 : Int, cl H4 b10
    (o10 + (s3.1.1 : Int).toNat * 3) = some (.int .i64 x11) ∧ ∃ x12 : Bool, cl H4 b10 ((o10 + (s3.1.1 : Int).toNat * 3) + 1) = some (.bool x12) ∧ ∃ (A13 : Option Addr) (n13 c13 : Nat), cl H4 b10 (((o10 + (s3.1.1 :
    Int).toNat * 3) + 1) + 1) = some (.slice A13 n13 c13) ∧ jn (fun (j14 : Bool) => cnd j14 (Q (.bool false) H4) (LoopF (σ := (Int × Unit) × Unit) ((0, ()), ()) H4 fun s16 H17 next18 => cnd (decide ((s16.1.1 : Int) < ((n9
    : Nat) : Int))) (0 ≤ (s16.1.1 : Int) ∧ (s16.1.1 : Int) < ((n9 : Nat) : Int) ∧ onPtr A9 fun b19 o19 => ∃ x20 : Int, cl H17 b19 (o19 + (s16.1.1 : Int).toNat * 1) = some (.int .i64 x20) ∧ 0 ≤ (s16.1.1 : Int) ∧ (s16.1.1 :
    Int) < ((n13 : Nat) : Int) ∧ onPtr A13 fun b21 o21 => ∃ x22 : Int, cl H17 b21 (o21 + (s16.1.1 : Int).toNat * 1) = some (.int .i64 x22) ∧ cnd ((x20 : Int) != x22) (Q (.bool false) H17) (KeepX [some (.loc 2 0), some
    (.loc 3 0), some (.loc 6 0), some (.loc 7 0), some (.v (.slice pa_0_A pa_0_n pa_0_c)), some (.v (.int .i64 ((pa_0_n : Nat) : Int))), some (.v (.int .i64 s3.1.1)), some (.v (.int .i64 ((n9 : Nat) : Int)))] [some (true,
    [.slice pa_0_A pa_0_n pa_0_c, .slice pa_1_A pa_1_n pa_1_c]), some (true, [.slice pb_0_A pb_0_n pb_0_c, .slice pb_1_A pb_1_n pb_1_c]), some (true, [.int .i64 x7, .bool x8, .slice A9 n9 c9]), some (true, [.int .i64 x11,
    .bool x12, .slice A13 n13 c13])] ∧ next18 ((IntKind.i64.wrap (s16.1.1 + 1), ()), ()) H17)) (KeepX [some (.loc 2 0), some (.loc 3 0), some (.v (.slice pa_0_A pa_0_n pa_0_c)), some (.v (.int .i64 ((pa_0_n : Nat) :
    Int)))] [some (true, [.slice pa_0_A pa_0_n pa_0_c, .slice pa_1_A pa_1_n pa_1_c]), some (true, [.slice pb_0_A pb_0_n pb_0_c, .slice pb_1_A pb_1_n pb_1_c])] ∧ next5 ((IntKind.i64.wrap (s3.1.1 + 1), ()), ()) H17))) fun
    J15 => cnd ((x7 : Int) != x11) (J15 true) (cnd (!(x8 == x12)) (J15 true) (J15 ((((n9 : Nat) : Int) : Int) != ((n13 : Nat) : Int))))) (LoopF (σ := (Int × Unit) × Unit) ((0, ()), ()) H4 fun s23 H24 next25 => cnd (decide
    ((s23.1.1 : Int) < ((pa_1_n : Nat) : Int))) (0 ≤ (s23.1.1 : Int) ∧ (s23.1.1 : Int) < ((pa_1_n : Nat) : Int) ∧ onPtr pa_1_A fun b26 o26 => ∃ x27 : Int, cl H24 b26 (o26 + (s23.1.1 : Int).toNat * 2) = some (.int .i64
    x27) ∧ ∃ x28 : Int, cl H24 b26 ((o26 + (s23.1.1 : Int).toNat * 2) + 1) = some (.int .i64 x28) ∧ 0 ≤ (s23.1.1 : Int) ∧ (s23.1.1 : Int) < ((pb_1_n : Nat) : Int) ∧ onPtr pb_1_A fun b29 o29 => ∃ x30 : Int, cl H24 b29 (o29
    + (s23.1.1 : Int).toNat * 2) = some (.int .i64 x30) ∧ ∃ x31 : Int, cl H24 b29 ((o29 + (s23.1.1 : Int).toNat * 2) + 1) = some (.int .i64 x31) ∧ cnd (!(((x27 : Int) == x30) && (((x28 : Int) == x31) && true))) (Q (.bool
    false) H24) (KeepX [some (.loc 2 0), some (.loc 3 0), some (.v (.int .i64 ((pa_1_n : Nat) : Int)))] [some (true, [.slice pa_0_A pa_0_n pa_0_c, .slice pa_1_A pa_1_n pa_1_c]), some (true, [.slice pb_0_A pb_0_n pb_0_c,
    .slice pb_1_A pb_1_n pb_1_c])] ∧ next25 ((IntKind.i64.wrap (s23.1.1 + 1), ()), ()) H24)) (Q (.bool true) H24)))) fun J2 => cnd ((((pa_0_n : Nat) : Int) : Int) != ((pb_0_n : Nat) : Int)) (J2 true) (J2 ((((pa_1_n : Nat)
    : Int) : Int) != ((pb_1_n : Nat) : Int)))
noncomputable def fcx13 : Cx := cx 97 [(2, true), (3, true), (6, true), (7, true)] [(4, ⟨[2, 3, 27, 28], [2, 3], [(29, .int .i64)], []⟩), (10, ⟨[2, 3, 6, 7, 27, 28, 29, 62], [2, 3, 6, 7], [(63, .int .i64)], []⟩), (17, ⟨[2, 3, 81], [2, 3], [(82, .int .i64)], []⟩)] [(12, (.look 0 (.look 1 (.look 2 (.look 3 (.look 4 (.look 5 (.look 6 (.look 7 (.look 8 (.look 9 (.look 10 .done)))))))))))), (19, (.look 0 (.look 1 (.look 2 (.look 3 (.look 4 (.look 5 (.look 6 (.look 7 (.look 8 (.look 9 (.look 10 .done))))))))))))]
theorem f13.eq (pa_0_A : Option Addr) (pa_0_n pa_0_c : Nat) (pa_1_A : Option Addr) (pa_1_n pa_1_c : Nat) (pb_0_A : Option Addr) (pb_0_n pb_0_c : Nat) (pb_1_A : Option Addr) (pb_1_n pb_1_c : Nat) (H : Hp) (Q : Value → Hp → Prop) : f13 pa_0_A pa_0_n pa_0_c pa_1_A pa_1_n pa_1_c pb_0_A pb_0_n pb_0_c pb_1_A pb_1_n pb_1_c H Q = wFun fcx13 Try.f13 [.agg #[.slice pa_0_A pa_0_n pa_0_c, .slice pa_1_A pa_1_n pa_1_c], .agg #[.slice pb_0_A pb_0_n pb_0_c, .slice pb_1_A pb_1_n pb_1_c]] H Q := by kernel_rfl
theorem f13.ok (pa_0_A : Option Addr) (pa_0_n pa_0_c : Nat) (pa_1_A : Option Addr) (pa_1_n pa_1_c : Nat) (pb_0_A : Option Addr) (pb_0_n pb_0_c : Nat) (pb_1_A : Option Addr) (pb_1_n pb_1_c : Nat) {H : Hp} {Q : Value → Hp → Prop} (h : f13 pa_0_A pa_0_n pa_0_c pa_1_A pa_1_n pa_1_c pb_0_A pb_0_n pb_0_c pb_1_A pb_1_n pb_1_c H Q) : HCalls Try.prog 13 [.agg #[.slice pa_0_A pa_0_n pa_0_c, .slice pa_1_A pa_1_n pa_1_c], .agg #[.slice pb_0_A pb_0_n pb_0_c, .slice pb_1_A pb_1_n pb_1_c]] H Q := hcalls_of (cxOk 97 [(2, true), (3, true), (6, true), (7, true)] [(4, ⟨[2, 3, 27, 28], [2, 3], [(29, .int .i64)], []⟩), (10, ⟨[2, 3, 6, 7, 27, 28, 29, 62], [2, 3, 6, 7], [(63, .int .i64)], []⟩), (17, ⟨[2, 3, 81], [2, 3], [(82, .int .i64)], []⟩)] [(12, (.look 0 (.look 1 (.look 2 (.look 3 (.look 4 (.look 5 (.look 6 (.look 7 (.look 8 (.look 9 (.look 10 .done)))))))))))), (19, (.look 0 (.look 1 (.look 2 (.look 3 (.look 4 (.look 5 (.look 6 (.look 7 (.look 8 (.look 9 (.look 10 .done))))))))))))]) Try.func13 (Eq.mp (f13.eq pa_0_A pa_0_n pa_0_c pa_1_A pa_1_n pa_1_c pb_0_A pb_0_n pb_0_c pb_1_A pb_1_n pb_1_c H Q) h)

/-- justiciar pair.Outcome -/
def f14 (pp_0_A : Option Addr) (pp_0_n pp_0_c : Nat) (pp_1_A : Option Addr) (pp_1_n pp_1_c : Nat) (H : Hp) (Q : Value → Hp → Prop) : Prop :=
  HCalls Try.prog 28 [.agg #[.slice pp_0_A pp_0_n pp_0_c, .slice pp_1_A pp_1_n pp_1_c]] H fun v1 H2 => ∃ x3 : Bool, v1 = .bool x3 ∧ cnd (!x3) (Q (.tuple #[.int .i64 0, .int .i64 2]) H2) (HCalls Try.prog 32 [.agg #[.slice
    pp_0_A pp_0_n pp_0_c, .slice pp_1_A pp_1_n pp_1_c], .int .i64 3] H2 fun v4 H5 => ∃ x6 : Bool, v4 = .bool x6 ∧ cnd x6 (Q (.tuple #[.int .i64 3, .int .i64 0]) H5) (HCalls Try.prog 32 [.agg #[.slice pp_0_A pp_0_n pp_0_c,
    .slice pp_1_A pp_1_n pp_1_c], .int .i64 4] H5 fun v7 H8 => ∃ x9 : Bool, v7 = .bool x9 ∧ cnd x9 (Q (.tuple #[.int .i64 4, .int .i64 0]) H8) (Q (.tuple #[.int .i64 0, .int .i64 0]) H8)))
noncomputable def fcx14 : Cx := cx 14 [(1, true)] [] []
theorem f14.eq (pp_0_A : Option Addr) (pp_0_n pp_0_c : Nat) (pp_1_A : Option Addr) (pp_1_n pp_1_c : Nat) (H : Hp) (Q : Value → Hp → Prop) : f14 pp_0_A pp_0_n pp_0_c pp_1_A pp_1_n pp_1_c H Q = wFun fcx14 Try.f14 [.agg #[.slice pp_0_A pp_0_n pp_0_c, .slice pp_1_A pp_1_n pp_1_c]] H Q := by kernel_rfl
theorem f14.ok (pp_0_A : Option Addr) (pp_0_n pp_0_c : Nat) (pp_1_A : Option Addr) (pp_1_n pp_1_c : Nat) {H : Hp} {Q : Value → Hp → Prop} (h : f14 pp_0_A pp_0_n pp_0_c pp_1_A pp_1_n pp_1_c H Q) : HCalls Try.prog 14 [.agg #[.slice pp_0_A pp_0_n pp_0_c, .slice pp_1_A pp_1_n pp_1_c]] H Q := hcalls_of (cxOk 14 [(1, true)] [] []) Try.func14 (Eq.mp (f14.eq pp_0_A pp_0_n pp_0_c pp_1_A pp_1_n pp_1_c H Q) h)

/-- justiciar justiciarref23.Outcome -/
def f15 (pp_0_A : Option Addr) (pp_0_n pp_0_c : Nat) (pp_1_A : Option Addr) (pp_1_n pp_1_c : Nat) (H : Hp) (Q : Value → Hp → Prop) : Prop :=
  HCalls Try.prog 21 [.agg #[.slice pp_0_A pp_0_n pp_0_c, .slice pp_1_A pp_1_n pp_1_c]] H fun v1 H2 => ∃ x3 : Bool, v1 = .bool x3 ∧ cnd (!x3) (Q (.tuple #[.int .i64 0, .int .i64 2]) H2) (HCalls Try.prog 33 [.agg #[.slice
    pp_0_A pp_0_n pp_0_c, .slice pp_1_A pp_1_n pp_1_c], .int .i64 3] H2 fun v4 H5 => ∃ x6 : Bool, v4 = .bool x6 ∧ cnd x6 (Q (.tuple #[.int .i64 3, .int .i64 0]) H5) (HCalls Try.prog 33 [.agg #[.slice pp_0_A pp_0_n pp_0_c,
    .slice pp_1_A pp_1_n pp_1_c], .int .i64 4] H5 fun v7 H8 => ∃ x9 : Bool, v7 = .bool x9 ∧ cnd x9 (Q (.tuple #[.int .i64 4, .int .i64 0]) H8) (Q (.tuple #[.int .i64 0, .int .i64 0]) H8)))
noncomputable def fcx15 : Cx := cx 14 [(1, true)] [] []
theorem f15.eq (pp_0_A : Option Addr) (pp_0_n pp_0_c : Nat) (pp_1_A : Option Addr) (pp_1_n pp_1_c : Nat) (H : Hp) (Q : Value → Hp → Prop) : f15 pp_0_A pp_0_n pp_0_c pp_1_A pp_1_n pp_1_c H Q = wFun fcx15 Try.f15 [.agg #[.slice pp_0_A pp_0_n pp_0_c, .slice pp_1_A pp_1_n pp_1_c]] H Q := by kernel_rfl
theorem f15.ok (pp_0_A : Option Addr) (pp_0_n pp_0_c : Nat) (pp_1_A : Option Addr) (pp_1_n pp_1_c : Nat) {H : Hp} {Q : Value → Hp → Prop} (h : f15 pp_0_A pp_0_n pp_0_c pp_1_A pp_1_n pp_1_c H Q) : HCalls Try.prog 15 [.agg #[.slice pp_0_A pp_0_n pp_0_c, .slice pp_1_A pp_1_n pp_1_c]] H Q := hcalls_of (cxOk 14 [(1, true)] [] []) Try.func15 (Eq.mp (f15.eq pp_0_A pp_0_n pp_0_c pp_1_A pp_1_n pp_1_c H Q) h)

/-- justiciar pair.Doubt -/
def f16 (pp_0_A : Option Addr) (pp_0_n pp_0_c : Nat) (pp_1_A : Option Addr) (pp_1_n pp_1_c : Nat) (H : Hp) (Q : Value → Hp → Prop) : Prop :=
  HCalls Try.prog 28 [.agg #[.slice pp_0_A pp_0_n pp_0_c, .slice pp_1_A pp_1_n pp_1_c]] H fun v1 H2 => ∃ x3 : Bool, v1 = .bool x3 ∧ cnd (!x3) (Q (.tuple #[.bool false, .int .i64 2]) H2) (0 ≤ (1 : Int) ∧ (1 : Int) < ((pp_0_n
    : Nat) : Int) ∧ onPtr pp_0_A fun b4 o4 => ∃ x5 : Int, cl H2 b4 (o4 + (1 : Int).toNat * 3) = some (.int .i64 x5) ∧ ∃ x6 : Bool, cl H2 b4 ((o4 + (1 : Int).toNat * 3) + 1) = some (.bool x6) ∧ ∃ (A7 : Option Addr) (n7 c7
    : Nat), cl H2 b4 (((o4 + (1 : Int).toNat * 3) + 1) + 1) = some (.slice A7 n7 c7) ∧ HCalls Try.prog 34 [.agg #[.int .i64 x5, .bool x6, .slice A7 n7 c7]] H2 fun v8 H9 => ∃ x10 : Int, v8 = .int .i64 x10 ∧ Q (.tuple
    #[.bool ((x10 : Int) == 2), .int .i64 0]) H9)
noncomputable def fcx16 : Cx := cx 13 [(1, true)] [] []
theorem f16.eq (pp_0_A : Option Addr) (pp_0_n pp_0_c : Nat) (pp_1_A : Option Addr) (pp_1_n pp_1_c : Nat) (H : Hp) (Q : Value → Hp → Prop) : f16 pp_0_A pp_0_n pp_0_c pp_1_A pp_1_n pp_1_c H Q = wFun fcx16 Try.f16 [.agg #[.slice pp_0_A pp_0_n pp_0_c, .slice pp_1_A pp_1_n pp_1_c]] H Q := by kernel_rfl
theorem f16.ok (pp_0_A : Option Addr) (pp_0_n pp_0_c : Nat) (pp_1_A : Option Addr) (pp_1_n pp_1_c : Nat) {H : Hp} {Q : Value → Hp → Prop} (h : f16 pp_0_A pp_0_n pp_0_c pp_1_A pp_1_n pp_1_c H Q) : HCalls Try.prog 16 [.agg #[.slice pp_0_A pp_0_n pp_0_c, .slice pp_1_A pp_1_n pp_1_c]] H Q := hcalls_of (cxOk 13 [(1, true)] [] []) Try.func16 (Eq.mp (f16.eq pp_0_A pp_0_n pp_0_c pp_1_A pp_1_n pp_1_c H Q) h)

/-- justiciar justiciarref23.Doubt -/
def f17 (pp_0_A : Option Addr) (pp_0_n pp_0_c : Nat) (pp_1_A : Option Addr) (pp_1_n pp_1_c : Nat) (H : Hp) (Q : Value → Hp → Prop) : Prop :=
  HCalls Try.prog 21 [.agg #[.slice pp_0_A pp_0_n pp_0_c, .slice pp_1_A pp_1_n pp_1_c]] H fun v1 H2 => ∃ x3 : Bool, v1 = .bool x3 ∧ cnd (!x3) (Q (.tuple #[.bool false, .int .i64 2]) H2) (0 ≤ (1 : Int) ∧ (1 : Int) < ((pp_0_n
    : Nat) : Int) ∧ onPtr pp_0_A fun b4 o4 => ∃ x5 : Int, cl H2 b4 (o4 + (1 : Int).toNat * 3) = some (.int .i64 x5) ∧ ∃ x6 : Bool, cl H2 b4 ((o4 + (1 : Int).toNat * 3) + 1) = some (.bool x6) ∧ ∃ (A7 : Option Addr) (n7 c7
    : Nat), cl H2 b4 (((o4 + (1 : Int).toNat * 3) + 1) + 1) = some (.slice A7 n7 c7) ∧ HCalls Try.prog 35 [.agg #[.int .i64 x5, .bool x6, .slice A7 n7 c7]] H2 fun v8 H9 => ∃ x10 : Int, v8 = .int .i64 x10 ∧ Q (.tuple
    #[.bool ((x10 : Int) == 2), .int .i64 0]) H9)
noncomputable def fcx17 : Cx := cx 13 [(1, true)] [] []
theorem f17.eq (pp_0_A : Option Addr) (pp_0_n pp_0_c : Nat) (pp_1_A : Option Addr) (pp_1_n pp_1_c : Nat) (H : Hp) (Q : Value → Hp → Prop) : f17 pp_0_A pp_0_n pp_0_c pp_1_A pp_1_n pp_1_c H Q = wFun fcx17 Try.f17 [.agg #[.slice pp_0_A pp_0_n pp_0_c, .slice pp_1_A pp_1_n pp_1_c]] H Q := by kernel_rfl
theorem f17.ok (pp_0_A : Option Addr) (pp_0_n pp_0_c : Nat) (pp_1_A : Option Addr) (pp_1_n pp_1_c : Nat) {H : Hp} {Q : Value → Hp → Prop} (h : f17 pp_0_A pp_0_n pp_0_c pp_1_A pp_1_n pp_1_c H Q) : HCalls Try.prog 17 [.agg #[.slice pp_0_A pp_0_n pp_0_c, .slice pp_1_A pp_1_n pp_1_c]] H Q := hcalls_of (cxOk 13 [(1, true)] [] []) Try.func17 (Eq.mp (f17.eq pp_0_A pp_0_n pp_0_c pp_1_A pp_1_n pp_1_c H Q) h)

/-- justiciar pair.Settled -/
def f18 (pp_0_A : Option Addr) (pp_0_n pp_0_c : Nat) (pp_1_A : Option Addr) (pp_1_n pp_1_c : Nat) (H : Hp) (Q : Value → Hp → Prop) : Prop :=
  HCalls Try.prog 28 [.agg #[.slice pp_0_A pp_0_n pp_0_c, .slice pp_1_A pp_1_n pp_1_c]] H fun v1 H2 => ∃ x3 : Bool, v1 = .bool x3 ∧ cnd (!x3) (Q (.tuple #[.bool false, .int .i64 2]) H2) (HCalls Try.prog 36 [.agg #[.slice
    pp_0_A pp_0_n pp_0_c, .slice pp_1_A pp_1_n pp_1_c]] H2 fun v4 H5 => ∃ x6 : Bool, v4 = .bool x6 ∧ Q (.tuple #[.bool x6, .int .i64 0]) H5)
noncomputable def fcx18 : Cx := cx 9 [(1, true)] [] []
theorem f18.eq (pp_0_A : Option Addr) (pp_0_n pp_0_c : Nat) (pp_1_A : Option Addr) (pp_1_n pp_1_c : Nat) (H : Hp) (Q : Value → Hp → Prop) : f18 pp_0_A pp_0_n pp_0_c pp_1_A pp_1_n pp_1_c H Q = wFun fcx18 Try.f18 [.agg #[.slice pp_0_A pp_0_n pp_0_c, .slice pp_1_A pp_1_n pp_1_c]] H Q := by kernel_rfl
theorem f18.ok (pp_0_A : Option Addr) (pp_0_n pp_0_c : Nat) (pp_1_A : Option Addr) (pp_1_n pp_1_c : Nat) {H : Hp} {Q : Value → Hp → Prop} (h : f18 pp_0_A pp_0_n pp_0_c pp_1_A pp_1_n pp_1_c H Q) : HCalls Try.prog 18 [.agg #[.slice pp_0_A pp_0_n pp_0_c, .slice pp_1_A pp_1_n pp_1_c]] H Q := hcalls_of (cxOk 9 [(1, true)] [] []) Try.func18 (Eq.mp (f18.eq pp_0_A pp_0_n pp_0_c pp_1_A pp_1_n pp_1_c H Q) h)

/-- justiciar justiciarref23.Settled -/
def f19 (pp_0_A : Option Addr) (pp_0_n pp_0_c : Nat) (pp_1_A : Option Addr) (pp_1_n pp_1_c : Nat) (H : Hp) (Q : Value → Hp → Prop) : Prop :=
  HCalls Try.prog 21 [.agg #[.slice pp_0_A pp_0_n pp_0_c, .slice pp_1_A pp_1_n pp_1_c]] H fun v1 H2 => ∃ x3 : Bool, v1 = .bool x3 ∧ cnd (!x3) (Q (.tuple #[.bool false, .int .i64 2]) H2) (jn (fun (j18 : Bool) (H19 : Hp) =>
    cnd j18 (Q (.tuple #[.bool true, .int .i64 0]) H19) (LoopF (σ := (Int × Unit) × Unit) ((0, ()), ()) H19 fun s21 H22 next23 => cnd (decide ((s21.1.1 : Int) < ((pp_0_n : Nat) : Int))) (0 ≤ (s21.1.1 : Int) ∧ (s21.1.1 :
    Int) < ((pp_0_n : Nat) : Int) ∧ onPtr pp_0_A fun b24 o24 => ∃ x25 : Int, cl H22 b24 (o24 + (s21.1.1 : Int).toNat * 3) = some (.int .i64 x25) ∧ ∃ x26 : Bool, cl H22 b24 ((o24 + (s21.1.1 : Int).toNat * 3) + 1) = some
    (.bool x26) ∧ ∃ (A27 : Option Addr) (n27 c27 : Nat), cl H22 b24 (((o24 + (s21.1.1 : Int).toNat * 3) + 1) + 1) = some (.slice A27 n27 c27) ∧ jn (fun (j31 : Bool) (H32 : Hp) => cnd j31 (Q (.tuple #[.bool false, .int
    .i64 0]) H32) (KeepX [some (.v (.slice pp_0_A pp_0_n pp_0_c)), some (.v (.int .i64 ((pp_0_n : Nat) : Int)))] [] ∧ next23 ((IntKind.i64.wrap (s21.1.1 + 1), ()), ()) H32)) fun J33 => HCalls Try.prog 35 [.agg #[.int .i64
    x25, .bool x26, .slice A27 n27 c27]] H22 fun v28 H29 => ∃ x30 : Int, v28 = .int .i64 x30 ∧ cnd ((x30 : Int) != 4) (cnd (decide ((((n27 : Nat) : Int) : Int) > 0)) (J33 true H29) (J33 ((x25 : Int) != 0) H29)) (J33 false
    H29)) (Q (.tuple #[.bool true, .int .i64 0]) H22))) fun J20 => 0 ≤ (0 : Int) ∧ (0 : Int) < ((pp_0_n : Nat) : Int) ∧ onPtr pp_0_A fun b4 o4 => ∃ x5 : Int, cl H2 b4 (o4 + (0 : Int).toNat * 3) = some (.int .i64 x5) ∧ ∃
    x6 : Bool, cl H2 b4 ((o4 + (0 : Int).toNat * 3) + 1) = some (.bool x6) ∧ ∃ (A7 : Option Addr) (n7 c7 : Nat), cl H2 b4 (((o4 + (0 : Int).toNat * 3) + 1) + 1) = some (.slice A7 n7 c7) ∧ HCalls Try.prog 35 [.agg #[.int
    .i64 x5, .bool x6, .slice A7 n7 c7]] H2 fun v8 H9 => ∃ x10 : Int, v8 = .int .i64 x10 ∧ cnd ((x10 : Int) == 3) (0 ≤ (1 : Int) ∧ (1 : Int) < ((pp_0_n : Nat) : Int) ∧ onPtr pp_0_A fun b11 o11 => ∃ x12 : Int, cl H9 b11
    (o11 + (1 : Int).toNat * 3) = some (.int .i64 x12) ∧ ∃ x13 : Bool, cl H9 b11 ((o11 + (1 : Int).toNat * 3) + 1) = some (.bool x13) ∧ ∃ (A14 : Option Addr) (n14 c14 : Nat), cl H9 b11 (((o11 + (1 : Int).toNat * 3) + 1) +
    1) = some (.slice A14 n14 c14) ∧ HCalls Try.prog 35 [.agg #[.int .i64 x12, .bool x13, .slice A14 n14 c14]] H9 fun v15 H16 => ∃ x17 : Int, v15 = .int .i64 x17 ∧ J20 ((x17 : Int) == 3) H16) (J20 false H9))
noncomputable def fcx19 : Cx := cx 45 [(1, true), (5, true)] [(6, ⟨[24, 25], [], [(26, .int .i64)], []⟩)] []
theorem f19.eq (pp_0_A : Option Addr) (pp_0_n pp_0_c : Nat) (pp_1_A : Option Addr) (pp_1_n pp_1_c : Nat) (H : Hp) (Q : Value → Hp → Prop) : f19 pp_0_A pp_0_n pp_0_c pp_1_A pp_1_n pp_1_c H Q = wFun fcx19 Try.f19 [.agg #[.slice pp_0_A pp_0_n pp_0_c, .slice pp_1_A pp_1_n pp_1_c]] H Q := by kernel_rfl
theorem f19.ok (pp_0_A : Option Addr) (pp_0_n pp_0_c : Nat) (pp_1_A : Option Addr) (pp_1_n pp_1_c : Nat) {H : Hp} {Q : Value → Hp → Prop} (h : f19 pp_0_A pp_0_n pp_0_c pp_1_A pp_1_n pp_1_c H Q) : HCalls Try.prog 19 [.agg #[.slice pp_0_A pp_0_n pp_0_c, .slice pp_1_A pp_1_n pp_1_c]] H Q := hcalls_of (cxOk 45 [(1, true), (5, true)] [(6, ⟨[24, 25], [], [(26, .int .i64)], []⟩)] []) Try.func19 (Eq.mp (f19.eq pp_0_A pp_0_n pp_0_c pp_1_A pp_1_n pp_1_c H Q) h)

/-- justiciar pair.Calm -/
def f20 (pp_0_A : Option Addr) (pp_0_n pp_0_c : Nat) (pp_1_A : Option Addr) (pp_1_n pp_1_c : Nat) (H : Hp) (Q : Value → Hp → Prop) : Prop :=
  newF H 25 [.slice pp_0_A pp_0_n pp_0_c, .slice pp_1_A pp_1_n pp_1_c] fun g1 H2 => ∃ (A3 : Option Addr) (n3 c3 : Nat), cl H2 g1 0 = some (.slice A3 n3 c3) ∧ ∃ (A4 : Option Addr) (n4 c4 : Nat), cl H2 g1 (0 + 1) = some
    (.slice A4 n4 c4) ∧ HCalls Try.prog 28 [.agg #[.slice A3 n3 c3, .slice A4 n4 c4]] H2 fun v5 H6 => ∃ x7 : Bool, v5 = .bool x7 ∧ cnd (!x7) (Q (.tuple #[.slice none 0 0, .int .i64 2]) H6) (newF H6 40 [.slice none 0 0]
    fun g8 H9 => FnOk Try.prog 37 ∧ HCalls Try.prog 37 [.agg #[.int .i64 7, .int .i64 0, .int .i64 0], .pointer (some ⟨g1, 0, none⟩), .pointer (some ⟨g8, 0, none⟩)] H9 fun v10 H11 => ∃ x12 : Bool, v10 = .bool x12 ∧ FnOk
    Try.prog 37 ∧ HCalls Try.prog 37 [.agg #[.int .i64 7, .int .i64 1, .int .i64 0], .pointer (some ⟨g1, 0, none⟩), .pointer (some ⟨g8, 0, none⟩)] H11 fun v13 H14 => ∃ x15 : Bool, v13 = .bool x15 ∧ jn (fun (H45 : Hp) => ∃
    (A47 : Option Addr) (n47 c47 : Nat), cl H45 g8 0 = some (.slice A47 n47 c47) ∧ Q (.tuple #[.slice A47 n47 c47, .int .i64 0]) H45) fun J46 => LoopF (σ := Unit × Unit) ((), ()) H14 fun s16 H17 next18 => jn (fun (j25 :
    Bool) (H26 : Hp) => cnd j25 (FnOk Try.prog 37 ∧ HCalls Try.prog 37 [.agg #[.int .i64 3, .int .i64 0, .int .i64 0], .pointer (some ⟨g1, 0, none⟩), .pointer (some ⟨g8, 0, none⟩)] H26 fun v28 H29 => ∃ x30 : Bool, v28 =
    .bool x30 ∧ newF H29 28 [.int .i64 2, .int .i64 0, .int .i64 0, .int .i64 9, .int .i64 0, .int .i64 0, .int .i64 8, .int .i64 0, .int .i64 0, .int .i64 9, .int .i64 1, .int .i64 0] fun g31 H32 => LoopF (σ := (Bool ×
    (Int × Unit)) × Unit) ((x30, (0, ())), ()) H32 fun s33 H34 next35 => cnd (decide ((s33.1.2.1 : Int) < ((4 : Nat) : Int))) (jn (fun (j42 : Bool) (H43 : Hp) => KeepX [some (.v (.pointer (some ⟨g1, 0, none⟩))), some (.v
    (.pointer (some ⟨g8, 0, none⟩))), some (.v (.func (.func 37) #[] #[.pointer (some ⟨g1, 0, none⟩), .pointer (some ⟨g8, 0, none⟩)])), some (.v (.slice (some ⟨g31, 0, none⟩) 4 4)), some (.v (.int .i64 ((4 : Nat) :
    Int)))] [] ∧ next35 ((j42, (IntKind.i64.wrap (s33.1.2.1 + 1), ())), ()) H43) fun J44 => 0 ≤ (s33.1.2.1 : Int) ∧ (s33.1.2.1 : Int) < ((4 : Nat) : Int) ∧ ∃ x36 : Int, cl H34 g31 (0 + (s33.1.2.1 : Int).toNat * 3) = some
    (.int .i64 x36) ∧ ∃ x37 : Int, cl H34 g31 ((0 + (s33.1.2.1 : Int).toNat * 3) + 1) = some (.int .i64 x37) ∧ ∃ x38 : Int, cl H34 g31 (((0 + (s33.1.2.1 : Int).toNat * 3) + 1) + 1) = some (.int .i64 x38) ∧ cnd s33.1.1
    (J44 true H34) (FnOk Try.prog 37 ∧ HCalls Try.prog 37 [.agg #[.int .i64 x36, .int .i64 x37, .int .i64 x38], .pointer (some ⟨g1, 0, none⟩), .pointer (some ⟨g8, 0, none⟩)] H34 fun v39 H40 => ∃ x41 : Bool, v39 = .bool
    x41 ∧ J44 x41 H40)) (cnd (!s33.1.1) (J46 H34) (KeepX [some (.v (.pointer (some ⟨g1, 0, none⟩))), some (.v (.pointer (some ⟨g8, 0, none⟩))), some (.v (.func (.func 37) #[] #[.pointer (some ⟨g1, 0, none⟩), .pointer
    (some ⟨g8, 0, none⟩)]))] [] ∧ next18 ((), ()) H34))) (J46 H26)) fun J27 => ∃ (A19 : Option Addr) (n19 c19 : Nat), cl H17 g1 0 = some (.slice A19 n19 c19) ∧ ∃ (A20 : Option Addr) (n20 c20 : Nat), cl H17 g1 (0 + 1) =
    some (.slice A20 n20 c20) ∧ HCalls Try.prog 36 [.agg #[.slice A19 n19 c19, .slice A20 n20 c20]] H17 fun v21 H22 => ∃ x23 : Bool, v21 = .bool x23 ∧ cnd (!x23) (∃ (A24 : Option Addr) (n24 c24 : Nat), cl H22 g8 0 = some
    (.slice A24 n24 c24) ∧ J27 (decide ((((n24 : Nat) : Int) : Int) < 60)) H22) (J27 false H22))
noncomputable def fcx20 : Cx := cx 50 [(8, true)] [(7, ⟨[1, 4, 5], [], [], []⟩), (10, ⟨[1, 4, 5, 34, 35], [], [(6, .bool), (36, .int .i64)], []⟩)] []
theorem f20.eq (pp_0_A : Option Addr) (pp_0_n pp_0_c : Nat) (pp_1_A : Option Addr) (pp_1_n pp_1_c : Nat) (H : Hp) (Q : Value → Hp → Prop) : f20 pp_0_A pp_0_n pp_0_c pp_1_A pp_1_n pp_1_c H Q = wFun fcx20 Try.f20 [.agg #[.slice pp_0_A pp_0_n pp_0_c, .slice pp_1_A pp_1_n pp_1_c]] H Q := by kernel_rfl
theorem f20.ok (pp_0_A : Option Addr) (pp_0_n pp_0_c : Nat) (pp_1_A : Option Addr) (pp_1_n pp_1_c : Nat) {H : Hp} {Q : Value → Hp → Prop} (h : f20 pp_0_A pp_0_n pp_0_c pp_1_A pp_1_n pp_1_c H Q) : HCalls Try.prog 20 [.agg #[.slice pp_0_A pp_0_n pp_0_c, .slice pp_1_A pp_1_n pp_1_c]] H Q := hcalls_of (cxOk 50 [(8, true)] [(7, ⟨[1, 4, 5], [], [], []⟩), (10, ⟨[1, 4, 5, 34, 35], [], [(6, .bool), (36, .int .i64)], []⟩)] []) Try.func20 (Eq.mp (f20.eq pp_0_A pp_0_n pp_0_c pp_1_A pp_1_n pp_1_c H Q) h)

/-- justiciar justiciarref23.Formed -/
def f21 (pp_0_A : Option Addr) (pp_0_n pp_0_c : Nat) (pp_1_A : Option Addr) (pp_1_n pp_1_c : Nat) (H : Hp) (Q : Value → Hp → Prop) : Prop :=
  jn (fun (j1 : Bool) => cnd j1 (Q (.bool false) H) (LoopF (σ := (Int × Unit) × Unit) ((0, ()), ()) H fun s3 H4 next5 => cnd (decide ((s3.1.1 : Int) < ((pp_0_n : Nat) : Int))) (0 ≤ (s3.1.1 : Int) ∧ (s3.1.1 : Int) < ((pp_0_n
    : Nat) : Int) ∧ onPtr pp_0_A fun b6 o6 => ∃ x7 : Int, cl H4 b6 (o6 + (s3.1.1 : Int).toNat * 3) = some (.int .i64 x7) ∧ ∃ x8 : Bool, cl H4 b6 ((o6 + (s3.1.1 : Int).toNat * 3) + 1) = some (.bool x8) ∧ ∃ (A9 : Option
    Addr) (n9 c9 : Nat), cl H4 b6 (((o6 + (s3.1.1 : Int).toNat * 3) + 1) + 1) = some (.slice A9 n9 c9) ∧ HCalls Try.prog 38 [.int .i64 x7] H4 fun v10 H11 => ∃ x12 : Bool, v10 = .bool x12 ∧ cnd (!x12) (Q (.bool false) H11)
    (LoopF (σ := (Int × Unit) × Unit) ((0, ()), ()) H11 fun s13 H14 next15 => cnd (decide ((s13.1.1 : Int) < ((n9 : Nat) : Int))) (0 ≤ (s13.1.1 : Int) ∧ (s13.1.1 : Int) < ((n9 : Nat) : Int) ∧ onPtr A9 fun b16 o16 => ∃ x17
    : Int, cl H14 b16 (o16 + (s13.1.1 : Int).toNat * 1) = some (.int .i64 x17) ∧ HCalls Try.prog 38 [.int .i64 x17] H14 fun v18 H19 => ∃ x20 : Bool, v18 = .bool x20 ∧ cnd (!x20) (Q (.bool false) H19) (KeepX [some (.loc 1
    0), some (.v (.slice pp_0_A pp_0_n pp_0_c)), some (.v (.int .i64 ((pp_0_n : Nat) : Int))), some (.v (.int .i64 s3.1.1)), some (.v (.slice A9 n9 c9)), some (.v (.int .i64 ((n9 : Nat) : Int)))] [some (true, [.slice
    pp_0_A pp_0_n pp_0_c, .slice pp_1_A pp_1_n pp_1_c])] ∧ next15 ((IntKind.i64.wrap (s13.1.1 + 1), ()), ()) H19)) (KeepX [some (.loc 1 0), some (.v (.slice pp_0_A pp_0_n pp_0_c)), some (.v (.int .i64 ((pp_0_n : Nat) :
    Int)))] [some (true, [.slice pp_0_A pp_0_n pp_0_c, .slice pp_1_A pp_1_n pp_1_c])] ∧ next5 ((IntKind.i64.wrap (s3.1.1 + 1), ()), ()) H14))) (LoopF (σ := (Int × Unit) × Unit) ((0, ()), ()) H4 fun s21 H22 next23 => cnd
    (decide ((s21.1.1 : Int) < ((pp_1_n : Nat) : Int))) (0 ≤ (s21.1.1 : Int) ∧ (s21.1.1 : Int) < ((pp_1_n : Nat) : Int) ∧ onPtr pp_1_A fun b24 o24 => ∃ x25 : Int, cl H22 b24 (o24 + (s21.1.1 : Int).toNat * 2) = some (.int
    .i64 x25) ∧ ∃ x26 : Int, cl H22 b24 ((o24 + (s21.1.1 : Int).toNat * 2) + 1) = some (.int .i64 x26) ∧ jn (fun (j27 : Bool) => cnd j27 (Q (.bool false) H22) (KeepX [some (.v (.slice pp_1_A pp_1_n pp_1_c)), some (.v
    (.int .i64 ((pp_1_n : Nat) : Int)))] [] ∧ next23 ((IntKind.i64.wrap (s21.1.1 + 1), ()), ()) H22)) fun J28 => cnd ((x25 : Int) != 0) (cnd ((x25 : Int) != 1) (J28 true) (cnd (decide ((x26 : Int) < 1)) (J28 true) (J28
    (decide ((x26 : Int) > 7))))) (cnd (decide ((x26 : Int) < 1)) (J28 true) (J28 (decide ((x26 : Int) > 7))))) (Q (.bool true) H22)))) fun J2 => cnd ((((pp_0_n : Nat) : Int) : Int) != 2) (J2 true) (J2 (decide ((((pp_1_n
    : Nat) : Int) : Int) > 20)))
noncomputable def fcx21 : Cx := cx 68 [(1, true), (4, true), (8, true)] [(4, ⟨[1, 20, 21], [1], [(22, .int .i64)], []⟩), (9, ⟨[1, 20, 21, 22, 31, 32], [1], [(33, .int .i64)], []⟩), (16, ⟨[43, 44], [], [(45, .int .i64)], []⟩)] []
theorem f21.eq (pp_0_A : Option Addr) (pp_0_n pp_0_c : Nat) (pp_1_A : Option Addr) (pp_1_n pp_1_c : Nat) (H : Hp) (Q : Value → Hp → Prop) : f21 pp_0_A pp_0_n pp_0_c pp_1_A pp_1_n pp_1_c H Q = wFun fcx21 Try.f21 [.agg #[.slice pp_0_A pp_0_n pp_0_c, .slice pp_1_A pp_1_n pp_1_c]] H Q := by kernel_rfl
theorem f21.ok (pp_0_A : Option Addr) (pp_0_n pp_0_c : Nat) (pp_1_A : Option Addr) (pp_1_n pp_1_c : Nat) {H : Hp} {Q : Value → Hp → Prop} (h : f21 pp_0_A pp_0_n pp_0_c pp_1_A pp_1_n pp_1_c H Q) : HCalls Try.prog 21 [.agg #[.slice pp_0_A pp_0_n pp_0_c, .slice pp_1_A pp_1_n pp_1_c]] H Q := hcalls_of (cxOk 68 [(1, true), (4, true), (8, true)] [(4, ⟨[1, 20, 21], [1], [(22, .int .i64)], []⟩), (9, ⟨[1, 20, 21, 22, 31, 32], [1], [(33, .int .i64)], []⟩), (16, ⟨[43, 44], [], [(45, .int .i64)], []⟩)] []) Try.func21 (Eq.mp (f21.eq pp_0_A pp_0_n pp_0_c pp_1_A pp_1_n pp_1_c H Q) h)

/-- justiciar pair.Run -/
def f22 (pl_A : Option Addr) (pl_n pl_c : Nat) (H : Hp) (Q : Value → Hp → Prop) : Prop :=
  HCalls Try.prog 24 [] H fun v1 H2 => ∃ (A3 : Option Addr) (n3 c3 : Nat), ∃ (A4 : Option Addr) (n4 c4 : Nat), v1 = .agg #[.slice A3 n3 c3, .slice A4 n4 c4] ∧ LoopF (σ := ((Option Addr × Nat × Nat) × (Int × Unit)) ×
    (((Option Addr × Nat × Nat) × ((Option Addr × Nat × Nat) × Unit)) × Unit)) (((none, 0, 0), (0, ())), (((A3, n3, c3), ((A4, n4, c4), ())), ())) H2 fun s5 H6 next7 => cnd (decide ((s5.1.2.1 : Int) < ((pl_n : Nat) :
    Int))) (0 ≤ (s5.1.2.1 : Int) ∧ (s5.1.2.1 : Int) < ((pl_n : Nat) : Int) ∧ onPtr pl_A fun b8 o8 => ∃ x9 : Int, cl H6 b8 (o8 + (s5.1.2.1 : Int).toNat * 3) = some (.int .i64 x9) ∧ ∃ x10 : Int, cl H6 b8 ((o8 + (s5.1.2.1 :
    Int).toNat * 3) + 1) = some (.int .i64 x10) ∧ ∃ x11 : Int, cl H6 b8 (((o8 + (s5.1.2.1 : Int).toNat * 3) + 1) + 1) = some (.int .i64 x11) ∧ HCalls Try.prog 11 [.agg #[.slice s5.2.1.1.1 s5.2.1.1.2.1 s5.2.1.1.2.2, .slice
    s5.2.1.2.1.1 s5.2.1.2.1.2.1 s5.2.1.2.1.2.2], .agg #[.int .i64 x9, .int .i64 x10, .int .i64 x11]] H6 fun v12 H13 => ∃ (A14 : Option Addr) (n14 c14 : Nat), ∃ (A15 : Option Addr) (n15 c15 : Nat), ∃ x16 : Int, v12 =
    .tuple #[.agg #[.slice A14 n14 c14, .slice A15 n15 c15], .int .i64 x16] ∧ jn (fun (jA17 : Option Addr) (jn18 : Nat) (jc19 : Nat) (jA20 : Option Addr) (jn21 : Nat) (jc22 : Nat) => newF H13 32 [.int .i64 x16] fun g24
    H25 => appendF H25 32 1 8 s5.1.1.1 s5.1.1.2.1 s5.1.1.2.2 (some ⟨g24, 0, none⟩) 1 fun A26 n26 c26 H27 => KeepX [some (.loc 2 0), some (.loc 4 0), some (.v (.slice pl_A pl_n pl_c)), some (.v (.int .i64 ((pl_n : Nat) :
    Int)))] [some (true, [.slice none 0 0, .slice none 0 0])] ∧ next7 (((A26, n26, c26), (IntKind.i64.wrap (s5.1.2.1 + 1), ())), (((jA17, jn18, jc19), ((jA20, jn21, jc22), ())), ())) H27) fun J23 => cnd ((x16 : Int) == 0)
    (J23 A14 n14 c14 A15 n15 c15) (J23 s5.2.1.1.1 s5.2.1.1.2.1 s5.2.1.1.2.2 s5.2.1.2.1.1 s5.2.1.2.1.2.1 s5.2.1.2.1.2.2)) (Q (.tuple #[.agg #[.slice s5.2.1.1.1 s5.2.1.1.2.1 s5.2.1.1.2.2, .slice s5.2.1.2.1.1 s5.2.1.2.1.2.1
    s5.2.1.2.1.2.2], .slice s5.1.1.1 s5.1.1.2.1 s5.1.1.2.2]) H6)
noncomputable def fcx22 : Cx := cx 33 [(2, true), (4, true), (7, true), (8, true)] [(4, ⟨[2, 4, 11, 12], [2], [(5, .slice), (13, .int .i64)], [(4, [.slice, .slice])]⟩)] []
theorem f22.eq (pl_A : Option Addr) (pl_n pl_c : Nat) (H : Hp) (Q : Value → Hp → Prop) : f22 pl_A pl_n pl_c H Q = wFun fcx22 Try.f22 [.slice pl_A pl_n pl_c] H Q := by kernel_rfl
theorem f22.ok (pl_A : Option Addr) (pl_n pl_c : Nat) {H : Hp} {Q : Value → Hp → Prop} (h : f22 pl_A pl_n pl_c H Q) : HCalls Try.prog 22 [.slice pl_A pl_n pl_c] H Q := hcalls_of (cxOk 33 [(2, true), (4, true), (7, true), (8, true)] [(4, ⟨[2, 4, 11, 12], [2], [(5, .slice), (13, .int .i64)], [(4, [.slice, .slice])]⟩)] []) Try.func22 (Eq.mp (f22.eq pl_A pl_n pl_c H Q) h)

/-- justiciar justiciarref23.Run -/
def f23 (pl_A : Option Addr) (pl_n pl_c : Nat) (H : Hp) (Q : Value → Hp → Prop) : Prop :=
  HCalls Try.prog 27 [] H fun v1 H2 => ∃ (A3 : Option Addr) (n3 c3 : Nat), ∃ (A4 : Option Addr) (n4 c4 : Nat), v1 = .agg #[.slice A3 n3 c3, .slice A4 n4 c4] ∧ LoopF (σ := ((Option Addr × Nat × Nat) × (Int × Unit)) ×
    (((Option Addr × Nat × Nat) × ((Option Addr × Nat × Nat) × Unit)) × Unit)) (((none, 0, 0), (0, ())), (((A3, n3, c3), ((A4, n4, c4), ())), ())) H2 fun s5 H6 next7 => cnd (decide ((s5.1.2.1 : Int) < ((pl_n : Nat) :
    Int))) (0 ≤ (s5.1.2.1 : Int) ∧ (s5.1.2.1 : Int) < ((pl_n : Nat) : Int) ∧ onPtr pl_A fun b8 o8 => ∃ x9 : Int, cl H6 b8 (o8 + (s5.1.2.1 : Int).toNat * 3) = some (.int .i64 x9) ∧ ∃ x10 : Int, cl H6 b8 ((o8 + (s5.1.2.1 :
    Int).toNat * 3) + 1) = some (.int .i64 x10) ∧ ∃ x11 : Int, cl H6 b8 (((o8 + (s5.1.2.1 : Int).toNat * 3) + 1) + 1) = some (.int .i64 x11) ∧ HCalls Try.prog 12 [.agg #[.slice s5.2.1.1.1 s5.2.1.1.2.1 s5.2.1.1.2.2, .slice
    s5.2.1.2.1.1 s5.2.1.2.1.2.1 s5.2.1.2.1.2.2], .agg #[.int .i64 x9, .int .i64 x10, .int .i64 x11]] H6 fun v12 H13 => ∃ (A14 : Option Addr) (n14 c14 : Nat), ∃ (A15 : Option Addr) (n15 c15 : Nat), ∃ x16 : Int, v12 =
    .tuple #[.agg #[.slice A14 n14 c14, .slice A15 n15 c15], .int .i64 x16] ∧ jn (fun (jA17 : Option Addr) (jn18 : Nat) (jc19 : Nat) (jA20 : Option Addr) (jn21 : Nat) (jc22 : Nat) => newF H13 32 [.int .i64 x16] fun g24
    H25 => appendF H25 32 1 8 s5.1.1.1 s5.1.1.2.1 s5.1.1.2.2 (some ⟨g24, 0, none⟩) 1 fun A26 n26 c26 H27 => KeepX [some (.loc 2 0), some (.loc 4 0), some (.v (.slice pl_A pl_n pl_c)), some (.v (.int .i64 ((pl_n : Nat) :
    Int)))] [some (true, [.slice none 0 0, .slice none 0 0])] ∧ next7 (((A26, n26, c26), (IntKind.i64.wrap (s5.1.2.1 + 1), ())), (((jA17, jn18, jc19), ((jA20, jn21, jc22), ())), ())) H27) fun J23 => cnd ((x16 : Int) == 0)
    (J23 A14 n14 c14 A15 n15 c15) (J23 s5.2.1.1.1 s5.2.1.1.2.1 s5.2.1.1.2.2 s5.2.1.2.1.1 s5.2.1.2.1.2.1 s5.2.1.2.1.2.2)) (Q (.tuple #[.agg #[.slice s5.2.1.1.1 s5.2.1.1.2.1 s5.2.1.1.2.2, .slice s5.2.1.2.1.1 s5.2.1.2.1.2.1
    s5.2.1.2.1.2.2], .slice s5.1.1.1 s5.1.1.2.1 s5.1.1.2.2]) H6)
noncomputable def fcx23 : Cx := cx 33 [(2, true), (4, true), (7, true), (8, true)] [(4, ⟨[2, 4, 11, 12], [2], [(5, .slice), (13, .int .i64)], [(4, [.slice, .slice])]⟩)] []
theorem f23.eq (pl_A : Option Addr) (pl_n pl_c : Nat) (H : Hp) (Q : Value → Hp → Prop) : f23 pl_A pl_n pl_c H Q = wFun fcx23 Try.f23 [.slice pl_A pl_n pl_c] H Q := by kernel_rfl
theorem f23.ok (pl_A : Option Addr) (pl_n pl_c : Nat) {H : Hp} {Q : Value → Hp → Prop} (h : f23 pl_A pl_n pl_c H Q) : HCalls Try.prog 23 [.slice pl_A pl_n pl_c] H Q := hcalls_of (cxOk 33 [(2, true), (4, true), (7, true), (8, true)] [(4, ⟨[2, 4, 11, 12], [2], [(5, .slice), (13, .int .i64)], [(4, [.slice, .slice])]⟩)] []) Try.func23 (Eq.mp (f23.eq pl_A pl_n pl_c H Q) h)

/-- justiciar pair.New -/
def f24  (H : Hp) (Q : Value → Hp → Prop) : Prop :=
  newF H 53 [.int .i64 0, .bool true, .slice none 0 0, .int .i64 0, .bool true, .slice none 0 0] fun g1 H2 => Q (.agg #[.slice (some ⟨g1, 0, none⟩) 2 2, .slice none 0 0]) H2
noncomputable def fcx24 : Cx := cx 5 [(0, true)] [] []
theorem f24.eq  (H : Hp) (Q : Value → Hp → Prop) : f24  H Q = wFun fcx24 Try.f24 [] H Q := by kernel_rfl
theorem f24.ok  {H : Hp} {Q : Value → Hp → Prop} (h : f24  H Q) : HCalls Try.prog 24 [] H Q := hcalls_of (cxOk 5 [(0, true)] [] []) Try.func24 (Eq.mp (f24.eq  H Q) h)

/-- justiciar justiciarlaw23.has -/
def f25 (ps_0 : Int) (ps_1 : Bool) (ps_2_A : Option Addr) (ps_2_n ps_2_c : Nat) (pp : Int) (H : Hp) (Q : Value → Hp → Prop) : Prop :=
  LoopF (σ := (Int × Unit) × Unit) ((0, ()), ()) H fun s1 H2 next3 => cnd (decide ((s1.1.1 : Int) < ((ps_2_n : Nat) : Int))) (0 ≤ (s1.1.1 : Int) ∧ (s1.1.1 : Int) < ((ps_2_n : Nat) : Int) ∧ onPtr ps_2_A fun b4 o4 => ∃ x5 :
    Int, cl H2 b4 (o4 + (s1.1.1 : Int).toNat * 1) = some (.int .i64 x5) ∧ cnd ((x5 : Int) == pp) (Q (.bool true) H2) (KeepX [some (.v (.int .i64 pp)), some (.v (.slice ps_2_A ps_2_n ps_2_c)), some (.v (.int .i64 ((ps_2_n
    : Nat) : Int)))] [] ∧ next3 ((IntKind.i64.wrap (s1.1.1 + 1), ()), ()) H2)) (Q (.bool false) H2)
noncomputable def fcx25 : Cx := cx 18 [(2, true)] [(2, ⟨[1, 8, 9], [], [(10, .int .i64)], []⟩)] []
theorem f25.eq (ps_0 : Int) (ps_1 : Bool) (ps_2_A : Option Addr) (ps_2_n ps_2_c : Nat) (pp : Int) (H : Hp) (Q : Value → Hp → Prop) : f25 ps_0 ps_1 ps_2_A ps_2_n ps_2_c pp H Q = wFun fcx25 Try.f25 [.agg #[.int .i64 ps_0, .bool ps_1, .slice ps_2_A ps_2_n ps_2_c], .int .i64 pp] H Q := by kernel_rfl
theorem f25.ok (ps_0 : Int) (ps_1 : Bool) (ps_2_A : Option Addr) (ps_2_n ps_2_c : Nat) (pp : Int) {H : Hp} {Q : Value → Hp → Prop} (h : f25 ps_0 ps_1 ps_2_A ps_2_n ps_2_c pp H Q) : HCalls Try.prog 25 [.agg #[.int .i64 ps_0, .bool ps_1, .slice ps_2_A ps_2_n ps_2_c], .int .i64 pp] H Q := hcalls_of (cxOk 18 [(2, true)] [(2, ⟨[1, 8, 9], [], [(10, .int .i64)], []⟩)] []) Try.func25 (Eq.mp (f25.eq ps_0 ps_1 ps_2_A ps_2_n ps_2_c pp H Q) h)

/-- justiciar justiciarlaw23.good -/
def f26  (H : Hp) (Q : Value → Hp → Prop) : Prop :=
  newF H 28 [.int .i64 1, .int .i64 0, .int .i64 0, .int .i64 2, .int .i64 0, .int .i64 0, .int .i64 3, .int .i64 0, .int .i64 0, .int .i64 3, .int .i64 0, .int .i64 0, .int .i64 3, .int .i64 0, .int .i64 0] fun g1 H2 => Q
    (.slice (some ⟨g1, 0, none⟩) 5 5) H2
noncomputable def fcx26 : Cx := cx 7 [] [] []
theorem f26.eq  (H : Hp) (Q : Value → Hp → Prop) : f26  H Q = wFun fcx26 Try.f26 [] H Q := by kernel_rfl
theorem f26.ok  {H : Hp} {Q : Value → Hp → Prop} (h : f26  H Q) : HCalls Try.prog 26 [] H Q := hcalls_of (cxOk 7 [] [] []) Try.func26 (Eq.mp (f26.eq  H Q) h)

/-- justiciar justiciarref23.New -/
def f27  (H : Hp) (Q : Value → Hp → Prop) : Prop :=
  newF H 53 [.int .i64 0, .bool true, .slice none 0 0, .int .i64 0, .bool true, .slice none 0 0] fun g1 H2 => Q (.agg #[.slice (some ⟨g1, 0, none⟩) 2 2, .slice none 0 0]) H2
noncomputable def fcx27 : Cx := cx 5 [(0, true)] [] []
theorem f27.eq  (H : Hp) (Q : Value → Hp → Prop) : f27  H Q = wFun fcx27 Try.f27 [] H Q := by kernel_rfl
theorem f27.ok  {H : Hp} {Q : Value → Hp → Prop} (h : f27  H Q) : HCalls Try.prog 27 [] H Q := hcalls_of (cxOk 5 [(0, true)] [] []) Try.func27 (Eq.mp (f27.eq  H Q) h)

/-- justiciar pair.isPair -/
def f28 (pp_0_A : Option Addr) (pp_0_n pp_0_c : Nat) (pp_1_A : Option Addr) (pp_1_n pp_1_c : Nat) (H : Hp) (Q : Value → Hp → Prop) : Prop :=
  jn (fun (j1 : Bool) => cnd j1 (Q (.bool false) H) (LoopF (σ := (Int × Unit) × Unit) ((0, ()), ()) H fun s3 H4 next5 => cnd (decide ((s3.1.1 : Int) < ((pp_0_n : Nat) : Int))) (0 ≤ (s3.1.1 : Int) ∧ (s3.1.1 : Int) < ((pp_0_n
    : Nat) : Int) ∧ onPtr pp_0_A fun b6 o6 => ∃ x7 : Int, cl H4 b6 (o6 + (s3.1.1 : Int).toNat * 3) = some (.int .i64 x7) ∧ ∃ x8 : Bool, cl H4 b6 ((o6 + (s3.1.1 : Int).toNat * 3) + 1) = some (.bool x8) ∧ ∃ (A9 : Option
    Addr) (n9 c9 : Nat), cl H4 b6 (((o6 + (s3.1.1 : Int).toNat * 3) + 1) + 1) = some (.slice A9 n9 c9) ∧ jn (fun (j16 : Bool) (H17 : Hp) => cnd j16 (Q (.bool false) H17) (KeepX [some (.loc 1 0), some (.v (.slice pp_0_A
    pp_0_n pp_0_c)), some (.v (.int .i64 ((pp_0_n : Nat) : Int)))] [some (true, [.slice pp_0_A pp_0_n pp_0_c, .slice pp_1_A pp_1_n pp_1_c])] ∧ next5 ((IntKind.i64.wrap (s3.1.1 + 1), ()), ()) H17)) fun J18 => HCalls
    Try.prog 39 [.int .i64 x7] H4 fun v10 H11 => ∃ x12 : Bool, v10 = .bool x12 ∧ cnd (!x12) (J18 true H11) (HCalls Try.prog 40 [.slice A9 n9 c9, .func (.func 41) #[] #[]] H11 fun v13 H14 => ∃ x15 : Bool, v13 = .bool x15 ∧
    J18 x15 H14)) (HCalls Try.prog 42 [.slice pp_1_A pp_1_n pp_1_c, .func (.func 43) #[] #[]] H4 fun v19 H20 => ∃ x21 : Bool, v19 = .bool x21 ∧ Q (.bool (!x21)) H20))) fun J2 => cnd ((((pp_0_n : Nat) : Int) : Int) != 2)
    (J2 true) (J2 (decide ((((pp_1_n : Nat) : Int) : Int) > 20)))
noncomputable def fcx28 : Cx := cx 36 [(1, true), (4, true)] [(4, ⟨[1, 16, 17], [1], [(18, .int .i64)], []⟩)] []
theorem f28.eq (pp_0_A : Option Addr) (pp_0_n pp_0_c : Nat) (pp_1_A : Option Addr) (pp_1_n pp_1_c : Nat) (H : Hp) (Q : Value → Hp → Prop) : f28 pp_0_A pp_0_n pp_0_c pp_1_A pp_1_n pp_1_c H Q = wFun fcx28 Try.f28 [.agg #[.slice pp_0_A pp_0_n pp_0_c, .slice pp_1_A pp_1_n pp_1_c]] H Q := by kernel_rfl
theorem f28.ok (pp_0_A : Option Addr) (pp_0_n pp_0_c : Nat) (pp_1_A : Option Addr) (pp_1_n pp_1_c : Nat) {H : Hp} {Q : Value → Hp → Prop} (h : f28 pp_0_A pp_0_n pp_0_c pp_1_A pp_1_n pp_1_c H Q) : HCalls Try.prog 28 [.agg #[.slice pp_0_A pp_0_n pp_0_c, .slice pp_1_A pp_1_n pp_1_c]] H Q := hcalls_of (cxOk 36 [(1, true), (4, true)] [(4, ⟨[1, 16, 17], [1], [(18, .int .i64)], []⟩)] []) Try.func28 (Eq.mp (f28.eq pp_0_A pp_0_n pp_0_c pp_1_A pp_1_n pp_1_c H Q) h)

/-- justiciar pair.clone -/
def f29 (pp_0_A : Option Addr) (pp_0_n pp_0_c : Nat) (pp_1_A : Option Addr) (pp_1_n pp_1_c : Nat) (H : Hp) (Q : Value → Hp → Prop) : Prop :=
  HCalls Try.prog 44 [.slice pp_1_A pp_1_n pp_1_c] H fun v1 H2 => ∃ (A3 : Option Addr) (n3 c3 : Nat), v1 = .slice A3 n3 c3 ∧ LoopF (σ := (Int × Unit) × (((Option Addr × Nat × Nat) × ((Option Addr × Nat × Nat) × Unit)) ×
    Unit)) ((0, ()), (((none, 0, 0), ((A3, n3, c3), ())), ())) H2 fun s4 H5 next6 => cnd (decide ((s4.1.1 : Int) < ((pp_0_n : Nat) : Int))) (0 ≤ (s4.1.1 : Int) ∧ (s4.1.1 : Int) < ((pp_0_n : Nat) : Int) ∧ onPtr pp_0_A fun
    b7 o7 => ∃ x8 : Int, cl H5 b7 (o7 + (s4.1.1 : Int).toNat * 3) = some (.int .i64 x8) ∧ ∃ x9 : Bool, cl H5 b7 ((o7 + (s4.1.1 : Int).toNat * 3) + 1) = some (.bool x9) ∧ ∃ (A10 : Option Addr) (n10 c10 : Nat), cl H5 b7
    (((o7 + (s4.1.1 : Int).toNat * 3) + 1) + 1) = some (.slice A10 n10 c10) ∧ HCalls Try.prog 45 [.slice A10 n10 c10] H5 fun v11 H12 => ∃ (A13 : Option Addr) (n13 c13 : Nat), v11 = .slice A13 n13 c13 ∧ newF H12 53 [.int
    .i64 x8, .bool x9, .slice A13 n13 c13] fun g14 H15 => appendF H15 53 3 40 s4.2.1.1.1 s4.2.1.1.2.1 s4.2.1.1.2.2 (some ⟨g14, 0, none⟩) 1 fun A16 n16 c16 H17 => KeepX [some (.loc 2 0), some (.loc 3 0), some (.v (.slice
    pp_0_A pp_0_n pp_0_c)), some (.v (.int .i64 ((pp_0_n : Nat) : Int)))] [some (true, [.slice none 0 0, .slice none 0 0])] ∧ next6 ((IntKind.i64.wrap (s4.1.1 + 1), ()), (((A16, n16, c16), ((s4.2.1.2.1.1, s4.2.1.2.1.2.1,
    s4.2.1.2.1.2.2), ())), ())) H17) (Q (.agg #[.slice s4.2.1.1.1 s4.2.1.1.2.1 s4.2.1.1.2.2, .slice s4.2.1.2.1.1 s4.2.1.2.1.2.1 s4.2.1.2.1.2.2]) H5)
noncomputable def fcx29 : Cx := cx 29 [(1, true), (2, true), (3, true), (5, true)] [(3, ⟨[2, 3, 11, 12], [2], [(13, .int .i64)], [(3, [.slice, .slice])]⟩)] []
theorem f29.eq (pp_0_A : Option Addr) (pp_0_n pp_0_c : Nat) (pp_1_A : Option Addr) (pp_1_n pp_1_c : Nat) (H : Hp) (Q : Value → Hp → Prop) : f29 pp_0_A pp_0_n pp_0_c pp_1_A pp_1_n pp_1_c H Q = wFun fcx29 Try.f29 [.agg #[.slice pp_0_A pp_0_n pp_0_c, .slice pp_1_A pp_1_n pp_1_c]] H Q := by kernel_rfl
theorem f29.ok (pp_0_A : Option Addr) (pp_0_n pp_0_c : Nat) (pp_1_A : Option Addr) (pp_1_n pp_1_c : Nat) {H : Hp} {Q : Value → Hp → Prop} (h : f29 pp_0_A pp_0_n pp_0_c pp_1_A pp_1_n pp_1_c H Q) : HCalls Try.prog 29 [.agg #[.slice pp_0_A pp_0_n pp_0_c, .slice pp_1_A pp_1_n pp_1_c]] H Q := hcalls_of (cxOk 29 [(1, true), (2, true), (3, true), (5, true)] [(3, ⟨[2, 3, 11, 12], [2], [(13, .int .i64)], [(3, [.slice, .slice])]⟩)] []) Try.func29 (Eq.mp (f29.eq pp_0_A pp_0_n pp_0_c pp_1_A pp_1_n pp_1_c H Q) h)

/-- (*justiciar pair.actor).act -/
def f30 (pa_b pa_o : Nat) (px_0 : Int) (px_1 : Int) (px_2 : Int) (H : Hp) (Q : Value → Hp → Prop) : Prop :=
  jn (fun (j35 : Bool) (H36 : Hp) => cnd (!j35) (Q (.int .i64 5) H36) (Q (.int .i64 0) H36)) fun J37 => jn (fun (j1 : Bool) => cnd j1 (jn (fun (j3 : Bool) => cnd j3 (Q (.int .i64 21) H) (HCalls Try.prog 46 [.pointer (some
    ⟨pa_b, pa_o, none⟩), .int .i64 px_0, .int .i64 px_1] H fun v5 H6 => ∃ x7 : Bool, v5 = .bool x7 ∧ J37 x7 H6)) fun J4 => cnd (decide ((px_1 : Int) < 0)) (J4 true) (J4 (decide ((px_1 : Int) > 1)))) (jn (fun (j8 : Bool)
    => cnd j8 (jn (fun (j11 : Bool) => cnd j11 (Q (.int .i64 21) H) (cnd ((px_0 : Int) == 3) (HCalls Try.prog 47 [.pointer (some ⟨pa_b, pa_o, none⟩), .int .i64 px_2] H fun v13 H14 => ∃ x15 : Int, v13 = .int .i64 x15 ∧ Q
    (.int .i64 x15) H14) (cnd ((px_0 : Int) == 4) (∃ (A16 : Option Addr) (n16 c16 : Nat), cl H pa_b ((pa_o + 0) + 1) = some (.slice A16 n16 c16) ∧ HCalls Try.prog 48 [.slice A16 n16 c16, .int .i64 px_2, .int .i64
    (IntKind.i64.wrap (px_2 + 1))] H fun v17 H18 => ∃ (A19 : Option Addr) (n19 c19 : Nat), v17 = .slice A19 n19 c19 ∧ storeF H18 pa_b ((pa_o + 0) + 1) [.slice A19 n19 c19] fun H20 => J37 true H20) (∃ (A21 : Option Addr)
    (n21 c21 : Nat), cl H pa_b ((pa_o + 0) + 1) = some (.slice A21 n21 c21) ∧ ∃ (A22 : Option Addr) (n22 c22 : Nat), cl H pa_b ((pa_o + 0) + 1) = some (.slice A22 n22 c22) ∧ ∃ (A23 : Option Addr) (n23 c23 : Nat), cl H
    pa_b ((pa_o + 0) + 1) = some (.slice A23 n23 c23) ∧ 0 ≤ (px_2 : Int) ∧ (px_2 : Int) < ((n23 : Nat) : Int) ∧ onPtr A23 fun b24 o24 => ∃ x25 : Int, cl H b24 (o24 + (px_2 : Int).toNat * 2) = some (.int .i64 x25) ∧ ∃ x26
    : Int, cl H b24 ((o24 + (px_2 : Int).toNat * 2) + 1) = some (.int .i64 x26) ∧ newF H 66 [.int .i64 x25, .int .i64 x26] fun g27 H28 => appendF H28 66 2 16 A22 n22 c22 (some ⟨g27, 0, none⟩) 1 fun A29 n29 c29 H30 =>
    storeF H30 pa_b ((pa_o + 0) + 1) [.slice A29 n29 c29] fun H31 => J37 (decide ((((n21 : Nat) : Int) : Int) < 20)) H31)))) fun J12 => cnd (decide ((px_2 : Int) < 0)) (J12 true) (∃ (A10 : Option Addr) (n10 c10 : Nat), cl
    H pa_b ((pa_o + 0) + 1) = some (.slice A10 n10 c10) ∧ J12 (decide ((px_2 : Int) ≥ ((n10 : Nat) : Int))))) (HCalls Try.prog 49 [.pointer (some ⟨pa_b, pa_o, none⟩), .int .i64 px_0] H fun v32 H33 => ∃ x34 : Bool, v32 =
    .bool x34 ∧ J37 x34 H33)) fun J9 => cnd ((px_0 : Int) == 3) (J9 ((px_0 : Int) == 3)) (cnd ((px_0 : Int) == 4) (J9 ((px_0 : Int) == 4)) (J9 ((px_0 : Int) == 5))))) fun J2 => cnd ((px_0 : Int) == 6) (J2 ((px_0 : Int) ==
    6)) (cnd ((px_0 : Int) == 7) (J2 ((px_0 : Int) == 7)) (J2 ((px_0 : Int) == 9)))
noncomputable def fcx30 : Cx := cx 102 [(3, true)] [] [(13, (.look 0 (.look 1 (.look 2 (.look 3 (.look 4 (.look 5 (.look 6 (.look 7 (.look 8 (.look 9 (.look 10 (.look 11 (.look 12 (.look 13 .done))))))))))))))), (21, (.look 0 (.look 1 (.look 2 (.look 3 (.look 4 (.look 5 (.look 6 (.look 7 (.look 8 (.look 9 (.look 10 (.act 11 (.look 12 (.look 13 (.look 14 (.act 15 .done .done)))) .done))))))))))))), (17, (.look 0 (.look 1 (.look 2 (.look 3 (.look 4 (.look 5 (.look 6 (.look 7 (.look 8 (.look 9 (.look 10 (.look 11 (.look 12 (.look 13 (.look 14 (.act 15 (.act 16 (.look 17 (.look 18 (.look 19 (.act 20 .done .done)))) .done) .done)))))))))))))))))]
theorem f30.eq (pa_b pa_o : Nat) (px_0 : Int) (px_1 : Int) (px_2 : Int) (H : Hp) (Q : Value → Hp → Prop) : f30 pa_b pa_o px_0 px_1 px_2 H Q = wFun fcx30 Try.f30 [.pointer (some ⟨pa_b, pa_o, none⟩), .agg #[.int .i64 px_0, .int .i64 px_1, .int .i64 px_2]] H Q := by kernel_rfl
theorem f30.ok (pa_b pa_o : Nat) (px_0 : Int) (px_1 : Int) (px_2 : Int) {H : Hp} {Q : Value → Hp → Prop} (h : f30 pa_b pa_o px_0 px_1 px_2 H Q) : HCalls Try.prog 30 [.pointer (some ⟨pa_b, pa_o, none⟩), .agg #[.int .i64 px_0, .int .i64 px_1, .int .i64 px_2]] H Q := hcalls_of (cxOk 102 [(3, true)] [] [(13, (.look 0 (.look 1 (.look 2 (.look 3 (.look 4 (.look 5 (.look 6 (.look 7 (.look 8 (.look 9 (.look 10 (.look 11 (.look 12 (.look 13 .done))))))))))))))), (21, (.look 0 (.look 1 (.look 2 (.look 3 (.look 4 (.look 5 (.look 6 (.look 7 (.look 8 (.look 9 (.look 10 (.act 11 (.look 12 (.look 13 (.look 14 (.act 15 .done .done)))) .done))))))))))))), (17, (.look 0 (.look 1 (.look 2 (.look 3 (.look 4 (.look 5 (.look 6 (.look 7 (.look 8 (.look 9 (.look 10 (.look 11 (.look 12 (.look 13 (.look 14 (.act 15 (.act 16 (.look 17 (.look 18 (.look 19 (.act 20 .done .done)))) .done) .done)))))))))))))))))]) Try.func30 (Eq.mp (f30.eq pa_b pa_o px_0 px_1 px_2 H Q) h)

/-- (*justiciar justiciarref23.player).act -/
def f31 (px_b px_o : Nat) (pa_0 : Int) (pa_1 : Int) (pa_2 : Int) (H : Hp) (Q : Value → Hp → Prop) : Prop :=
  ∃ (A1 : Option Addr) (n1 c1 : Nat), cl H px_b ((px_o + 0) + 0) = some (.slice A1 n1 c1) ∧ jn (fun (H115 : Hp) => Q (.bool true) H115) fun J116 => cnd ((pa_0 : Int) == 1) (jn (fun (j20 : Bool) (H21 : Hp) => cnd j20 (Q
    (.bool false) H21) (0 ≤ (0 : Int) ∧ (0 : Int) < ((n1 : Nat) : Int) ∧ onPtr A1 fun b23 o23 => storeF H21 b23 ((o23 + (0 : Int).toNat * 3) + 0) [.int .i64 1] fun H24 => 0 ≤ (1 : Int) ∧ (1 : Int) < ((n1 : Nat) : Int) ∧
    onPtr A1 fun b25 o25 => storeF H24 b25 ((o25 + (1 : Int).toNat * 3) + 0) [.int .i64 1] fun H26 => J116 H26)) fun J22 => 0 ≤ (0 : Int) ∧ (0 : Int) < ((n1 : Nat) : Int) ∧ onPtr A1 fun b2 o2 => ∃ x3 : Bool, cl H b2 ((o2
    + (0 : Int).toNat * 3) + 1) = some (.bool x3) ∧ cnd (!x3) (J22 true H) (0 ≤ (1 : Int) ∧ (1 : Int) < ((n1 : Nat) : Int) ∧ onPtr A1 fun b4 o4 => ∃ x5 : Bool, cl H b4 ((o4 + (1 : Int).toNat * 3) + 1) = some (.bool x5) ∧
    cnd (!x5) (J22 true H) (newF H 50 [.int .i64 0] fun g6 H7 => HCalls Try.prog 50 [.pointer (some ⟨px_b, px_o, none⟩), .int .i64 0, .slice (some ⟨g6, 0, none⟩) 1 1] H7 fun v8 H9 => ∃ x10 : Bool, v8 = .bool x10 ∧ cnd
    (!x10) (J22 true H9) (newF H9 50 [.int .i64 0] fun g11 H12 => HCalls Try.prog 50 [.pointer (some ⟨px_b, px_o, none⟩), .int .i64 1, .slice (some ⟨g11, 0, none⟩) 1 1] H12 fun v13 H14 => ∃ x15 : Bool, v13 = .bool x15 ∧
    cnd (!x15) (J22 true H14) (0 ≤ (0 : Int) ∧ (0 : Int) < ((n1 : Nat) : Int) ∧ onPtr A1 fun b16 o16 => ∃ (A17 : Option Addr) (n17 c17 : Nat), cl H14 b16 ((o16 + (0 : Int).toNat * 3) + 2) = some (.slice A17 n17 c17) ∧ 0 ≤
    (1 : Int) ∧ (1 : Int) < ((n1 : Nat) : Int) ∧ onPtr A1 fun b18 o18 => ∃ (A19 : Option Addr) (n19 c19 : Nat), cl H14 b18 ((o18 + (1 : Int).toNat * 3) + 2) = some (.slice A19 n19 c19) ∧ J22 (decide ((IntKind.i64.wrap
    (((n17 : Nat) : Int) + ((n19 : Nat) : Int)) : Int) > 0)) H14))))) (cnd ((pa_0 : Int) == 2) (jn (fun (j34 : Bool) (H35 : Hp) => cnd j34 (Q (.bool false) H35) (0 ≤ (0 : Int) ∧ (0 : Int) < ((n1 : Nat) : Int) ∧ onPtr A1
    fun b37 o37 => storeF H35 b37 ((o37 + (0 : Int).toNat * 3) + 0) [.int .i64 2] fun H38 => HCalls Try.prog 51 [.pointer (some ⟨px_b, px_o, none⟩), .int .i64 1, .int .i64 1] H38 fun v39 H40 => v39 = .tuple #[] ∧ J116
    H40)) fun J36 => 0 ≤ (0 : Int) ∧ (0 : Int) < ((n1 : Nat) : Int) ∧ onPtr A1 fun b27 o27 => ∃ x28 : Bool, cl H b27 ((o27 + (0 : Int).toNat * 3) + 1) = some (.bool x28) ∧ cnd (!x28) (J36 true H) (newF H 50 [.int .i64 1]
    fun g29 H30 => HCalls Try.prog 50 [.pointer (some ⟨px_b, px_o, none⟩), .int .i64 0, .slice (some ⟨g29, 0, none⟩) 1 1] H30 fun v31 H32 => ∃ x33 : Bool, v31 = .bool x33 ∧ J36 (!x33) H32)) (cnd ((pa_0 : Int) == 3) (∃
    (A41 : Option Addr) (n41 c41 : Nat), cl H px_b ((px_o + 0) + 1) = some (.slice A41 n41 c41) ∧ 0 ≤ (pa_2 : Int) ∧ (pa_2 : Int) < ((n41 : Nat) : Int) ∧ onPtr A41 fun b42 o42 => ∃ x43 : Int, cl H b42 (o42 + (pa_2 :
    Int).toNat * 2) = some (.int .i64 x43) ∧ ∃ x44 : Int, cl H b42 ((o42 + (pa_2 : Int).toNat * 2) + 1) = some (.int .i64 x44) ∧ 0 ≤ (x43 : Int) ∧ (x43 : Int) < ((n1 : Nat) : Int) ∧ onPtr A1 fun b45 o45 => ∃ x46 : Bool,
    cl H b45 ((o45 + (x43 : Int).toNat * 3) + 1) = some (.bool x46) ∧ cnd (!x46) (Q (.bool false) H) (HCalls Try.prog 52 [.pointer (some ⟨px_b, px_o, none⟩), .int .i64 pa_2] H fun v47 H48 => v47 = .tuple #[] ∧ cnd ((x43 :
    Int) == 1) (HCalls Try.prog 53 [.pointer (some ⟨px_b, px_o, none⟩), .int .i64 x44] H48 fun v49 H50 => v49 = .tuple #[] ∧ J116 H50) (HCalls Try.prog 54 [.pointer (some ⟨px_b, px_o, none⟩), .int .i64 x44] H48 fun v51
    H52 => v51 = .tuple #[] ∧ J116 H52))) (cnd ((pa_0 : Int) == 4) (HCalls Try.prog 52 [.pointer (some ⟨px_b, px_o, none⟩), .int .i64 pa_2] H fun v53 H54 => v53 = .tuple #[] ∧ J116 H54) (cnd ((pa_0 : Int) == 5) (∃ (A55 :
    Option Addr) (n55 c55 : Nat), cl H px_b ((px_o + 0) + 1) = some (.slice A55 n55 c55) ∧ cnd (decide ((((n55 : Nat) : Int) : Int) ≥ 20)) (Q (.bool false) H) (∃ (A56 : Option Addr) (n56 c56 : Nat), cl H px_b ((px_o + 0)
    + 1) = some (.slice A56 n56 c56) ∧ ∃ (A57 : Option Addr) (n57 c57 : Nat), cl H px_b ((px_o + 0) + 1) = some (.slice A57 n57 c57) ∧ 0 ≤ (pa_2 : Int) ∧ (pa_2 : Int) < ((n57 : Nat) : Int) ∧ onPtr A57 fun b58 o58 => ∃ x59
    : Int, cl H b58 (o58 + (pa_2 : Int).toNat * 2) = some (.int .i64 x59) ∧ ∃ x60 : Int, cl H b58 ((o58 + (pa_2 : Int).toNat * 2) + 1) = some (.int .i64 x60) ∧ newF H 66 [.int .i64 x59, .int .i64 x60] fun g61 H62 =>
    appendF H62 66 2 16 A56 n56 c56 (some ⟨g61, 0, none⟩) 1 fun A63 n63 c63 H64 => storeF H64 px_b ((px_o + 0) + 1) [.slice A63 n63 c63] fun H65 => J116 H65)) (cnd ((pa_0 : Int) == 6) (0 ≤ (pa_1 : Int) ∧ (pa_1 : Int) <
    ((n1 : Nat) : Int) ∧ onPtr A1 fun b66 o66 => ∃ x67 : Bool, cl H b66 ((o66 + (pa_1 : Int).toNat * 3) + 1) = some (.bool x67) ∧ cnd (!x67) (Q (.bool false) H) (0 ≤ (pa_1 : Int) ∧ (pa_1 : Int) < ((n1 : Nat) : Int) ∧
    onPtr A1 fun b68 o68 => storeF H b68 ((o68 + (pa_1 : Int).toNat * 3) + 1) [.bool false] fun H69 => 0 ≤ (pa_1 : Int) ∧ (pa_1 : Int) < ((n1 : Nat) : Int) ∧ onPtr A1 fun b70 o70 => storeF H69 b70 ((o70 + (pa_1 :
    Int).toNat * 3) + 0) [.int .i64 0] fun H71 => J116 H71)) (cnd ((pa_0 : Int) == 7) (0 ≤ (pa_1 : Int) ∧ (pa_1 : Int) < ((n1 : Nat) : Int) ∧ onPtr A1 fun b72 o72 => ∃ x73 : Bool, cl H b72 ((o72 + (pa_1 : Int).toNat * 3)
    + 1) = some (.bool x73) ∧ cnd x73 (Q (.bool false) H) (0 ≤ (pa_1 : Int) ∧ (pa_1 : Int) < ((n1 : Nat) : Int) ∧ onPtr A1 fun b74 o74 => storeF H b74 ((o74 + (pa_1 : Int).toNat * 3) + 1) [.bool true] fun H75 => 0 ≤ (pa_1
    : Int) ∧ (pa_1 : Int) < ((n1 : Nat) : Int) ∧ onPtr A1 fun b76 o76 => ∃ (A77 : Option Addr) (n77 c77 : Nat), cl H75 b76 ((o76 + (pa_1 : Int).toNat * 3) + 2) = some (.slice A77 n77 c77) ∧ cnd (decide ((((n77 : Nat) :
    Int) : Int) > 0)) (0 ≤ (pa_1 : Int) ∧ (pa_1 : Int) < ((n1 : Nat) : Int) ∧ onPtr A1 fun b78 o78 => ∃ (A79 : Option Addr) (n79 c79 : Nat), cl H75 b78 ((o78 + (pa_1 : Int).toNat * 3) + 2) = some (.slice A79 n79 c79) ∧ 0
    ≤ (IntKind.i64.wrap (((n77 : Nat) : Int) - 1) : Int) ∧ (IntKind.i64.wrap (((n77 : Nat) : Int) - 1) : Int) < ((n79 : Nat) : Int) ∧ onPtr A79 fun b80 o80 => ∃ x81 : Int, cl H75 b80 (o80 + (IntKind.i64.wrap (((n77 : Nat)
    : Int) - 1) : Int).toNat * 1) = some (.int .i64 x81) ∧ 0 ≤ (pa_1 : Int) ∧ (pa_1 : Int) < ((n1 : Nat) : Int) ∧ onPtr A1 fun b82 o82 => storeF H75 b82 ((o82 + (pa_1 : Int).toNat * 3) + 0) [.int .i64 x81] fun H83 => J116
    H83) (J116 H75))) (cnd ((pa_0 : Int) == 8) (jn (fun (j91 : Bool) (H92 : Hp) => cnd j91 (Q (.bool false) H92) (HCalls Try.prog 51 [.pointer (some ⟨px_b, px_o, none⟩), .int .i64 0, .int .i64 6] H92 fun v94 H95 => v94 =
    .tuple #[] ∧ J116 H95)) fun J93 => 0 ≤ (1 : Int) ∧ (1 : Int) < ((n1 : Nat) : Int) ∧ onPtr A1 fun b84 o84 => ∃ x85 : Bool, cl H b84 ((o84 + (1 : Int).toNat * 3) + 1) = some (.bool x85) ∧ cnd (!x85) (J93 true H) (newF H
    50 [.int .i64 2] fun g86 H87 => HCalls Try.prog 50 [.pointer (some ⟨px_b, px_o, none⟩), .int .i64 1, .slice (some ⟨g86, 0, none⟩) 1 1] H87 fun v88 H89 => ∃ x90 : Bool, v88 = .bool x90 ∧ J93 (!x90) H89)) (cnd ((pa_0 :
    Int) == 9) (jn (fun (j108 : Bool) (H109 : Hp) => cnd j108 (Q (.bool false) H109) (HCalls Try.prog 55 [.pointer (some ⟨px_b, px_o, none⟩), .int .i64 pa_1, .int .i64 4] H109 fun v111 H112 => v111 = .tuple #[] ∧ cnd
    ((pa_1 : Int) == 0) (HCalls Try.prog 51 [.pointer (some ⟨px_b, px_o, none⟩), .int .i64 1, .int .i64 5] H112 fun v113 H114 => v113 = .tuple #[] ∧ J116 H114) (J116 H112))) fun J110 => 0 ≤ (pa_1 : Int) ∧ (pa_1 : Int) <
    ((n1 : Nat) : Int) ∧ onPtr A1 fun b96 o96 => ∃ x97 : Bool, cl H b96 ((o96 + (pa_1 : Int).toNat * 3) + 1) = some (.bool x97) ∧ cnd (!x97) (J110 true H) (newF H 50 [.int .i64 1] fun g98 H99 => HCalls Try.prog 50
    [.pointer (some ⟨px_b, px_o, none⟩), .int .i64 pa_1, .slice (some ⟨g98, 0, none⟩) 1 1] H99 fun v100 H101 => ∃ x102 : Bool, v100 = .bool x102 ∧ cnd (!x102) (cnd ((pa_1 : Int) == 0) (newF H101 50 [.int .i64 2] fun g103
    H104 => HCalls Try.prog 50 [.pointer (some ⟨px_b, px_o, none⟩), .int .i64 0, .slice (some ⟨g103, 0, none⟩) 1 1] H104 fun v105 H106 => ∃ x107 : Bool, v105 = .bool x107 ∧ J110 (!x107) H106) (J110 true H101)) (J110 false
    H101))) (J116 H)))))))))
noncomputable def fcx31 : Cx := cx 255 [(3, true), (6, true)] [] [(4, (.look 0 (.look 1 (.look 2 (.look 3 (.look 4 (.look 5 (.look 6 (.look 7 (.look 8 (.look 9 (.look 10 (.look 11 (.look 12 (.look 13 (.act 14 (.act 15 (.look 16 (.look 17 (.look 18 (.look 19 (.act 20 (.act 21 (.look 22 (.look 23 (.look 24 (.look 25 (.look 26 (.look 27 (.look 28 (.look 29 (.look 30 (.look 31 (.look 32 (.look 33 (.look 34 (.look 35 (.look 36 (.look 37 .done)))))))))))))))) .done) .done))))) .done) .done)))))))))))))))), (13, (.look 0 (.look 1 (.look 2 (.look 3 (.look 4 (.look 5 (.look 6 (.look 7 (.look 8 (.act 9 (.act 10 .done .done) .done))))))))))), (25, (.look 0 (.look 1 (.look 2 (.look 3 (.look 4 (.look 5 (.look 6 (.look 7 (.look 8 (.look 9 (.look 10 (.look 11 (.look 12 (.look 13 (.look 14 (.act 15 (.act 16 (.look 17 (.look 18 (.look 19 (.act 20 .done .done)))) .done) .done))))))))))))))))), (29, (.look 0 (.look 1 (.look 2 (.look 3 (.look 4 (.look 5 (.look 6 (.look 7 (.act 8 (.look 9 (.look 10 (.act 11 .done .done))) .done)))))))))), (36, (.look 0 (.look 1 (.look 2 (.look 3 (.look 4 (.look 5 (.look 6 (.look 7 (.look 8 (.look 9 (.look 10 (.look 11 (.look 12 (.look 13 (.look 14 (.act 15 .done .done)))))))))))))))))]
theorem f31.eq (px_b px_o : Nat) (pa_0 : Int) (pa_1 : Int) (pa_2 : Int) (H : Hp) (Q : Value → Hp → Prop) : f31 px_b px_o pa_0 pa_1 pa_2 H Q = wFun fcx31 Try.f31 [.pointer (some ⟨px_b, px_o, none⟩), .agg #[.int .i64 pa_0, .int .i64 pa_1, .int .i64 pa_2]] H Q := by kernel_rfl
theorem f31.ok (px_b px_o : Nat) (pa_0 : Int) (pa_1 : Int) (pa_2 : Int) {H : Hp} {Q : Value → Hp → Prop} (h : f31 px_b px_o pa_0 pa_1 pa_2 H Q) : HCalls Try.prog 31 [.pointer (some ⟨px_b, px_o, none⟩), .agg #[.int .i64 pa_0, .int .i64 pa_1, .int .i64 pa_2]] H Q := hcalls_of (cxOk 255 [(3, true), (6, true)] [] [(4, (.look 0 (.look 1 (.look 2 (.look 3 (.look 4 (.look 5 (.look 6 (.look 7 (.look 8 (.look 9 (.look 10 (.look 11 (.look 12 (.look 13 (.act 14 (.act 15 (.look 16 (.look 17 (.look 18 (.look 19 (.act 20 (.act 21 (.look 22 (.look 23 (.look 24 (.look 25 (.look 26 (.look 27 (.look 28 (.look 29 (.look 30 (.look 31 (.look 32 (.look 33 (.look 34 (.look 35 (.look 36 (.look 37 .done)))))))))))))))) .done) .done))))) .done) .done)))))))))))))))), (13, (.look 0 (.look 1 (.look 2 (.look 3 (.look 4 (.look 5 (.look 6 (.look 7 (.look 8 (.act 9 (.act 10 .done .done) .done))))))))))), (25, (.look 0 (.look 1 (.look 2 (.look 3 (.look 4 (.look 5 (.look 6 (.look 7 (.look 8 (.look 9 (.look 10 (.look 11 (.look 12 (.look 13 (.look 14 (.act 15 (.act 16 (.look 17 (.look 18 (.look 19 (.act 20 .done .done)))) .done) .done))))))))))))))))), (29, (.look 0 (.look 1 (.look 2 (.look 3 (.look 4 (.look 5 (.look 6 (.look 7 (.act 8 (.look 9 (.look 10 (.act 11 .done .done))) .done)))))))))), (36, (.look 0 (.look 1 (.look 2 (.look 3 (.look 4 (.look 5 (.look 6 (.look 7 (.look 8 (.look 9 (.look 10 (.look 11 (.look 12 (.look 13 (.look 14 (.act 15 .done .done)))))))))))))))))]) Try.func31 (Eq.mp (f31.eq px_b px_o pa_0 pa_1 pa_2 H Q) h)

/-- justiciar pair.wrote -/
def f32 (pp_0_A : Option Addr) (pp_0_n pp_0_c : Nat) (pp_1_A : Option Addr) (pp_1_n pp_1_c : Nat) (px : Int) (H : Hp) (Q : Value → Hp → Prop) : Prop :=
  newF H 50 [.int .i64 px] fun g1 H2 => HCalls Try.prog 56 [.slice pp_0_A pp_0_n pp_0_c, .func (.func 57) #[] #[.pointer (some ⟨g1, 0, none⟩)]] H2 fun v3 H4 => ∃ x5 : Bool, v3 = .bool x5 ∧ Q (.bool x5) H4
noncomputable def fcx32 : Cx := cx 9 [(2, true)] [] []
theorem f32.eq (pp_0_A : Option Addr) (pp_0_n pp_0_c : Nat) (pp_1_A : Option Addr) (pp_1_n pp_1_c : Nat) (px : Int) (H : Hp) (Q : Value → Hp → Prop) : f32 pp_0_A pp_0_n pp_0_c pp_1_A pp_1_n pp_1_c px H Q = wFun fcx32 Try.f32 [.agg #[.slice pp_0_A pp_0_n pp_0_c, .slice pp_1_A pp_1_n pp_1_c], .int .i64 px] H Q := by kernel_rfl
theorem f32.ok (pp_0_A : Option Addr) (pp_0_n pp_0_c : Nat) (pp_1_A : Option Addr) (pp_1_n pp_1_c : Nat) (px : Int) {H : Hp} {Q : Value → Hp → Prop} (h : f32 pp_0_A pp_0_n pp_0_c pp_1_A pp_1_n pp_1_c px H Q) : HCalls Try.prog 32 [.agg #[.slice pp_0_A pp_0_n pp_0_c, .slice pp_1_A pp_1_n pp_1_c], .int .i64 px] H Q := hcalls_of (cxOk 9 [(2, true)] [] []) Try.func32 (Eq.mp (f32.eq pp_0_A pp_0_n pp_0_c pp_1_A pp_1_n pp_1_c px H Q) h)

/-- justiciar justiciarref23.wrote -/
def f33 (pp_0_A : Option Addr) (pp_0_n pp_0_c : Nat) (pp_1_A : Option Addr) (pp_1_n pp_1_c : Nat) (px : Int) (H : Hp) (Q : Value → Hp → Prop) : Prop :=
  LoopF (σ := (Int × Unit) × Unit) ((0, ()), ()) H fun s1 H2 next3 => cnd (decide ((s1.1.1 : Int) < ((pp_0_n : Nat) : Int))) (0 ≤ (s1.1.1 : Int) ∧ (s1.1.1 : Int) < ((pp_0_n : Nat) : Int) ∧ onPtr pp_0_A fun b4 o4 => ∃ x5 :
    Int, cl H2 b4 (o4 + (s1.1.1 : Int).toNat * 3) = some (.int .i64 x5) ∧ ∃ x6 : Bool, cl H2 b4 ((o4 + (s1.1.1 : Int).toNat * 3) + 1) = some (.bool x6) ∧ ∃ (A7 : Option Addr) (n7 c7 : Nat), cl H2 b4 (((o4 + (s1.1.1 :
    Int).toNat * 3) + 1) + 1) = some (.slice A7 n7 c7) ∧ LoopF (σ := (Int × Unit) × Unit) ((0, ()), ()) H2 fun s8 H9 next10 => cnd (decide ((s8.1.1 : Int) < ((n7 : Nat) : Int))) (0 ≤ (s8.1.1 : Int) ∧ (s8.1.1 : Int) < ((n7
    : Nat) : Int) ∧ onPtr A7 fun b11 o11 => ∃ x12 : Int, cl H9 b11 (o11 + (s8.1.1 : Int).toNat * 1) = some (.int .i64 x12) ∧ cnd ((px : Int) == x12) (Q (.bool true) H9) (KeepX [some (.v (.int .i64 px)), some (.v (.slice
    pp_0_A pp_0_n pp_0_c)), some (.v (.int .i64 ((pp_0_n : Nat) : Int))), some (.v (.int .i64 s1.1.1)), some (.v (.slice A7 n7 c7)), some (.v (.int .i64 ((n7 : Nat) : Int)))] [] ∧ next10 ((IntKind.i64.wrap (s8.1.1 + 1),
    ()), ()) H9)) (KeepX [some (.v (.int .i64 px)), some (.v (.slice pp_0_A pp_0_n pp_0_c)), some (.v (.int .i64 ((pp_0_n : Nat) : Int)))] [] ∧ next3 ((IntKind.i64.wrap (s1.1.1 + 1), ()), ()) H9)) (Q (.bool false) H2)
noncomputable def fcx33 : Cx := cx 28 [(2, true), (6, true)] [(2, ⟨[1, 10, 11], [], [(12, .int .i64)], []⟩), (5, ⟨[1, 10, 11, 12, 17, 18], [], [(19, .int .i64)], []⟩)] []
theorem f33.eq (pp_0_A : Option Addr) (pp_0_n pp_0_c : Nat) (pp_1_A : Option Addr) (pp_1_n pp_1_c : Nat) (px : Int) (H : Hp) (Q : Value → Hp → Prop) : f33 pp_0_A pp_0_n pp_0_c pp_1_A pp_1_n pp_1_c px H Q = wFun fcx33 Try.f33 [.agg #[.slice pp_0_A pp_0_n pp_0_c, .slice pp_1_A pp_1_n pp_1_c], .int .i64 px] H Q := by kernel_rfl
theorem f33.ok (pp_0_A : Option Addr) (pp_0_n pp_0_c : Nat) (pp_1_A : Option Addr) (pp_1_n pp_1_c : Nat) (px : Int) {H : Hp} {Q : Value → Hp → Prop} (h : f33 pp_0_A pp_0_n pp_0_c pp_1_A pp_1_n pp_1_c px H Q) : HCalls Try.prog 33 [.agg #[.slice pp_0_A pp_0_n pp_0_c, .slice pp_1_A pp_1_n pp_1_c], .int .i64 px] H Q := hcalls_of (cxOk 28 [(2, true), (6, true)] [(2, ⟨[1, 10, 11], [], [(12, .int .i64)], []⟩), (5, ⟨[1, 10, 11, 12, 17, 18], [], [(19, .int .i64)], []⟩)] []) Try.func33 (Eq.mp (f33.eq pp_0_A pp_0_n pp_0_c pp_1_A pp_1_n pp_1_c px H Q) h)

/-- justiciar pair.last -/
def f34 (ps_0 : Int) (ps_1 : Bool) (ps_2_A : Option Addr) (ps_2_n ps_2_c : Nat) (H : Hp) (Q : Value → Hp → Prop) : Prop :=
  cnd (decide ((((ps_2_n : Nat) : Int) : Int) > 0)) (0 ≤ (IntKind.i64.wrap (((ps_2_n : Nat) : Int) - 1) : Int) ∧ (IntKind.i64.wrap (((ps_2_n : Nat) : Int) - 1) : Int) < ((ps_2_n : Nat) : Int) ∧ onPtr ps_2_A fun b1 o1 => ∃
    x2 : Int, cl H b1 (o1 + (IntKind.i64.wrap (((ps_2_n : Nat) : Int) - 1) : Int).toNat * 1) = some (.int .i64 x2) ∧ Q (.int .i64 x2) H) (Q (.int .i64 0) H)
noncomputable def fcx34 : Cx := cx 15 [(1, true)] [] []
theorem f34.eq (ps_0 : Int) (ps_1 : Bool) (ps_2_A : Option Addr) (ps_2_n ps_2_c : Nat) (H : Hp) (Q : Value → Hp → Prop) : f34 ps_0 ps_1 ps_2_A ps_2_n ps_2_c H Q = wFun fcx34 Try.f34 [.agg #[.int .i64 ps_0, .bool ps_1, .slice ps_2_A ps_2_n ps_2_c]] H Q := by kernel_rfl
theorem f34.ok (ps_0 : Int) (ps_1 : Bool) (ps_2_A : Option Addr) (ps_2_n ps_2_c : Nat) {H : Hp} {Q : Value → Hp → Prop} (h : f34 ps_0 ps_1 ps_2_A ps_2_n ps_2_c H Q) : HCalls Try.prog 34 [.agg #[.int .i64 ps_0, .bool ps_1, .slice ps_2_A ps_2_n ps_2_c]] H Q := hcalls_of (cxOk 15 [(1, true)] [] []) Try.func34 (Eq.mp (f34.eq ps_0 ps_1 ps_2_A ps_2_n ps_2_c H Q) h)

/-- justiciar justiciarref23.end -/
def f35 (ps_0 : Int) (ps_1 : Bool) (ps_2_A : Option Addr) (ps_2_n ps_2_c : Nat) (H : Hp) (Q : Value → Hp → Prop) : Prop :=
  cnd (decide ((((ps_2_n : Nat) : Int) : Int) > 0)) (0 ≤ (IntKind.i64.wrap (((ps_2_n : Nat) : Int) - 1) : Int) ∧ (IntKind.i64.wrap (((ps_2_n : Nat) : Int) - 1) : Int) < ((ps_2_n : Nat) : Int) ∧ onPtr ps_2_A fun b1 o1 => ∃
    x2 : Int, cl H b1 (o1 + (IntKind.i64.wrap (((ps_2_n : Nat) : Int) - 1) : Int).toNat * 1) = some (.int .i64 x2) ∧ Q (.int .i64 x2) H) (Q (.int .i64 0) H)
noncomputable def fcx35 : Cx := cx 15 [(1, true)] [] []
theorem f35.eq (ps_0 : Int) (ps_1 : Bool) (ps_2_A : Option Addr) (ps_2_n ps_2_c : Nat) (H : Hp) (Q : Value → Hp → Prop) : f35 ps_0 ps_1 ps_2_A ps_2_n ps_2_c H Q = wFun fcx35 Try.f35 [.agg #[.int .i64 ps_0, .bool ps_1, .slice ps_2_A ps_2_n ps_2_c]] H Q := by kernel_rfl
theorem f35.ok (ps_0 : Int) (ps_1 : Bool) (ps_2_A : Option Addr) (ps_2_n ps_2_c : Nat) {H : Hp} {Q : Value → Hp → Prop} (h : f35 ps_0 ps_1 ps_2_A ps_2_n ps_2_c H Q) : HCalls Try.prog 35 [.agg #[.int .i64 ps_0, .bool ps_1, .slice ps_2_A ps_2_n ps_2_c]] H Q := hcalls_of (cxOk 15 [(1, true)] [] []) Try.func35 (Eq.mp (f35.eq ps_0 ps_1 ps_2_A ps_2_n ps_2_c H Q) h)

/-- justiciar pair.settled -/
def f36 (pp_0_A : Option Addr) (pp_0_n pp_0_c : Nat) (pp_1_A : Option Addr) (pp_1_n pp_1_c : Nat) (H : Hp) (Q : Value → Hp → Prop) : Prop :=
  jn (fun (j9 : Int) (j10 : Bool) (jA11 : Option Addr) (jn12 : Nat) (jc13 : Nat) (j14 : Int) (j15 : Bool) (jA16 : Option Addr) (jn17 : Nat) (jc18 : Nat) => jn (fun (j38 : Bool) (H39 : Hp) => Q (.bool j38) H39) fun J40 =>
    HCalls Try.prog 34 [.agg #[.int .i64 j9, .bool j10, .slice jA11 jn12 jc13]] H fun v20 H21 => ∃ x22 : Int, v20 = .int .i64 x22 ∧ cnd ((x22 : Int) == 3) (HCalls Try.prog 34 [.agg #[.int .i64 j14, .bool j15, .slice jA16
    jn17 jc18]] H21 fun v23 H24 => ∃ x25 : Int, v23 = .int .i64 x25 ∧ cnd ((x25 : Int) == 3) (J40 true H24) (FnOk Try.prog 59 ∧ HCalls Try.prog 59 [.agg #[.int .i64 j9, .bool j10, .slice jA11 jn12 jc13]] H24 fun v26 H27
    => ∃ x28 : Bool, v26 = .bool x28 ∧ cnd x28 (FnOk Try.prog 59 ∧ HCalls Try.prog 59 [.agg #[.int .i64 j14, .bool j15, .slice jA16 jn17 jc18]] H27 fun v29 H30 => ∃ x31 : Bool, v29 = .bool x31 ∧ J40 x31 H30) (J40 false
    H27))) (FnOk Try.prog 59 ∧ HCalls Try.prog 59 [.agg #[.int .i64 j9, .bool j10, .slice jA11 jn12 jc13]] H21 fun v32 H33 => ∃ x34 : Bool, v32 = .bool x34 ∧ cnd x34 (FnOk Try.prog 59 ∧ HCalls Try.prog 59 [.agg #[.int
    .i64 j14, .bool j15, .slice jA16 jn17 jc18]] H33 fun v35 H36 => ∃ x37 : Bool, v35 = .bool x37 ∧ J40 x37 H36) (J40 false H33))) fun J19 => 0 ≤ (0 : Int) ∧ (0 : Int) < ((pp_0_n : Nat) : Int) ∧ onPtr pp_0_A fun b1 o1 =>
    ∃ x2 : Int, cl H b1 (o1 + (0 : Int).toNat * 3) = some (.int .i64 x2) ∧ ∃ x3 : Bool, cl H b1 ((o1 + (0 : Int).toNat * 3) + 1) = some (.bool x3) ∧ ∃ (A4 : Option Addr) (n4 c4 : Nat), cl H b1 (((o1 + (0 : Int).toNat * 3)
    + 1) + 1) = some (.slice A4 n4 c4) ∧ 0 ≤ (1 : Int) ∧ (1 : Int) < ((pp_0_n : Nat) : Int) ∧ onPtr pp_0_A fun b5 o5 => ∃ x6 : Int, cl H b5 (o5 + (1 : Int).toNat * 3) = some (.int .i64 x6) ∧ ∃ x7 : Bool, cl H b5 ((o5 + (1
    : Int).toNat * 3) + 1) = some (.bool x7) ∧ ∃ (A8 : Option Addr) (n8 c8 : Nat), cl H b5 (((o5 + (1 : Int).toNat * 3) + 1) + 1) = some (.slice A8 n8 c8) ∧ (J19 x2 x3 A4 n4 c4 x6 x7 A8 n8 c8) ∧ (J19 x2 x3 A4 n4 c4 x6 x7
    A8 n8 c8)
noncomputable def fcx36 : Cx := cx 32 [(1, true), (3, true), (4, true)] [] [(1, (.look 0 (.look 1 (.look 2 (.look 3 (.look 4 (.look 5 (.look 6 (.look 7 (.act 8 (.act 9 (.act 10 (.act 11 .done .done) .done) .done) (.act 9 (.act 8 (.act 10 (.act 11 .done .done) .done) .done) .done)))))))))))]
theorem f36.eq (pp_0_A : Option Addr) (pp_0_n pp_0_c : Nat) (pp_1_A : Option Addr) (pp_1_n pp_1_c : Nat) (H : Hp) (Q : Value → Hp → Prop) : f36 pp_0_A pp_0_n pp_0_c pp_1_A pp_1_n pp_1_c H Q = wFun fcx36 Try.f36 [.agg #[.slice pp_0_A pp_0_n pp_0_c, .slice pp_1_A pp_1_n pp_1_c]] H Q := by kernel_rfl
theorem f36.ok (pp_0_A : Option Addr) (pp_0_n pp_0_c : Nat) (pp_1_A : Option Addr) (pp_1_n pp_1_c : Nat) {H : Hp} {Q : Value → Hp → Prop} (h : f36 pp_0_A pp_0_n pp_0_c pp_1_A pp_1_n pp_1_c H Q) : HCalls Try.prog 36 [.agg #[.slice pp_0_A pp_0_n pp_0_c, .slice pp_1_A pp_1_n pp_1_c]] H Q := hcalls_of (cxOk 32 [(1, true), (3, true), (4, true)] [] [(1, (.look 0 (.look 1 (.look 2 (.look 3 (.look 4 (.look 5 (.look 6 (.look 7 (.act 8 (.act 9 (.act 10 (.act 11 .done .done) .done) .done) (.act 9 (.act 8 (.act 10 (.act 11 .done .done) .done) .done) .done)))))))))))]) Try.func36 (Eq.mp (f36.eq pp_0_A pp_0_n pp_0_c pp_1_A pp_1_n pp_1_c H Q) h)

/-- justiciar pair.Calm$1 -/
def f37 (px_0 : Int) (px_1 : Int) (px_2 : Int) (fra_b fra_o : Nat) (frb_b frb_o : Nat) (H : Hp) (Q : Value → Hp → Prop) : Prop :=
  ∃ (A1 : Option Addr) (n1 c1 : Nat), cl H fra_b fra_o = some (.slice A1 n1 c1) ∧ ∃ (A2 : Option Addr) (n2 c2 : Nat), cl H fra_b (fra_o + 1) = some (.slice A2 n2 c2) ∧ HCalls Try.prog 11 [.agg #[.slice A1 n1 c1, .slice A2
    n2 c2], .agg #[.int .i64 px_0, .int .i64 px_1, .int .i64 px_2]] H fun v3 H4 => ∃ (A5 : Option Addr) (n5 c5 : Nat), ∃ (A6 : Option Addr) (n6 c6 : Nat), ∃ x7 : Int, v3 = .tuple #[.agg #[.slice A5 n5 c5, .slice A6 n6
    c6], .int .i64 x7] ∧ cnd ((x7 : Int) != 0) (Q (.bool false) H4) (storeF H4 fra_b fra_o [.slice A5 n5 c5, .slice A6 n6 c6] fun H8 => ∃ (A9 : Option Addr) (n9 c9 : Nat), cl H8 frb_b frb_o = some (.slice A9 n9 c9) ∧ newF
    H8 28 [.int .i64 px_0, .int .i64 px_1, .int .i64 px_2] fun g10 H11 => appendF H11 28 3 24 A9 n9 c9 (some ⟨g10, 0, none⟩) 1 fun A12 n12 c12 H13 => storeF H13 frb_b frb_o [.slice A12 n12 c12] fun H14 => Q (.bool true)
    H14)
noncomputable def fcx37 : Cx := cx 20 [(3, true), (5, true)] [] []
theorem f37.eq (px_0 : Int) (px_1 : Int) (px_2 : Int) (fra_b fra_o : Nat) (frb_b frb_o : Nat) (H : Hp) (Q : Value → Hp → Prop) : f37 px_0 px_1 px_2 fra_b fra_o frb_b frb_o H Q = wFun fcx37 Try.f37 [.agg #[.int .i64 px_0, .int .i64 px_1, .int .i64 px_2], .pointer (some ⟨fra_b, fra_o, none⟩), .pointer (some ⟨frb_b, frb_o, none⟩)] H Q := by kernel_rfl
theorem f37.ok (px_0 : Int) (px_1 : Int) (px_2 : Int) (fra_b fra_o : Nat) (frb_b frb_o : Nat) {H : Hp} {Q : Value → Hp → Prop} (h : f37 px_0 px_1 px_2 fra_b fra_o frb_b frb_o H Q) : HCalls Try.prog 37 [.agg #[.int .i64 px_0, .int .i64 px_1, .int .i64 px_2], .pointer (some ⟨fra_b, fra_o, none⟩), .pointer (some ⟨frb_b, frb_o, none⟩)] H Q := hcalls_of (cxOk 20 [(3, true), (5, true)] [] []) Try.func37 (Eq.mp (f37.eq px_0 px_1 px_2 fra_b fra_o frb_b frb_o H Q) h)

/-- justiciar justiciarref23.phase -/
def f38 (pp : Int) (H : Hp) (Q : Value → Hp → Prop) : Prop :=
  jn (fun (j1 : Bool) => Q (.bool j1) H) fun J2 => cnd (decide ((pp : Int) ≥ 0)) (J2 (decide ((pp : Int) ≤ 4))) (J2 false)
noncomputable def fcx38 : Cx := cx 9 [] [] []
theorem f38.eq (pp : Int) (H : Hp) (Q : Value → Hp → Prop) : f38 pp H Q = wFun fcx38 Try.f38 [.int .i64 pp] H Q := by kernel_rfl
theorem f38.ok (pp : Int) {H : Hp} {Q : Value → Hp → Prop} (h : f38 pp H Q) : HCalls Try.prog 38 [.int .i64 pp] H Q := hcalls_of (cxOk 9 [] [] []) Try.func38 (Eq.mp (f38.eq pp H Q) h)

/-- justiciar pair.isPhase -/
def f39 (pp : Int) (H : Hp) (Q : Value → Hp → Prop) : Prop :=
  jn (fun (j1 : Bool) => Q (.bool j1) H) fun J2 => cnd (decide ((pp : Int) ≥ 0)) (J2 (decide ((pp : Int) ≤ 4))) (J2 false)
noncomputable def fcx39 : Cx := cx 9 [] [] []
theorem f39.eq (pp : Int) (H : Hp) (Q : Value → Hp → Prop) : f39 pp H Q = wFun fcx39 Try.f39 [.int .i64 pp] H Q := by kernel_rfl
theorem f39.ok (pp : Int) {H : Hp} {Q : Value → Hp → Prop} (h : f39 pp H Q) : HCalls Try.prog 39 [.int .i64 pp] H Q := hcalls_of (cxOk 9 [] [] []) Try.func39 (Eq.mp (f39.eq pp H Q) h)

/-- slices.ContainsFunc[[]justiciar api.Phase,justiciar api.Phase] -/
def f40 (ps_A : Option Addr) (ps_n ps_c : Nat) (pf_f : FuncId) (pf_a pf_c : Array Value) (H : Hp) (Q : Value → Hp → Prop) : Prop :=
  HCalls Try.prog 60 [.slice ps_A ps_n ps_c, .func (.func pf_f) pf_a pf_c] H fun v1 H2 => ∃ x3 : Int, v1 = .int .i64 x3 ∧ Q (.bool (decide ((x3 : Int) ≥ 0))) H2
noncomputable def fcx40 : Cx := cx 9 [] [] []
theorem f40.eq (ps_A : Option Addr) (ps_n ps_c : Nat) (pf_f : FuncId) (pf_a pf_c : Array Value) (H : Hp) (Q : Value → Hp → Prop) : f40 ps_A ps_n ps_c pf_f pf_a pf_c H Q = wFun fcx40 Try.f40 [.slice ps_A ps_n ps_c, .func (.func pf_f) pf_a pf_c] H Q := by kernel_rfl
theorem f40.ok (ps_A : Option Addr) (ps_n ps_c : Nat) (pf_f : FuncId) (pf_a pf_c : Array Value) {H : Hp} {Q : Value → Hp → Prop} (h : f40 ps_A ps_n ps_c pf_f pf_a pf_c H Q) : HCalls Try.prog 40 [.slice ps_A ps_n ps_c, .func (.func pf_f) pf_a pf_c] H Q := hcalls_of (cxOk 9 [] [] []) Try.func40 (Eq.mp (f40.eq ps_A ps_n ps_c pf_f pf_a pf_c H Q) h)

/-- justiciar pair.isPair$1 -/
def f41 (px : Int) (H : Hp) (Q : Value → Hp → Prop) : Prop :=
  HCalls Try.prog 39 [.int .i64 px] H fun v1 H2 => ∃ x3 : Bool, v1 = .bool x3 ∧ Q (.bool (!x3)) H2
noncomputable def fcx41 : Cx := cx 6 [] [] []
theorem f41.eq (px : Int) (H : Hp) (Q : Value → Hp → Prop) : f41 px H Q = wFun fcx41 Try.f41 [.int .i64 px] H Q := by kernel_rfl
theorem f41.ok (px : Int) {H : Hp} {Q : Value → Hp → Prop} (h : f41 px H Q) : HCalls Try.prog 41 [.int .i64 px] H Q := hcalls_of (cxOk 6 [] [] []) Try.func41 (Eq.mp (f41.eq px H Q) h)

/-- slices.ContainsFunc[[]justiciar api.Note,justiciar api.Note] -/
def f42 (ps_A : Option Addr) (ps_n ps_c : Nat) (pf_f : FuncId) (pf_a pf_c : Array Value) (H : Hp) (Q : Value → Hp → Prop) : Prop :=
  HCalls Try.prog 61 [.slice ps_A ps_n ps_c, .func (.func pf_f) pf_a pf_c] H fun v1 H2 => ∃ x3 : Int, v1 = .int .i64 x3 ∧ Q (.bool (decide ((x3 : Int) ≥ 0))) H2
noncomputable def fcx42 : Cx := cx 9 [] [] []
theorem f42.eq (ps_A : Option Addr) (ps_n ps_c : Nat) (pf_f : FuncId) (pf_a pf_c : Array Value) (H : Hp) (Q : Value → Hp → Prop) : f42 ps_A ps_n ps_c pf_f pf_a pf_c H Q = wFun fcx42 Try.f42 [.slice ps_A ps_n ps_c, .func (.func pf_f) pf_a pf_c] H Q := by kernel_rfl
theorem f42.ok (ps_A : Option Addr) (ps_n ps_c : Nat) (pf_f : FuncId) (pf_a pf_c : Array Value) {H : Hp} {Q : Value → Hp → Prop} (h : f42 ps_A ps_n ps_c pf_f pf_a pf_c H Q) : HCalls Try.prog 42 [.slice ps_A ps_n ps_c, .func (.func pf_f) pf_a pf_c] H Q := hcalls_of (cxOk 9 [] [] []) Try.func42 (Eq.mp (f42.eq ps_A ps_n ps_c pf_f pf_a pf_c H Q) h)

/-- justiciar pair.isPair$2 -/
def f43 (pn_0 : Int) (pn_1 : Int) (H : Hp) (Q : Value → Hp → Prop) : Prop :=
  jn (fun (j1 : Bool) => Q (.bool j1) H) fun J2 => cnd (decide ((pn_0 : Int) < 0)) (J2 true) (cnd (decide ((pn_0 : Int) > 1)) (J2 true) (cnd (decide ((pn_1 : Int) < 1)) (J2 true) (J2 (decide ((pn_1 : Int) > 7)))))
noncomputable def fcx43 : Cx := cx 21 [(1, true)] [] []
theorem f43.eq (pn_0 : Int) (pn_1 : Int) (H : Hp) (Q : Value → Hp → Prop) : f43 pn_0 pn_1 H Q = wFun fcx43 Try.f43 [.agg #[.int .i64 pn_0, .int .i64 pn_1]] H Q := by kernel_rfl
theorem f43.ok (pn_0 : Int) (pn_1 : Int) {H : Hp} {Q : Value → Hp → Prop} (h : f43 pn_0 pn_1 H Q) : HCalls Try.prog 43 [.agg #[.int .i64 pn_0, .int .i64 pn_1]] H Q := hcalls_of (cxOk 21 [(1, true)] [] []) Try.func43 (Eq.mp (f43.eq pn_0 pn_1 H Q) h)

/-- slices.Clone[[]justiciar api.Note,justiciar api.Note] -/
def f44 (ps_A : Option Addr) (ps_n ps_c : Nat) (H : Hp) (Q : Value → Hp → Prop) : Prop :=
  cnd ps_A.isNone (Q (.slice none 0 0) H) (newF H 66 [] fun g1 H2 => appendF H2 66 2 16 (some ⟨g1, 0, none⟩) 0 0 ps_A ps_n fun A3 n3 c3 H4 => Q (.slice A3 n3 c3) H4)
noncomputable def fcx44 : Cx := cx 8 [] [] []
theorem f44.eq (ps_A : Option Addr) (ps_n ps_c : Nat) (H : Hp) (Q : Value → Hp → Prop) : f44 ps_A ps_n ps_c H Q = wFun fcx44 Try.f44 [.slice ps_A ps_n ps_c] H Q := by kernel_rfl
theorem f44.ok (ps_A : Option Addr) (ps_n ps_c : Nat) {H : Hp} {Q : Value → Hp → Prop} (h : f44 ps_A ps_n ps_c H Q) : HCalls Try.prog 44 [.slice ps_A ps_n ps_c] H Q := hcalls_of (cxOk 8 [] [] []) Try.func44 (Eq.mp (f44.eq ps_A ps_n ps_c H Q) h)

/-- slices.Clone[[]justiciar api.Phase,justiciar api.Phase] -/
def f45 (ps_A : Option Addr) (ps_n ps_c : Nat) (H : Hp) (Q : Value → Hp → Prop) : Prop :=
  cnd ps_A.isNone (Q (.slice none 0 0) H) (newF H 50 [] fun g1 H2 => appendF H2 50 1 8 (some ⟨g1, 0, none⟩) 0 0 ps_A ps_n fun A3 n3 c3 H4 => Q (.slice A3 n3 c3) H4)
noncomputable def fcx45 : Cx := cx 8 [] [] []
theorem f45.eq (ps_A : Option Addr) (ps_n ps_c : Nat) (H : Hp) (Q : Value → Hp → Prop) : f45 ps_A ps_n ps_c H Q = wFun fcx45 Try.f45 [.slice ps_A ps_n ps_c] H Q := by kernel_rfl
theorem f45.ok (ps_A : Option Addr) (ps_n ps_c : Nat) {H : Hp} {Q : Value → Hp → Prop} (h : f45 ps_A ps_n ps_c H Q) : HCalls Try.prog 45 [.slice ps_A ps_n ps_c] H Q := hcalls_of (cxOk 8 [] [] []) Try.func45 (Eq.mp (f45.eq ps_A ps_n ps_c H Q) h)

/-- (*justiciar pair.actor).onSide -/
def f46 (pa_b pa_o : Nat) (pop : Int) (pside : Int) (H : Hp) (Q : Value → Hp → Prop) : Prop :=
  ∃ (A1 : Option Addr) (n1 c1 : Nat), cl H pa_b ((pa_o + 0) + 0) = some (.slice A1 n1 c1) ∧ 0 ≤ (pside : Int) ∧ (pside : Int) < ((n1 : Nat) : Int) ∧ onPtr A1 fun b2 o2 => jn (fun (H22 : Hp) => Q (.bool true) H22) fun J23 =>
    cnd ((pop : Int) == 6) (∃ x3 : Bool, cl H b2 ((o2 + (pside : Int).toNat * 3) + 1) = some (.bool x3) ∧ cnd (!x3) (Q (.bool false) H) (storeF H b2 ((o2 + (pside : Int).toNat * 3) + 1) [.bool false] fun H4 => storeF H4
    b2 ((o2 + (pside : Int).toNat * 3) + 0) [.int .i64 0] fun H5 => J23 H5)) (cnd ((pop : Int) == 7) (∃ x6 : Bool, cl H b2 ((o2 + (pside : Int).toNat * 3) + 1) = some (.bool x6) ∧ cnd x6 (Q (.bool false) H) (storeF H b2
    ((o2 + (pside : Int).toNat * 3) + 1) [.bool true] fun H7 => ∃ (A8 : Option Addr) (n8 c8 : Nat), cl H7 b2 ((o2 + (pside : Int).toNat * 3) + 2) = some (.slice A8 n8 c8) ∧ cnd (decide ((((n8 : Nat) : Int) : Int) > 0)) (∃
    (A9 : Option Addr) (n9 c9 : Nat), cl H7 b2 ((o2 + (pside : Int).toNat * 3) + 2) = some (.slice A9 n9 c9) ∧ 0 ≤ (IntKind.i64.wrap (((n8 : Nat) : Int) - 1) : Int) ∧ (IntKind.i64.wrap (((n8 : Nat) : Int) - 1) : Int) <
    ((n9 : Nat) : Int) ∧ onPtr A9 fun b10 o10 => ∃ x11 : Int, cl H7 b10 (o10 + (IntKind.i64.wrap (((n8 : Nat) : Int) - 1) : Int).toNat * 1) = some (.int .i64 x11) ∧ storeF H7 b2 ((o2 + (pside : Int).toNat * 3) + 0) [.int
    .i64 x11] fun H12 => J23 H12) (J23 H7))) (cnd ((pop : Int) == 9) (jn (fun (j16 : Bool) => cnd j16 (Q (.bool false) H) (HCalls Try.prog 62 [.pointer (some ⟨pa_b, pa_o, none⟩), .int .i64 pside, .int .i64 4] H fun v18
    H19 => v18 = .tuple #[] ∧ cnd ((pside : Int) == 0) (HCalls Try.prog 63 [.pointer (some ⟨pa_b, pa_o, none⟩), .int .i64 1, .int .i64 5] H19 fun v20 H21 => v20 = .tuple #[] ∧ J23 H21) (J23 H19))) fun J17 => ∃ x13 : Bool,
    cl H b2 ((o2 + (pside : Int).toNat * 3) + 1) = some (.bool x13) ∧ cnd (!x13) (J17 true) (∃ x14 : Int, cl H b2 ((o2 + (pside : Int).toNat * 3) + 0) = some (.int .i64 x14) ∧ cnd ((x14 : Int) == 1) (J17 false) (cnd
    ((pside : Int) == 0) (∃ x15 : Int, cl H b2 ((o2 + (pside : Int).toNat * 3) + 0) = some (.int .i64 x15) ∧ J17 (!((x15 : Int) == 2))) (J17 true)))) (J23 H)))
noncomputable def fcx46 : Cx := cx 90 [] [] []
theorem f46.eq (pa_b pa_o : Nat) (pop : Int) (pside : Int) (H : Hp) (Q : Value → Hp → Prop) : f46 pa_b pa_o pop pside H Q = wFun fcx46 Try.f46 [.pointer (some ⟨pa_b, pa_o, none⟩), .int .i64 pop, .int .i64 pside] H Q := by kernel_rfl
theorem f46.ok (pa_b pa_o : Nat) (pop : Int) (pside : Int) {H : Hp} {Q : Value → Hp → Prop} (h : f46 pa_b pa_o pop pside H Q) : HCalls Try.prog 46 [.pointer (some ⟨pa_b, pa_o, none⟩), .int .i64 pop, .int .i64 pside] H Q := hcalls_of (cxOk 90 [] [] []) Try.func46 (Eq.mp (f46.eq pa_b pa_o pop pside H Q) h)

/-- (*justiciar pair.actor).give -/
def f47 (pa_b pa_o : Nat) (pi : Int) (H : Hp) (Q : Value → Hp → Prop) : Prop :=
  ∃ (A1 : Option Addr) (n1 c1 : Nat), cl H pa_b ((pa_o + 0) + 1) = some (.slice A1 n1 c1) ∧ 0 ≤ (pi : Int) ∧ (pi : Int) < ((n1 : Nat) : Int) ∧ onPtr A1 fun b2 o2 => ∃ x3 : Int, cl H b2 (o2 + (pi : Int).toNat * 2) = some
    (.int .i64 x3) ∧ ∃ x4 : Int, cl H b2 ((o2 + (pi : Int).toNat * 2) + 1) = some (.int .i64 x4) ∧ ∃ (A5 : Option Addr) (n5 c5 : Nat), cl H pa_b ((pa_o + 0) + 0) = some (.slice A5 n5 c5) ∧ 0 ≤ (x3 : Int) ∧ (x3 : Int) <
    ((n5 : Nat) : Int) ∧ onPtr A5 fun b6 o6 => ∃ x7 : Bool, cl H b6 ((o6 + (x3 : Int).toNat * 3) + 1) = some (.bool x7) ∧ cnd (!x7) (Q (.int .i64 5) H) (∃ (A8 : Option Addr) (n8 c8 : Nat), cl H pa_b ((pa_o + 0) + 1) =
    some (.slice A8 n8 c8) ∧ HCalls Try.prog 48 [.slice A8 n8 c8, .int .i64 pi, .int .i64 (IntKind.i64.wrap (pi + 1))] H fun v9 H10 => ∃ (A11 : Option Addr) (n11 c11 : Nat), v9 = .slice A11 n11 c11 ∧ storeF H10 pa_b
    ((pa_o + 0) + 1) [.slice A11 n11 c11] fun H12 => jn (fun (H17 : Hp) => Q (.int .i64 0) H17) fun J18 => cnd ((x3 : Int) == 0) (HCalls Try.prog 64 [.pointer (some ⟨pa_b, pa_o, none⟩), .int .i64 x4] H12 fun v13 H14 =>
    v13 = .tuple #[] ∧ J18 H14) (HCalls Try.prog 65 [.pointer (some ⟨pa_b, pa_o, none⟩), .int .i64 x4] H12 fun v15 H16 => v15 = .tuple #[] ∧ J18 H16))
noncomputable def fcx47 : Cx := cx 49 [(5, true)] [] [(2, (.look 0 (.look 1 (.look 2 (.look 3 (.look 4 (.look 5 (.look 6 (.look 7 (.look 8 (.look 9 (.look 10 .done))))))))))))]
theorem f47.eq (pa_b pa_o : Nat) (pi : Int) (H : Hp) (Q : Value → Hp → Prop) : f47 pa_b pa_o pi H Q = wFun fcx47 Try.f47 [.pointer (some ⟨pa_b, pa_o, none⟩), .int .i64 pi] H Q := by kernel_rfl
theorem f47.ok (pa_b pa_o : Nat) (pi : Int) {H : Hp} {Q : Value → Hp → Prop} (h : f47 pa_b pa_o pi H Q) : HCalls Try.prog 47 [.pointer (some ⟨pa_b, pa_o, none⟩), .int .i64 pi] H Q := hcalls_of (cxOk 49 [(5, true)] [] [(2, (.look 0 (.look 1 (.look 2 (.look 3 (.look 4 (.look 5 (.look 6 (.look 7 (.look 8 (.look 9 (.look 10 .done))))))))))))]) Try.func47 (Eq.mp (f47.eq pa_b pa_o pi H Q) h)

/-- slices.Delete[[]justiciar api.Note,justiciar api.Note] -/
def f48 (ps_A : Option Addr) (ps_n ps_c : Nat) (pi : Int) (pj : Int) (H : Hp) (Q : Value → Hp → Prop) : Prop :=
  0 ≤ (((ps_n : Nat) : Int) : Int) ∧ (((ps_n : Nat) : Int) : Int) ≤ ((ps_c : Nat) : Int) ∧ 0 ≤ (pj : Int) ∧ (pj : Int) ≤ (((ps_n : Nat) : Int) : Int) ∧ 0 ≤ (pi : Int) ∧ (pi : Int) ≤ (pj : Int) ∧ cnd ((pi : Int) == pj) (Q
    (.slice ps_A ps_n ps_c) H) (0 ≤ (pi : Int) ∧ (pi : Int) ≤ ((ps_c : Nat) : Int) ∧ 0 ≤ (pj : Int) ∧ (pj : Int) ≤ ((ps_n : Nat) : Int) ∧ appendF H 66 2 16 (cutA ps_A (0 * 2) (decide (ps_c = 0))) (((pi : Int).toNat) - 0)
    (ps_c - 0) (cutA ps_A (((pj : Int).toNat) * 2) (decide (ps_c = ((pj : Int).toNat)))) (ps_n - ((pj : Int).toNat)) fun A1 n1 c1 H2 => jn (fun (H5 : Hp) => Q (.slice A1 n1 c1) H5) fun J6 => 0 ≤ (((ps_n : Nat) : Int) :
    Int) ∧ (((ps_n : Nat) : Int) : Int) ≤ ((c1 : Nat) : Int) ∧ 0 ≤ (((n1 : Nat) : Int) : Int) ∧ (((n1 : Nat) : Int) : Int) ≤ (((ps_n : Nat) : Int) : Int) ∧ (((((ps_n : Nat) : Int) : Int).toNat) - ((((n1 : Nat) : Int) :
    Int).toNat) = 0 → J6 H2) ∧ (0 < ((((ps_n : Nat) : Int) : Int).toNat) - ((((n1 : Nat) : Int) : Int).toNat) → onPtr (cutA A1 (((((n1 : Nat) : Int) : Int).toNat) * 2) (decide (c1 = ((((n1 : Nat) : Int) : Int).toNat))))
    fun b3 o3 => storeF H2 b3 o3 (List.replicate (((((ps_n : Nat) : Int) : Int).toNat) - ((((n1 : Nat) : Int) : Int).toNat)) [.int .i64 0, .int .i64 0]).flatten fun H4 => J6 H4))
noncomputable def fcx48 : Cx := cx 33 [] [] [(5, (.look 0 (.look 1 (.look 2 (.look 3 (.look 4 (.look 5 (.act 6 (.act 7 .done .done) .done))))))))]
theorem f48.eq (ps_A : Option Addr) (ps_n ps_c : Nat) (pi : Int) (pj : Int) (H : Hp) (Q : Value → Hp → Prop) : f48 ps_A ps_n ps_c pi pj H Q = wFun fcx48 Try.f48 [.slice ps_A ps_n ps_c, .int .i64 pi, .int .i64 pj] H Q := by kernel_rfl
theorem f48.ok (ps_A : Option Addr) (ps_n ps_c : Nat) (pi : Int) (pj : Int) {H : Hp} {Q : Value → Hp → Prop} (h : f48 ps_A ps_n ps_c pi pj H Q) : HCalls Try.prog 48 [.slice ps_A ps_n ps_c, .int .i64 pi, .int .i64 pj] H Q := hcalls_of (cxOk 33 [] [] [(5, (.look 0 (.look 1 (.look 2 (.look 3 (.look 4 (.look 5 (.act 6 (.act 7 .done .done) .done))))))))]) Try.func48 (Eq.mp (f48.eq ps_A ps_n ps_c pi pj H Q) h)

/-- (*justiciar pair.actor).plain -/
def f49 (pa_b pa_o : Nat) (pop : Int) (H : Hp) (Q : Value → Hp → Prop) : Prop :=
  jn (fun (H46 : Hp) => Q (.bool true) H46) fun J47 => cnd ((pop : Int) == 1) (∃ (A1 : Option Addr) (n1 c1 : Nat), cl H pa_b ((pa_o + 0) + 0) = some (.slice A1 n1 c1) ∧ LoopF (σ := (Int × Unit) × Unit) ((0, ()), ()) H fun
    s2 H3 next4 => cnd (decide ((s2.1.1 : Int) < ((n1 : Nat) : Int))) (0 ≤ (s2.1.1 : Int) ∧ (s2.1.1 : Int) < ((n1 : Nat) : Int) ∧ onPtr A1 fun b5 o5 => ∃ x6 : Int, cl H3 b5 (o5 + (s2.1.1 : Int).toNat * 3) = some (.int
    .i64 x6) ∧ ∃ x7 : Bool, cl H3 b5 ((o5 + (s2.1.1 : Int).toNat * 3) + 1) = some (.bool x7) ∧ ∃ (A8 : Option Addr) (n8 c8 : Nat), cl H3 b5 (((o5 + (s2.1.1 : Int).toNat * 3) + 1) + 1) = some (.slice A8 n8 c8) ∧ jn (fun
    (j9 : Bool) => cnd j9 (Q (.bool false) H3) (KeepX [some (.v (.pointer (some ⟨pa_b, pa_o, none⟩))), some (.v (.slice A1 n1 c1)), some (.v (.int .i64 ((n1 : Nat) : Int)))] [] ∧ next4 ((IntKind.i64.wrap (s2.1.1 + 1),
    ()), ()) H3)) fun J10 => cnd (!x7) (J10 true) (cnd ((x6 : Int) != 0) (J10 true) (J10 (decide ((((n8 : Nat) : Int) : Int) > 0))))) (∃ (A11 : Option Addr) (n11 c11 : Nat), cl H3 pa_b ((pa_o + 0) + 0) = some (.slice A11
    n11 c11) ∧ ∃ (A12 : Option Addr) (n12 c12 : Nat), cl H3 pa_b ((pa_o + 0) + 0) = some (.slice A12 n12 c12) ∧ 0 ≤ (0 : Int) ∧ (0 : Int) < ((n11 : Nat) : Int) ∧ onPtr A11 fun b13 o13 => storeF H3 b13 ((o13 + (0 :
    Int).toNat * 3) + 0) [.int .i64 1] fun H14 => 0 ≤ (1 : Int) ∧ (1 : Int) < ((n12 : Nat) : Int) ∧ onPtr A12 fun b15 o15 => storeF H14 b15 ((o15 + (1 : Int).toNat * 3) + 0) [.int .i64 1] fun H16 => J47 H16)) (cnd ((pop :
    Int) == 2) (jn (fun (j25 : Bool) (H26 : Hp) => cnd j25 (Q (.bool false) H26) (∃ (A28 : Option Addr) (n28 c28 : Nat), cl H26 pa_b ((pa_o + 0) + 0) = some (.slice A28 n28 c28) ∧ 0 ≤ (0 : Int) ∧ (0 : Int) < ((n28 : Nat)
    : Int) ∧ onPtr A28 fun b29 o29 => storeF H26 b29 ((o29 + (0 : Int).toNat * 3) + 0) [.int .i64 2] fun H30 => HCalls Try.prog 63 [.pointer (some ⟨pa_b, pa_o, none⟩), .int .i64 1, .int .i64 1] H30 fun v31 H32 => v31 =
    .tuple #[] ∧ J47 H32)) fun J27 => ∃ (A17 : Option Addr) (n17 c17 : Nat), cl H pa_b ((pa_o + 0) + 0) = some (.slice A17 n17 c17) ∧ 0 ≤ (0 : Int) ∧ (0 : Int) < ((n17 : Nat) : Int) ∧ onPtr A17 fun b18 o18 => ∃ x19 :
    Bool, cl H b18 ((o18 + (0 : Int).toNat * 3) + 1) = some (.bool x19) ∧ cnd (!x19) (J27 true H) (newF H 50 [.int .i64 1] fun g20 H21 => HCalls Try.prog 66 [.pointer (some ⟨pa_b, pa_o, none⟩), .int .i64 0, .slice (some
    ⟨g20, 0, none⟩) 1 1] H21 fun v22 H23 => ∃ x24 : Bool, v22 = .bool x24 ∧ J27 (!x24) H23)) (cnd ((pop : Int) == 8) (jn (fun (j41 : Bool) (H42 : Hp) => cnd j41 (Q (.bool false) H42) (HCalls Try.prog 63 [.pointer (some
    ⟨pa_b, pa_o, none⟩), .int .i64 0, .int .i64 6] H42 fun v44 H45 => v44 = .tuple #[] ∧ J47 H45)) fun J43 => ∃ (A33 : Option Addr) (n33 c33 : Nat), cl H pa_b ((pa_o + 0) + 0) = some (.slice A33 n33 c33) ∧ 0 ≤ (1 : Int) ∧
    (1 : Int) < ((n33 : Nat) : Int) ∧ onPtr A33 fun b34 o34 => ∃ x35 : Bool, cl H b34 ((o34 + (1 : Int).toNat * 3) + 1) = some (.bool x35) ∧ cnd (!x35) (J43 true H) (newF H 50 [.int .i64 2] fun g36 H37 => HCalls Try.prog
    66 [.pointer (some ⟨pa_b, pa_o, none⟩), .int .i64 1, .slice (some ⟨g36, 0, none⟩) 1 1] H37 fun v38 H39 => ∃ x40 : Bool, v38 = .bool x40 ∧ J43 (!x40) H39)) (J47 H)))
noncomputable def fcx49 : Cx := cx 94 [(6, true)] [(4, ⟨[0, 14, 15], [], [(16, .int .i64)], []⟩)] [(9, (.look 0 (.look 1 (.look 2 (.look 3 (.look 4 (.look 5 (.look 6 (.look 7 (.look 8 (.look 9 (.look 10 (.look 11 (.act 12 (.look 13 (.look 14 (.act 15 .done .done))) .done))))))))))))))]
theorem f49.eq (pa_b pa_o : Nat) (pop : Int) (H : Hp) (Q : Value → Hp → Prop) : f49 pa_b pa_o pop H Q = wFun fcx49 Try.f49 [.pointer (some ⟨pa_b, pa_o, none⟩), .int .i64 pop] H Q := by kernel_rfl
theorem f49.ok (pa_b pa_o : Nat) (pop : Int) {H : Hp} {Q : Value → Hp → Prop} (h : f49 pa_b pa_o pop H Q) : HCalls Try.prog 49 [.pointer (some ⟨pa_b, pa_o, none⟩), .int .i64 pop] H Q := hcalls_of (cxOk 94 [(6, true)] [(4, ⟨[0, 14, 15], [], [(16, .int .i64)], []⟩)] [(9, (.look 0 (.look 1 (.look 2 (.look 3 (.look 4 (.look 5 (.look 6 (.look 7 (.look 8 (.look 9 (.look 10 (.look 11 (.act 12 (.look 13 (.look 14 (.act 15 .done .done))) .done))))))))))))))]) Try.func49 (Eq.mp (f49.eq pa_b pa_o pop H Q) h)

/-- (*justiciar justiciarref23.player).is -/
def f50 (px_b px_o : Nat) (pside : Int) (pl_A : Option Addr) (pl_n pl_c : Nat) (H : Hp) (Q : Value → Hp → Prop) : Prop :=
  LoopF (σ := (Int × Unit) × Unit) ((0, ()), ()) H fun s1 H2 next3 => cnd (decide ((s1.1.1 : Int) < ((pl_n : Nat) : Int))) (0 ≤ (s1.1.1 : Int) ∧ (s1.1.1 : Int) < ((pl_n : Nat) : Int) ∧ onPtr pl_A fun b4 o4 => ∃ x5 : Int, cl
    H2 b4 (o4 + (s1.1.1 : Int).toNat * 1) = some (.int .i64 x5) ∧ ∃ (A6 : Option Addr) (n6 c6 : Nat), cl H2 px_b ((px_o + 0) + 0) = some (.slice A6 n6 c6) ∧ 0 ≤ (pside : Int) ∧ (pside : Int) < ((n6 : Nat) : Int) ∧ onPtr
    A6 fun b7 o7 => ∃ x8 : Int, cl H2 b7 ((o7 + (pside : Int).toNat * 3) + 0) = some (.int .i64 x8) ∧ cnd ((x8 : Int) == x5) (Q (.bool true) H2) (KeepX [some (.v (.pointer (some ⟨px_b, px_o, none⟩))), some (.v (.int .i64
    pside)), some (.v (.slice pl_A pl_n pl_c)), some (.v (.int .i64 ((pl_n : Nat) : Int)))] [] ∧ next3 ((IntKind.i64.wrap (s1.1.1 + 1), ()), ()) H2)) (Q (.bool false) H2)
noncomputable def fcx50 : Cx := cx 27 [] [(2, ⟨[0, 1, 9, 10], [], [(11, .int .i64)], []⟩)] []
theorem f50.eq (px_b px_o : Nat) (pside : Int) (pl_A : Option Addr) (pl_n pl_c : Nat) (H : Hp) (Q : Value → Hp → Prop) : f50 px_b px_o pside pl_A pl_n pl_c H Q = wFun fcx50 Try.f50 [.pointer (some ⟨px_b, px_o, none⟩), .int .i64 pside, .slice pl_A pl_n pl_c] H Q := by kernel_rfl
theorem f50.ok (px_b px_o : Nat) (pside : Int) (pl_A : Option Addr) (pl_n pl_c : Nat) {H : Hp} {Q : Value → Hp → Prop} (h : f50 px_b px_o pside pl_A pl_n pl_c H Q) : HCalls Try.prog 50 [.pointer (some ⟨px_b, px_o, none⟩), .int .i64 pside, .slice pl_A pl_n pl_c] H Q := hcalls_of (cxOk 27 [] [(2, ⟨[0, 1, 9, 10], [], [(11, .int .i64)], []⟩)] []) Try.func50 (Eq.mp (f50.eq px_b px_o pside pl_A pl_n pl_c H Q) h)

/-- (*justiciar justiciarref23.player).send -/
def f51 (px_b px_o : Nat) (pto : Int) (pk : Int) (H : Hp) (Q : Value → Hp → Prop) : Prop :=
  ∃ (A1 : Option Addr) (n1 c1 : Nat), cl H px_b ((px_o + 0) + 1) = some (.slice A1 n1 c1) ∧ newF H 66 [.int .i64 pto, .int .i64 pk] fun g2 H3 => appendF H3 66 2 16 A1 n1 c1 (some ⟨g2, 0, none⟩) 1 fun A4 n4 c4 H5 => storeF
    H5 px_b ((px_o + 0) + 1) [.slice A4 n4 c4] fun H6 => Q (.tuple #[]) H6
noncomputable def fcx51 : Cx := cx 20 [] [] []
theorem f51.eq (px_b px_o : Nat) (pto : Int) (pk : Int) (H : Hp) (Q : Value → Hp → Prop) : f51 px_b px_o pto pk H Q = wFun fcx51 Try.f51 [.pointer (some ⟨px_b, px_o, none⟩), .int .i64 pto, .int .i64 pk] H Q := by kernel_rfl
theorem f51.ok (px_b px_o : Nat) (pto : Int) (pk : Int) {H : Hp} {Q : Value → Hp → Prop} (h : f51 px_b px_o pto pk H Q) : HCalls Try.prog 51 [.pointer (some ⟨px_b, px_o, none⟩), .int .i64 pto, .int .i64 pk] H Q := hcalls_of (cxOk 20 [] [] []) Try.func51 (Eq.mp (f51.eq px_b px_o pto pk H Q) h)

/-- (*justiciar justiciarref23.player).take -/
def f52 (px_b px_o : Nat) (pi : Int) (H : Hp) (Q : Value → Hp → Prop) : Prop :=
  ∃ (A1 : Option Addr) (n1 c1 : Nat), cl H px_b ((px_o + 0) + 1) = some (.slice A1 n1 c1) ∧ 0 ≤ (pi : Int) ∧ (pi : Int) ≤ ((c1 : Nat) : Int) ∧ 0 ≤ (pi : Int) ∧ (pi : Int) ≤ (pi : Int) ∧ ∃ (A2 : Option Addr) (n2 c2 : Nat),
    cl H px_b ((px_o + 0) + 1) = some (.slice A2 n2 c2) ∧ 0 ≤ (IntKind.i64.wrap (pi + 1) : Int) ∧ (IntKind.i64.wrap (pi + 1) : Int) ≤ ((n2 : Nat) : Int) ∧ appendF H 66 2 16 (cutA A1 (0 * 2) (decide (((pi : Int).toNat) =
    0))) (((pi : Int).toNat) - 0) (((pi : Int).toNat) - 0) (cutA A2 (((IntKind.i64.wrap (pi + 1) : Int).toNat) * 2) (decide (c2 = ((IntKind.i64.wrap (pi + 1) : Int).toNat)))) (n2 - ((IntKind.i64.wrap (pi + 1) :
    Int).toNat)) fun A3 n3 c3 H4 => storeF H4 px_b ((px_o + 0) + 1) [.slice A3 n3 c3] fun H5 => Q (.tuple #[]) H5
noncomputable def fcx52 : Cx := cx 25 [] [] [(0, (.look 0 (.look 1 (.look 2 (.look 3 (.look 4 (.look 5 (.look 6 (.look 7 (.look 8 (.look 9 (.look 10 (.look 11 (.look 12 (.look 13 (.look 14 (.look 15 (.look 16 (.act 17 (.look 18 (.look 19 (.look 20 (.act 21 .done .done)))) .done)))))))))))))))))))]
theorem f52.eq (px_b px_o : Nat) (pi : Int) (H : Hp) (Q : Value → Hp → Prop) : f52 px_b px_o pi H Q = wFun fcx52 Try.f52 [.pointer (some ⟨px_b, px_o, none⟩), .int .i64 pi] H Q := by kernel_rfl
theorem f52.ok (px_b px_o : Nat) (pi : Int) {H : Hp} {Q : Value → Hp → Prop} (h : f52 px_b px_o pi H Q) : HCalls Try.prog 52 [.pointer (some ⟨px_b, px_o, none⟩), .int .i64 pi] H Q := hcalls_of (cxOk 25 [] [] [(0, (.look 0 (.look 1 (.look 2 (.look 3 (.look 4 (.look 5 (.look 6 (.look 7 (.look 8 (.look 9 (.look 10 (.look 11 (.look 12 (.look 13 (.look 14 (.look 15 (.look 16 (.act 17 (.look 18 (.look 19 (.look 20 (.act 21 .done .done)))) .done)))))))))))))))))))]) Try.func52 (Eq.mp (f52.eq px_b px_o pi H Q) h)

/-- (*justiciar justiciarref23.player).part -/
def f53 (px_b px_o : Nat) (pk : Int) (H : Hp) (Q : Value → Hp → Prop) : Prop :=
  cnd ((pk : Int) == 1) (newF H 50 [.int .i64 1] fun g1 H2 => HCalls Try.prog 50 [.pointer (some ⟨px_b, px_o, none⟩), .int .i64 1, .slice (some ⟨g1, 0, none⟩) 1 1] H2 fun v3 H4 => ∃ x5 : Bool, v3 = .bool x5 ∧ cnd x5 (HCalls
    Try.prog 55 [.pointer (some ⟨px_b, px_o, none⟩), .int .i64 1, .int .i64 2] H4 fun v6 H7 => v6 = .tuple #[] ∧ HCalls Try.prog 51 [.pointer (some ⟨px_b, px_o, none⟩), .int .i64 0, .int .i64 2] H7 fun v8 H9 => v8 =
    .tuple #[] ∧ Q (.tuple #[]) H9) (newF H4 50 [.int .i64 2] fun g10 H11 => HCalls Try.prog 50 [.pointer (some ⟨px_b, px_o, none⟩), .int .i64 1, .slice (some ⟨g10, 0, none⟩) 1 1] H11 fun v12 H13 => ∃ x14 : Bool, v12 =
    .bool x14 ∧ cnd x14 (HCalls Try.prog 51 [.pointer (some ⟨px_b, px_o, none⟩), .int .i64 0, .int .i64 2] H13 fun v15 H16 => v15 = .tuple #[] ∧ Q (.tuple #[]) H16) (HCalls Try.prog 51 [.pointer (some ⟨px_b, px_o, none⟩),
    .int .i64 0, .int .i64 3] H13 fun v17 H18 => v17 = .tuple #[] ∧ Q (.tuple #[]) H18))) (cnd ((pk : Int) == 4) (jn (fun (H26 : Hp) => newF H26 50 [.int .i64 3] fun g28 H29 => HCalls Try.prog 50 [.pointer (some ⟨px_b,
    px_o, none⟩), .int .i64 1, .slice (some ⟨g28, 0, none⟩) 1 1] H29 fun v30 H31 => ∃ x32 : Bool, v30 = .bool x32 ∧ cnd x32 (HCalls Try.prog 51 [.pointer (some ⟨px_b, px_o, none⟩), .int .i64 0, .int .i64 7] H31 fun v33
    H34 => v33 = .tuple #[] ∧ Q (.tuple #[]) H34) (Q (.tuple #[]) H31)) fun J27 => newF H 50 [.int .i64 2] fun g19 H20 => HCalls Try.prog 50 [.pointer (some ⟨px_b, px_o, none⟩), .int .i64 1, .slice (some ⟨g19, 0, none⟩) 1
    1] H20 fun v21 H22 => ∃ x23 : Bool, v21 = .bool x23 ∧ cnd x23 (HCalls Try.prog 55 [.pointer (some ⟨px_b, px_o, none⟩), .int .i64 1, .int .i64 3] H22 fun v24 H25 => v24 = .tuple #[] ∧ J27 H25) (J27 H22)) (cnd ((pk :
    Int) == 5) (jn (fun (H42 : Hp) => newF H42 50 [.int .i64 0, .int .i64 4] fun g44 H45 => HCalls Try.prog 50 [.pointer (some ⟨px_b, px_o, none⟩), .int .i64 1, .slice (some ⟨g44, 0, none⟩) 2 2] H45 fun v46 H47 => ∃ x48 :
    Bool, v46 = .bool x48 ∧ cnd x48 (HCalls Try.prog 51 [.pointer (some ⟨px_b, px_o, none⟩), .int .i64 0, .int .i64 7] H47 fun v49 H50 => v49 = .tuple #[] ∧ Q (.tuple #[]) H50) (Q (.tuple #[]) H47)) fun J43 => newF H 50
    [.int .i64 2, .int .i64 1] fun g35 H36 => HCalls Try.prog 50 [.pointer (some ⟨px_b, px_o, none⟩), .int .i64 1, .slice (some ⟨g35, 0, none⟩) 2 2] H36 fun v37 H38 => ∃ x39 : Bool, v37 = .bool x39 ∧ cnd x39 (HCalls
    Try.prog 55 [.pointer (some ⟨px_b, px_o, none⟩), .int .i64 1, .int .i64 4] H38 fun v40 H41 => v40 = .tuple #[] ∧ J43 H41) (J43 H38)) (Q (.tuple #[]) H)))
noncomputable def fcx53 : Cx := cx 47 [] [] []
theorem f53.eq (px_b px_o : Nat) (pk : Int) (H : Hp) (Q : Value → Hp → Prop) : f53 px_b px_o pk H Q = wFun fcx53 Try.f53 [.pointer (some ⟨px_b, px_o, none⟩), .int .i64 pk] H Q := by kernel_rfl
theorem f53.ok (px_b px_o : Nat) (pk : Int) {H : Hp} {Q : Value → Hp → Prop} (h : f53 px_b px_o pk H Q) : HCalls Try.prog 53 [.pointer (some ⟨px_b, px_o, none⟩), .int .i64 pk] H Q := hcalls_of (cxOk 47 [] [] []) Try.func53 (Eq.mp (f53.eq px_b px_o pk H Q) h)

/-- (*justiciar justiciarref23.player).lead -/
def f54 (px_b px_o : Nat) (pk : Int) (H : Hp) (Q : Value → Hp → Prop) : Prop :=
  jn (fun (j1 : Bool) => cnd j1 (newF H 50 [.int .i64 3] fun g3 H4 => HCalls Try.prog 50 [.pointer (some ⟨px_b, px_o, none⟩), .int .i64 0, .slice (some ⟨g3, 0, none⟩) 1 1] H4 fun v5 H6 => ∃ x7 : Bool, v5 = .bool x7 ∧ cnd x7
    (HCalls Try.prog 51 [.pointer (some ⟨px_b, px_o, none⟩), .int .i64 1, .int .i64 4] H6 fun v8 H9 => v8 = .tuple #[] ∧ Q (.tuple #[]) H9) (jn (fun (j15 : Bool) (H16 : Hp) => cnd j15 (HCalls Try.prog 55 [.pointer (some
    ⟨px_b, px_o, none⟩), .int .i64 0, .int .i64 3] H16 fun v18 H19 => v18 = .tuple #[] ∧ HCalls Try.prog 51 [.pointer (some ⟨px_b, px_o, none⟩), .int .i64 1, .int .i64 4] H19 fun v20 H21 => v20 = .tuple #[] ∧ Q (.tuple
    #[]) H21) (newF H16 50 [.int .i64 2] fun g22 H23 => HCalls Try.prog 50 [.pointer (some ⟨px_b, px_o, none⟩), .int .i64 0, .slice (some ⟨g22, 0, none⟩) 1 1] H23 fun v24 H25 => ∃ x26 : Bool, v24 = .bool x26 ∧ cnd x26 (Q
    (.tuple #[]) H25) (jn (fun (H34 : Hp) => HCalls Try.prog 51 [.pointer (some ⟨px_b, px_o, none⟩), .int .i64 1, .int .i64 5] H34 fun v36 H37 => v36 = .tuple #[] ∧ Q (.tuple #[]) H37) fun J35 => newF H25 50 [.int .i64 1,
    .int .i64 0] fun g27 H28 => HCalls Try.prog 50 [.pointer (some ⟨px_b, px_o, none⟩), .int .i64 0, .slice (some ⟨g27, 0, none⟩) 2 2] H28 fun v29 H30 => ∃ x31 : Bool, v29 = .bool x31 ∧ cnd x31 (HCalls Try.prog 55
    [.pointer (some ⟨px_b, px_o, none⟩), .int .i64 0, .int .i64 4] H30 fun v32 H33 => v32 = .tuple #[] ∧ J35 H33) (J35 H30)))) fun J17 => newF H6 50 [.int .i64 2] fun g10 H11 => HCalls Try.prog 50 [.pointer (some ⟨px_b,
    px_o, none⟩), .int .i64 0, .slice (some ⟨g10, 0, none⟩) 1 1] H11 fun v12 H13 => ∃ x14 : Bool, v12 = .bool x14 ∧ cnd x14 (J17 ((pk : Int) == 2) H13) (J17 false H13))) (cnd ((pk : Int) == 3) (newF H 50 [.int .i64 2,
    .int .i64 1] fun g38 H39 => HCalls Try.prog 50 [.pointer (some ⟨px_b, px_o, none⟩), .int .i64 0, .slice (some ⟨g38, 0, none⟩) 2 2] H39 fun v40 H41 => ∃ x42 : Bool, v40 = .bool x42 ∧ cnd x42 (HCalls Try.prog 55
    [.pointer (some ⟨px_b, px_o, none⟩), .int .i64 0, .int .i64 4] H41 fun v43 H44 => v43 = .tuple #[] ∧ HCalls Try.prog 51 [.pointer (some ⟨px_b, px_o, none⟩), .int .i64 1, .int .i64 5] H44 fun v45 H46 => v45 = .tuple
    #[] ∧ Q (.tuple #[]) H46) (Q (.tuple #[]) H41)) (Q (.tuple #[]) H))) fun J2 => cnd ((pk : Int) == 2) (J2 ((pk : Int) == 2)) (J2 ((pk : Int) == 6))
noncomputable def fcx54 : Cx := cx 46 [] [] []
theorem f54.eq (px_b px_o : Nat) (pk : Int) (H : Hp) (Q : Value → Hp → Prop) : f54 px_b px_o pk H Q = wFun fcx54 Try.f54 [.pointer (some ⟨px_b, px_o, none⟩), .int .i64 pk] H Q := by kernel_rfl
theorem f54.ok (px_b px_o : Nat) (pk : Int) {H : Hp} {Q : Value → Hp → Prop} (h : f54 px_b px_o pk H Q) : HCalls Try.prog 54 [.pointer (some ⟨px_b, px_o, none⟩), .int .i64 pk] H Q := hcalls_of (cxOk 46 [] [] []) Try.func54 (Eq.mp (f54.eq px_b px_o pk H Q) h)

/-- (*justiciar justiciarref23.player).write -/
def f55 (px_b px_o : Nat) (pside : Int) (pp : Int) (H : Hp) (Q : Value → Hp → Prop) : Prop :=
  ∃ (A1 : Option Addr) (n1 c1 : Nat), cl H px_b ((px_o + 0) + 0) = some (.slice A1 n1 c1) ∧ 0 ≤ (pside : Int) ∧ (pside : Int) < ((n1 : Nat) : Int) ∧ onPtr A1 fun b2 o2 => storeF H b2 ((o2 + (pside : Int).toNat * 3) + 0)
    [.int .i64 pp] fun H3 => ∃ (A4 : Option Addr) (n4 c4 : Nat), cl H3 px_b ((px_o + 0) + 0) = some (.slice A4 n4 c4) ∧ ∃ (A5 : Option Addr) (n5 c5 : Nat), cl H3 px_b ((px_o + 0) + 0) = some (.slice A5 n5 c5) ∧ 0 ≤ (pside
    : Int) ∧ (pside : Int) < ((n5 : Nat) : Int) ∧ onPtr A5 fun b6 o6 => ∃ (A7 : Option Addr) (n7 c7 : Nat), cl H3 b6 ((o6 + (pside : Int).toNat * 3) + 2) = some (.slice A7 n7 c7) ∧ newF H3 50 [.int .i64 pp] fun g8 H9 =>
    appendF H9 50 1 8 A7 n7 c7 (some ⟨g8, 0, none⟩) 1 fun A10 n10 c10 H11 => H11 px_b = H9 px_b ∧ 0 ≤ (pside : Int) ∧ (pside : Int) < ((n4 : Nat) : Int) ∧ onPtr A4 fun b12 o12 => storeF H11 b12 ((o12 + (pside : Int).toNat
    * 3) + 2) [.slice A10 n10 c10] fun H13 => Q (.tuple #[]) H13
noncomputable def fcx55 : Cx := cx 35 [] [] [(1, (.look 0 (.look 1 (.look 2 (.look 3 (.look 4 (.look 5 (.look 6 (.look 7 (.look 8 (.look 9 (.look 10 (.look 11 (.look 12 (.look 13 (.look 14 (.look 15 (.act 16 (.act 17 (.look 18 (.look 19 (.act 20 .done .done))) .done) .done))))))))))))))))))]
theorem f55.eq (px_b px_o : Nat) (pside : Int) (pp : Int) (H : Hp) (Q : Value → Hp → Prop) : f55 px_b px_o pside pp H Q = wFun fcx55 Try.f55 [.pointer (some ⟨px_b, px_o, none⟩), .int .i64 pside, .int .i64 pp] H Q := by kernel_rfl
theorem f55.ok (px_b px_o : Nat) (pside : Int) (pp : Int) {H : Hp} {Q : Value → Hp → Prop} (h : f55 px_b px_o pside pp H Q) : HCalls Try.prog 55 [.pointer (some ⟨px_b, px_o, none⟩), .int .i64 pside, .int .i64 pp] H Q := hcalls_of (cxOk 35 [] [] [(1, (.look 0 (.look 1 (.look 2 (.look 3 (.look 4 (.look 5 (.look 6 (.look 7 (.look 8 (.look 9 (.look 10 (.look 11 (.look 12 (.look 13 (.look 14 (.look 15 (.act 16 (.act 17 (.look 18 (.look 19 (.act 20 .done .done))) .done) .done))))))))))))))))))]) Try.func55 (Eq.mp (f55.eq px_b px_o pside pp H Q) h)

/-- slices.ContainsFunc[[]justiciar api.Side,justiciar api.Side] -/
def f56 (ps_A : Option Addr) (ps_n ps_c : Nat) (pf_f : FuncId) (pf_a pf_c : Array Value) (H : Hp) (Q : Value → Hp → Prop) : Prop :=
  HCalls Try.prog 67 [.slice ps_A ps_n ps_c, .func (.func pf_f) pf_a pf_c] H fun v1 H2 => ∃ x3 : Int, v1 = .int .i64 x3 ∧ Q (.bool (decide ((x3 : Int) ≥ 0))) H2
noncomputable def fcx56 : Cx := cx 9 [] [] []
theorem f56.eq (ps_A : Option Addr) (ps_n ps_c : Nat) (pf_f : FuncId) (pf_a pf_c : Array Value) (H : Hp) (Q : Value → Hp → Prop) : f56 ps_A ps_n ps_c pf_f pf_a pf_c H Q = wFun fcx56 Try.f56 [.slice ps_A ps_n ps_c, .func (.func pf_f) pf_a pf_c] H Q := by kernel_rfl
theorem f56.ok (ps_A : Option Addr) (ps_n ps_c : Nat) (pf_f : FuncId) (pf_a pf_c : Array Value) {H : Hp} {Q : Value → Hp → Prop} (h : f56 ps_A ps_n ps_c pf_f pf_a pf_c H Q) : HCalls Try.prog 56 [.slice ps_A ps_n ps_c, .func (.func pf_f) pf_a pf_c] H Q := hcalls_of (cxOk 9 [] [] []) Try.func56 (Eq.mp (f56.eq ps_A ps_n ps_c pf_f pf_a pf_c H Q) h)

/-- justiciar pair.wrote$1 -/
def f57 (ps_0 : Int) (ps_1 : Bool) (ps_2_A : Option Addr) (ps_2_n ps_2_c : Nat) (fra_b fra_o : Nat) (H : Hp) (Q : Value → Hp → Prop) : Prop :=
  ∃ x1 : Int, cl H fra_b fra_o = some (.int .i64 x1) ∧ HCalls Try.prog 58 [.slice ps_2_A ps_2_n ps_2_c, .int .i64 x1] H fun v2 H3 => ∃ x4 : Bool, v2 = .bool x4 ∧ Q (.bool x4) H3
noncomputable def fcx57 : Cx := cx 8 [(2, true)] [] []
theorem f57.eq (ps_0 : Int) (ps_1 : Bool) (ps_2_A : Option Addr) (ps_2_n ps_2_c : Nat) (fra_b fra_o : Nat) (H : Hp) (Q : Value → Hp → Prop) : f57 ps_0 ps_1 ps_2_A ps_2_n ps_2_c fra_b fra_o H Q = wFun fcx57 Try.f57 [.agg #[.int .i64 ps_0, .bool ps_1, .slice ps_2_A ps_2_n ps_2_c], .pointer (some ⟨fra_b, fra_o, none⟩)] H Q := by kernel_rfl
theorem f57.ok (ps_0 : Int) (ps_1 : Bool) (ps_2_A : Option Addr) (ps_2_n ps_2_c : Nat) (fra_b fra_o : Nat) {H : Hp} {Q : Value → Hp → Prop} (h : f57 ps_0 ps_1 ps_2_A ps_2_n ps_2_c fra_b fra_o H Q) : HCalls Try.prog 57 [.agg #[.int .i64 ps_0, .bool ps_1, .slice ps_2_A ps_2_n ps_2_c], .pointer (some ⟨fra_b, fra_o, none⟩)] H Q := hcalls_of (cxOk 8 [(2, true)] [] []) Try.func57 (Eq.mp (f57.eq ps_0 ps_1 ps_2_A ps_2_n ps_2_c fra_b fra_o H Q) h)

/-- slices.Contains[[]justiciar api.Phase,justiciar api.Phase] -/
def f58 (ps_A : Option Addr) (ps_n ps_c : Nat) (pv : Int) (H : Hp) (Q : Value → Hp → Prop) : Prop :=
  HCalls Try.prog 68 [.slice ps_A ps_n ps_c, .int .i64 pv] H fun v1 H2 => ∃ x3 : Int, v1 = .int .i64 x3 ∧ Q (.bool (decide ((x3 : Int) ≥ 0))) H2
noncomputable def fcx58 : Cx := cx 9 [] [] []
theorem f58.eq (ps_A : Option Addr) (ps_n ps_c : Nat) (pv : Int) (H : Hp) (Q : Value → Hp → Prop) : f58 ps_A ps_n ps_c pv H Q = wFun fcx58 Try.f58 [.slice ps_A ps_n ps_c, .int .i64 pv] H Q := by kernel_rfl
theorem f58.ok (ps_A : Option Addr) (ps_n ps_c : Nat) (pv : Int) {H : Hp} {Q : Value → Hp → Prop} (h : f58 ps_A ps_n ps_c pv H Q) : HCalls Try.prog 58 [.slice ps_A ps_n ps_c, .int .i64 pv] H Q := hcalls_of (cxOk 9 [] [] []) Try.func58 (Eq.mp (f58.eq ps_A ps_n ps_c pv H Q) h)

/-- justiciar pair.settled$1 -/
def f59 (ps_0 : Int) (ps_1 : Bool) (ps_2_A : Option Addr) (ps_2_n ps_2_c : Nat) (H : Hp) (Q : Value → Hp → Prop) : Prop :=
  jn (fun (j4 : Bool) (H5 : Hp) => Q (.bool j4) H5) fun J6 => HCalls Try.prog 34 [.agg #[.int .i64 ps_0, .bool ps_1, .slice ps_2_A ps_2_n ps_2_c]] H fun v1 H2 => ∃ x3 : Int, v1 = .int .i64 x3 ∧ cnd ((x3 : Int) == 4) (J6
    true H2) (cnd ((((ps_2_n : Nat) : Int) : Int) == 0) (J6 ((ps_0 : Int) == 0) H2) (J6 false H2))
noncomputable def fcx59 : Cx := cx 17 [(1, true)] [] []
theorem f59.eq (ps_0 : Int) (ps_1 : Bool) (ps_2_A : Option Addr) (ps_2_n ps_2_c : Nat) (H : Hp) (Q : Value → Hp → Prop) : f59 ps_0 ps_1 ps_2_A ps_2_n ps_2_c H Q = wFun fcx59 Try.f59 [.agg #[.int .i64 ps_0, .bool ps_1, .slice ps_2_A ps_2_n ps_2_c]] H Q := by kernel_rfl
theorem f59.ok (ps_0 : Int) (ps_1 : Bool) (ps_2_A : Option Addr) (ps_2_n ps_2_c : Nat) {H : Hp} {Q : Value → Hp → Prop} (h : f59 ps_0 ps_1 ps_2_A ps_2_n ps_2_c H Q) : HCalls Try.prog 59 [.agg #[.int .i64 ps_0, .bool ps_1, .slice ps_2_A ps_2_n ps_2_c]] H Q := hcalls_of (cxOk 17 [(1, true)] [] []) Try.func59 (Eq.mp (f59.eq ps_0 ps_1 ps_2_A ps_2_n ps_2_c H Q) h)

/-- slices.IndexFunc[[]justiciar api.Phase,justiciar api.Phase] -/
def f60 (ps_A : Option Addr) (ps_n ps_c : Nat) (pf_f : FuncId) (pf_a pf_c : Array Value) (H : Hp) (Q : Value → Hp → Prop) : Prop :=
  LoopF (σ := (Int × Unit) × Unit) ((0, ()), ()) H fun s1 H2 next3 => cnd (decide ((s1.1.1 : Int) < ((ps_n : Nat) : Int))) (0 ≤ (s1.1.1 : Int) ∧ (s1.1.1 : Int) < ((ps_n : Nat) : Int) ∧ onPtr ps_A fun b4 o4 => ∃ x5 : Int, cl
    H2 b4 (o4 + (s1.1.1 : Int).toNat * 1) = some (.int .i64 x5) ∧ FnOk Try.prog pf_f ∧ HCalls Try.prog pf_f (pf_a.toList ++ [.int .i64 x5] ++ pf_c.toList) H2 fun v6 H7 => ∃ x8 : Bool, v6 = .bool x8 ∧ cnd x8 (Q (.int .i64
    s1.1.1) H7) (KeepX [some (.v (.slice ps_A ps_n ps_c)), some (.v (.func (.func pf_f) pf_a pf_c)), some (.v (.int .i64 ((ps_n : Nat) : Int)))] [] ∧ next3 ((IntKind.i64.wrap (s1.1.1 + 1), ()), ()) H7)) (Q (.int .i64
    (-1)) H2)
noncomputable def fcx60 : Cx := cx 19 [] [(2, ⟨[0, 1, 7], [], [(8, .int .i64)], []⟩)] []
theorem f60.eq (ps_A : Option Addr) (ps_n ps_c : Nat) (pf_f : FuncId) (pf_a pf_c : Array Value) (H : Hp) (Q : Value → Hp → Prop) : f60 ps_A ps_n ps_c pf_f pf_a pf_c H Q = wFun fcx60 Try.f60 [.slice ps_A ps_n ps_c, .func (.func pf_f) pf_a pf_c] H Q := by kernel_rfl
theorem f60.ok (ps_A : Option Addr) (ps_n ps_c : Nat) (pf_f : FuncId) (pf_a pf_c : Array Value) {H : Hp} {Q : Value → Hp → Prop} (h : f60 ps_A ps_n ps_c pf_f pf_a pf_c H Q) : HCalls Try.prog 60 [.slice ps_A ps_n ps_c, .func (.func pf_f) pf_a pf_c] H Q := hcalls_of (cxOk 19 [] [(2, ⟨[0, 1, 7], [], [(8, .int .i64)], []⟩)] []) Try.func60 (Eq.mp (f60.eq ps_A ps_n ps_c pf_f pf_a pf_c H Q) h)

/-- slices.IndexFunc[[]justiciar api.Note,justiciar api.Note] -/
def f61 (ps_A : Option Addr) (ps_n ps_c : Nat) (pf_f : FuncId) (pf_a pf_c : Array Value) (H : Hp) (Q : Value → Hp → Prop) : Prop :=
  LoopF (σ := (Int × Unit) × Unit) ((0, ()), ()) H fun s1 H2 next3 => cnd (decide ((s1.1.1 : Int) < ((ps_n : Nat) : Int))) (0 ≤ (s1.1.1 : Int) ∧ (s1.1.1 : Int) < ((ps_n : Nat) : Int) ∧ onPtr ps_A fun b4 o4 => ∃ x5 : Int, cl
    H2 b4 (o4 + (s1.1.1 : Int).toNat * 2) = some (.int .i64 x5) ∧ ∃ x6 : Int, cl H2 b4 ((o4 + (s1.1.1 : Int).toNat * 2) + 1) = some (.int .i64 x6) ∧ FnOk Try.prog pf_f ∧ HCalls Try.prog pf_f (pf_a.toList ++ [.agg #[.int
    .i64 x5, .int .i64 x6]] ++ pf_c.toList) H2 fun v7 H8 => ∃ x9 : Bool, v7 = .bool x9 ∧ cnd x9 (Q (.int .i64 s1.1.1) H8) (KeepX [some (.v (.slice ps_A ps_n ps_c)), some (.v (.func (.func pf_f) pf_a pf_c)), some (.v (.int
    .i64 ((ps_n : Nat) : Int)))] [] ∧ next3 ((IntKind.i64.wrap (s1.1.1 + 1), ()), ()) H8)) (Q (.int .i64 (-1)) H2)
noncomputable def fcx61 : Cx := cx 19 [] [(2, ⟨[0, 1, 7], [], [(8, .int .i64)], []⟩)] []
theorem f61.eq (ps_A : Option Addr) (ps_n ps_c : Nat) (pf_f : FuncId) (pf_a pf_c : Array Value) (H : Hp) (Q : Value → Hp → Prop) : f61 ps_A ps_n ps_c pf_f pf_a pf_c H Q = wFun fcx61 Try.f61 [.slice ps_A ps_n ps_c, .func (.func pf_f) pf_a pf_c] H Q := by kernel_rfl
theorem f61.ok (ps_A : Option Addr) (ps_n ps_c : Nat) (pf_f : FuncId) (pf_a pf_c : Array Value) {H : Hp} {Q : Value → Hp → Prop} (h : f61 ps_A ps_n ps_c pf_f pf_a pf_c H Q) : HCalls Try.prog 61 [.slice ps_A ps_n ps_c, .func (.func pf_f) pf_a pf_c] H Q := hcalls_of (cxOk 19 [] [(2, ⟨[0, 1, 7], [], [(8, .int .i64)], []⟩)] []) Try.func61 (Eq.mp (f61.eq ps_A ps_n ps_c pf_f pf_a pf_c H Q) h)

/-- (*justiciar pair.actor).write -/
def f62 (pa_b pa_o : Nat) (pside : Int) (pp : Int) (H : Hp) (Q : Value → Hp → Prop) : Prop :=
  ∃ (A1 : Option Addr) (n1 c1 : Nat), cl H pa_b ((pa_o + 0) + 0) = some (.slice A1 n1 c1) ∧ 0 ≤ (pside : Int) ∧ (pside : Int) < ((n1 : Nat) : Int) ∧ onPtr A1 fun b2 o2 => storeF H b2 ((o2 + (pside : Int).toNat * 3) + 0)
    [.int .i64 pp] fun H3 => ∃ (A4 : Option Addr) (n4 c4 : Nat), cl H3 b2 ((o2 + (pside : Int).toNat * 3) + 2) = some (.slice A4 n4 c4) ∧ newF H3 50 [.int .i64 pp] fun g5 H6 => appendF H6 50 1 8 A4 n4 c4 (some ⟨g5, 0,
    none⟩) 1 fun A7 n7 c7 H8 => storeF H8 b2 ((o2 + (pside : Int).toNat * 3) + 2) [.slice A7 n7 c7] fun H9 => Q (.tuple #[]) H9
noncomputable def fcx62 : Cx := cx 28 [] [] []
theorem f62.eq (pa_b pa_o : Nat) (pside : Int) (pp : Int) (H : Hp) (Q : Value → Hp → Prop) : f62 pa_b pa_o pside pp H Q = wFun fcx62 Try.f62 [.pointer (some ⟨pa_b, pa_o, none⟩), .int .i64 pside, .int .i64 pp] H Q := by kernel_rfl
theorem f62.ok (pa_b pa_o : Nat) (pside : Int) (pp : Int) {H : Hp} {Q : Value → Hp → Prop} (h : f62 pa_b pa_o pside pp H Q) : HCalls Try.prog 62 [.pointer (some ⟨pa_b, pa_o, none⟩), .int .i64 pside, .int .i64 pp] H Q := hcalls_of (cxOk 28 [] [] []) Try.func62 (Eq.mp (f62.eq pa_b pa_o pside pp H Q) h)

/-- (*justiciar pair.actor).send -/
def f63 (pa_b pa_o : Nat) (pto : Int) (pk : Int) (H : Hp) (Q : Value → Hp → Prop) : Prop :=
  ∃ (A1 : Option Addr) (n1 c1 : Nat), cl H pa_b ((pa_o + 0) + 1) = some (.slice A1 n1 c1) ∧ newF H 66 [.int .i64 pto, .int .i64 pk] fun g2 H3 => appendF H3 66 2 16 A1 n1 c1 (some ⟨g2, 0, none⟩) 1 fun A4 n4 c4 H5 => storeF
    H5 pa_b ((pa_o + 0) + 1) [.slice A4 n4 c4] fun H6 => Q (.tuple #[]) H6
noncomputable def fcx63 : Cx := cx 20 [] [] []
theorem f63.eq (pa_b pa_o : Nat) (pto : Int) (pk : Int) (H : Hp) (Q : Value → Hp → Prop) : f63 pa_b pa_o pto pk H Q = wFun fcx63 Try.f63 [.pointer (some ⟨pa_b, pa_o, none⟩), .int .i64 pto, .int .i64 pk] H Q := by kernel_rfl
theorem f63.ok (pa_b pa_o : Nat) (pto : Int) (pk : Int) {H : Hp} {Q : Value → Hp → Prop} (h : f63 pa_b pa_o pto pk H Q) : HCalls Try.prog 63 [.pointer (some ⟨pa_b, pa_o, none⟩), .int .i64 pto, .int .i64 pk] H Q := hcalls_of (cxOk 20 [] [] []) Try.func63 (Eq.mp (f63.eq pa_b pa_o pto pk H Q) h)

/-- (*justiciar pair.actor).lead -/
def f64 (pa_b pa_o : Nat) (pk : Int) (H : Hp) (Q : Value → Hp → Prop) : Prop :=
  cnd ((pk : Int) == 2) (newF H 50 [.int .i64 2] fun g1 H2 => HCalls Try.prog 66 [.pointer (some ⟨pa_b, pa_o, none⟩), .int .i64 0, .slice (some ⟨g1, 0, none⟩) 1 1] H2 fun v3 H4 => ∃ x5 : Bool, v3 = .bool x5 ∧ cnd x5 (HCalls
    Try.prog 62 [.pointer (some ⟨pa_b, pa_o, none⟩), .int .i64 0, .int .i64 3] H4 fun v6 H7 => v6 = .tuple #[] ∧ HCalls Try.prog 63 [.pointer (some ⟨pa_b, pa_o, none⟩), .int .i64 1, .int .i64 4] H7 fun v8 H9 => v8 =
    .tuple #[] ∧ Q (.tuple #[]) H9) (newF H4 50 [.int .i64 3] fun g10 H11 => HCalls Try.prog 66 [.pointer (some ⟨pa_b, pa_o, none⟩), .int .i64 0, .slice (some ⟨g10, 0, none⟩) 1 1] H11 fun v12 H13 => ∃ x14 : Bool, v12 =
    .bool x14 ∧ cnd x14 (HCalls Try.prog 63 [.pointer (some ⟨pa_b, pa_o, none⟩), .int .i64 1, .int .i64 4] H13 fun v15 H16 => v15 = .tuple #[] ∧ Q (.tuple #[]) H16) (HCalls Try.prog 69 [.pointer (some ⟨pa_b, pa_o, none⟩)]
    H13 fun v17 H18 => v17 = .tuple #[] ∧ Q (.tuple #[]) H18))) (cnd ((pk : Int) == 3) (newF H 50 [.int .i64 2, .int .i64 1] fun g19 H20 => HCalls Try.prog 66 [.pointer (some ⟨pa_b, pa_o, none⟩), .int .i64 0, .slice (some
    ⟨g19, 0, none⟩) 2 2] H20 fun v21 H22 => ∃ x23 : Bool, v21 = .bool x23 ∧ cnd x23 (HCalls Try.prog 62 [.pointer (some ⟨pa_b, pa_o, none⟩), .int .i64 0, .int .i64 4] H22 fun v24 H25 => v24 = .tuple #[] ∧ HCalls Try.prog
    63 [.pointer (some ⟨pa_b, pa_o, none⟩), .int .i64 1, .int .i64 5] H25 fun v26 H27 => v26 = .tuple #[] ∧ Q (.tuple #[]) H27) (Q (.tuple #[]) H22)) (cnd ((pk : Int) == 6) (newF H 50 [.int .i64 3] fun g28 H29 => HCalls
    Try.prog 66 [.pointer (some ⟨pa_b, pa_o, none⟩), .int .i64 0, .slice (some ⟨g28, 0, none⟩) 1 1] H29 fun v30 H31 => ∃ x32 : Bool, v30 = .bool x32 ∧ cnd x32 (HCalls Try.prog 63 [.pointer (some ⟨pa_b, pa_o, none⟩), .int
    .i64 1, .int .i64 4] H31 fun v33 H34 => v33 = .tuple #[] ∧ Q (.tuple #[]) H34) (newF H31 50 [.int .i64 2] fun g35 H36 => HCalls Try.prog 66 [.pointer (some ⟨pa_b, pa_o, none⟩), .int .i64 0, .slice (some ⟨g35, 0,
    none⟩) 1 1] H36 fun v37 H38 => ∃ x39 : Bool, v37 = .bool x39 ∧ cnd (!x39) (HCalls Try.prog 69 [.pointer (some ⟨pa_b, pa_o, none⟩)] H38 fun v40 H41 => v40 = .tuple #[] ∧ Q (.tuple #[]) H41) (Q (.tuple #[]) H38))) (Q
    (.tuple #[]) H)))
noncomputable def fcx64 : Cx := cx 47 [] [] []
theorem f64.eq (pa_b pa_o : Nat) (pk : Int) (H : Hp) (Q : Value → Hp → Prop) : f64 pa_b pa_o pk H Q = wFun fcx64 Try.f64 [.pointer (some ⟨pa_b, pa_o, none⟩), .int .i64 pk] H Q := by kernel_rfl
theorem f64.ok (pa_b pa_o : Nat) (pk : Int) {H : Hp} {Q : Value → Hp → Prop} (h : f64 pa_b pa_o pk H Q) : HCalls Try.prog 64 [.pointer (some ⟨pa_b, pa_o, none⟩), .int .i64 pk] H Q := hcalls_of (cxOk 47 [] [] []) Try.func64 (Eq.mp (f64.eq pa_b pa_o pk H Q) h)

/-- (*justiciar pair.actor).part -/
def f65 (pa_b pa_o : Nat) (pk : Int) (H : Hp) (Q : Value → Hp → Prop) : Prop :=
  cnd ((pk : Int) == 1) (newF H 50 [.int .i64 1] fun g1 H2 => HCalls Try.prog 66 [.pointer (some ⟨pa_b, pa_o, none⟩), .int .i64 1, .slice (some ⟨g1, 0, none⟩) 1 1] H2 fun v3 H4 => ∃ x5 : Bool, v3 = .bool x5 ∧ cnd x5 (HCalls
    Try.prog 62 [.pointer (some ⟨pa_b, pa_o, none⟩), .int .i64 1, .int .i64 2] H4 fun v6 H7 => v6 = .tuple #[] ∧ HCalls Try.prog 63 [.pointer (some ⟨pa_b, pa_o, none⟩), .int .i64 0, .int .i64 2] H7 fun v8 H9 => v8 =
    .tuple #[] ∧ Q (.tuple #[]) H9) (newF H4 50 [.int .i64 2] fun g10 H11 => HCalls Try.prog 66 [.pointer (some ⟨pa_b, pa_o, none⟩), .int .i64 1, .slice (some ⟨g10, 0, none⟩) 1 1] H11 fun v12 H13 => ∃ x14 : Bool, v12 =
    .bool x14 ∧ cnd x14 (HCalls Try.prog 63 [.pointer (some ⟨pa_b, pa_o, none⟩), .int .i64 0, .int .i64 2] H13 fun v15 H16 => v15 = .tuple #[] ∧ Q (.tuple #[]) H16) (HCalls Try.prog 63 [.pointer (some ⟨pa_b, pa_o, none⟩),
    .int .i64 0, .int .i64 3] H13 fun v17 H18 => v17 = .tuple #[] ∧ Q (.tuple #[]) H18))) (cnd ((pk : Int) == 4) (jn (fun (H26 : Hp) => newF H26 50 [.int .i64 3] fun g28 H29 => HCalls Try.prog 66 [.pointer (some ⟨pa_b,
    pa_o, none⟩), .int .i64 1, .slice (some ⟨g28, 0, none⟩) 1 1] H29 fun v30 H31 => ∃ x32 : Bool, v30 = .bool x32 ∧ cnd x32 (HCalls Try.prog 63 [.pointer (some ⟨pa_b, pa_o, none⟩), .int .i64 0, .int .i64 7] H31 fun v33
    H34 => v33 = .tuple #[] ∧ Q (.tuple #[]) H34) (Q (.tuple #[]) H31)) fun J27 => newF H 50 [.int .i64 2] fun g19 H20 => HCalls Try.prog 66 [.pointer (some ⟨pa_b, pa_o, none⟩), .int .i64 1, .slice (some ⟨g19, 0, none⟩) 1
    1] H20 fun v21 H22 => ∃ x23 : Bool, v21 = .bool x23 ∧ cnd x23 (HCalls Try.prog 62 [.pointer (some ⟨pa_b, pa_o, none⟩), .int .i64 1, .int .i64 3] H22 fun v24 H25 => v24 = .tuple #[] ∧ J27 H25) (J27 H22)) (cnd ((pk :
    Int) == 5) (jn (fun (H42 : Hp) => newF H42 50 [.int .i64 0, .int .i64 4] fun g44 H45 => HCalls Try.prog 66 [.pointer (some ⟨pa_b, pa_o, none⟩), .int .i64 1, .slice (some ⟨g44, 0, none⟩) 2 2] H45 fun v46 H47 => ∃ x48 :
    Bool, v46 = .bool x48 ∧ cnd x48 (HCalls Try.prog 63 [.pointer (some ⟨pa_b, pa_o, none⟩), .int .i64 0, .int .i64 7] H47 fun v49 H50 => v49 = .tuple #[] ∧ Q (.tuple #[]) H50) (Q (.tuple #[]) H47)) fun J43 => newF H 50
    [.int .i64 2, .int .i64 1] fun g35 H36 => HCalls Try.prog 66 [.pointer (some ⟨pa_b, pa_o, none⟩), .int .i64 1, .slice (some ⟨g35, 0, none⟩) 2 2] H36 fun v37 H38 => ∃ x39 : Bool, v37 = .bool x39 ∧ cnd x39 (HCalls
    Try.prog 62 [.pointer (some ⟨pa_b, pa_o, none⟩), .int .i64 1, .int .i64 4] H38 fun v40 H41 => v40 = .tuple #[] ∧ J43 H41) (J43 H38)) (Q (.tuple #[]) H)))
noncomputable def fcx65 : Cx := cx 47 [] [] []
theorem f65.eq (pa_b pa_o : Nat) (pk : Int) (H : Hp) (Q : Value → Hp → Prop) : f65 pa_b pa_o pk H Q = wFun fcx65 Try.f65 [.pointer (some ⟨pa_b, pa_o, none⟩), .int .i64 pk] H Q := by kernel_rfl
theorem f65.ok (pa_b pa_o : Nat) (pk : Int) {H : Hp} {Q : Value → Hp → Prop} (h : f65 pa_b pa_o pk H Q) : HCalls Try.prog 65 [.pointer (some ⟨pa_b, pa_o, none⟩), .int .i64 pk] H Q := hcalls_of (cxOk 47 [] [] []) Try.func65 (Eq.mp (f65.eq pa_b pa_o pk H Q) h)

/-- (*justiciar pair.actor).is -/
def f66 (pa_b pa_o : Nat) (pside : Int) (pl_A : Option Addr) (pl_n pl_c : Nat) (H : Hp) (Q : Value → Hp → Prop) : Prop :=
  ∃ (A1 : Option Addr) (n1 c1 : Nat), cl H pa_b ((pa_o + 0) + 0) = some (.slice A1 n1 c1) ∧ 0 ≤ (pside : Int) ∧ (pside : Int) < ((n1 : Nat) : Int) ∧ onPtr A1 fun b2 o2 => ∃ x3 : Int, cl H b2 ((o2 + (pside : Int).toNat * 3)
    + 0) = some (.int .i64 x3) ∧ HCalls Try.prog 58 [.slice pl_A pl_n pl_c, .int .i64 x3] H fun v4 H5 => ∃ x6 : Bool, v4 = .bool x6 ∧ Q (.bool x6) H5
noncomputable def fcx66 : Cx := cx 18 [] [] []
theorem f66.eq (pa_b pa_o : Nat) (pside : Int) (pl_A : Option Addr) (pl_n pl_c : Nat) (H : Hp) (Q : Value → Hp → Prop) : f66 pa_b pa_o pside pl_A pl_n pl_c H Q = wFun fcx66 Try.f66 [.pointer (some ⟨pa_b, pa_o, none⟩), .int .i64 pside, .slice pl_A pl_n pl_c] H Q := by kernel_rfl
theorem f66.ok (pa_b pa_o : Nat) (pside : Int) (pl_A : Option Addr) (pl_n pl_c : Nat) {H : Hp} {Q : Value → Hp → Prop} (h : f66 pa_b pa_o pside pl_A pl_n pl_c H Q) : HCalls Try.prog 66 [.pointer (some ⟨pa_b, pa_o, none⟩), .int .i64 pside, .slice pl_A pl_n pl_c] H Q := hcalls_of (cxOk 18 [] [] []) Try.func66 (Eq.mp (f66.eq pa_b pa_o pside pl_A pl_n pl_c H Q) h)

/-- slices.IndexFunc[[]justiciar api.Side,justiciar api.Side] -/
def f67 (ps_A : Option Addr) (ps_n ps_c : Nat) (pf_f : FuncId) (pf_a pf_c : Array Value) (H : Hp) (Q : Value → Hp → Prop) : Prop :=
  LoopF (σ := (Int × Unit) × Unit) ((0, ()), ()) H fun s1 H2 next3 => cnd (decide ((s1.1.1 : Int) < ((ps_n : Nat) : Int))) (0 ≤ (s1.1.1 : Int) ∧ (s1.1.1 : Int) < ((ps_n : Nat) : Int) ∧ onPtr ps_A fun b4 o4 => ∃ x5 : Int, cl
    H2 b4 (o4 + (s1.1.1 : Int).toNat * 3) = some (.int .i64 x5) ∧ ∃ x6 : Bool, cl H2 b4 ((o4 + (s1.1.1 : Int).toNat * 3) + 1) = some (.bool x6) ∧ ∃ (A7 : Option Addr) (n7 c7 : Nat), cl H2 b4 (((o4 + (s1.1.1 : Int).toNat *
    3) + 1) + 1) = some (.slice A7 n7 c7) ∧ FnOk Try.prog pf_f ∧ HCalls Try.prog pf_f (pf_a.toList ++ [.agg #[.int .i64 x5, .bool x6, .slice A7 n7 c7]] ++ pf_c.toList) H2 fun v8 H9 => ∃ x10 : Bool, v8 = .bool x10 ∧ cnd
    x10 (Q (.int .i64 s1.1.1) H9) (KeepX [some (.v (.slice ps_A ps_n ps_c)), some (.v (.func (.func pf_f) pf_a pf_c)), some (.v (.int .i64 ((ps_n : Nat) : Int)))] [] ∧ next3 ((IntKind.i64.wrap (s1.1.1 + 1), ()), ()) H9))
    (Q (.int .i64 (-1)) H2)
noncomputable def fcx67 : Cx := cx 19 [] [(2, ⟨[0, 1, 7], [], [(8, .int .i64)], []⟩)] []
theorem f67.eq (ps_A : Option Addr) (ps_n ps_c : Nat) (pf_f : FuncId) (pf_a pf_c : Array Value) (H : Hp) (Q : Value → Hp → Prop) : f67 ps_A ps_n ps_c pf_f pf_a pf_c H Q = wFun fcx67 Try.f67 [.slice ps_A ps_n ps_c, .func (.func pf_f) pf_a pf_c] H Q := by kernel_rfl
theorem f67.ok (ps_A : Option Addr) (ps_n ps_c : Nat) (pf_f : FuncId) (pf_a pf_c : Array Value) {H : Hp} {Q : Value → Hp → Prop} (h : f67 ps_A ps_n ps_c pf_f pf_a pf_c H Q) : HCalls Try.prog 67 [.slice ps_A ps_n ps_c, .func (.func pf_f) pf_a pf_c] H Q := hcalls_of (cxOk 19 [] [(2, ⟨[0, 1, 7], [], [(8, .int .i64)], []⟩)] []) Try.func67 (Eq.mp (f67.eq ps_A ps_n ps_c pf_f pf_a pf_c H Q) h)

/-- slices.Index[[]justiciar api.Phase,justiciar api.Phase] -/
def f68 (ps_A : Option Addr) (ps_n ps_c : Nat) (pv : Int) (H : Hp) (Q : Value → Hp → Prop) : Prop :=
  LoopF (σ := (Int × Unit) × Unit) ((0, ()), ()) H fun s1 H2 next3 => cnd (decide ((s1.1.1 : Int) < ((ps_n : Nat) : Int))) (0 ≤ (s1.1.1 : Int) ∧ (s1.1.1 : Int) < ((ps_n : Nat) : Int) ∧ onPtr ps_A fun b4 o4 => ∃ x5 : Int, cl
    H2 b4 (o4 + (s1.1.1 : Int).toNat * 1) = some (.int .i64 x5) ∧ cnd ((pv : Int) == x5) (Q (.int .i64 s1.1.1) H2) (KeepX [some (.v (.slice ps_A ps_n ps_c)), some (.v (.int .i64 pv)), some (.v (.int .i64 ((ps_n : Nat) :
    Int)))] [] ∧ next3 ((IntKind.i64.wrap (s1.1.1 + 1), ()), ()) H2)) (Q (.int .i64 (-1)) H2)
noncomputable def fcx68 : Cx := cx 19 [] [(2, ⟨[0, 1, 7], [], [(8, .int .i64)], []⟩)] []
theorem f68.eq (ps_A : Option Addr) (ps_n ps_c : Nat) (pv : Int) (H : Hp) (Q : Value → Hp → Prop) : f68 ps_A ps_n ps_c pv H Q = wFun fcx68 Try.f68 [.slice ps_A ps_n ps_c, .int .i64 pv] H Q := by kernel_rfl
theorem f68.ok (ps_A : Option Addr) (ps_n ps_c : Nat) (pv : Int) {H : Hp} {Q : Value → Hp → Prop} (h : f68 ps_A ps_n ps_c pv H Q) : HCalls Try.prog 68 [.slice ps_A ps_n ps_c, .int .i64 pv] H Q := hcalls_of (cxOk 19 [] [(2, ⟨[0, 1, 7], [], [(8, .int .i64)], []⟩)] []) Try.func68 (Eq.mp (f68.eq ps_A ps_n ps_c pv H Q) h)

/-- (*justiciar pair.actor).refuse -/
def f69 (pa_b pa_o : Nat) (H : Hp) (Q : Value → Hp → Prop) : Prop :=
  jn (fun (H8 : Hp) => HCalls Try.prog 63 [.pointer (some ⟨pa_b, pa_o, none⟩), .int .i64 1, .int .i64 5] H8 fun v10 H11 => v10 = .tuple #[] ∧ Q (.tuple #[]) H11) fun J9 => newF H 50 [.int .i64 1, .int .i64 0] fun g1 H2 =>
    HCalls Try.prog 66 [.pointer (some ⟨pa_b, pa_o, none⟩), .int .i64 0, .slice (some ⟨g1, 0, none⟩) 2 2] H2 fun v3 H4 => ∃ x5 : Bool, v3 = .bool x5 ∧ cnd x5 (HCalls Try.prog 62 [.pointer (some ⟨pa_b, pa_o, none⟩), .int
    .i64 0, .int .i64 4] H4 fun v6 H7 => v6 = .tuple #[] ∧ J9 H7) (J9 H4)
noncomputable def fcx69 : Cx := cx 9 [] [] []
theorem f69.eq (pa_b pa_o : Nat) (H : Hp) (Q : Value → Hp → Prop) : f69 pa_b pa_o H Q = wFun fcx69 Try.f69 [.pointer (some ⟨pa_b, pa_o, none⟩)] H Q := by kernel_rfl
theorem f69.ok (pa_b pa_o : Nat) {H : Hp} {Q : Value → Hp → Prop} (h : f69 pa_b pa_o H Q) : HCalls Try.prog 69 [.pointer (some ⟨pa_b, pa_o, none⟩)] H Q := hcalls_of (cxOk 9 [] [] []) Try.func69 (Eq.mp (f69.eq pa_b pa_o H Q) h)

end Go.Proofs.Ytkkmoeimcedkgaa.Hw
