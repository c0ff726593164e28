/- What functions of the program come to, by the evaluator: printed by a program of this session (gen.py) and checked here. -/
import Derived.Test.YtkbancdmhcnhjaaHwTab
set_option linter.unusedVariables false
set_option maxRecDepth 100000
namespace Go.Proofs.Ytkbancdmhcnhjaa.Hw
open Go Go.Proofs

/-- slices.DeleteFunc[[]justiciar api.Lock,justiciar api.Lock] -/
def f28 (ps_A : Option Addr) (ps_n ps_c : Nat) (pdel_f : FuncId) (pdel_a pdel_c : Array Value) (H : Hp) (Q : Value → Hp → Prop) : Prop :=
  HCalls Try.prog 53 [.slice ps_A ps_n ps_c, .func (.func pdel_f) pdel_a pdel_c] H fun v1 H2 => ∃ x3 : Int, v1 = .int .i64 x3 ∧ cnd ((x3 : Int) == (-1)) (Q (.slice ps_A ps_n ps_c) H2) (LoopF (σ := (Int × (Int × Unit)) ×
    Unit) ((x3, (IntKind.i64.wrap (x3 + 1), ())), ()) H2 fun s4 H5 next6 => cnd (decide ((s4.1.2.1 : Int) < ((ps_n : Nat) : Int))) (jn (fun (j16 : Int) (H17 : Hp) => KeepX [some (.v (.slice ps_A ps_n ps_c)), some (.v
    (.func (.func pdel_f) pdel_a pdel_c))] [] ∧ next6 ((j16, (IntKind.i64.wrap (s4.1.2.1 + 1), ())), ()) H17) fun J18 => 0 ≤ (s4.1.2.1 : Int) ∧ (s4.1.2.1 : Int) < ((ps_n : Nat) : Int) ∧ onPtr ps_A fun b7 o7 => ∃ s8 :
    ByteArray, cl H5 b7 (o7 + (s4.1.2.1 : Int).toNat * 3) = some (.string s8) ∧ ∃ x9 : Int, cl H5 b7 ((o7 + (s4.1.2.1 : Int).toNat * 3) + 1) = some (.int .i64 x9) ∧ ∃ x10 : Bool, cl H5 b7 (((o7 + (s4.1.2.1 : Int).toNat *
    3) + 1) + 1) = some (.bool x10) ∧ FnOk Try.prog pdel_f ∧ HCalls Try.prog pdel_f (pdel_a.toList ++ [.agg #[.string s8, .int .i64 x9, .bool x10]] ++ pdel_c.toList) H5 fun v11 H12 => ∃ x13 : Bool, v11 = .bool x13 ∧ cnd
    (!x13) (0 ≤ (s4.1.1 : Int) ∧ (s4.1.1 : Int) < ((ps_n : Nat) : Int) ∧ onPtr ps_A fun b14 o14 => storeF H12 b14 (o14 + (s4.1.1 : Int).toNat * 3) [.string s8, .int .i64 x9, .bool x10] fun H15 => J18 (IntKind.i64.wrap
    (s4.1.1 + 1)) H15) (J18 s4.1.1 H12)) (jn (fun (H21 : Hp) => 0 ≤ (s4.1.1 : Int) ∧ (s4.1.1 : Int) ≤ ((ps_c : Nat) : Int) ∧ Q (.slice (cutA ps_A (0 * 3) (decide (ps_c = 0))) (((s4.1.1 : Int).toNat) - 0) (ps_c - 0)) H21)
    fun J22 => 0 ≤ (s4.1.1 : Int) ∧ (s4.1.1 : Int) ≤ ((ps_n : Nat) : Int) ∧ (ps_n - ((s4.1.1 : Int).toNat) = 0 → J22 H5) ∧ (0 < ps_n - ((s4.1.1 : Int).toNat) → onPtr (cutA ps_A (((s4.1.1 : Int).toNat) * 3) (decide (ps_c =
    ((s4.1.1 : Int).toNat)))) fun b19 o19 => storeF H5 b19 o19 (List.replicate (ps_n - ((s4.1.1 : Int).toNat)) [.string ByteArray.empty, .int .i64 0, .bool false]).flatten fun H20 => J22 H20)))
noncomputable def fcx28 : Cx := cx 42 [(7, true)] [(5, ⟨[0, 1], [], [(5, .int .i64), (6, .int .i64)], []⟩)] [] []
theorem f28.eq (ps_A : Option Addr) (ps_n ps_c : Nat) (pdel_f : FuncId) (pdel_a pdel_c : Array Value) (H : Hp) (Q : Value → Hp → Prop) : f28 ps_A ps_n ps_c pdel_f pdel_a pdel_c H Q = wFun fcx28 Try.f28 [.slice ps_A ps_n ps_c, .func (.func pdel_f) pdel_a pdel_c] H Q := by kernel_rfl
theorem f28.ok (ps_A : Option Addr) (ps_n ps_c : Nat) (pdel_f : FuncId) (pdel_a pdel_c : Array Value) {H : Hp} {Q : Value → Hp → Prop} (h : f28 ps_A ps_n ps_c pdel_f pdel_a pdel_c H Q) : HCalls Try.prog 28 [.slice ps_A ps_n ps_c, .func (.func pdel_f) pdel_a pdel_c] H Q := hcalls_of (cxOk 42 [(7, true)] [(5, ⟨[0, 1], [], [(5, .int .i64), (6, .int .i64)], []⟩)] [] []) Try.func28 (Eq.mp (f28.eq ps_A ps_n ps_c pdel_f pdel_a pdel_c H Q) h)

/-- justiciar lock.Free$1 -/
def f29 (px_0 : ByteArray) (px_1 : Int) (px_2 : Bool) (fra_b fra_o : Nat) (H : Hp) (Q : Value → Hp → Prop) : Prop :=
  ∃ x1 : Int, cl H fra_b fra_o = some (.int .i64 x1) ∧ Q (.bool ((px_1 : Int) == x1)) H
noncomputable def fcx29 : Cx := cx 8 [(2, true)] [] [] []
theorem f29.eq (px_0 : ByteArray) (px_1 : Int) (px_2 : Bool) (fra_b fra_o : Nat) (H : Hp) (Q : Value → Hp → Prop) : f29 px_0 px_1 px_2 fra_b fra_o H Q = wFun fcx29 Try.f29 [.agg #[.string px_0, .int .i64 px_1, .bool px_2], .pointer (some ⟨fra_b, fra_o, none⟩)] H Q := by kernel_rfl
theorem f29.ok (px_0 : ByteArray) (px_1 : Int) (px_2 : Bool) (fra_b fra_o : Nat) {H : Hp} {Q : Value → Hp → Prop} (h : f29 px_0 px_1 px_2 fra_b fra_o H Q) : HCalls Try.prog 29 [.agg #[.string px_0, .int .i64 px_1, .bool px_2], .pointer (some ⟨fra_b, fra_o, none⟩)] H Q := hcalls_of (cxOk 8 [(2, true)] [] [] []) Try.func29 (Eq.mp (f29.eq px_0 px_1 px_2 fra_b fra_o H Q) h)

/-- slices.DeleteFunc[[]justiciar api.Wait,justiciar api.Wait] -/
def f30 (ps_A : Option Addr) (ps_n ps_c : Nat) (pdel_f : FuncId) (pdel_a pdel_c : Array Value) (H : Hp) (Q : Value → Hp → Prop) : Prop :=
  HCalls Try.prog 54 [.slice ps_A ps_n ps_c, .func (.func pdel_f) pdel_a pdel_c] H fun v1 H2 => ∃ x3 : Int, v1 = .int .i64 x3 ∧ cnd ((x3 : Int) == (-1)) (Q (.slice ps_A ps_n ps_c) H2) (LoopF (σ := (Int × (Int × Unit)) ×
    Unit) ((x3, (IntKind.i64.wrap (x3 + 1), ())), ()) H2 fun s4 H5 next6 => cnd (decide ((s4.1.2.1 : Int) < ((ps_n : Nat) : Int))) (jn (fun (j16 : Int) (H17 : Hp) => KeepX [some (.v (.slice ps_A ps_n ps_c)), some (.v
    (.func (.func pdel_f) pdel_a pdel_c))] [] ∧ next6 ((j16, (IntKind.i64.wrap (s4.1.2.1 + 1), ())), ()) H17) fun J18 => 0 ≤ (s4.1.2.1 : Int) ∧ (s4.1.2.1 : Int) < ((ps_n : Nat) : Int) ∧ onPtr ps_A fun b7 o7 => ∃ x8 : Int,
    cl H5 b7 (o7 + (s4.1.2.1 : Int).toNat * 3) = some (.int .i64 x8) ∧ ∃ s9 : ByteArray, cl H5 b7 ((o7 + (s4.1.2.1 : Int).toNat * 3) + 1) = some (.string s9) ∧ ∃ x10 : Bool, cl H5 b7 (((o7 + (s4.1.2.1 : Int).toNat * 3) +
    1) + 1) = some (.bool x10) ∧ FnOk Try.prog pdel_f ∧ HCalls Try.prog pdel_f (pdel_a.toList ++ [.agg #[.int .i64 x8, .string s9, .bool x10]] ++ pdel_c.toList) H5 fun v11 H12 => ∃ x13 : Bool, v11 = .bool x13 ∧ cnd (!x13)
    (0 ≤ (s4.1.1 : Int) ∧ (s4.1.1 : Int) < ((ps_n : Nat) : Int) ∧ onPtr ps_A fun b14 o14 => storeF H12 b14 (o14 + (s4.1.1 : Int).toNat * 3) [.int .i64 x8, .string s9, .bool x10] fun H15 => J18 (IntKind.i64.wrap (s4.1.1 +
    1)) H15) (J18 s4.1.1 H12)) (jn (fun (H21 : Hp) => 0 ≤ (s4.1.1 : Int) ∧ (s4.1.1 : Int) ≤ ((ps_c : Nat) : Int) ∧ Q (.slice (cutA ps_A (0 * 3) (decide (ps_c = 0))) (((s4.1.1 : Int).toNat) - 0) (ps_c - 0)) H21) fun J22 =>
    0 ≤ (s4.1.1 : Int) ∧ (s4.1.1 : Int) ≤ ((ps_n : Nat) : Int) ∧ (ps_n - ((s4.1.1 : Int).toNat) = 0 → J22 H5) ∧ (0 < ps_n - ((s4.1.1 : Int).toNat) → onPtr (cutA ps_A (((s4.1.1 : Int).toNat) * 3) (decide (ps_c = ((s4.1.1 :
    Int).toNat)))) fun b19 o19 => storeF H5 b19 o19 (List.replicate (ps_n - ((s4.1.1 : Int).toNat)) [.int .i64 0, .string ByteArray.empty, .bool false]).flatten fun H20 => J22 H20)))
noncomputable def fcx30 : Cx := cx 42 [(7, true)] [(5, ⟨[0, 1], [], [(5, .int .i64), (6, .int .i64)], []⟩)] [] []
theorem f30.eq (ps_A : Option Addr) (ps_n ps_c : Nat) (pdel_f : FuncId) (pdel_a pdel_c : Array Value) (H : Hp) (Q : Value → Hp → Prop) : f30 ps_A ps_n ps_c pdel_f pdel_a pdel_c H Q = wFun fcx30 Try.f30 [.slice ps_A ps_n ps_c, .func (.func pdel_f) pdel_a pdel_c] H Q := by kernel_rfl
theorem f30.ok (ps_A : Option Addr) (ps_n ps_c : Nat) (pdel_f : FuncId) (pdel_a pdel_c : Array Value) {H : Hp} {Q : Value → Hp → Prop} (h : f30 ps_A ps_n ps_c pdel_f pdel_a pdel_c H Q) : HCalls Try.prog 30 [.slice ps_A ps_n ps_c, .func (.func pdel_f) pdel_a pdel_c] H Q := hcalls_of (cxOk 42 [(7, true)] [(5, ⟨[0, 1], [], [(5, .int .i64), (6, .int .i64)], []⟩)] [] []) Try.func30 (Eq.mp (f30.eq ps_A ps_n ps_c pdel_f pdel_a pdel_c H Q) h)

/-- justiciar lock.Free$2 -/
def f31 (pw_0 : Int) (pw_1 : ByteArray) (pw_2 : Bool) (fra_b fra_o : Nat) (H : Hp) (Q : Value → Hp → Prop) : Prop :=
  ∃ x1 : Int, cl H fra_b fra_o = some (.int .i64 x1) ∧ Q (.bool ((pw_0 : Int) == x1)) H
noncomputable def fcx31 : Cx := cx 8 [(2, true)] [] [] []
theorem f31.eq (pw_0 : Int) (pw_1 : ByteArray) (pw_2 : Bool) (fra_b fra_o : Nat) (H : Hp) (Q : Value → Hp → Prop) : f31 pw_0 pw_1 pw_2 fra_b fra_o H Q = wFun fcx31 Try.f31 [.agg #[.int .i64 pw_0, .string pw_1, .bool pw_2], .pointer (some ⟨fra_b, fra_o, none⟩)] H Q := by kernel_rfl
theorem f31.ok (pw_0 : Int) (pw_1 : ByteArray) (pw_2 : Bool) (fra_b fra_o : Nat) {H : Hp} {Q : Value → Hp → Prop} (h : f31 pw_0 pw_1 pw_2 fra_b fra_o H Q) : HCalls Try.prog 31 [.agg #[.int .i64 pw_0, .string pw_1, .bool pw_2], .pointer (some ⟨fra_b, fra_o, none⟩)] H Q := hcalls_of (cxOk 8 [(2, true)] [] [] []) Try.func31 (Eq.mp (f31.eq pw_0 pw_1 pw_2 fra_b fra_o H Q) h)

/-- slices.DeleteFunc[[][2]int,[2]int] -/
def f32 (ps_A : Option Addr) (ps_n ps_c : Nat) (pdel_f : FuncId) (pdel_a pdel_c : Array Value) (H : Hp) (Q : Value → Hp → Prop) : Prop :=
  HCalls Try.prog 55 [.slice ps_A ps_n ps_c, .func (.func pdel_f) pdel_a pdel_c] H fun v1 H2 => ∃ x3 : Int, v1 = .int .i64 x3 ∧ cnd ((x3 : Int) == (-1)) (Q (.slice ps_A ps_n ps_c) H2) (LoopF (σ := (Int × (Int × Unit)) ×
    Unit) ((x3, (IntKind.i64.wrap (x3 + 1), ())), ()) H2 fun s4 H5 next6 => cnd (decide ((s4.1.2.1 : Int) < ((ps_n : Nat) : Int))) (jn (fun (j15 : Int) (H16 : Hp) => KeepX [some (.v (.slice ps_A ps_n ps_c)), some (.v
    (.func (.func pdel_f) pdel_a pdel_c))] [] ∧ next6 ((j15, (IntKind.i64.wrap (s4.1.2.1 + 1), ())), ()) H16) fun J17 => 0 ≤ (s4.1.2.1 : Int) ∧ (s4.1.2.1 : Int) < ((ps_n : Nat) : Int) ∧ onPtr ps_A fun b7 o7 => ∃ x8 : Int,
    cl H5 b7 (o7 + (s4.1.2.1 : Int).toNat * 2) = some (.int .i64 x8) ∧ ∃ x9 : Int, cl H5 b7 ((o7 + (s4.1.2.1 : Int).toNat * 2) + 1) = some (.int .i64 x9) ∧ FnOk Try.prog pdel_f ∧ HCalls Try.prog pdel_f (pdel_a.toList ++
    [.agg #[.int .i64 x8, .int .i64 x9]] ++ pdel_c.toList) H5 fun v10 H11 => ∃ x12 : Bool, v10 = .bool x12 ∧ cnd (!x12) (0 ≤ (s4.1.1 : Int) ∧ (s4.1.1 : Int) < ((ps_n : Nat) : Int) ∧ onPtr ps_A fun b13 o13 => storeF H11
    b13 (o13 + (s4.1.1 : Int).toNat * 2) [.int .i64 x8, .int .i64 x9] fun H14 => J17 (IntKind.i64.wrap (s4.1.1 + 1)) H14) (J17 s4.1.1 H11)) (jn (fun (H20 : Hp) => 0 ≤ (s4.1.1 : Int) ∧ (s4.1.1 : Int) ≤ ((ps_c : Nat) : Int)
    ∧ Q (.slice (cutA ps_A (0 * 2) (decide (ps_c = 0))) (((s4.1.1 : Int).toNat) - 0) (ps_c - 0)) H20) fun J21 => 0 ≤ (s4.1.1 : Int) ∧ (s4.1.1 : Int) ≤ ((ps_n : Nat) : Int) ∧ (ps_n - ((s4.1.1 : Int).toNat) = 0 → J21 H5) ∧
    (0 < ps_n - ((s4.1.1 : Int).toNat) → onPtr (cutA ps_A (((s4.1.1 : Int).toNat) * 2) (decide (ps_c = ((s4.1.1 : Int).toNat)))) fun b18 o18 => storeF H5 b18 o18 (List.replicate (ps_n - ((s4.1.1 : Int).toNat)) [.int .i64
    0, .int .i64 0]).flatten fun H19 => J21 H19)))
noncomputable def fcx32 : Cx := cx 42 [(7, true)] [(5, ⟨[0, 1], [], [(5, .int .i64), (6, .int .i64)], []⟩)] [] []
theorem f32.eq (ps_A : Option Addr) (ps_n ps_c : Nat) (pdel_f : FuncId) (pdel_a pdel_c : Array Value) (H : Hp) (Q : Value → Hp → Prop) : f32 ps_A ps_n ps_c pdel_f pdel_a pdel_c H Q = wFun fcx32 Try.f32 [.slice ps_A ps_n ps_c, .func (.func pdel_f) pdel_a pdel_c] H Q := by kernel_rfl
theorem f32.ok (ps_A : Option Addr) (ps_n ps_c : Nat) (pdel_f : FuncId) (pdel_a pdel_c : Array Value) {H : Hp} {Q : Value → Hp → Prop} (h : f32 ps_A ps_n ps_c pdel_f pdel_a pdel_c H Q) : HCalls Try.prog 32 [.slice ps_A ps_n ps_c, .func (.func pdel_f) pdel_a pdel_c] H Q := hcalls_of (cxOk 42 [(7, true)] [(5, ⟨[0, 1], [], [(5, .int .i64), (6, .int .i64)], []⟩)] [] []) Try.func32 (Eq.mp (f32.eq ps_A ps_n ps_c pdel_f pdel_a pdel_c H Q) h)

/-- justiciar lock.Free$3 -/
def f33 (pp_0 : Int) (pp_1 : Int) (fra_b fra_o : Nat) (H : Hp) (Q : Value → Hp → Prop) : Prop :=
  jn (fun (j3 : Bool) => Q (.bool j3) H) fun J4 => 0 ≤ (0 : Int) ∧ (0 : Int) < ((2 : Nat) : Int) ∧ ∃ x1 : Int, cl H fra_b fra_o = some (.int .i64 x1) ∧ cnd ((pp_0 : Int) == x1) (J4 true) (0 ≤ (1 : Int) ∧ (1 : Int) < ((2 :
    Nat) : Int) ∧ ∃ x2 : Int, cl H fra_b fra_o = some (.int .i64 x2) ∧ J4 ((pp_1 : Int) == x2))
noncomputable def fcx33 : Cx := cx 14 [(2, true)] [] [] []
theorem f33.eq (pp_0 : Int) (pp_1 : Int) (fra_b fra_o : Nat) (H : Hp) (Q : Value → Hp → Prop) : f33 pp_0 pp_1 fra_b fra_o H Q = wFun fcx33 Try.f33 [.agg #[.int .i64 pp_0, .int .i64 pp_1], .pointer (some ⟨fra_b, fra_o, none⟩)] H Q := by kernel_rfl
theorem f33.ok (pp_0 : Int) (pp_1 : Int) (fra_b fra_o : Nat) {H : Hp} {Q : Value → Hp → Prop} (h : f33 pp_0 pp_1 fra_b fra_o H Q) : HCalls Try.prog 33 [.agg #[.int .i64 pp_0, .int .i64 pp_1], .pointer (some ⟨fra_b, fra_o, none⟩)] H Q := hcalls_of (cxOk 14 [(2, true)] [] [] []) Try.func33 (Eq.mp (f33.eq pp_0 pp_1 fra_b fra_o H Q) h)

/-- justiciar lock.wake -/
def f34 (pl_b pl_o : Nat) (H : Hp) (Q : Value → Hp → Prop) : Prop :=
  ∃ (A1 : Option Addr) (n1 c1 : Nat), cl H pl_b (pl_o + 1) = some (.slice A1 n1 c1) ∧ LoopF (σ := ((Option Addr × Nat × Nat) × ((Option Addr × Nat × Nat) × (Int × Unit))) × Unit) (((none, 0, 0), ((none, 0, 0), (0, ()))),
    ()) H fun s2 H3 next4 => cnd (decide ((s2.1.2.2.1 : Int) < ((n1 : Nat) : Int))) (jn (fun (jA35 : Option Addr) (jn36 : Nat) (jc37 : Nat) (jA38 : Option Addr) (jn39 : Nat) (jc40 : Nat) (H41 : Hp) => KeepX [some (.v
    (.pointer (some ⟨pl_b, pl_o, none⟩))), some (.v (.slice A1 n1 c1)), some (.v (.int .i64 ((n1 : Nat) : Int)))] [] ∧ next4 (((jA35, jn36, jc37), ((jA38, jn39, jc40), (IntKind.i64.wrap (s2.1.2.2.1 + 1), ()))), ()) H41)
    fun J42 => 0 ≤ (s2.1.2.2.1 : Int) ∧ (s2.1.2.2.1 : Int) < ((n1 : Nat) : Int) ∧ onPtr A1 fun b5 o5 => ∃ x6 : Int, cl H3 b5 (o5 + (s2.1.2.2.1 : Int).toNat * 3) = some (.int .i64 x6) ∧ ∃ s7 : ByteArray, cl H3 b5 ((o5 +
    (s2.1.2.2.1 : Int).toNat * 3) + 1) = some (.string s7) ∧ ∃ x8 : Bool, cl H3 b5 (((o5 + (s2.1.2.2.1 : Int).toNat * 3) + 1) + 1) = some (.bool x8) ∧ ∃ (A9 : Option Addr) (n9 c9 : Nat), cl H3 pl_b pl_o = some (.slice A9
    n9 c9) ∧ ∃ (A10 : Option Addr) (n10 c10 : Nat), cl H3 pl_b (pl_o + 1) = some (.slice A10 n10 c10) ∧ ∃ (A11 : Option Addr) (n11 c11 : Nat), cl H3 pl_b ((pl_o + 1) + 1) = some (.slice A11 n11 c11) ∧ HCalls Try.prog 48
    [.agg #[.int .i64 x6, .string s7, .bool x8]] H3 fun v12 H13 => ∃ s14 : ByteArray, ∃ x15 : Int, ∃ x16 : Bool, v12 = .agg #[.string s14, .int .i64 x15, .bool x16] ∧ H13 pl_b = H3 pl_b ∧ HCalls Try.prog 39 [.agg #[.slice
    A9 n9 c9, .slice A10 n10 c10, .slice A11 n11 c11], .agg #[.string s14, .int .i64 x15, .bool x16], .slice s2.1.1.1 s2.1.1.2.1 s2.1.1.2.2] H13 fun v17 H18 => ∃ x19 : Bool, v17 = .bool x19 ∧ cnd x19 (HCalls Try.prog 48
    [.agg #[.int .i64 x6, .string s7, .bool x8]] H18 fun v20 H21 => ∃ s22 : ByteArray, ∃ x23 : Int, ∃ x24 : Bool, v20 = .agg #[.string s22, .int .i64 x23, .bool x24] ∧ HCalls Try.prog 40 [.pointer (some ⟨pl_b, pl_o,
    none⟩), .agg #[.string s22, .int .i64 x23, .bool x24]] H21 fun v25 H26 => v25 = .tuple #[] ∧ newF H26 3 [.int .i64 x6] fun g27 H28 => appendF H28 3 1 8 s2.1.2.1.1 s2.1.2.1.2.1 s2.1.2.1.2.2 (some ⟨g27, 0, none⟩) 1 fun
    A29 n29 c29 H30 => J42 s2.1.1.1 s2.1.1.2.1 s2.1.1.2.2 A29 n29 c29 H30) (newF H18 42 [.int .i64 x6, .string s7, .bool x8] fun g31 H32 => appendF H32 42 3 32 s2.1.1.1 s2.1.1.2.1 s2.1.1.2.2 (some ⟨g31, 0, none⟩) 1 fun
    A33 n33 c33 H34 => J42 A33 n33 c33 s2.1.2.1.1 s2.1.2.1.2.1 s2.1.2.1.2.2 H34)) (storeF H3 pl_b (pl_o + 1) [.slice s2.1.1.1 s2.1.1.2.1 s2.1.1.2.2] fun H43 => Q (.slice s2.1.2.1.1 s2.1.2.1.2.1 s2.1.2.1.2.2) H43)
noncomputable def fcx34 : Cx := cx 42 [(6, true)] [(4, ⟨[0, 10, 11], [], [(3, .slice), (4, .slice), (12, .int .i64)], []⟩)] [(6, (.look 0 (.look 1 (.look 2 (.look 3 (.look 5 (.act 4 (.act 6 .done .done) .done)))))))] []
theorem f34.eq (pl_b pl_o : Nat) (H : Hp) (Q : Value → Hp → Prop) : f34 pl_b pl_o H Q = wFun fcx34 Try.f34 [.pointer (some ⟨pl_b, pl_o, none⟩)] H Q := by kernel_rfl
theorem f34.ok (pl_b pl_o : Nat) {H : Hp} {Q : Value → Hp → Prop} (h : f34 pl_b pl_o H Q) : HCalls Try.prog 34 [.pointer (some ⟨pl_b, pl_o, none⟩)] H Q := hcalls_of (cxOk 42 [(6, true)] [(4, ⟨[0, 10, 11], [], [(3, .slice), (4, .slice), (12, .int .i64)], []⟩)] [(6, (.look 0 (.look 1 (.look 2 (.look 3 (.look 5 (.act 4 (.act 6 .done .done) .done)))))))] []) Try.func34 (Eq.mp (f34.eq pl_b pl_o H Q) h)

/-- justiciar lock.waiting -/
def f35 (pl_0_A : Option Addr) (pl_0_n pl_0_c : Nat) (pl_1_A : Option Addr) (pl_1_n pl_1_c : Nat) (pl_2_A : Option Addr) (pl_2_n pl_2_c : Nat) (ptxn : Int) (H : Hp) (Q : Value → Hp → Prop) : Prop :=
  newF H 3 [.int .i64 ptxn] fun g1 H2 => HCalls Try.prog 56 [.slice pl_1_A pl_1_n pl_1_c, .func (.func 57) #[] #[.pointer (some ⟨g1, 0, none⟩)]] H2 fun v3 H4 => ∃ x5 : Bool, v3 = .bool x5 ∧ Q (.bool x5) H4
noncomputable def fcx35 : Cx := cx 9 [(2, true)] [] [] []
theorem f35.eq (pl_0_A : Option Addr) (pl_0_n pl_0_c : Nat) (pl_1_A : Option Addr) (pl_1_n pl_1_c : Nat) (pl_2_A : Option Addr) (pl_2_n pl_2_c : Nat) (ptxn : Int) (H : Hp) (Q : Value → Hp → Prop) : f35 pl_0_A pl_0_n pl_0_c pl_1_A pl_1_n pl_1_c pl_2_A pl_2_n pl_2_c ptxn H Q = wFun fcx35 Try.f35 [.agg #[.slice pl_0_A pl_0_n pl_0_c, .slice pl_1_A pl_1_n pl_1_c, .slice pl_2_A pl_2_n pl_2_c], .int .i64 ptxn] H Q := by kernel_rfl
theorem f35.ok (pl_0_A : Option Addr) (pl_0_n pl_0_c : Nat) (pl_1_A : Option Addr) (pl_1_n pl_1_c : Nat) (pl_2_A : Option Addr) (pl_2_n pl_2_c : Nat) (ptxn : Int) {H : Hp} {Q : Value → Hp → Prop} (h : f35 pl_0_A pl_0_n pl_0_c pl_1_A pl_1_n pl_1_c pl_2_A pl_2_n pl_2_c ptxn H Q) : HCalls Try.prog 35 [.agg #[.slice pl_0_A pl_0_n pl_0_c, .slice pl_1_A pl_1_n pl_1_c, .slice pl_2_A pl_2_n pl_2_c], .int .i64 ptxn] H Q := hcalls_of (cxOk 9 [(2, true)] [] [] []) Try.func35 (Eq.mp (f35.eq pl_0_A pl_0_n pl_0_c pl_1_A pl_1_n pl_1_c pl_2_A pl_2_n pl_2_c ptxn H Q) h)

/-- slices.ContainsFunc[[][2]int,[2]int] -/
def f36 (ps_A : Option Addr) (ps_n ps_c : Nat) (pf_f : FuncId) (pf_a pf_c : Array Value) (H : Hp) (Q : Value → Hp → Prop) : Prop :=
  HCalls Try.prog 55 [.slice ps_A ps_n ps_c, .func (.func pf_f) pf_a pf_c] H fun v1 H2 => ∃ x3 : Int, v1 = .int .i64 x3 ∧ Q (.bool (decide ((x3 : Int) ≥ 0))) H2
noncomputable def fcx36 : Cx := cx 9 [] [] [] []
theorem f36.eq (ps_A : Option Addr) (ps_n ps_c : Nat) (pf_f : FuncId) (pf_a pf_c : Array Value) (H : Hp) (Q : Value → Hp → Prop) : f36 ps_A ps_n ps_c pf_f pf_a pf_c H Q = wFun fcx36 Try.f36 [.slice ps_A ps_n ps_c, .func (.func pf_f) pf_a pf_c] H Q := by kernel_rfl
theorem f36.ok (ps_A : Option Addr) (ps_n ps_c : Nat) (pf_f : FuncId) (pf_a pf_c : Array Value) {H : Hp} {Q : Value → Hp → Prop} (h : f36 ps_A ps_n ps_c pf_f pf_a pf_c H Q) : HCalls Try.prog 36 [.slice ps_A ps_n ps_c, .func (.func pf_f) pf_a pf_c] H Q := hcalls_of (cxOk 9 [] [] [] []) Try.func36 (Eq.mp (f36.eq ps_A ps_n ps_c pf_f pf_a pf_c H Q) h)

/-- justiciar lock.Ask$1 -/
def f37 (pp_0 : Int) (pp_1 : Int) (fra_b fra_o : Nat) (H : Hp) (Q : Value → Hp → Prop) : Prop :=
  0 ≤ (0 : Int) ∧ (0 : Int) < ((2 : Nat) : Int) ∧ ∃ x1 : Int, cl H fra_b fra_o = some (.int .i64 x1) ∧ Q (.bool ((pp_0 : Int) == x1)) H
noncomputable def fcx37 : Cx := cx 8 [(2, true)] [] [] []
theorem f37.eq (pp_0 : Int) (pp_1 : Int) (fra_b fra_o : Nat) (H : Hp) (Q : Value → Hp → Prop) : f37 pp_0 pp_1 fra_b fra_o H Q = wFun fcx37 Try.f37 [.agg #[.int .i64 pp_0, .int .i64 pp_1], .pointer (some ⟨fra_b, fra_o, none⟩)] H Q := by kernel_rfl
theorem f37.ok (pp_0 : Int) (pp_1 : Int) (fra_b fra_o : Nat) {H : Hp} {Q : Value → Hp → Prop} (h : f37 pp_0 pp_1 fra_b fra_o H Q) : HCalls Try.prog 37 [.agg #[.int .i64 pp_0, .int .i64 pp_1], .pointer (some ⟨fra_b, fra_o, none⟩)] H Q := hcalls_of (cxOk 8 [(2, true)] [] [] []) Try.func37 (Eq.mp (f37.eq pp_0 pp_1 fra_b fra_o H Q) h)

/-- justiciar lock.mine -/
def f38 (pl_0_A : Option Addr) (pl_0_n pl_0_c : Nat) (pl_1_A : Option Addr) (pl_1_n pl_1_c : Nat) (pl_2_A : Option Addr) (pl_2_n pl_2_c : Nat) (ptxn : Int) (pthing : ByteArray) (H : Hp) (Q : Value → Hp → Prop) : Prop :=
  HCalls Try.prog 58 [.slice pl_0_A pl_0_n pl_0_c, .agg #[.string pthing, .int .i64 ptxn, .bool false], .func (.func 49) #[] #[]] H fun v1 H2 => ∃ x3 : Int, ∃ x4 : Bool, v1 = .tuple #[.int .i64 x3, .bool x4] ∧ cnd (!x4) (Q
    (.tuple #[.agg #[.string ByteArray.empty, .int .i64 0, .bool false], .bool false]) H2) (0 ≤ (x3 : Int) ∧ (x3 : Int) < ((pl_0_n : Nat) : Int) ∧ onPtr pl_0_A fun b5 o5 => ∃ s6 : ByteArray, cl H2 b5 (o5 + (x3 :
    Int).toNat * 3) = some (.string s6) ∧ ∃ x7 : Int, cl H2 b5 ((o5 + (x3 : Int).toNat * 3) + 1) = some (.int .i64 x7) ∧ ∃ x8 : Bool, cl H2 b5 (((o5 + (x3 : Int).toNat * 3) + 1) + 1) = some (.bool x8) ∧ Q (.tuple #[.agg
    #[.string s6, .int .i64 x7, .bool x8], .bool true]) H2)
noncomputable def fcx38 : Cx := cx 26 [(3, true), (6, true)] [] [] []
theorem f38.eq (pl_0_A : Option Addr) (pl_0_n pl_0_c : Nat) (pl_1_A : Option Addr) (pl_1_n pl_1_c : Nat) (pl_2_A : Option Addr) (pl_2_n pl_2_c : Nat) (ptxn : Int) (pthing : ByteArray) (H : Hp) (Q : Value → Hp → Prop) : f38 pl_0_A pl_0_n pl_0_c pl_1_A pl_1_n pl_1_c pl_2_A pl_2_n pl_2_c ptxn pthing H Q = wFun fcx38 Try.f38 [.agg #[.slice pl_0_A pl_0_n pl_0_c, .slice pl_1_A pl_1_n pl_1_c, .slice pl_2_A pl_2_n pl_2_c], .int .i64 ptxn, .string pthing] H Q := by kernel_rfl
theorem f38.ok (pl_0_A : Option Addr) (pl_0_n pl_0_c : Nat) (pl_1_A : Option Addr) (pl_1_n pl_1_c : Nat) (pl_2_A : Option Addr) (pl_2_n pl_2_c : Nat) (ptxn : Int) (pthing : ByteArray) {H : Hp} {Q : Value → Hp → Prop} (h : f38 pl_0_A pl_0_n pl_0_c pl_1_A pl_1_n pl_1_c pl_2_A pl_2_n pl_2_c ptxn pthing H Q) : HCalls Try.prog 38 [.agg #[.slice pl_0_A pl_0_n pl_0_c, .slice pl_1_A pl_1_n pl_1_c, .slice pl_2_A pl_2_n pl_2_c], .int .i64 ptxn, .string pthing] H Q := hcalls_of (cxOk 26 [(3, true), (6, true)] [] [] []) Try.func38 (Eq.mp (f38.eq pl_0_A pl_0_n pl_0_c pl_1_A pl_1_n pl_1_c pl_2_A pl_2_n pl_2_c ptxn pthing H Q) h)

/-- justiciar lock.free -/
def f39 (pl_0_A : Option Addr) (pl_0_n pl_0_c : Nat) (pl_1_A : Option Addr) (pl_1_n pl_1_c : Nat) (pl_2_A : Option Addr) (pl_2_n pl_2_c : Nat) (px_0 : ByteArray) (px_1 : Int) (px_2 : Bool) (pwaits_A : Option Addr) (pwaits_n pwaits_c : Nat) (H : Hp) (Q : Value → Hp → Prop) : Prop :=
  newF H 67 [.string px_0, .int .i64 px_1, .bool px_2] fun g1 H2 => ∃ s3 : ByteArray, cl H2 g1 (0 + 0) = some (.string s3) ∧ HCalls Try.prog 46 [.agg #[.slice pl_0_A pl_0_n pl_0_c, .slice pl_1_A pl_1_n pl_1_c, .slice pl_2_A
    pl_2_n pl_2_c], .string s3] H2 fun v4 H5 => ∃ (A6 : Option Addr) (n6 c6 : Nat), v4 = .slice A6 n6 c6 ∧ HCalls Try.prog 60 [.slice A6 n6 c6, .func (.func 59) #[] #[.pointer (some ⟨g1, 0, none⟩)]] H5 fun v7 H8 => ∃ x9 :
    Bool, v7 = .bool x9 ∧ cnd x9 (Q (.bool false) H8) (∃ x10 : Int, cl H8 g1 (0 + 1) = some (.int .i64 x10) ∧ ∃ s11 : ByteArray, cl H8 g1 (0 + 0) = some (.string s11) ∧ HCalls Try.prog 38 [.agg #[.slice pl_0_A pl_0_n
    pl_0_c, .slice pl_1_A pl_1_n pl_1_c, .slice pl_2_A pl_2_n pl_2_c], .int .i64 x10, .string s11] H8 fun v12 H13 => ∃ s14 : ByteArray, ∃ x15 : Int, ∃ x16 : Bool, ∃ x17 : Bool, v12 = .tuple #[.agg #[.string s14, .int .i64
    x15, .bool x16], .bool x17] ∧ cnd x17 (Q (.bool true) H13) (HCalls Try.prog 56 [.slice pwaits_A pwaits_n pwaits_c, .func (.func 61) #[] #[.pointer (some ⟨g1, 0, none⟩)]] H13 fun v18 H19 => ∃ x20 : Bool, v18 = .bool
    x20 ∧ Q (.bool (!x20)) H19))
noncomputable def fcx39 : Cx := cx 31 [(3, true), (8, true)] [] [] []
theorem f39.eq (pl_0_A : Option Addr) (pl_0_n pl_0_c : Nat) (pl_1_A : Option Addr) (pl_1_n pl_1_c : Nat) (pl_2_A : Option Addr) (pl_2_n pl_2_c : Nat) (px_0 : ByteArray) (px_1 : Int) (px_2 : Bool) (pwaits_A : Option Addr) (pwaits_n pwaits_c : Nat) (H : Hp) (Q : Value → Hp → Prop) : f39 pl_0_A pl_0_n pl_0_c pl_1_A pl_1_n pl_1_c pl_2_A pl_2_n pl_2_c px_0 px_1 px_2 pwaits_A pwaits_n pwaits_c H Q = wFun fcx39 Try.f39 [.agg #[.slice pl_0_A pl_0_n pl_0_c, .slice pl_1_A pl_1_n pl_1_c, .slice pl_2_A pl_2_n pl_2_c], .agg #[.string px_0, .int .i64 px_1, .bool px_2], .slice pwaits_A pwaits_n pwaits_c] H Q := by kernel_rfl
theorem f39.ok (pl_0_A : Option Addr) (pl_0_n pl_0_c : Nat) (pl_1_A : Option Addr) (pl_1_n pl_1_c : Nat) (pl_2_A : Option Addr) (pl_2_n pl_2_c : Nat) (px_0 : ByteArray) (px_1 : Int) (px_2 : Bool) (pwaits_A : Option Addr) (pwaits_n pwaits_c : Nat) {H : Hp} {Q : Value → Hp → Prop} (h : f39 pl_0_A pl_0_n pl_0_c pl_1_A pl_1_n pl_1_c pl_2_A pl_2_n pl_2_c px_0 px_1 px_2 pwaits_A pwaits_n pwaits_c H Q) : HCalls Try.prog 39 [.agg #[.slice pl_0_A pl_0_n pl_0_c, .slice pl_1_A pl_1_n pl_1_c, .slice pl_2_A pl_2_n pl_2_c], .agg #[.string px_0, .int .i64 px_1, .bool px_2], .slice pwaits_A pwaits_n pwaits_c] H Q := hcalls_of (cxOk 31 [(3, true), (8, true)] [] [] []) Try.func39 (Eq.mp (f39.eq pl_0_A pl_0_n pl_0_c pl_1_A pl_1_n pl_1_c pl_2_A pl_2_n pl_2_c px_0 px_1 px_2 pwaits_A pwaits_n pwaits_c H Q) h)

/-- justiciar lock.give -/
def f40 (pl_b pl_o : Nat) (px_0 : ByteArray) (px_1 : Int) (px_2 : Bool) (H : Hp) (Q : Value → Hp → Prop) : Prop :=
  ∃ (A1 : Option Addr) (n1 c1 : Nat), cl H pl_b (pl_o + 0) = some (.slice A1 n1 c1) ∧ HCalls Try.prog 58 [.slice A1 n1 c1, .agg #[.string px_0, .int .i64 px_1, .bool px_2], .func (.func 49) #[] #[]] H fun v2 H3 => ∃ x4 :
    Int, ∃ x5 : Bool, v2 = .tuple #[.int .i64 x4, .bool x5] ∧ cnd x5 (jn (fun (H14 : Hp) => Q (.tuple #[]) H14) fun J15 => ∃ (A6 : Option Addr) (n6 c6 : Nat), cl H3 pl_b (pl_o + 0) = some (.slice A6 n6 c6) ∧ ∃ (A7 :
    Option Addr) (n7 c7 : Nat), cl H3 pl_b (pl_o + 0) = some (.slice A7 n7 c7) ∧ 0 ≤ (x4 : Int) ∧ (x4 : Int) < ((n7 : Nat) : Int) ∧ onPtr A7 fun b8 o8 => ∃ x9 : Bool, cl H3 b8 ((o8 + (x4 : Int).toNat * 3) + 2) = some
    (.bool x9) ∧ cnd x9 (0 ≤ (x4 : Int) ∧ (x4 : Int) < ((n6 : Nat) : Int) ∧ onPtr A6 fun b10 o10 => storeF H3 b10 ((o10 + (x4 : Int).toNat * 3) + 2) [.bool px_2] fun H11 => J15 H11) (0 ≤ (x4 : Int) ∧ (x4 : Int) < ((n6 :
    Nat) : Int) ∧ onPtr A6 fun b12 o12 => storeF H3 b12 ((o12 + (x4 : Int).toNat * 3) + 2) [.bool false] fun H13 => J15 H13)) (∃ (A16 : Option Addr) (n16 c16 : Nat), cl H3 pl_b (pl_o + 0) = some (.slice A16 n16 c16) ∧
    newF H3 67 [.string px_0, .int .i64 px_1, .bool px_2] fun g17 H18 => HCalls Try.prog 62 [.slice A16 n16 c16, .int .i64 x4, .slice (some ⟨g17, 0, none⟩) 1 1] H18 fun v19 H20 => ∃ (A21 : Option Addr) (n21 c21 : Nat),
    v19 = .slice A21 n21 c21 ∧ storeF H20 pl_b (pl_o + 0) [.slice A21 n21 c21] fun H22 => Q (.tuple #[]) H22)
noncomputable def fcx40 : Cx := cx 46 [(3, true)] [] [(1, (.look 0 (.look 1 (.look 2 (.look 3 (.look 4 (.act 5 (.look 6 (.look 7 (.look 8 (.act 9 (.act 10 .done .done) .done)))) .done))))))), (3, (.look 0 (.look 1 (.look 2 (.look 3 (.look 4 (.look 5 (.look 6 (.look 7 (.look 8 (.look 9 (.look 10 (.look 11 (.look 12 (.look 13 (.look 14 (.look 15 (.look 16 (.look 17 (.look 18 (.act 19 .done .done))))))))))))))))))))), (4, (.look 0 (.look 1 (.look 2 (.look 3 (.look 4 (.look 5 (.look 6 (.act 7 (.act 8 (.look 9 (.look 10 (.act 11 .done .done))) .done) .done)))))))))] []
theorem f40.eq (pl_b pl_o : Nat) (px_0 : ByteArray) (px_1 : Int) (px_2 : Bool) (H : Hp) (Q : Value → Hp → Prop) : f40 pl_b pl_o px_0 px_1 px_2 H Q = wFun fcx40 Try.f40 [.pointer (some ⟨pl_b, pl_o, none⟩), .agg #[.string px_0, .int .i64 px_1, .bool px_2]] H Q := by kernel_rfl
theorem f40.ok (pl_b pl_o : Nat) (px_0 : ByteArray) (px_1 : Int) (px_2 : Bool) {H : Hp} {Q : Value → Hp → Prop} (h : f40 pl_b pl_o px_0 px_1 px_2 H Q) : HCalls Try.prog 40 [.pointer (some ⟨pl_b, pl_o, none⟩), .agg #[.string px_0, .int .i64 px_1, .bool px_2]] H Q := hcalls_of (cxOk 46 [(3, true)] [] [(1, (.look 0 (.look 1 (.look 2 (.look 3 (.look 4 (.act 5 (.look 6 (.look 7 (.look 8 (.act 9 (.act 10 .done .done) .done)))) .done))))))), (3, (.look 0 (.look 1 (.look 2 (.look 3 (.look 4 (.look 5 (.look 6 (.look 7 (.look 8 (.look 9 (.look 10 (.look 11 (.look 12 (.look 13 (.look 14 (.look 15 (.look 16 (.look 17 (.look 18 (.act 19 .done .done))))))))))))))))))))), (4, (.look 0 (.look 1 (.look 2 (.look 3 (.look 4 (.look 5 (.look 6 (.act 7 (.act 8 (.look 9 (.look 10 (.act 11 .done .done))) .done) .done)))))))))] []) Try.func40 (Eq.mp (f40.eq pl_b pl_o px_0 px_1 px_2 H Q) h)

/-- justiciar lock.dead -/
def f41 (pl_0_A : Option Addr) (pl_0_n pl_0_c : Nat) (pl_1_A : Option Addr) (pl_1_n pl_1_c : Nat) (pl_2_A : Option Addr) (pl_2_n pl_2_c : Nat) (H : Hp) (Q : Value → Hp → Prop) : Prop :=
  newMapF H fun m1 H2 => newF H2 56 [.map none] fun g3 H4 => storeF H4 g3 0 [.map (some m1)] fun H5 => HCalls Try.prog 21 [.agg #[.slice pl_0_A pl_0_n pl_0_c, .slice pl_1_A pl_1_n pl_1_c, .slice pl_2_A pl_2_n pl_2_c]] H5
    fun v6 H7 => ∃ (A8 : Option Addr) (n8 c8 : Nat), v6 = .slice A8 n8 c8 ∧ LoopF (σ := (Int × Unit) × Unit) ((0, ()), ()) H7 fun s9 H10 next11 => cnd (decide ((s9.1.1 : Int) < ((n8 : Nat) : Int))) (0 ≤ (s9.1.1 : Int) ∧
    (s9.1.1 : Int) < ((n8 : Nat) : Int) ∧ onPtr A8 fun b12 o12 => ∃ x13 : Int, cl H10 b12 (o12 + (s9.1.1 : Int).toNat * 1) = some (.int .i64 x13) ∧ ∃ r14 : Option Nat, cl H10 g3 0 = some (.map r14) ∧ HCalls Try.prog 22
    [.agg #[.slice pl_0_A pl_0_n pl_0_c, .slice pl_1_A pl_1_n pl_1_c, .slice pl_2_A pl_2_n pl_2_c], .int .i64 x13] H10 fun v15 H16 => ∃ (A17 : Option Addr) (n17 c17 : Nat), v15 = .slice A17 n17 c17 ∧ H16 g3 = H10 g3 ∧
    putF H16 .i64 r14 x13 (.slice A17 n17 c17) fun H18 => KeepX [some (.loc 1 0), some (.v (.pointer (some ⟨g3, 0, none⟩))), some (.v (.slice A8 n8 c8)), some (.v (.int .i64 ((n8 : Nat) : Int)))] [some (true, [.slice
    pl_0_A pl_0_n pl_0_c, .slice pl_1_A pl_1_n pl_1_c, .slice pl_2_A pl_2_n pl_2_c])] ∧ next11 ((IntKind.i64.wrap (s9.1.1 + 1), ()), ()) H18) (LoopF (σ := (Bool × Unit) × Unit) ((true, ()), ()) H10 fun s19 H20 next21 =>
    cnd s19.1.1 (∃ r22 : Option Nat, cl H20 g3 0 = some (.map r22) ∧ rangeF H20 r22 fun i23 H24 => LoopF (σ := (Bool × Unit) × Unit) ((false, ()), ()) H24 fun s25 H26 next27 => jn (fun (j45 : Bool) (H46 : Hp) => KeepX
    [some (.v (.pointer (some ⟨g3, 0, none⟩))), some (.v (.pointer (some ⟨i23, 0, none⟩)))] [] ∧ next27 ((j45, ()), ()) H46) fun J47 => jn (fun (j33 : Bool) (H34 : Hp) => cnd j33 (entryF H34 i23 0 fun k36 v37 => ∃ x38 :
    Int, k36 = .int .i64 x38 ∧ ∃ (A39 : Option Addr) (n39 c39 : Nat), v37 = .slice A39 n39 c39 ∧ HCalls Try.prog 63 [.slice A39 n39 c39, .func (.func 64) #[] #[.pointer (some ⟨g3, 0, none⟩)]] H34 fun v40 H41 => ∃ x42 :
    Bool, v40 = .bool x42 ∧ cnd (!x42) (∃ r43 : Option Nat, cl H41 g3 0 = some (.map r43) ∧ delF H41 .i64 r43 x38 fun H44 => J47 true H44) (J47 s25.1.1 H41)) (KeepX [some (.v (.pointer (some ⟨g3, 0, none⟩)))] [] ∧ next21
    ((s25.1.1, ()), ()) H34)) fun J35 => nextF H26 i23 0 (J35 false H26) fun k28 v29 H30 => ∃ x31 : Int, k28 = .int .i64 x31 ∧ ∃ (A32 : Option Addr) (n32 c32 : Nat), v29 = .slice A32 n32 c32 ∧ J35 true H30) (∃ r48 :
    Option Nat, cl H20 g3 0 = some (.map r48) ∧ sizeF H20 r48 fun n49 => Q (.bool (decide ((((n49 : Nat) : Int) : Int) > 0))) H20))
noncomputable def fcx41 : Cx := cx 40 [(1, true)] [(3, ⟨[1, 3, 11, 12], [1], [(13, .int .i64)], []⟩), (8, ⟨[3], [], [(6, .bool)], []⟩), (11, ⟨[3, 25], [], [(6, .bool)], []⟩)] [(5, (.look 0 (.look 1 (.look 2 (.look 3 (.act 4 (.act 5 .done .done) .done))))))] [(26, ((.int .i64 0), (.slice none 0 0))), (28, ((.int .i64 0), (.slice none 0 0)))]
theorem f41.eq (pl_0_A : Option Addr) (pl_0_n pl_0_c : Nat) (pl_1_A : Option Addr) (pl_1_n pl_1_c : Nat) (pl_2_A : Option Addr) (pl_2_n pl_2_c : Nat) (H : Hp) (Q : Value → Hp → Prop) : f41 pl_0_A pl_0_n pl_0_c pl_1_A pl_1_n pl_1_c pl_2_A pl_2_n pl_2_c H Q = wFun fcx41 Try.f41 [.agg #[.slice pl_0_A pl_0_n pl_0_c, .slice pl_1_A pl_1_n pl_1_c, .slice pl_2_A pl_2_n pl_2_c]] H Q := by kernel_rfl
theorem f41.ok (pl_0_A : Option Addr) (pl_0_n pl_0_c : Nat) (pl_1_A : Option Addr) (pl_1_n pl_1_c : Nat) (pl_2_A : Option Addr) (pl_2_n pl_2_c : Nat) {H : Hp} {Q : Value → Hp → Prop} (h : f41 pl_0_A pl_0_n pl_0_c pl_1_A pl_1_n pl_1_c pl_2_A pl_2_n pl_2_c H Q) : HCalls Try.prog 41 [.agg #[.slice pl_0_A pl_0_n pl_0_c, .slice pl_1_A pl_1_n pl_1_c, .slice pl_2_A pl_2_n pl_2_c]] H Q := hcalls_of (cxOk 40 [(1, true)] [(3, ⟨[1, 3, 11, 12], [1], [(13, .int .i64)], []⟩), (8, ⟨[3], [], [(6, .bool)], []⟩), (11, ⟨[3, 25], [], [(6, .bool)], []⟩)] [(5, (.look 0 (.look 1 (.look 2 (.look 3 (.act 4 (.act 5 .done .done) .done))))))] [(26, ((.int .i64 0), (.slice none 0 0))), (28, ((.int .i64 0), (.slice none 0 0)))]) Try.func41 (Eq.mp (f41.eq pl_0_A pl_0_n pl_0_c pl_1_A pl_1_n pl_1_c pl_2_A pl_2_n pl_2_c H Q) h)

/-- justiciar lock.Within$1 -/
def f42 (pp_0 : Int) (pp_1 : Int) (fra_b fra_o : Nat) (H : Hp) (Q : Value → Hp → Prop) : Prop :=
  0 ≤ (0 : Int) ∧ (0 : Int) < ((2 : Nat) : Int) ∧ ∃ x1 : Int, cl H fra_b fra_o = some (.int .i64 x1) ∧ Q (.bool ((pp_0 : Int) == x1)) H
noncomputable def fcx42 : Cx := cx 8 [(2, true)] [] [] []
theorem f42.eq (pp_0 : Int) (pp_1 : Int) (fra_b fra_o : Nat) (H : Hp) (Q : Value → Hp → Prop) : f42 pp_0 pp_1 fra_b fra_o H Q = wFun fcx42 Try.f42 [.agg #[.int .i64 pp_0, .int .i64 pp_1], .pointer (some ⟨fra_b, fra_o, none⟩)] H Q := by kernel_rfl
theorem f42.ok (pp_0 : Int) (pp_1 : Int) (fra_b fra_o : Nat) {H : Hp} {Q : Value → Hp → Prop} (h : f42 pp_0 pp_1 fra_b fra_o H Q) : HCalls Try.prog 42 [.agg #[.int .i64 pp_0, .int .i64 pp_1], .pointer (some ⟨fra_b, fra_o, none⟩)] H Q := hcalls_of (cxOk 8 [(2, true)] [] [] []) Try.func42 (Eq.mp (f42.eq pp_0 pp_1 fra_b fra_o H Q) h)

/-- justiciar lock.Leave$1 -/
def f43 (pw_0 : Int) (pw_1 : ByteArray) (pw_2 : Bool) (fra_b fra_o : Nat) (H : Hp) (Q : Value → Hp → Prop) : Prop :=
  ∃ x1 : Int, cl H fra_b fra_o = some (.int .i64 x1) ∧ Q (.bool ((pw_0 : Int) == x1)) H
noncomputable def fcx43 : Cx := cx 8 [(2, true)] [] [] []
theorem f43.eq (pw_0 : Int) (pw_1 : ByteArray) (pw_2 : Bool) (fra_b fra_o : Nat) (H : Hp) (Q : Value → Hp → Prop) : f43 pw_0 pw_1 pw_2 fra_b fra_o H Q = wFun fcx43 Try.f43 [.agg #[.int .i64 pw_0, .string pw_1, .bool pw_2], .pointer (some ⟨fra_b, fra_o, none⟩)] H Q := by kernel_rfl
theorem f43.ok (pw_0 : Int) (pw_1 : ByteArray) (pw_2 : Bool) (fra_b fra_o : Nat) {H : Hp} {Q : Value → Hp → Prop} (h : f43 pw_0 pw_1 pw_2 fra_b fra_o H Q) : HCalls Try.prog 43 [.agg #[.int .i64 pw_0, .string pw_1, .bool pw_2], .pointer (some ⟨fra_b, fra_o, none⟩)] H Q := hcalls_of (cxOk 8 [(2, true)] [] [] []) Try.func43 (Eq.mp (f43.eq pw_0 pw_1 pw_2 fra_b fra_o H Q) h)

/-- justiciar lock.on -/
def f46 (pl_0_A : Option Addr) (pl_0_n pl_0_c : Nat) (pl_1_A : Option Addr) (pl_1_n pl_1_c : Nat) (pl_2_A : Option Addr) (pl_2_n pl_2_c : Nat) (pthing : ByteArray) (H : Hp) (Q : Value → Hp → Prop) : Prop :=
  HCalls Try.prog 69 [.slice pl_0_A pl_0_n pl_0_c, .string pthing, .func (.func 67) #[] #[]] H fun v1 H2 => ∃ x3 : Int, ∃ x4 : Bool, v1 = .tuple #[.int .i64 x3, .bool x4] ∧ LoopF (σ := (Int × Unit) × Unit) ((x3, ()), ()) H2
    fun s5 H6 next7 => jn (fun (j10 : Bool) => cnd j10 (KeepX [some (.v (.string pthing)), some (.loc 2 0), some (.v (.int .i64 x3))] [some (true, [.slice pl_0_A pl_0_n pl_0_c, .slice pl_1_A pl_1_n pl_1_c, .slice pl_2_A
    pl_2_n pl_2_c])] ∧ next7 ((IntKind.i64.wrap (s5.1.1 + 1), ()), ()) H6) (0 ≤ (s5.1.1 : Int) ∧ (s5.1.1 : Int) ≤ ((pl_0_c : Nat) : Int) ∧ 0 ≤ (x3 : Int) ∧ (x3 : Int) ≤ (s5.1.1 : Int) ∧ Q (.slice (cutA pl_0_A (((x3 :
    Int).toNat) * 3) (decide (pl_0_c = ((x3 : Int).toNat)))) (((s5.1.1 : Int).toNat) - ((x3 : Int).toNat)) (pl_0_c - ((x3 : Int).toNat))) H6)) fun J11 => cnd (decide ((s5.1.1 : Int) < ((pl_0_n : Nat) : Int))) (0 ≤ (s5.1.1
    : Int) ∧ (s5.1.1 : Int) < ((pl_0_n : Nat) : Int) ∧ onPtr pl_0_A fun b8 o8 => ∃ s9 : ByteArray, cl H6 b8 ((o8 + (s5.1.1 : Int).toNat * 3) + 0) = some (.string s9) ∧ J11 (s9.toList == pthing.toList)) (J11 false)
noncomputable def fcx46 : Cx := cx 40 [(2, true)] [(4, ⟨[1, 2, 6], [2], [(8, .int .i64)], []⟩)] [] []
theorem f46.eq (pl_0_A : Option Addr) (pl_0_n pl_0_c : Nat) (pl_1_A : Option Addr) (pl_1_n pl_1_c : Nat) (pl_2_A : Option Addr) (pl_2_n pl_2_c : Nat) (pthing : ByteArray) (H : Hp) (Q : Value → Hp → Prop) : f46 pl_0_A pl_0_n pl_0_c pl_1_A pl_1_n pl_1_c pl_2_A pl_2_n pl_2_c pthing H Q = wFun fcx46 Try.f46 [.agg #[.slice pl_0_A pl_0_n pl_0_c, .slice pl_1_A pl_1_n pl_1_c, .slice pl_2_A pl_2_n pl_2_c], .string pthing] H Q := by kernel_rfl
theorem f46.ok (pl_0_A : Option Addr) (pl_0_n pl_0_c : Nat) (pl_1_A : Option Addr) (pl_1_n pl_1_c : Nat) (pl_2_A : Option Addr) (pl_2_n pl_2_c : Nat) (pthing : ByteArray) {H : Hp} {Q : Value → Hp → Prop} (h : f46 pl_0_A pl_0_n pl_0_c pl_1_A pl_1_n pl_1_c pl_2_A pl_2_n pl_2_c pthing H Q) : HCalls Try.prog 46 [.agg #[.slice pl_0_A pl_0_n pl_0_c, .slice pl_1_A pl_1_n pl_1_c, .slice pl_2_A pl_2_n pl_2_c], .string pthing] H Q := hcalls_of (cxOk 40 [(2, true)] [(4, ⟨[1, 2, 6], [2], [(8, .int .i64)], []⟩)] [] []) Try.func46 (Eq.mp (f46.eq pl_0_A pl_0_n pl_0_c pl_1_A pl_1_n pl_1_c pl_2_A pl_2_n pl_2_c pthing H Q) h)

/-- justiciar lock.clash -/
def f47 (pa_0 : ByteArray) (pa_1 : Int) (pa_2 : Bool) (pb_0 : ByteArray) (pb_1 : Int) (pb_2 : Bool) (H : Hp) (Q : Value → Hp → Prop) : Prop :=
  jn (fun (j1 : Bool) => Q (.bool j1) H) fun J2 => cnd (pa_0.toList == pb_0.toList) (cnd ((pa_1 : Int) != pb_1) (cnd pa_2 (J2 (!pb_2)) (J2 true)) (J2 false)) (J2 false)
noncomputable def fcx47 : Cx := cx 26 [(2, true), (3, true)] [] [] []
theorem f47.eq (pa_0 : ByteArray) (pa_1 : Int) (pa_2 : Bool) (pb_0 : ByteArray) (pb_1 : Int) (pb_2 : Bool) (H : Hp) (Q : Value → Hp → Prop) : f47 pa_0 pa_1 pa_2 pb_0 pb_1 pb_2 H Q = wFun fcx47 Try.f47 [.agg #[.string pa_0, .int .i64 pa_1, .bool pa_2], .agg #[.string pb_0, .int .i64 pb_1, .bool pb_2]] H Q := by kernel_rfl
theorem f47.ok (pa_0 : ByteArray) (pa_1 : Int) (pa_2 : Bool) (pb_0 : ByteArray) (pb_1 : Int) (pb_2 : Bool) {H : Hp} {Q : Value → Hp → Prop} (h : f47 pa_0 pa_1 pa_2 pb_0 pb_1 pb_2 H Q) : HCalls Try.prog 47 [.agg #[.string pa_0, .int .i64 pa_1, .bool pa_2], .agg #[.string pb_0, .int .i64 pb_1, .bool pb_2]] H Q := hcalls_of (cxOk 26 [(2, true), (3, true)] [] [] []) Try.func47 (Eq.mp (f47.eq pa_0 pa_1 pa_2 pb_0 pb_1 pb_2 H Q) h)

/-- justiciar lock.lock -/
def f48 (pw_0 : Int) (pw_1 : ByteArray) (pw_2 : Bool) (H : Hp) (Q : Value → Hp → Prop) : Prop :=
  Q (.agg #[.string pw_1, .int .i64 pw_0, .bool pw_2]) H
noncomputable def fcx48 : Cx := cx 10 [(1, true), (2, true)] [] [] []
theorem f48.eq (pw_0 : Int) (pw_1 : ByteArray) (pw_2 : Bool) (H : Hp) (Q : Value → Hp → Prop) : f48 pw_0 pw_1 pw_2 H Q = wFun fcx48 Try.f48 [.agg #[.int .i64 pw_0, .string pw_1, .bool pw_2]] H Q := by kernel_rfl
theorem f48.ok (pw_0 : Int) (pw_1 : ByteArray) (pw_2 : Bool) {H : Hp} {Q : Value → Hp → Prop} (h : f48 pw_0 pw_1 pw_2 H Q) : HCalls Try.prog 48 [.agg #[.int .i64 pw_0, .string pw_1, .bool pw_2]] H Q := hcalls_of (cxOk 10 [(1, true), (2, true)] [] [] []) Try.func48 (Eq.mp (f48.eq pw_0 pw_1 pw_2 H Q) h)

/-- justiciar lock.order -/
def f49 (pa_0 : ByteArray) (pa_1 : Int) (pa_2 : Bool) (pb_0 : ByteArray) (pb_1 : Int) (pb_2 : Bool) (H : Hp) (Q : Value → Hp → Prop) : Prop :=
  HCalls Try.prog 68 [.string pa_0, .string pb_0] H fun v1 H2 => ∃ x3 : Int, v1 = .int .i64 x3 ∧ HCalls Try.prog 71 [.int .i64 pa_1, .int .i64 pb_1] H2 fun v4 H5 => ∃ x6 : Int, v4 = .int .i64 x6 ∧ newF H5 3 [.int .i64 x3,
    .int .i64 x6] fun g7 H8 => HCalls Try.prog 70 [.slice (some ⟨g7, 0, none⟩) 2 2] H8 fun v9 H10 => ∃ x11 : Int, v9 = .int .i64 x11 ∧ Q (.int .i64 x11) H10
noncomputable def fcx49 : Cx := cx 17 [(2, true), (3, true)] [] [(1, (.look 0 (.look 1 (.look 2 (.look 3 (.look 5 (.look 6 (.look 7 (.look 8 (.act 4 (.act 9 (.act 10 (.act 11 (.act 12 .done .done) .done) .done) .done) .done))))))))))] []
theorem f49.eq (pa_0 : ByteArray) (pa_1 : Int) (pa_2 : Bool) (pb_0 : ByteArray) (pb_1 : Int) (pb_2 : Bool) (H : Hp) (Q : Value → Hp → Prop) : f49 pa_0 pa_1 pa_2 pb_0 pb_1 pb_2 H Q = wFun fcx49 Try.f49 [.agg #[.string pa_0, .int .i64 pa_1, .bool pa_2], .agg #[.string pb_0, .int .i64 pb_1, .bool pb_2]] H Q := by kernel_rfl
theorem f49.ok (pa_0 : ByteArray) (pa_1 : Int) (pa_2 : Bool) (pb_0 : ByteArray) (pb_1 : Int) (pb_2 : Bool) {H : Hp} {Q : Value → Hp → Prop} (h : f49 pa_0 pa_1 pa_2 pb_0 pb_1 pb_2 H Q) : HCalls Try.prog 49 [.agg #[.string pa_0, .int .i64 pa_1, .bool pa_2], .agg #[.string pb_0, .int .i64 pb_1, .bool pb_2]] H Q := hcalls_of (cxOk 17 [(2, true), (3, true)] [] [(1, (.look 0 (.look 1 (.look 2 (.look 3 (.look 5 (.look 6 (.look 7 (.look 8 (.act 4 (.act 9 (.act 10 (.act 11 (.act 12 .done .done) .done) .done) .done) .done))))))))))] []) Try.func49 (Eq.mp (f49.eq pa_0 pa_1 pa_2 pb_0 pb_1 pb_2 H Q) h)

/-- slices.Clone[[]justiciar api.Lock,justiciar api.Lock] -/
def f50 (ps_A : Option Addr) (ps_n ps_c : Nat) (H : Hp) (Q : Value → Hp → Prop) : Prop :=
  cnd ps_A.isNone (Q (.slice none 0 0) H) (newF H 67 [] fun g1 H2 => appendF H2 67 3 32 (some ⟨g1, 0, none⟩) 0 0 ps_A ps_n fun A3 n3 c3 H4 => Q (.slice A3 n3 c3) H4)
noncomputable def fcx50 : Cx := cx 8 [] [] [] []
theorem f50.eq (ps_A : Option Addr) (ps_n ps_c : Nat) (H : Hp) (Q : Value → Hp → Prop) : f50 ps_A ps_n ps_c H Q = wFun fcx50 Try.f50 [.slice ps_A ps_n ps_c] H Q := by kernel_rfl
theorem f50.ok (ps_A : Option Addr) (ps_n ps_c : Nat) {H : Hp} {Q : Value → Hp → Prop} (h : f50 ps_A ps_n ps_c H Q) : HCalls Try.prog 50 [.slice ps_A ps_n ps_c] H Q := hcalls_of (cxOk 8 [] [] [] []) Try.func50 (Eq.mp (f50.eq ps_A ps_n ps_c H Q) h)

/-- slices.Clone[[]justiciar api.Wait,justiciar api.Wait] -/
def f51 (ps_A : Option Addr) (ps_n ps_c : Nat) (H : Hp) (Q : Value → Hp → Prop) : Prop :=
  cnd ps_A.isNone (Q (.slice none 0 0) H) (newF H 42 [] fun g1 H2 => appendF H2 42 3 32 (some ⟨g1, 0, none⟩) 0 0 ps_A ps_n fun A3 n3 c3 H4 => Q (.slice A3 n3 c3) H4)
noncomputable def fcx51 : Cx := cx 8 [] [] [] []
theorem f51.eq (ps_A : Option Addr) (ps_n ps_c : Nat) (H : Hp) (Q : Value → Hp → Prop) : f51 ps_A ps_n ps_c H Q = wFun fcx51 Try.f51 [.slice ps_A ps_n ps_c] H Q := by kernel_rfl
theorem f51.ok (ps_A : Option Addr) (ps_n ps_c : Nat) {H : Hp} {Q : Value → Hp → Prop} (h : f51 ps_A ps_n ps_c H Q) : HCalls Try.prog 51 [.slice ps_A ps_n ps_c] H Q := hcalls_of (cxOk 8 [] [] [] []) Try.func51 (Eq.mp (f51.eq ps_A ps_n ps_c H Q) h)

/-- slices.Clone[[][2]int,[2]int] -/
def f52 (ps_A : Option Addr) (ps_n ps_c : Nat) (H : Hp) (Q : Value → Hp → Prop) : Prop :=
  cnd ps_A.isNone (Q (.slice none 0 0) H) (newF H 53 [] fun g1 H2 => appendF H2 53 2 16 (some ⟨g1, 0, none⟩) 0 0 ps_A ps_n fun A3 n3 c3 H4 => Q (.slice A3 n3 c3) H4)
noncomputable def fcx52 : Cx := cx 8 [] [] [] []
theorem f52.eq (ps_A : Option Addr) (ps_n ps_c : Nat) (H : Hp) (Q : Value → Hp → Prop) : f52 ps_A ps_n ps_c H Q = wFun fcx52 Try.f52 [.slice ps_A ps_n ps_c] H Q := by kernel_rfl
theorem f52.ok (ps_A : Option Addr) (ps_n ps_c : Nat) {H : Hp} {Q : Value → Hp → Prop} (h : f52 ps_A ps_n ps_c H Q) : HCalls Try.prog 52 [.slice ps_A ps_n ps_c] H Q := hcalls_of (cxOk 8 [] [] [] []) Try.func52 (Eq.mp (f52.eq ps_A ps_n ps_c H Q) h)

end Go.Proofs.Ytkbancdmhcnhjaa.Hw
