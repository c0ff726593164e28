/- What functions of the program come to, by the evaluator: printed by a program of this session (gen.py) and checked here. -/
import Derived.Test.YtkbancdmhcnhjaaHwTab
set_option linter.unusedVariables false
set_option maxRecDepth 100000
namespace Go.Proofs.Ytkbancdmhcnhjaa.Hw
open Go Go.Proofs

/-- slices.IndexFunc[[]justiciar api.Lock,justiciar api.Lock] -/
def f53 (ps_A : Option Addr) (ps_n ps_c : Nat) (pf_f : FuncId) (pf_a pf_c : Array Value) (H : Hp) (Q : Value → Hp → Prop) : Prop :=
  LoopF (σ := (Int × Unit) × Unit) ((0, ()), ()) H fun s1 H2 next3 => cnd (decide ((s1.1.1 : Int) < ((ps_n : Nat) : Int))) (0 ≤ (s1.1.1 : Int) ∧ (s1.1.1 : Int) < ((ps_n : Nat) : Int) ∧ onPtr ps_A fun b4 o4 => ∃ s5 :
    ByteArray, cl H2 b4 (o4 + (s1.1.1 : Int).toNat * 3) = some (.string s5) ∧ ∃ x6 : Int, cl H2 b4 ((o4 + (s1.1.1 : Int).toNat * 3) + 1) = some (.int .i64 x6) ∧ ∃ x7 : Bool, cl H2 b4 (((o4 + (s1.1.1 : Int).toNat * 3) + 1)
    + 1) = some (.bool x7) ∧ FnOk Try.prog pf_f ∧ HCalls Try.prog pf_f (pf_a.toList ++ [.agg #[.string s5, .int .i64 x6, .bool x7]] ++ pf_c.toList) H2 fun v8 H9 => ∃ x10 : Bool, v8 = .bool x10 ∧ cnd x10 (Q (.int .i64
    s1.1.1) H9) (KeepX [some (.v (.slice ps_A ps_n ps_c)), some (.v (.func (.func pf_f) pf_a pf_c)), some (.v (.int .i64 ((ps_n : Nat) : Int)))] [] ∧ next3 ((IntKind.i64.wrap (s1.1.1 + 1), ()), ()) H9)) (Q (.int .i64
    (-1)) H2)
noncomputable def fcx53 : Cx := cx 19 [] [(2, ⟨[0, 1, 7], [], [(8, .int .i64)], []⟩)] [] []
theorem f53.eq (ps_A : Option Addr) (ps_n ps_c : Nat) (pf_f : FuncId) (pf_a pf_c : Array Value) (H : Hp) (Q : Value → Hp → Prop) : f53 ps_A ps_n ps_c pf_f pf_a pf_c H Q = wFun fcx53 Try.f53 [.slice ps_A ps_n ps_c, .func (.func pf_f) pf_a pf_c] H Q := by kernel_rfl
theorem f53.ok (ps_A : Option Addr) (ps_n ps_c : Nat) (pf_f : FuncId) (pf_a pf_c : Array Value) {H : Hp} {Q : Value → Hp → Prop} (h : f53 ps_A ps_n ps_c pf_f pf_a pf_c H Q) : HCalls Try.prog 53 [.slice ps_A ps_n ps_c, .func (.func pf_f) pf_a pf_c] H Q := hcalls_of (cxOk 19 [] [(2, ⟨[0, 1, 7], [], [(8, .int .i64)], []⟩)] [] []) Try.func53 (Eq.mp (f53.eq ps_A ps_n ps_c pf_f pf_a pf_c H Q) h)

/-- slices.IndexFunc[[]justiciar api.Wait,justiciar api.Wait] -/
def f54 (ps_A : Option Addr) (ps_n ps_c : Nat) (pf_f : FuncId) (pf_a pf_c : Array Value) (H : Hp) (Q : Value → Hp → Prop) : Prop :=
  LoopF (σ := (Int × Unit) × Unit) ((0, ()), ()) H fun s1 H2 next3 => cnd (decide ((s1.1.1 : Int) < ((ps_n : Nat) : Int))) (0 ≤ (s1.1.1 : Int) ∧ (s1.1.1 : Int) < ((ps_n : Nat) : Int) ∧ onPtr ps_A fun b4 o4 => ∃ x5 : Int, cl
    H2 b4 (o4 + (s1.1.1 : Int).toNat * 3) = some (.int .i64 x5) ∧ ∃ s6 : ByteArray, cl H2 b4 ((o4 + (s1.1.1 : Int).toNat * 3) + 1) = some (.string s6) ∧ ∃ x7 : Bool, cl H2 b4 (((o4 + (s1.1.1 : Int).toNat * 3) + 1) + 1) =
    some (.bool x7) ∧ FnOk Try.prog pf_f ∧ HCalls Try.prog pf_f (pf_a.toList ++ [.agg #[.int .i64 x5, .string s6, .bool x7]] ++ pf_c.toList) H2 fun v8 H9 => ∃ x10 : Bool, v8 = .bool x10 ∧ cnd x10 (Q (.int .i64 s1.1.1) H9)
    (KeepX [some (.v (.slice ps_A ps_n ps_c)), some (.v (.func (.func pf_f) pf_a pf_c)), some (.v (.int .i64 ((ps_n : Nat) : Int)))] [] ∧ next3 ((IntKind.i64.wrap (s1.1.1 + 1), ()), ()) H9)) (Q (.int .i64 (-1)) H2)
noncomputable def fcx54 : Cx := cx 19 [] [(2, ⟨[0, 1, 7], [], [(8, .int .i64)], []⟩)] [] []
theorem f54.eq (ps_A : Option Addr) (ps_n ps_c : Nat) (pf_f : FuncId) (pf_a pf_c : Array Value) (H : Hp) (Q : Value → Hp → Prop) : f54 ps_A ps_n ps_c pf_f pf_a pf_c H Q = wFun fcx54 Try.f54 [.slice ps_A ps_n ps_c, .func (.func pf_f) pf_a pf_c] H Q := by kernel_rfl
theorem f54.ok (ps_A : Option Addr) (ps_n ps_c : Nat) (pf_f : FuncId) (pf_a pf_c : Array Value) {H : Hp} {Q : Value → Hp → Prop} (h : f54 ps_A ps_n ps_c pf_f pf_a pf_c H Q) : HCalls Try.prog 54 [.slice ps_A ps_n ps_c, .func (.func pf_f) pf_a pf_c] H Q := hcalls_of (cxOk 19 [] [(2, ⟨[0, 1, 7], [], [(8, .int .i64)], []⟩)] [] []) Try.func54 (Eq.mp (f54.eq ps_A ps_n ps_c pf_f pf_a pf_c H Q) h)

/-- slices.IndexFunc[[][2]int,[2]int] -/
def f55 (ps_A : Option Addr) (ps_n ps_c : Nat) (pf_f : FuncId) (pf_a pf_c : Array Value) (H : Hp) (Q : Value → Hp → Prop) : Prop :=
  LoopF (σ := (Int × Unit) × Unit) ((0, ()), ()) H fun s1 H2 next3 => cnd (decide ((s1.1.1 : Int) < ((ps_n : Nat) : Int))) (0 ≤ (s1.1.1 : Int) ∧ (s1.1.1 : Int) < ((ps_n : Nat) : Int) ∧ onPtr ps_A fun b4 o4 => ∃ x5 : Int, cl
    H2 b4 (o4 + (s1.1.1 : Int).toNat * 2) = some (.int .i64 x5) ∧ ∃ x6 : Int, cl H2 b4 ((o4 + (s1.1.1 : Int).toNat * 2) + 1) = some (.int .i64 x6) ∧ FnOk Try.prog pf_f ∧ HCalls Try.prog pf_f (pf_a.toList ++ [.agg #[.int
    .i64 x5, .int .i64 x6]] ++ pf_c.toList) H2 fun v7 H8 => ∃ x9 : Bool, v7 = .bool x9 ∧ cnd x9 (Q (.int .i64 s1.1.1) H8) (KeepX [some (.v (.slice ps_A ps_n ps_c)), some (.v (.func (.func pf_f) pf_a pf_c)), some (.v (.int
    .i64 ((ps_n : Nat) : Int)))] [] ∧ next3 ((IntKind.i64.wrap (s1.1.1 + 1), ()), ()) H8)) (Q (.int .i64 (-1)) H2)
noncomputable def fcx55 : Cx := cx 19 [] [(2, ⟨[0, 1, 7], [], [(8, .int .i64)], []⟩)] [] []
theorem f55.eq (ps_A : Option Addr) (ps_n ps_c : Nat) (pf_f : FuncId) (pf_a pf_c : Array Value) (H : Hp) (Q : Value → Hp → Prop) : f55 ps_A ps_n ps_c pf_f pf_a pf_c H Q = wFun fcx55 Try.f55 [.slice ps_A ps_n ps_c, .func (.func pf_f) pf_a pf_c] H Q := by kernel_rfl
theorem f55.ok (ps_A : Option Addr) (ps_n ps_c : Nat) (pf_f : FuncId) (pf_a pf_c : Array Value) {H : Hp} {Q : Value → Hp → Prop} (h : f55 ps_A ps_n ps_c pf_f pf_a pf_c H Q) : HCalls Try.prog 55 [.slice ps_A ps_n ps_c, .func (.func pf_f) pf_a pf_c] H Q := hcalls_of (cxOk 19 [] [(2, ⟨[0, 1, 7], [], [(8, .int .i64)], []⟩)] [] []) Try.func55 (Eq.mp (f55.eq ps_A ps_n ps_c pf_f pf_a pf_c H Q) h)

/-- slices.ContainsFunc[[]justiciar api.Wait,justiciar api.Wait] -/
def f56 (ps_A : Option Addr) (ps_n ps_c : Nat) (pf_f : FuncId) (pf_a pf_c : Array Value) (H : Hp) (Q : Value → Hp → Prop) : Prop :=
  HCalls Try.prog 54 [.slice ps_A ps_n ps_c, .func (.func pf_f) pf_a pf_c] H fun v1 H2 => ∃ x3 : Int, v1 = .int .i64 x3 ∧ Q (.bool (decide ((x3 : Int) ≥ 0))) H2
noncomputable def fcx56 : Cx := cx 9 [] [] [] []
theorem f56.eq (ps_A : Option Addr) (ps_n ps_c : Nat) (pf_f : FuncId) (pf_a pf_c : Array Value) (H : Hp) (Q : Value → Hp → Prop) : f56 ps_A ps_n ps_c pf_f pf_a pf_c H Q = wFun fcx56 Try.f56 [.slice ps_A ps_n ps_c, .func (.func pf_f) pf_a pf_c] H Q := by kernel_rfl
theorem f56.ok (ps_A : Option Addr) (ps_n ps_c : Nat) (pf_f : FuncId) (pf_a pf_c : Array Value) {H : Hp} {Q : Value → Hp → Prop} (h : f56 ps_A ps_n ps_c pf_f pf_a pf_c H Q) : HCalls Try.prog 56 [.slice ps_A ps_n ps_c, .func (.func pf_f) pf_a pf_c] H Q := hcalls_of (cxOk 9 [] [] [] []) Try.func56 (Eq.mp (f56.eq ps_A ps_n ps_c pf_f pf_a pf_c H Q) h)

/-- justiciar lock.waiting$1 -/
def f57 (pw_0 : Int) (pw_1 : ByteArray) (pw_2 : Bool) (fra_b fra_o : Nat) (H : Hp) (Q : Value → Hp → Prop) : Prop :=
  ∃ x1 : Int, cl H fra_b fra_o = some (.int .i64 x1) ∧ Q (.bool ((pw_0 : Int) == x1)) H
noncomputable def fcx57 : Cx := cx 8 [(2, true)] [] [] []
theorem f57.eq (pw_0 : Int) (pw_1 : ByteArray) (pw_2 : Bool) (fra_b fra_o : Nat) (H : Hp) (Q : Value → Hp → Prop) : f57 pw_0 pw_1 pw_2 fra_b fra_o H Q = wFun fcx57 Try.f57 [.agg #[.int .i64 pw_0, .string pw_1, .bool pw_2], .pointer (some ⟨fra_b, fra_o, none⟩)] H Q := by kernel_rfl
theorem f57.ok (pw_0 : Int) (pw_1 : ByteArray) (pw_2 : Bool) (fra_b fra_o : Nat) {H : Hp} {Q : Value → Hp → Prop} (h : f57 pw_0 pw_1 pw_2 fra_b fra_o H Q) : HCalls Try.prog 57 [.agg #[.int .i64 pw_0, .string pw_1, .bool pw_2], .pointer (some ⟨fra_b, fra_o, none⟩)] H Q := hcalls_of (cxOk 8 [(2, true)] [] [] []) Try.func57 (Eq.mp (f57.eq pw_0 pw_1 pw_2 fra_b fra_o H Q) h)

/-- slices.BinarySearchFunc[[]justiciar api.Lock,justiciar api.Lock,justiciar api.Lock] -/
def f58 (px_A : Option Addr) (px_n px_c : Nat) (ptarget_0 : ByteArray) (ptarget_1 : Int) (ptarget_2 : Bool) (pcmp_f : FuncId) (pcmp_a pcmp_c : Array Value) (H : Hp) (Q : Value → Hp → Prop) : Prop :=
  LoopF (σ := (Int × (Int × Unit)) × Unit) ((0, (((px_n : Nat) : Int), ())), ()) H fun s1 H2 next3 => jn (fun (j11 : Int) (j12 : Int) (H13 : Hp) => KeepX [some (.v (.slice px_A px_n px_c)), some (.v (.func (.func pcmp_f)
    pcmp_a pcmp_c)), some (.loc 4 0), some (.v (.int .i64 ((px_n : Nat) : Int)))] [some (true, [.string ptarget_0, .int .i64 ptarget_1, .bool ptarget_2])] ∧ next3 ((j11, (j12, ())), ()) H13) fun J14 => cnd (decide
    ((s1.1.1 : Int) < s1.1.2.1)) (0 ≤ (1 : Int) ∧ 0 ≤ (IntKind.i64.wrap (Int.fdiv (IntKind.u64.wrap (IntKind.i64.wrap (s1.1.1 + s1.1.2.1))) (2 ^ (min (1 : Int).toNat (IntKind.u64.bits)))) : Int) ∧ (IntKind.i64.wrap
    (Int.fdiv (IntKind.u64.wrap (IntKind.i64.wrap (s1.1.1 + s1.1.2.1))) (2 ^ (min (1 : Int).toNat (IntKind.u64.bits)))) : Int) < ((px_n : Nat) : Int) ∧ onPtr px_A fun b4 o4 => ∃ s5 : ByteArray, cl H2 b4 (o4 +
    (IntKind.i64.wrap (Int.fdiv (IntKind.u64.wrap (IntKind.i64.wrap (s1.1.1 + s1.1.2.1))) (2 ^ (min (1 : Int).toNat (IntKind.u64.bits)))) : Int).toNat * 3) = some (.string s5) ∧ ∃ x6 : Int, cl H2 b4 ((o4 +
    (IntKind.i64.wrap (Int.fdiv (IntKind.u64.wrap (IntKind.i64.wrap (s1.1.1 + s1.1.2.1))) (2 ^ (min (1 : Int).toNat (IntKind.u64.bits)))) : Int).toNat * 3) + 1) = some (.int .i64 x6) ∧ ∃ x7 : Bool, cl H2 b4 (((o4 +
    (IntKind.i64.wrap (Int.fdiv (IntKind.u64.wrap (IntKind.i64.wrap (s1.1.1 + s1.1.2.1))) (2 ^ (min (1 : Int).toNat (IntKind.u64.bits)))) : Int).toNat * 3) + 1) + 1) = some (.bool x7) ∧ FnOk Try.prog pcmp_f ∧ HCalls
    Try.prog pcmp_f (pcmp_a.toList ++ [.agg #[.string s5, .int .i64 x6, .bool x7], .agg #[.string ptarget_0, .int .i64 ptarget_1, .bool ptarget_2]] ++ pcmp_c.toList) H2 fun v8 H9 => ∃ x10 : Int, v8 = .int .i64 x10 ∧ cnd
    (decide ((x10 : Int) < 0)) (J14 (IntKind.i64.wrap ((IntKind.i64.wrap (Int.fdiv (IntKind.u64.wrap (IntKind.i64.wrap (s1.1.1 + s1.1.2.1))) (2 ^ (min (1 : Int).toNat (IntKind.u64.bits))))) + 1)) s1.1.2.1 H9) (J14 s1.1.1
    (IntKind.i64.wrap (Int.fdiv (IntKind.u64.wrap (IntKind.i64.wrap (s1.1.1 + s1.1.2.1))) (2 ^ (min (1 : Int).toNat (IntKind.u64.bits))))) H9)) (jn (fun (j22 : Bool) (H23 : Hp) => Q (.tuple #[.int .i64 s1.1.1, .bool j22])
    H23) fun J24 => cnd (decide ((s1.1.1 : Int) < ((px_n : Nat) : Int))) (0 ≤ (s1.1.1 : Int) ∧ (s1.1.1 : Int) < ((px_n : Nat) : Int) ∧ onPtr px_A fun b15 o15 => ∃ s16 : ByteArray, cl H2 b15 (o15 + (s1.1.1 : Int).toNat *
    3) = some (.string s16) ∧ ∃ x17 : Int, cl H2 b15 ((o15 + (s1.1.1 : Int).toNat * 3) + 1) = some (.int .i64 x17) ∧ ∃ x18 : Bool, cl H2 b15 (((o15 + (s1.1.1 : Int).toNat * 3) + 1) + 1) = some (.bool x18) ∧ FnOk Try.prog
    pcmp_f ∧ HCalls Try.prog pcmp_f (pcmp_a.toList ++ [.agg #[.string s16, .int .i64 x17, .bool x18], .agg #[.string ptarget_0, .int .i64 ptarget_1, .bool ptarget_2]] ++ pcmp_c.toList) H2 fun v19 H20 => ∃ x21 : Int, v19 =
    .int .i64 x21 ∧ J24 ((x21 : Int) == 0) H20) (J24 false H2))
noncomputable def fcx58 : Cx := cx 49 [(4, true)] [(3, ⟨[0, 2, 4, 8], [4], [(9, .int .i64), (10, .int .i64)], []⟩)] [(5, (.look 0 (.look 1 (.look 2 (.look 3 (.look 4 (.look 5 (.act 6 (.look 7 .done) .done)))))))), (8, (.look 0 (.look 1 (.look 2 (.look 3 (.look 4 (.look 5 (.look 6 (.look 7 (.look 8 (.look 9 (.look 10 (.act 11 (.look 12 (.look 13 (.act 14 (.act 15 .done .done) .done))) .done)))))))))))))] []
theorem f58.eq (px_A : Option Addr) (px_n px_c : Nat) (ptarget_0 : ByteArray) (ptarget_1 : Int) (ptarget_2 : Bool) (pcmp_f : FuncId) (pcmp_a pcmp_c : Array Value) (H : Hp) (Q : Value → Hp → Prop) : f58 px_A px_n px_c ptarget_0 ptarget_1 ptarget_2 pcmp_f pcmp_a pcmp_c H Q = wFun fcx58 Try.f58 [.slice px_A px_n px_c, .agg #[.string ptarget_0, .int .i64 ptarget_1, .bool ptarget_2], .func (.func pcmp_f) pcmp_a pcmp_c] H Q := by kernel_rfl
theorem f58.ok (px_A : Option Addr) (px_n px_c : Nat) (ptarget_0 : ByteArray) (ptarget_1 : Int) (ptarget_2 : Bool) (pcmp_f : FuncId) (pcmp_a pcmp_c : Array Value) {H : Hp} {Q : Value → Hp → Prop} (h : f58 px_A px_n px_c ptarget_0 ptarget_1 ptarget_2 pcmp_f pcmp_a pcmp_c H Q) : HCalls Try.prog 58 [.slice px_A px_n px_c, .agg #[.string ptarget_0, .int .i64 ptarget_1, .bool ptarget_2], .func (.func pcmp_f) pcmp_a pcmp_c] H Q := hcalls_of (cxOk 49 [(4, true)] [(3, ⟨[0, 2, 4, 8], [4], [(9, .int .i64), (10, .int .i64)], []⟩)] [(5, (.look 0 (.look 1 (.look 2 (.look 3 (.look 4 (.look 5 (.act 6 (.look 7 .done) .done)))))))), (8, (.look 0 (.look 1 (.look 2 (.look 3 (.look 4 (.look 5 (.look 6 (.look 7 (.look 8 (.look 9 (.look 10 (.act 11 (.look 12 (.look 13 (.act 14 (.act 15 .done .done) .done))) .done)))))))))))))] []) Try.func58 (Eq.mp (f58.eq px_A px_n px_c ptarget_0 ptarget_1 ptarget_2 pcmp_f pcmp_a pcmp_c H Q) h)

/-- justiciar lock.free$1 -/
def f59 (py_0 : ByteArray) (py_1 : Int) (py_2 : Bool) (fra_b fra_o : Nat) (H : Hp) (Q : Value → Hp → Prop) : Prop :=
  ∃ s1 : ByteArray, cl H fra_b fra_o = some (.string s1) ∧ ∃ x2 : Int, cl H fra_b (fra_o + 1) = some (.int .i64 x2) ∧ ∃ x3 : Bool, cl H fra_b ((fra_o + 1) + 1) = some (.bool x3) ∧ HCalls Try.prog 47 [.agg #[.string s1, .int
    .i64 x2, .bool x3], .agg #[.string py_0, .int .i64 py_1, .bool py_2]] H fun v4 H5 => ∃ x6 : Bool, v4 = .bool x6 ∧ Q (.bool x6) H5
noncomputable def fcx59 : Cx := cx 7 [(2, true)] [] [] []
theorem f59.eq (py_0 : ByteArray) (py_1 : Int) (py_2 : Bool) (fra_b fra_o : Nat) (H : Hp) (Q : Value → Hp → Prop) : f59 py_0 py_1 py_2 fra_b fra_o H Q = wFun fcx59 Try.f59 [.agg #[.string py_0, .int .i64 py_1, .bool py_2], .pointer (some ⟨fra_b, fra_o, none⟩)] H Q := by kernel_rfl
theorem f59.ok (py_0 : ByteArray) (py_1 : Int) (py_2 : Bool) (fra_b fra_o : Nat) {H : Hp} {Q : Value → Hp → Prop} (h : f59 py_0 py_1 py_2 fra_b fra_o H Q) : HCalls Try.prog 59 [.agg #[.string py_0, .int .i64 py_1, .bool py_2], .pointer (some ⟨fra_b, fra_o, none⟩)] H Q := hcalls_of (cxOk 7 [(2, true)] [] [] []) Try.func59 (Eq.mp (f59.eq py_0 py_1 py_2 fra_b fra_o H Q) h)

/-- slices.ContainsFunc[[]justiciar api.Lock,justiciar api.Lock] -/
def f60 (ps_A : Option Addr) (ps_n ps_c : Nat) (pf_f : FuncId) (pf_a pf_c : Array Value) (H : Hp) (Q : Value → Hp → Prop) : Prop :=
  HCalls Try.prog 53 [.slice ps_A ps_n ps_c, .func (.func pf_f) pf_a pf_c] H fun v1 H2 => ∃ x3 : Int, v1 = .int .i64 x3 ∧ Q (.bool (decide ((x3 : Int) ≥ 0))) H2
noncomputable def fcx60 : Cx := cx 9 [] [] [] []
theorem f60.eq (ps_A : Option Addr) (ps_n ps_c : Nat) (pf_f : FuncId) (pf_a pf_c : Array Value) (H : Hp) (Q : Value → Hp → Prop) : f60 ps_A ps_n ps_c pf_f pf_a pf_c H Q = wFun fcx60 Try.f60 [.slice ps_A ps_n ps_c, .func (.func pf_f) pf_a pf_c] H Q := by kernel_rfl
theorem f60.ok (ps_A : Option Addr) (ps_n ps_c : Nat) (pf_f : FuncId) (pf_a pf_c : Array Value) {H : Hp} {Q : Value → Hp → Prop} (h : f60 ps_A ps_n ps_c pf_f pf_a pf_c H Q) : HCalls Try.prog 60 [.slice ps_A ps_n ps_c, .func (.func pf_f) pf_a pf_c] H Q := hcalls_of (cxOk 9 [] [] [] []) Try.func60 (Eq.mp (f60.eq ps_A ps_n ps_c pf_f pf_a pf_c H Q) h)

/-- justiciar lock.free$2 -/
def f61 (pw_0 : Int) (pw_1 : ByteArray) (pw_2 : Bool) (fra_b fra_o : Nat) (H : Hp) (Q : Value → Hp → Prop) : Prop :=
  ∃ s1 : ByteArray, cl H fra_b fra_o = some (.string s1) ∧ ∃ x2 : Int, cl H fra_b (fra_o + 1) = some (.int .i64 x2) ∧ ∃ x3 : Bool, cl H fra_b ((fra_o + 1) + 1) = some (.bool x3) ∧ HCalls Try.prog 48 [.agg #[.int .i64 pw_0,
    .string pw_1, .bool pw_2]] H fun v4 H5 => ∃ s6 : ByteArray, ∃ x7 : Int, ∃ x8 : Bool, v4 = .agg #[.string s6, .int .i64 x7, .bool x8] ∧ H5 fra_b = H fra_b ∧ HCalls Try.prog 47 [.agg #[.string s1, .int .i64 x2, .bool
    x3], .agg #[.string s6, .int .i64 x7, .bool x8]] H5 fun v9 H10 => ∃ x11 : Bool, v9 = .bool x11 ∧ Q (.bool x11) H10
noncomputable def fcx61 : Cx := cx 8 [(2, true)] [] [(1, (.look 0 (.look 1 (.act 2 (.act 3 (.act 4 .done .done) .done) .done))))] []
theorem f61.eq (pw_0 : Int) (pw_1 : ByteArray) (pw_2 : Bool) (fra_b fra_o : Nat) (H : Hp) (Q : Value → Hp → Prop) : f61 pw_0 pw_1 pw_2 fra_b fra_o H Q = wFun fcx61 Try.f61 [.agg #[.int .i64 pw_0, .string pw_1, .bool pw_2], .pointer (some ⟨fra_b, fra_o, none⟩)] H Q := by kernel_rfl
theorem f61.ok (pw_0 : Int) (pw_1 : ByteArray) (pw_2 : Bool) (fra_b fra_o : Nat) {H : Hp} {Q : Value → Hp → Prop} (h : f61 pw_0 pw_1 pw_2 fra_b fra_o H Q) : HCalls Try.prog 61 [.agg #[.int .i64 pw_0, .string pw_1, .bool pw_2], .pointer (some ⟨fra_b, fra_o, none⟩)] H Q := hcalls_of (cxOk 8 [(2, true)] [] [(1, (.look 0 (.look 1 (.act 2 (.act 3 (.act 4 .done .done) .done) .done))))] []) Try.func61 (Eq.mp (f61.eq pw_0 pw_1 pw_2 fra_b fra_o H Q) h)

/-- slices.Insert[[]justiciar api.Lock,justiciar api.Lock] -/
def f62 (ps_A : Option Addr) (ps_n ps_c : Nat) (pi : Int) (pv_A : Option Addr) (pv_n pv_c : Nat) (H : Hp) (Q : Value → Hp → Prop) : Prop :=
  0 ≤ (pi : Int) ∧ (pi : Int) ≤ ((ps_n : Nat) : Int) ∧ cnd ((((pv_n : Nat) : Int) : Int) == 0) (Q (.slice ps_A ps_n ps_c) H) (cnd ((pi : Int) == ((ps_n : Nat) : Int)) (appendF H 67 3 32 ps_A ps_n ps_c pv_A pv_n fun A1 n1 c1
    H2 => Q (.slice A1 n1 c1) H2) (cnd (decide ((IntKind.i64.wrap (((ps_n : Nat) : Int) + ((pv_n : Nat) : Int)) : Int) > ((ps_c : Nat) : Int))) (0 ≤ (pi : Int) ∧ (pi : Int) ≤ ((ps_c : Nat) : Int) ∧ appendZF H 67 3 32
    [.string ByteArray.empty, .int .i64 0, .bool false] (cutA ps_A (0 * 3) (decide (ps_c = 0))) (((pi : Int).toNat) - 0) (ps_c - 0) (IntKind.i64.wrap ((IntKind.i64.wrap (((ps_n : Nat) : Int) + ((pv_n : Nat) : Int))) -
    pi)) fun A3 n3 c3 H4 => 0 ≤ (pi : Int) ∧ (pi : Int) ≤ ((n3 : Nat) : Int) ∧ copyF H4 3 (cutA A3 (((pi : Int).toNat) * 3) (decide (c3 = ((pi : Int).toNat)))) (n3 - ((pi : Int).toNat)) pv_A pv_n fun H5 => 0 ≤
    (IntKind.i64.wrap (pi + ((pv_n : Nat) : Int)) : Int) ∧ (IntKind.i64.wrap (pi + ((pv_n : Nat) : Int)) : Int) ≤ ((n3 : Nat) : Int) ∧ 0 ≤ (pi : Int) ∧ (pi : Int) ≤ ((ps_n : Nat) : Int) ∧ copyF H5 3 (cutA A3
    (((IntKind.i64.wrap (pi + ((pv_n : Nat) : Int)) : Int).toNat) * 3) (decide (c3 = ((IntKind.i64.wrap (pi + ((pv_n : Nat) : Int)) : Int).toNat)))) (n3 - ((IntKind.i64.wrap (pi + ((pv_n : Nat) : Int)) : Int).toNat))
    (cutA ps_A (((pi : Int).toNat) * 3) (decide (ps_c = ((pi : Int).toNat)))) (ps_n - ((pi : Int).toNat)) fun H6 => Q (.slice A3 n3 c3) H6) (0 ≤ (IntKind.i64.wrap (((ps_n : Nat) : Int) + ((pv_n : Nat) : Int)) : Int) ∧
    (IntKind.i64.wrap (((ps_n : Nat) : Int) + ((pv_n : Nat) : Int)) : Int) ≤ ((ps_c : Nat) : Int) ∧ 0 ≤ (IntKind.i64.wrap (pi + ((pv_n : Nat) : Int)) : Int) ∧ (IntKind.i64.wrap (pi + ((pv_n : Nat) : Int)) : Int) ≤
    ((((IntKind.i64.wrap (((ps_n : Nat) : Int) + ((pv_n : Nat) : Int)) : Int).toNat) - 0 : Nat) : Int) ∧ apartF H pv_A (cutA (cutA ps_A (0 * 3) (decide (ps_c = 0))) (((IntKind.i64.wrap (pi + ((pv_n : Nat) : Int)) :
    Int).toNat) * 3) (decide ((ps_c - 0) = ((IntKind.i64.wrap (pi + ((pv_n : Nat) : Int)) : Int).toNat)))) (0 ≤ (IntKind.i64.wrap (pi + ((pv_n : Nat) : Int)) : Int) ∧ (IntKind.i64.wrap (pi + ((pv_n : Nat) : Int)) : Int) ≤
    ((((IntKind.i64.wrap (((ps_n : Nat) : Int) + ((pv_n : Nat) : Int)) : Int).toNat) - 0 : Nat) : Int) ∧ 0 ≤ (pi : Int) ∧ (pi : Int) ≤ ((((IntKind.i64.wrap (((ps_n : Nat) : Int) + ((pv_n : Nat) : Int)) : Int).toNat) - 0 :
    Nat) : Int) ∧ copyF H 3 (cutA (cutA ps_A (0 * 3) (decide (ps_c = 0))) (((IntKind.i64.wrap (pi + ((pv_n : Nat) : Int)) : Int).toNat) * 3) (decide ((ps_c - 0) = ((IntKind.i64.wrap (pi + ((pv_n : Nat) : Int)) :
    Int).toNat)))) ((((IntKind.i64.wrap (((ps_n : Nat) : Int) + ((pv_n : Nat) : Int)) : Int).toNat) - 0) - ((IntKind.i64.wrap (pi + ((pv_n : Nat) : Int)) : Int).toNat)) (cutA (cutA ps_A (0 * 3) (decide (ps_c = 0))) (((pi
    : Int).toNat) * 3) (decide ((ps_c - 0) = ((pi : Int).toNat)))) ((((IntKind.i64.wrap (((ps_n : Nat) : Int) + ((pv_n : Nat) : Int)) : Int).toNat) - 0) - ((pi : Int).toNat)) fun H7 => 0 ≤ (pi : Int) ∧ (pi : Int) ≤
    ((((IntKind.i64.wrap (((ps_n : Nat) : Int) + ((pv_n : Nat) : Int)) : Int).toNat) - 0 : Nat) : Int) ∧ copyF H7 3 (cutA (cutA ps_A (0 * 3) (decide (ps_c = 0))) (((pi : Int).toNat) * 3) (decide ((ps_c - 0) = ((pi :
    Int).toNat)))) ((((IntKind.i64.wrap (((ps_n : Nat) : Int) + ((pv_n : Nat) : Int)) : Int).toNat) - 0) - ((pi : Int).toNat)) pv_A pv_n fun H8 => Q (.slice (cutA ps_A (0 * 3) (decide (ps_c = 0))) (((IntKind.i64.wrap
    (((ps_n : Nat) : Int) + ((pv_n : Nat) : Int)) : Int).toNat) - 0) (ps_c - 0)) H8))))
noncomputable def fcx62 : Cx := cx 95 [] [] [(11, (.look 0 (.look 1 (.look 2 (.look 3 (.look 4 (.look 5 (.look 6 (.look 7 (.act 8 .done .done)))))))))), (15, (.look 0 (.look 1 (.look 2 (.look 3 (.look 4 (.look 5 (.look 6 (.look 7 (.act 8 .done .done))))))))))] []
theorem f62.eq (ps_A : Option Addr) (ps_n ps_c : Nat) (pi : Int) (pv_A : Option Addr) (pv_n pv_c : Nat) (H : Hp) (Q : Value → Hp → Prop) : f62 ps_A ps_n ps_c pi pv_A pv_n pv_c H Q = wFun fcx62 Try.f62 [.slice ps_A ps_n ps_c, .int .i64 pi, .slice pv_A pv_n pv_c] H Q := by kernel_rfl
theorem f62.ok (ps_A : Option Addr) (ps_n ps_c : Nat) (pi : Int) (pv_A : Option Addr) (pv_n pv_c : Nat) {H : Hp} {Q : Value → Hp → Prop} (h : f62 ps_A ps_n ps_c pi pv_A pv_n pv_c H Q) : HCalls Try.prog 62 [.slice ps_A ps_n ps_c, .int .i64 pi, .slice pv_A pv_n pv_c] H Q := hcalls_of (cxOk 95 [] [] [(11, (.look 0 (.look 1 (.look 2 (.look 3 (.look 4 (.look 5 (.look 6 (.look 7 (.act 8 .done .done)))))))))), (15, (.look 0 (.look 1 (.look 2 (.look 3 (.look 4 (.look 5 (.look 6 (.look 7 (.act 8 .done .done))))))))))] []) Try.func62 (Eq.mp (f62.eq ps_A ps_n ps_c pi pv_A pv_n pv_c H Q) h)

/-- slices.ContainsFunc[[]int,int] -/
def f63 (ps_A : Option Addr) (ps_n ps_c : Nat) (pf_f : FuncId) (pf_a pf_c : Array Value) (H : Hp) (Q : Value → Hp → Prop) : Prop :=
  HCalls Try.prog 74 [.slice ps_A ps_n ps_c, .func (.func pf_f) pf_a pf_c] H fun v1 H2 => ∃ x3 : Int, v1 = .int .i64 x3 ∧ Q (.bool (decide ((x3 : Int) ≥ 0))) H2
noncomputable def fcx63 : Cx := cx 9 [] [] [] []
theorem f63.eq (ps_A : Option Addr) (ps_n ps_c : Nat) (pf_f : FuncId) (pf_a pf_c : Array Value) (H : Hp) (Q : Value → Hp → Prop) : f63 ps_A ps_n ps_c pf_f pf_a pf_c H Q = wFun fcx63 Try.f63 [.slice ps_A ps_n ps_c, .func (.func pf_f) pf_a pf_c] H Q := by kernel_rfl
theorem f63.ok (ps_A : Option Addr) (ps_n ps_c : Nat) (pf_f : FuncId) (pf_a pf_c : Array Value) {H : Hp} {Q : Value → Hp → Prop} (h : f63 ps_A ps_n ps_c pf_f pf_a pf_c H Q) : HCalls Try.prog 63 [.slice ps_A ps_n ps_c, .func (.func pf_f) pf_a pf_c] H Q := hcalls_of (cxOk 9 [] [] [] []) Try.func63 (Eq.mp (f63.eq ps_A ps_n ps_c pf_f pf_a pf_c H Q) h)

/-- justiciar lock.dead$1 -/
def f64 (pu : Int) (fra_b fra_o : Nat) (H : Hp) (Q : Value → Hp → Prop) : Prop :=
  ∃ r1 : Option Nat, cl H fra_b fra_o = some (.map r1) ∧ lookF H .i64 r1 pu (.slice none 0 0) fun v2 b3 => ∃ (A4 : Option Addr) (n4 c4 : Nat), v2 = .slice A4 n4 c4 ∧ Q (.bool (!A4.isNone)) H
noncomputable def fcx64 : Cx := cx 8 [] [] [] []
theorem f64.eq (pu : Int) (fra_b fra_o : Nat) (H : Hp) (Q : Value → Hp → Prop) : f64 pu fra_b fra_o H Q = wFun fcx64 Try.f64 [.int .i64 pu, .pointer (some ⟨fra_b, fra_o, none⟩)] H Q := by kernel_rfl
theorem f64.ok (pu : Int) (fra_b fra_o : Nat) {H : Hp} {Q : Value → Hp → Prop} (h : f64 pu fra_b fra_o H Q) : HCalls Try.prog 64 [.int .i64 pu, .pointer (some ⟨fra_b, fra_o, none⟩)] H Q := hcalls_of (cxOk 8 [] [] [] []) Try.func64 (Eq.mp (f64.eq pu fra_b fra_o H Q) h)

/-- justiciar lock.on$1 -/
def f67 (pa_0 : ByteArray) (pa_1 : Int) (pa_2 : Bool) (ps : ByteArray) (H : Hp) (Q : Value → Hp → Prop) : Prop :=
  HCalls Try.prog 68 [.string pa_0, .string ps] H fun v1 H2 => ∃ x3 : Int, v1 = .int .i64 x3 ∧ Q (.int .i64 x3) H2
noncomputable def fcx67 : Cx := cx 9 [(2, true)] [] [] []
theorem f67.eq (pa_0 : ByteArray) (pa_1 : Int) (pa_2 : Bool) (ps : ByteArray) (H : Hp) (Q : Value → Hp → Prop) : f67 pa_0 pa_1 pa_2 ps H Q = wFun fcx67 Try.f67 [.agg #[.string pa_0, .int .i64 pa_1, .bool pa_2], .string ps] H Q := by kernel_rfl
theorem f67.ok (pa_0 : ByteArray) (pa_1 : Int) (pa_2 : Bool) (ps : ByteArray) {H : Hp} {Q : Value → Hp → Prop} (h : f67 pa_0 pa_1 pa_2 ps H Q) : HCalls Try.prog 67 [.agg #[.string pa_0, .int .i64 pa_1, .bool pa_2], .string ps] H Q := hcalls_of (cxOk 9 [(2, true)] [] [] []) Try.func67 (Eq.mp (f67.eq pa_0 pa_1 pa_2 ps H Q) h)

/-- cmp.Compare[string] -/
def f68 (px : ByteArray) (py : ByteArray) (H : Hp) (Q : Value → Hp → Prop) : Prop :=
  HCalls Try.prog 86 [.string px] H fun v1 H2 => ∃ x3 : Bool, v1 = .bool x3 ∧ HCalls Try.prog 86 [.string py] H2 fun v4 H5 => ∃ x6 : Bool, v4 = .bool x6 ∧ cnd x3 (cnd x6 (Q (.int .i64 0) H5) (Q (.int .i64 (-1)) H5)) (cnd x6
    (Q (.int .i64 1) H5) (cnd (Op.bytesLess px.toList py.toList) (Q (.int .i64 (-1)) H5) (cnd (!(Op.bytesLess px.toList py.toList || px.toList == py.toList)) (Q (.int .i64 1) H5) (Q (.int .i64 0) H5))))
noncomputable def fcx68 : Cx := cx 20 [] [] [] []
theorem f68.eq (px : ByteArray) (py : ByteArray) (H : Hp) (Q : Value → Hp → Prop) : f68 px py H Q = wFun fcx68 Try.f68 [.string px, .string py] H Q := by kernel_rfl
theorem f68.ok (px : ByteArray) (py : ByteArray) {H : Hp} {Q : Value → Hp → Prop} (h : f68 px py H Q) : HCalls Try.prog 68 [.string px, .string py] H Q := hcalls_of (cxOk 20 [] [] [] []) Try.func68 (Eq.mp (f68.eq px py H Q) h)

/-- slices.BinarySearchFunc[[]justiciar api.Lock,justiciar api.Lock,string] -/
def f69 (px_A : Option Addr) (px_n px_c : Nat) (ptarget : ByteArray) (pcmp_f : FuncId) (pcmp_a pcmp_c : Array Value) (H : Hp) (Q : Value → Hp → Prop) : Prop :=
  LoopF (σ := (Int × (Int × Unit)) × Unit) ((0, (((px_n : Nat) : Int), ())), ()) H fun s1 H2 next3 => jn (fun (j11 : Int) (j12 : Int) (H13 : Hp) => KeepX [some (.v (.slice px_A px_n px_c)), some (.v (.string ptarget)), some
    (.v (.func (.func pcmp_f) pcmp_a pcmp_c)), some (.v (.int .i64 ((px_n : Nat) : Int)))] [] ∧ next3 ((j11, (j12, ())), ()) H13) fun J14 => cnd (decide ((s1.1.1 : Int) < s1.1.2.1)) (0 ≤ (1 : Int) ∧ 0 ≤ (IntKind.i64.wrap
    (Int.fdiv (IntKind.u64.wrap (IntKind.i64.wrap (s1.1.1 + s1.1.2.1))) (2 ^ (min (1 : Int).toNat (IntKind.u64.bits)))) : Int) ∧ (IntKind.i64.wrap (Int.fdiv (IntKind.u64.wrap (IntKind.i64.wrap (s1.1.1 + s1.1.2.1))) (2 ^
    (min (1 : Int).toNat (IntKind.u64.bits)))) : Int) < ((px_n : Nat) : Int) ∧ onPtr px_A fun b4 o4 => ∃ s5 : ByteArray, cl H2 b4 (o4 + (IntKind.i64.wrap (Int.fdiv (IntKind.u64.wrap (IntKind.i64.wrap (s1.1.1 + s1.1.2.1)))
    (2 ^ (min (1 : Int).toNat (IntKind.u64.bits)))) : Int).toNat * 3) = some (.string s5) ∧ ∃ x6 : Int, cl H2 b4 ((o4 + (IntKind.i64.wrap (Int.fdiv (IntKind.u64.wrap (IntKind.i64.wrap (s1.1.1 + s1.1.2.1))) (2 ^ (min (1 :
    Int).toNat (IntKind.u64.bits)))) : Int).toNat * 3) + 1) = some (.int .i64 x6) ∧ ∃ x7 : Bool, cl H2 b4 (((o4 + (IntKind.i64.wrap (Int.fdiv (IntKind.u64.wrap (IntKind.i64.wrap (s1.1.1 + s1.1.2.1))) (2 ^ (min (1 :
    Int).toNat (IntKind.u64.bits)))) : Int).toNat * 3) + 1) + 1) = some (.bool x7) ∧ FnOk Try.prog pcmp_f ∧ HCalls Try.prog pcmp_f (pcmp_a.toList ++ [.agg #[.string s5, .int .i64 x6, .bool x7], .string ptarget] ++
    pcmp_c.toList) H2 fun v8 H9 => ∃ x10 : Int, v8 = .int .i64 x10 ∧ cnd (decide ((x10 : Int) < 0)) (J14 (IntKind.i64.wrap ((IntKind.i64.wrap (Int.fdiv (IntKind.u64.wrap (IntKind.i64.wrap (s1.1.1 + s1.1.2.1))) (2 ^ (min
    (1 : Int).toNat (IntKind.u64.bits))))) + 1)) s1.1.2.1 H9) (J14 s1.1.1 (IntKind.i64.wrap (Int.fdiv (IntKind.u64.wrap (IntKind.i64.wrap (s1.1.1 + s1.1.2.1))) (2 ^ (min (1 : Int).toNat (IntKind.u64.bits))))) H9)) (jn
    (fun (j22 : Bool) (H23 : Hp) => Q (.tuple #[.int .i64 s1.1.1, .bool j22]) H23) fun J24 => cnd (decide ((s1.1.1 : Int) < ((px_n : Nat) : Int))) (0 ≤ (s1.1.1 : Int) ∧ (s1.1.1 : Int) < ((px_n : Nat) : Int) ∧ onPtr px_A
    fun b15 o15 => ∃ s16 : ByteArray, cl H2 b15 (o15 + (s1.1.1 : Int).toNat * 3) = some (.string s16) ∧ ∃ x17 : Int, cl H2 b15 ((o15 + (s1.1.1 : Int).toNat * 3) + 1) = some (.int .i64 x17) ∧ ∃ x18 : Bool, cl H2 b15 (((o15
    + (s1.1.1 : Int).toNat * 3) + 1) + 1) = some (.bool x18) ∧ FnOk Try.prog pcmp_f ∧ HCalls Try.prog pcmp_f (pcmp_a.toList ++ [.agg #[.string s16, .int .i64 x17, .bool x18], .string ptarget] ++ pcmp_c.toList) H2 fun v19
    H20 => ∃ x21 : Int, v19 = .int .i64 x21 ∧ J24 ((x21 : Int) == 0) H20) (J24 false H2))
noncomputable def fcx69 : Cx := cx 49 [] [(3, ⟨[0, 1, 2, 8], [], [(9, .int .i64), (10, .int .i64)], []⟩)] [] []
theorem f69.eq (px_A : Option Addr) (px_n px_c : Nat) (ptarget : ByteArray) (pcmp_f : FuncId) (pcmp_a pcmp_c : Array Value) (H : Hp) (Q : Value → Hp → Prop) : f69 px_A px_n px_c ptarget pcmp_f pcmp_a pcmp_c H Q = wFun fcx69 Try.f69 [.slice px_A px_n px_c, .string ptarget, .func (.func pcmp_f) pcmp_a pcmp_c] H Q := by kernel_rfl
theorem f69.ok (px_A : Option Addr) (px_n px_c : Nat) (ptarget : ByteArray) (pcmp_f : FuncId) (pcmp_a pcmp_c : Array Value) {H : Hp} {Q : Value → Hp → Prop} (h : f69 px_A px_n px_c ptarget pcmp_f pcmp_a pcmp_c H Q) : HCalls Try.prog 69 [.slice px_A px_n px_c, .string ptarget, .func (.func pcmp_f) pcmp_a pcmp_c] H Q := hcalls_of (cxOk 49 [] [(3, ⟨[0, 1, 2, 8], [], [(9, .int .i64), (10, .int .i64)], []⟩)] [] []) Try.func69 (Eq.mp (f69.eq px_A px_n px_c ptarget pcmp_f pcmp_a pcmp_c H Q) h)

/-- cmp.Or[int] -/
def f70 (pvals_A : Option Addr) (pvals_n pvals_c : Nat) (H : Hp) (Q : Value → Hp → Prop) : Prop :=
  LoopF (σ := (Int × Unit) × Unit) ((0, ()), ()) H fun s1 H2 next3 => cnd (decide ((s1.1.1 : Int) < ((pvals_n : Nat) : Int))) (0 ≤ (s1.1.1 : Int) ∧ (s1.1.1 : Int) < ((pvals_n : Nat) : Int) ∧ onPtr pvals_A fun b4 o4 => ∃ x5
    : Int, cl H2 b4 (o4 + (s1.1.1 : Int).toNat * 1) = some (.int .i64 x5) ∧ cnd ((x5 : Int) != 0) (Q (.int .i64 x5) H2) (KeepX [some (.v (.int .i64 0)), some (.v (.slice pvals_A pvals_n pvals_c)), some (.v (.int .i64
    ((pvals_n : Nat) : Int)))] [] ∧ next3 ((IntKind.i64.wrap (s1.1.1 + 1), ()), ()) H2)) (Q (.int .i64 0) H2)
noncomputable def fcx70 : Cx := cx 18 [] [(3, ⟨[3, 6, 7], [], [(8, .int .i64)], []⟩)] [] []
theorem f70.eq (pvals_A : Option Addr) (pvals_n pvals_c : Nat) (H : Hp) (Q : Value → Hp → Prop) : f70 pvals_A pvals_n pvals_c H Q = wFun fcx70 Try.f70 [.slice pvals_A pvals_n pvals_c] H Q := by kernel_rfl
theorem f70.ok (pvals_A : Option Addr) (pvals_n pvals_c : Nat) {H : Hp} {Q : Value → Hp → Prop} (h : f70 pvals_A pvals_n pvals_c H Q) : HCalls Try.prog 70 [.slice pvals_A pvals_n pvals_c] H Q := hcalls_of (cxOk 18 [] [(3, ⟨[3, 6, 7], [], [(8, .int .i64)], []⟩)] [] []) Try.func70 (Eq.mp (f70.eq pvals_A pvals_n pvals_c H Q) h)

/-- cmp.Compare[int] -/
def f71 (px : Int) (py : Int) (H : Hp) (Q : Value → Hp → Prop) : Prop :=
  HCalls Try.prog 87 [.int .i64 px] H fun v1 H2 => ∃ x3 : Bool, v1 = .bool x3 ∧ HCalls Try.prog 87 [.int .i64 py] H2 fun v4 H5 => ∃ x6 : Bool, v4 = .bool x6 ∧ cnd x3 (cnd x6 (Q (.int .i64 0) H5) (Q (.int .i64 (-1)) H5))
    (cnd x6 (Q (.int .i64 1) H5) (cnd (decide ((px : Int) < py)) (Q (.int .i64 (-1)) H5) (cnd (decide ((px : Int) > py)) (Q (.int .i64 1) H5) (Q (.int .i64 0) H5))))
noncomputable def fcx71 : Cx := cx 20 [] [] [] []
theorem f71.eq (px : Int) (py : Int) (H : Hp) (Q : Value → Hp → Prop) : f71 px py H Q = wFun fcx71 Try.f71 [.int .i64 px, .int .i64 py] H Q := by kernel_rfl
theorem f71.ok (px : Int) (py : Int) {H : Hp} {Q : Value → Hp → Prop} (h : f71 px py H Q) : HCalls Try.prog 71 [.int .i64 px, .int .i64 py] H Q := hcalls_of (cxOk 20 [] [] [] []) Try.func71 (Eq.mp (f71.eq px py H Q) h)

/-- slices.IndexFunc[[]int,int] -/
def f74 (ps_A : Option Addr) (ps_n ps_c : Nat) (pf_f : FuncId) (pf_a pf_c : Array Value) (H : Hp) (Q : Value → Hp → Prop) : Prop :=
  LoopF (σ := (Int × Unit) × Unit) ((0, ()), ()) H fun s1 H2 next3 => cnd (decide ((s1.1.1 : Int) < ((ps_n : Nat) : Int))) (0 ≤ (s1.1.1 : Int) ∧ (s1.1.1 : Int) < ((ps_n : Nat) : Int) ∧ onPtr ps_A fun b4 o4 => ∃ x5 : Int, cl
    H2 b4 (o4 + (s1.1.1 : Int).toNat * 1) = some (.int .i64 x5) ∧ FnOk Try.prog pf_f ∧ HCalls Try.prog pf_f (pf_a.toList ++ [.int .i64 x5] ++ pf_c.toList) H2 fun v6 H7 => ∃ x8 : Bool, v6 = .bool x8 ∧ cnd x8 (Q (.int .i64
    s1.1.1) H7) (KeepX [some (.v (.slice ps_A ps_n ps_c)), some (.v (.func (.func pf_f) pf_a pf_c)), some (.v (.int .i64 ((ps_n : Nat) : Int)))] [] ∧ next3 ((IntKind.i64.wrap (s1.1.1 + 1), ()), ()) H7)) (Q (.int .i64
    (-1)) H2)
noncomputable def fcx74 : Cx := cx 19 [] [(2, ⟨[0, 1, 7], [], [(8, .int .i64)], []⟩)] [] []
theorem f74.eq (ps_A : Option Addr) (ps_n ps_c : Nat) (pf_f : FuncId) (pf_a pf_c : Array Value) (H : Hp) (Q : Value → Hp → Prop) : f74 ps_A ps_n ps_c pf_f pf_a pf_c H Q = wFun fcx74 Try.f74 [.slice ps_A ps_n ps_c, .func (.func pf_f) pf_a pf_c] H Q := by kernel_rfl
theorem f74.ok (ps_A : Option Addr) (ps_n ps_c : Nat) (pf_f : FuncId) (pf_a pf_c : Array Value) {H : Hp} {Q : Value → Hp → Prop} (h : f74 ps_A ps_n ps_c pf_f pf_a pf_c H Q) : HCalls Try.prog 74 [.slice ps_A ps_n ps_c, .func (.func pf_f) pf_a pf_c] H Q := hcalls_of (cxOk 19 [] [(2, ⟨[0, 1, 7], [], [(8, .int .i64)], []⟩)] [] []) Try.func74 (Eq.mp (f74.eq ps_A ps_n ps_c pf_f pf_a pf_c H Q) h)

/-- cmp.isNaN[string] -/
def f86 (px : ByteArray) (H : Hp) (Q : Value → Hp → Prop) : Prop :=
  Q (.bool (!(px.toList == px.toList))) H
noncomputable def fcx86 : Cx := cx 6 [] [] [] []
theorem f86.eq (px : ByteArray) (H : Hp) (Q : Value → Hp → Prop) : f86 px H Q = wFun fcx86 Try.f86 [.string px] H Q := by kernel_rfl
theorem f86.ok (px : ByteArray) {H : Hp} {Q : Value → Hp → Prop} (h : f86 px H Q) : HCalls Try.prog 86 [.string px] H Q := hcalls_of (cxOk 6 [] [] [] []) Try.func86 (Eq.mp (f86.eq px H Q) h)

/-- cmp.isNaN[int] -/
def f87 (px : Int) (H : Hp) (Q : Value → Hp → Prop) : Prop :=
  Q (.bool ((px : Int) != px)) H
noncomputable def fcx87 : Cx := cx 6 [] [] [] []
theorem f87.eq (px : Int) (H : Hp) (Q : Value → Hp → Prop) : f87 px H Q = wFun fcx87 Try.f87 [.int .i64 px] H Q := by kernel_rfl
theorem f87.ok (px : Int) {H : Hp} {Q : Value → Hp → Prop} (h : f87 px H Q) : HCalls Try.prog 87 [.int .i64 px] H Q := hcalls_of (cxOk 6 [] [] [] []) Try.func87 (Eq.mp (f87.eq px H Q) h)

end Go.Proofs.Ytkbancdmhcnhjaa.Hw
