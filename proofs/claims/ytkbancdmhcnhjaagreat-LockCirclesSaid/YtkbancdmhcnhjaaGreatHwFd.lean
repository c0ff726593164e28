/- What functions of the program come to, by the evaluator: printed by a program of this session (gen.py) and checked here. -/
import Derived.Test.YtkbancdmhcnhjaaGreatHwTab
set_option linter.unusedVariables false
set_option maxRecDepth 100000
namespace Go.Proofs.YtkbancdmhcnhjaaGreat.Hw
open Go Go.Proofs

/-- slices.IndexFunc[[]int,int] -/
def f94 (ps_A : Option Addr) (ps_n ps_c : Nat) (pf_f : FuncId) (pf_a pf_c : Array Value) (H : Hp) (Q : Value → Hp → Prop) : Prop :=
  LoopF (σ := (Int × Unit) × Unit) ((0, ()), ()) H fun s1 H2 next3 => cnd (decide ((s1.1.1 : Int) < ((ps_n : Nat) : Int))) (0 ≤ (s1.1.1 : Int) ∧ (s1.1.1 : Int) < ((ps_n : Nat) : Int) ∧ onPtr ps_A fun b4 o4 => ∃ x5 : Int, cl
    H2 b4 (o4 + (s1.1.1 : Int).toNat * 1) = some (.int .i64 x5) ∧ FnOk Tryz.prog pf_f ∧ HCalls Tryz.prog pf_f (pf_a.toList ++ [.int .i64 x5] ++ pf_c.toList) H2 fun v6 H7 => ∃ x8 : Bool, v6 = .bool x8 ∧ cnd x8 (Q (.int
    .i64 s1.1.1) H7) (KeepX [some (.v (.slice ps_A ps_n ps_c)), some (.v (.func (.func pf_f) pf_a pf_c)), some (.v (.int .i64 ((ps_n : Nat) : Int)))] [] ∧ next3 ((IntKind.i64.wrap (s1.1.1 + 1), ()), ()) H7)) (Q (.int .i64
    (-1)) H2)
noncomputable def fcx94 : Cx := cx 19 [] [(2, ⟨[0, 1, 7], [], [(8, .int .i64)], []⟩)] [] []
theorem f94.eq (ps_A : Option Addr) (ps_n ps_c : Nat) (pf_f : FuncId) (pf_a pf_c : Array Value) (H : Hp) (Q : Value → Hp → Prop) : f94 ps_A ps_n ps_c pf_f pf_a pf_c H Q = wFun fcx94 Tryz.f94 [.slice ps_A ps_n ps_c, .func (.func pf_f) pf_a pf_c] H Q := by kernel_rfl
theorem f94.ok (ps_A : Option Addr) (ps_n ps_c : Nat) (pf_f : FuncId) (pf_a pf_c : Array Value) {H : Hp} {Q : Value → Hp → Prop} (h : f94 ps_A ps_n ps_c pf_f pf_a pf_c H Q) : HCalls Tryz.prog 94 [.slice ps_A ps_n ps_c, .func (.func pf_f) pf_a pf_c] H Q := hcalls_of (cxOk 19 [] [(2, ⟨[0, 1, 7], [], [(8, .int .i64)], []⟩)] [] []) Tryz.func94 (Eq.mp (f94.eq ps_A ps_n ps_c pf_f pf_a pf_c H Q) h)

end Go.Proofs.YtkbancdmhcnhjaaGreat.Hw
