/- HwFb HwMem HwMap HwIter HwPair Ta Tb Tr Tc (joined by merge.py) -/
import Derived.Test.YtibhpoikhkokiaaGreatFts3
/- What functions of the program come to, by the evaluator: printed by a program of this session (gen.py) and checked here. -/
set_option linter.unusedVariables false
set_option maxRecDepth 100000
namespace Go.Proofs.YtibhpoikhkokiaaGreat.Hw
open Go Go.Proofs

/-- justiciar history.Anomaly$1 -/
def f61 (pax : Int) (H : Hp) (Q : Value → Hp → Prop) : Prop :=
  Q (.bool true) H
noncomputable def fcx61 : Cx := cx 3 [] [] [] []
theorem f61.eq (pax : Int) (H : Hp) (Q : Value → Hp → Prop) : f61 pax H Q = wFun fcx61 Tryz.f61 [.int .i64 pax] H Q := by kernel_rfl
theorem f61.ok (pax : Int) {H : Hp} {Q : Value → Hp → Prop} (h : f61 pax H Q) : HCalls Tryz.prog 61 [.int .i64 pax] H Q := hcalls_of (cxOk 3 [] [] [] []) Tryz.func61 (Eq.mp (f61.eq pax H Q) h)

/-- maps.Keys[justiciar history.graph,int,[]int] -/
def f63 (pm : Option Nat) (H : Hp) (Q : Value → Hp → Prop) : Prop :=
  newF H 69 [.map pm] fun g1 H2 => Q (.func (.func 93) #[] #[.pointer (some ⟨g1, 0, none⟩)]) H2
noncomputable def fcx63 : Cx := cx 4 [] [] [] []
theorem f63.eq (pm : Option Nat) (H : Hp) (Q : Value → Hp → Prop) : f63 pm H Q = wFun fcx63 Tryz.f63 [.map pm] H Q := by kernel_rfl
theorem f63.ok (pm : Option Nat) {H : Hp} {Q : Value → Hp → Prop} (h : f63 pm H Q) : HCalls Tryz.prog 63 [.map pm] H Q := hcalls_of (cxOk 4 [] [] [] []) Tryz.func63 (Eq.mp (f63.eq pm H Q) h)

/-- (justiciar history.graph).shortest -/
def f64 (pg : Option Nat) (pfrm : Int) (H : Hp) (Q : Value → Hp → Prop) : Prop :=
  newMapF H fun m1 H2 => putF H2 .i64 (some m1) pfrm (.int .i64 0) fun H3 => LoopF (σ := (Bool × Unit) × Unit) ((true, ()), ()) H3 fun s4 H5 next6 => cnd s4.1.1 (rangeF H5 pg fun i7 H8 => LoopF (σ := (Bool × Unit) × Unit)
    ((false, ()), ()) H8 fun s9 H10 next11 => jn (fun (j17 : Bool) (H18 : Hp) => cnd j17 (entryF H18 i7 0 fun k20 v21 => ∃ x22 : Int, k20 = .int .i64 x22 ∧ ∃ (A23 : Option Addr) (n23 c23 : Nat), v21 = .slice A23 n23 c23 ∧
    LoopF (σ := (Bool × (Int × Unit)) × Unit) ((s9.1.1, (0, ())), ()) H18 fun s24 H25 next26 => cnd (decide ((s24.1.2.1 : Int) < ((n23 : Nat) : Int))) (jn (fun (j38 : Bool) (H39 : Hp) => KeepX [some (.v (.map pg)), some
    (.v (.int .i64 pfrm)), some (.v (.map (some m1))), some (.v (.int .i64 x22)), some (.v (.pointer (some ⟨i7, 0, none⟩))), some (.v (.slice A23 n23 c23)), some (.v (.int .i64 ((n23 : Nat) : Int)))] [] ∧ next26 ((j38,
    (IntKind.i64.wrap (s24.1.2.1 + 1), ())), ()) H39) fun J40 => 0 ≤ (s24.1.2.1 : Int) ∧ (s24.1.2.1 : Int) < ((n23 : Nat) : Int) ∧ onPtr A23 fun b27 o27 => ∃ x28 : Int, cl H25 b27 (o27 + (s24.1.2.1 : Int).toNat * 1) =
    some (.int .i64 x28) ∧ lookF H25 .i64 (some m1) x28 (.int .i64 0) fun v29 b30 => ∃ x31 : Int, v29 = .int .i64 x31 ∧ lookF H25 .i64 (some m1) x22 (.int .i64 0) fun v32 b33 => ∃ x34 : Int, v32 = .int .i64 x34 ∧ jn (fun
    (j35 : Bool) => cnd j35 (putF H25 .i64 (some m1) x22 (.int .i64 (IntKind.i64.wrap (x31 + 1))) fun H37 => J40 true H37) (J40 s24.1.1 H25)) fun J36 => cnd (decide ((x22 : Int) > pfrm)) (cnd b30 (cnd (!b33) (J36 true)
    (J36 (decide ((IntKind.i64.wrap (x31 + 1) : Int) < x34)))) (J36 false)) (J36 false)) (KeepX [some (.v (.map pg)), some (.v (.int .i64 pfrm)), some (.v (.map (some m1))), some (.v (.pointer (some ⟨i7, 0, none⟩)))] [] ∧
    next11 ((s24.1.1, ()), ()) H25)) (KeepX [some (.v (.map pg)), some (.v (.int .i64 pfrm)), some (.v (.map (some m1)))] [] ∧ next6 ((s9.1.1, ()), ()) H18)) fun J19 => nextF H10 i7 0 (J19 false H10) fun k12 v13 H14 => ∃
    x15 : Int, k12 = .int .i64 x15 ∧ ∃ (A16 : Option Addr) (n16 c16 : Nat), v13 = .slice A16 n16 c16 ∧ J19 true H14) (newF H5 3 [.int .i64 pfrm] fun g41 H42 => LoopF (σ := ((Option Addr × Nat × Nat) × (Int × Unit)) ×
    Unit) ((((some ⟨g41, 0, none⟩), 1, 1), (pfrm, ())), ()) H42 fun s43 H44 next45 => lookF H44 .i64 pg s43.1.2.1 (.slice none 0 0) fun v46 b47 => ∃ (A48 : Option Addr) (n48 c48 : Nat), v46 = .slice A48 n48 c48 ∧ LoopF (σ
    := (Int × (Bool × (Int × Unit))) × Unit) ((0, (false, (0, ()))), ()) H44 fun s49 H50 next51 => cnd (decide ((s49.1.2.2.1 : Int) < ((n48 : Nat) : Int))) (jn (fun (j62 : Int) (j63 : Bool) => KeepX [some (.v (.map pg)),
    some (.v (.int .i64 pfrm)), some (.v (.map (some m1))), some (.v (.slice s43.1.1.1 s43.1.1.2.1 s43.1.1.2.2)), some (.v (.slice A48 n48 c48)), some (.v (.int .i64 ((n48 : Nat) : Int)))] [] ∧ next51 ((j62, (j63,
    (IntKind.i64.wrap (s49.1.2.2.1 + 1), ()))), ()) H50) fun J64 => 0 ≤ (s49.1.2.2.1 : Int) ∧ (s49.1.2.2.1 : Int) < ((n48 : Nat) : Int) ∧ onPtr A48 fun b52 o52 => ∃ x53 : Int, cl H50 b52 (o52 + (s49.1.2.2.1 : Int).toNat *
    1) = some (.int .i64 x53) ∧ lookF H50 .i64 (some m1) x53 (.int .i64 0) fun v54 b55 => ∃ x56 : Int, v54 = .int .i64 x56 ∧ jn (fun (j60 : Bool) => cnd j60 (J64 x53 true) (J64 s49.1.1 s49.1.2.1)) fun J61 => cnd (decide
    ((x53 : Int) ≥ pfrm)) (cnd b55 (cnd (!s49.1.2.1) (J61 true) (lookF H50 .i64 (some m1) s49.1.1 (.int .i64 0) fun v57 b58 => ∃ x59 : Int, v57 = .int .i64 x59 ∧ J61 (decide ((x56 : Int) < x59)))) (J61 false)) (J61
    false)) (cnd (!s49.1.2.1) (Q (.slice none 0 0) H50) (cnd ((s49.1.1 : Int) == pfrm) (Q (.slice s43.1.1.1 s43.1.1.2.1 s43.1.1.2.2) H50) (newF H50 3 [.int .i64 s49.1.1] fun g65 H66 => appendF H66 3 1 8 s43.1.1.1
    s43.1.1.2.1 s43.1.1.2.2 (some ⟨g65, 0, none⟩) 1 fun A67 n67 c67 H68 => KeepX [some (.v (.map pg)), some (.v (.int .i64 pfrm)), some (.v (.map (some m1)))] [] ∧ next45 (((A67, n67, c67), (s49.1.1, ())), ()) H68))))
noncomputable def fcx64 : Cx := cx 122 [] [(3, ⟨[0, 1, 5], [], [(6, .bool)], []⟩), (6, ⟨[0, 1, 5, 28], [], [(6, .bool)], []⟩), (9, ⟨[0, 1, 5, 7, 28, 34, 35], [], [(6, .bool), (36, .int .i64)], []⟩), (18, ⟨[0, 1, 5], [], [(15, .slice), (16, .int .i64)], []⟩), (20, ⟨[0, 1, 5, 15, 78, 79], [], [(17, .int .i64), (18, .bool), (80, .int .i64)], []⟩)] [] [(29, ((.int .i64 0), (.slice none 0 0))), (31, ((.int .i64 0), (.slice none 0 0)))]
theorem f64.eq (pg : Option Nat) (pfrm : Int) (H : Hp) (Q : Value → Hp → Prop) : f64 pg pfrm H Q = wFun fcx64 Tryz.f64 [.map pg, .int .i64 pfrm] H Q := by kernel_rfl
theorem f64.ok (pg : Option Nat) (pfrm : Int) {H : Hp} {Q : Value → Hp → Prop} (h : f64 pg pfrm H Q) : HCalls Tryz.prog 64 [.map pg, .int .i64 pfrm] H Q := hcalls_of (cxOk 122 [] [(3, ⟨[0, 1, 5], [], [(6, .bool)], []⟩), (6, ⟨[0, 1, 5, 28], [], [(6, .bool)], []⟩), (9, ⟨[0, 1, 5, 7, 28, 34, 35], [], [(6, .bool), (36, .int .i64)], []⟩), (18, ⟨[0, 1, 5], [], [(15, .slice), (16, .int .i64)], []⟩), (20, ⟨[0, 1, 5, 15, 78, 79], [], [(17, .int .i64), (18, .bool), (80, .int .i64)], []⟩)] [] [(29, ((.int .i64 0), (.slice none 0 0))), (31, ((.int .i64 0), (.slice none 0 0)))]) Tryz.func64 (Eq.mp (f64.eq pg pfrm H Q) h)

/-- maps.Keys[map[int]bool,int,bool] -/
def f68 (pm : Option Nat) (H : Hp) (Q : Value → Hp → Prop) : Prop :=
  newF H 94 [.map pm] fun g1 H2 => Q (.func (.func 97) #[] #[.pointer (some ⟨g1, 0, none⟩)]) H2
noncomputable def fcx68 : Cx := cx 4 [] [] [] []
theorem f68.eq (pm : Option Nat) (H : Hp) (Q : Value → Hp → Prop) : f68 pm H Q = wFun fcx68 Tryz.f68 [.map pm] H Q := by kernel_rfl
theorem f68.ok (pm : Option Nat) {H : Hp} {Q : Value → Hp → Prop} (h : f68 pm H Q) : HCalls Tryz.prog 68 [.map pm] H Q := hcalls_of (cxOk 4 [] [] [] []) Tryz.func68 (Eq.mp (f68.eq pm H Q) h)

/-- slices.ContainsFunc[[]justiciar api.Arc,justiciar api.Arc] -/
def f69 (ps_A : Option Addr) (ps_n ps_c : Nat) (pf_f : FuncId) (pf_a pf_c : Array Value) (H : Hp) (Q : Value → Hp → Prop) : Prop :=
  HCalls Tryz.prog 98 [.slice ps_A ps_n ps_c, .func (.func pf_f) pf_a pf_c] H fun v1 H2 => ∃ x3 : Int, v1 = .int .i64 x3 ∧ Q (.bool (decide ((x3 : Int) ≥ 0))) H2
noncomputable def fcx69 : Cx := cx 9 [] [] [] []
theorem f69.eq (ps_A : Option Addr) (ps_n ps_c : Nat) (pf_f : FuncId) (pf_a pf_c : Array Value) (H : Hp) (Q : Value → Hp → Prop) : f69 ps_A ps_n ps_c pf_f pf_a pf_c H Q = wFun fcx69 Tryz.f69 [.slice ps_A ps_n ps_c, .func (.func pf_f) pf_a pf_c] H Q := by kernel_rfl
theorem f69.ok (ps_A : Option Addr) (ps_n ps_c : Nat) (pf_f : FuncId) (pf_a pf_c : Array Value) {H : Hp} {Q : Value → Hp → Prop} (h : f69 ps_A ps_n ps_c pf_f pf_a pf_c H Q) : HCalls Tryz.prog 69 [.slice ps_A ps_n ps_c, .func (.func pf_f) pf_a pf_c] H Q := hcalls_of (cxOk 9 [] [] [] []) Tryz.func69 (Eq.mp (f69.eq ps_A ps_n ps_c pf_f pf_a pf_c H Q) h)

/-- justiciar history.Order$1 -/
def f70 (px_0 : Int) (px_1 : Int) (px_2 : Int) (px_3 : Int) (fra_b fra_o : Nat) (frb_b frb_o : Nat) (H : Hp) (Q : Value → Hp → Prop) : Prop :=
  jn (fun (j6 : Bool) => Q (.bool j6) H) fun J7 => ∃ x1 : Int, cl H fra_b fra_o = some (.int .i64 x1) ∧ cnd ((px_1 : Int) == x1) (∃ r2 : Option Nat, cl H frb_b frb_o = some (.map r2) ∧ lookF H .i64 r2 px_0 (.bool false) fun
    v3 b4 => ∃ x5 : Bool, v3 = .bool x5 ∧ J7 x5) (J7 false)
noncomputable def fcx70 : Cx := cx 15 [(3, true)] [] [] []
theorem f70.eq (px_0 : Int) (px_1 : Int) (px_2 : Int) (px_3 : Int) (fra_b fra_o : Nat) (frb_b frb_o : Nat) (H : Hp) (Q : Value → Hp → Prop) : f70 px_0 px_1 px_2 px_3 fra_b fra_o frb_b frb_o H Q = wFun fcx70 Tryz.f70 [.agg #[.int .i64 px_0, .int .i64 px_1, .int .i64 px_2, .int .i64 px_3], .pointer (some ⟨fra_b, fra_o, none⟩), .pointer (some ⟨frb_b, frb_o, none⟩)] H Q := by kernel_rfl
theorem f70.ok (px_0 : Int) (px_1 : Int) (px_2 : Int) (px_3 : Int) (fra_b fra_o : Nat) (frb_b frb_o : Nat) {H : Hp} {Q : Value → Hp → Prop} (h : f70 px_0 px_1 px_2 px_3 fra_b fra_o frb_b frb_o H Q) : HCalls Tryz.prog 70 [.agg #[.int .i64 px_0, .int .i64 px_1, .int .i64 px_2, .int .i64 px_3], .pointer (some ⟨fra_b, fra_o, none⟩), .pointer (some ⟨frb_b, frb_o, none⟩)] H Q := hcalls_of (cxOk 15 [(3, true)] [] [] []) Tryz.func70 (Eq.mp (f70.eq px_0 px_1 px_2 px_3 fra_b fra_o frb_b frb_o H Q) h)

/-- (*justiciar history.book).found -/
def f71 (pb_b pb_o : Nat) (pt : Int) (pstmt : Int) (plow : Int) (phigh : Int) (puntil : Int) (H : Hp) (Q : Value → Hp → Prop) : Prop :=
  LoopF (σ := (Int × Unit) × Unit) ((plow, ()), ()) H fun s1 H2 next3 => cnd (decide ((s1.1.1 : Int) ≤ phigh)) (HCalls Tryz.prog 99 [.pointer (some ⟨pb_b, pb_o, none⟩), .int .i64 pt, .int .i64 pstmt, .int .i64 s1.1.1, .int
    .i64 puntil] H2 fun v4 H5 => ∃ x6 : Bool, v4 = .bool x6 ∧ cnd x6 (Q (.bool true) H5) (KeepX [some (.v (.pointer (some ⟨pb_b, pb_o, none⟩))), some (.v (.int .i64 pt)), some (.v (.int .i64 pstmt)), some (.v (.int .i64
    phigh)), some (.v (.int .i64 puntil))] [] ∧ next3 ((IntKind.i64.wrap (s1.1.1 + 1), ()), ()) H5)) (Q (.bool false) H2)
noncomputable def fcx71 : Cx := cx 26 [] [(2, ⟨[0, 1, 2, 4, 5], [], [(13, .int .i64)], []⟩)] [] []
theorem f71.eq (pb_b pb_o : Nat) (pt : Int) (pstmt : Int) (plow : Int) (phigh : Int) (puntil : Int) (H : Hp) (Q : Value → Hp → Prop) : f71 pb_b pb_o pt pstmt plow phigh puntil H Q = wFun fcx71 Tryz.f71 [.pointer (some ⟨pb_b, pb_o, none⟩), .int .i64 pt, .int .i64 pstmt, .int .i64 plow, .int .i64 phigh, .int .i64 puntil] H Q := by kernel_rfl
theorem f71.ok (pb_b pb_o : Nat) (pt : Int) (pstmt : Int) (plow : Int) (phigh : Int) (puntil : Int) {H : Hp} {Q : Value → Hp → Prop} (h : f71 pb_b pb_o pt pstmt plow phigh puntil H Q) : HCalls Tryz.prog 71 [.pointer (some ⟨pb_b, pb_o, none⟩), .int .i64 pt, .int .i64 pstmt, .int .i64 plow, .int .i64 phigh, .int .i64 puntil] H Q := hcalls_of (cxOk 26 [] [(2, ⟨[0, 1, 2, 4, 5], [], [(13, .int .i64)], []⟩)] [] []) Tryz.func71 (Eq.mp (f71.eq pb_b pb_o pt pstmt plow phigh puntil H Q) h)

/-- slices.Index[[]int,int] -/
def f72 (ps_A : Option Addr) (ps_n ps_c : Nat) (pv : Int) (H : Hp) (Q : Value → Hp → Prop) : Prop :=
  LoopF (σ := (Int × Unit) × Unit) ((0, ()), ()) H fun s1 H2 next3 => cnd (decide ((s1.1.1 : Int) < ((ps_n : Nat) : Int))) (0 ≤ (s1.1.1 : Int) ∧ (s1.1.1 : Int) < ((ps_n : Nat) : Int) ∧ onPtr ps_A fun b4 o4 => ∃ x5 : Int, cl
    H2 b4 (o4 + (s1.1.1 : Int).toNat * 1) = some (.int .i64 x5) ∧ cnd ((pv : Int) == x5) (Q (.int .i64 s1.1.1) H2) (KeepX [some (.v (.slice ps_A ps_n ps_c)), some (.v (.int .i64 pv)), some (.v (.int .i64 ((ps_n : Nat) :
    Int)))] [] ∧ next3 ((IntKind.i64.wrap (s1.1.1 + 1), ()), ()) H2)) (Q (.int .i64 (-1)) H2)
noncomputable def fcx72 : Cx := cx 19 [] [(2, ⟨[0, 1, 7], [], [(8, .int .i64)], []⟩)] [] []
theorem f72.eq (ps_A : Option Addr) (ps_n ps_c : Nat) (pv : Int) (H : Hp) (Q : Value → Hp → Prop) : f72 ps_A ps_n ps_c pv H Q = wFun fcx72 Tryz.f72 [.slice ps_A ps_n ps_c, .int .i64 pv] H Q := by kernel_rfl
theorem f72.ok (ps_A : Option Addr) (ps_n ps_c : Nat) (pv : Int) {H : Hp} {Q : Value → Hp → Prop} (h : f72 ps_A ps_n ps_c pv H Q) : HCalls Tryz.prog 72 [.slice ps_A ps_n ps_c, .int .i64 pv] H Q := hcalls_of (cxOk 19 [] [(2, ⟨[0, 1, 7], [], [(8, .int .i64)], []⟩)] [] []) Tryz.func72 (Eq.mp (f72.eq ps_A ps_n ps_c pv H Q) h)

/-- (*justiciar history.book).arcs$1 -/
def f73 (px : Int) (py : Int) (pkind : Int) (pitem : Int) (fra_b fra_o : Nat) (frb_b frb_o : Nat) (H : Hp) (Q : Value → Hp → Prop) : Prop :=
  jn (fun (j9 : Bool) (H10 : Hp) => cnd j9 (∃ (A12 : Option Addr) (n12 c12 : Nat), cl H10 frb_b frb_o = some (.slice A12 n12 c12) ∧ newF H10 52 [.int .i64 px, .int .i64 py, .int .i64 pkind, .int .i64 pitem] fun g13 H14 =>
    appendF H14 52 4 32 A12 n12 c12 (some ⟨g13, 0, none⟩) 1 fun A15 n15 c15 H16 => storeF H16 frb_b frb_o [.slice A15 n15 c15] fun H17 => Q (.tuple #[]) H17) (Q (.tuple #[]) H10)) fun J11 => cnd ((px : Int) != py) (∃ p1 :
    Option Addr, cl H fra_b fra_o = some (.pointer p1) ∧ HCalls Tryz.prog 74 [.pointer p1, .int .i64 px] H fun v2 H3 => ∃ x4 : Bool, v2 = .bool x4 ∧ cnd x4 (∃ p5 : Option Addr, cl H3 fra_b fra_o = some (.pointer p5) ∧
    HCalls Tryz.prog 74 [.pointer p5, .int .i64 py] H3 fun v6 H7 => ∃ x8 : Bool, v6 = .bool x8 ∧ J11 x8 H7) (J11 false H3)) (J11 false H)
noncomputable def fcx73 : Cx := cx 31 [] [] [] []
theorem f73.eq (px : Int) (py : Int) (pkind : Int) (pitem : Int) (fra_b fra_o : Nat) (frb_b frb_o : Nat) (H : Hp) (Q : Value → Hp → Prop) : f73 px py pkind pitem fra_b fra_o frb_b frb_o H Q = wFun fcx73 Tryz.f73 [.int .i64 px, .int .i64 py, .int .i64 pkind, .int .i64 pitem, .pointer (some ⟨fra_b, fra_o, none⟩), .pointer (some ⟨frb_b, frb_o, none⟩)] H Q := by kernel_rfl
theorem f73.ok (px : Int) (py : Int) (pkind : Int) (pitem : Int) (fra_b fra_o : Nat) (frb_b frb_o : Nat) {H : Hp} {Q : Value → Hp → Prop} (h : f73 px py pkind pitem fra_b fra_o frb_b frb_o H Q) : HCalls Tryz.prog 73 [.int .i64 px, .int .i64 py, .int .i64 pkind, .int .i64 pitem, .pointer (some ⟨fra_b, fra_o, none⟩), .pointer (some ⟨frb_b, frb_o, none⟩)] H Q := hcalls_of (cxOk 31 [] [] [] []) Tryz.func73 (Eq.mp (f73.eq px py pkind pitem fra_b fra_o frb_b frb_o H Q) h)

/-- (*justiciar history.book).committed -/
def f74 (pb_b pb_o : Nat) (pt : Int) (H : Hp) (Q : Value → Hp → Prop) : Prop :=
  ∃ r1 : Option Nat, cl H pb_b (pb_o + 1) = some (.map r1) ∧ lookF H .i64 r1 pt (.int .i64 0) fun v2 b3 => ∃ x4 : Int, v2 = .int .i64 x4 ∧ Q (.bool b3) H
noncomputable def fcx74 : Cx := cx 17 [] [] [] []
theorem f74.eq (pb_b pb_o : Nat) (pt : Int) (H : Hp) (Q : Value → Hp → Prop) : f74 pb_b pb_o pt H Q = wFun fcx74 Tryz.f74 [.pointer (some ⟨pb_b, pb_o, none⟩), .int .i64 pt] H Q := by kernel_rfl
theorem f74.ok (pb_b pb_o : Nat) (pt : Int) {H : Hp} {Q : Value → Hp → Prop} (h : f74 pb_b pb_o pt H Q) : HCalls Tryz.prog 74 [.pointer (some ⟨pb_b, pb_o, none⟩), .int .i64 pt] H Q := hcalls_of (cxOk 17 [] [] [] []) Tryz.func74 (Eq.mp (f74.eq pb_b pb_o pt H Q) h)

/-- (*justiciar history.book).next -/
def f75 (pb_b pb_o : Nat) (pitem : Int) (pfrm : Int) (H : Hp) (Q : Value → Hp → Prop) : Prop :=
  ∃ r1 : Option Nat, cl H pb_b (pb_o + 3) = some (.map r1) ∧ lookF H .i64 r1 pitem (.slice none 0 0) fun v2 b3 => ∃ (A4 : Option Addr) (n4 c4 : Nat), v2 = .slice A4 n4 c4 ∧ jn (fun (j8 : Int) (H9 : Hp) => cnd (decide
    ((IntKind.i64.wrap (j8 + 1) : Int) < ((n4 : Nat) : Int))) (0 ≤ (IntKind.i64.wrap (j8 + 1) : Int) ∧ (IntKind.i64.wrap (j8 + 1) : Int) < ((n4 : Nat) : Int) ∧ onPtr A4 fun b11 o11 => ∃ x12 : Int, cl H9 b11 (o11 +
    (IntKind.i64.wrap (j8 + 1) : Int).toNat * 1) = some (.int .i64 x12) ∧ Q (.int .i64 x12) H9) (Q (.int .i64 0) H9)) fun J10 => cnd ((pfrm : Int) != 0) (HCalls Tryz.prog 72 [.slice A4 n4 c4, .int .i64 pfrm] H fun v5 H6
    => ∃ x7 : Int, v5 = .int .i64 x7 ∧ cnd (decide ((x7 : Int) < 0)) (Q (.int .i64 0) H6) (J10 x7 H6)) (J10 (-1) H)
noncomputable def fcx75 : Cx := cx 32 [] [] [] []
theorem f75.eq (pb_b pb_o : Nat) (pitem : Int) (pfrm : Int) (H : Hp) (Q : Value → Hp → Prop) : f75 pb_b pb_o pitem pfrm H Q = wFun fcx75 Tryz.f75 [.pointer (some ⟨pb_b, pb_o, none⟩), .int .i64 pitem, .int .i64 pfrm] H Q := by kernel_rfl
theorem f75.ok (pb_b pb_o : Nat) (pitem : Int) (pfrm : Int) {H : Hp} {Q : Value → Hp → Prop} (h : f75 pb_b pb_o pitem pfrm H Q) : HCalls Tryz.prog 75 [.pointer (some ⟨pb_b, pb_o, none⟩), .int .i64 pitem, .int .i64 pfrm] H Q := hcalls_of (cxOk 32 [] [] [] []) Tryz.func75 (Eq.mp (f75.eq pb_b pb_o pitem pfrm H Q) h)

/-- justiciar history.order -/
def f77 (pa_0 : Int) (pa_1 : Int) (pa_2 : Int) (pa_3 : Int) (pb_0 : Int) (pb_1 : Int) (pb_2 : Int) (pb_3 : Int) (H : Hp) (Q : Value → Hp → Prop) : Prop :=
  HCalls Tryz.prog 103 [.int .i64 pa_0, .int .i64 pb_0] H fun v1 H2 => ∃ x3 : Int, v1 = .int .i64 x3 ∧ HCalls Tryz.prog 103 [.int .i64 pa_1, .int .i64 pb_1] H2 fun v4 H5 => ∃ x6 : Int, v4 = .int .i64 x6 ∧ HCalls Tryz.prog
    103 [.int .i64 pa_2, .int .i64 pb_2] H5 fun v7 H8 => ∃ x9 : Int, v7 = .int .i64 x9 ∧ HCalls Tryz.prog 103 [.int .i64 pa_3, .int .i64 pb_3] H8 fun v10 H11 => ∃ x12 : Int, v10 = .int .i64 x12 ∧ newF H11 3 [.int .i64 x3,
    .int .i64 x6, .int .i64 x9, .int .i64 x12] fun g13 H14 => HCalls Tryz.prog 102 [.slice (some ⟨g13, 0, none⟩) 4 4] H14 fun v15 H16 => ∃ x17 : Int, v15 = .int .i64 x17 ∧ Q (.int .i64 x17) H16
noncomputable def fcx77 : Cx := cx 27 [(2, true), (3, true)] [] [(1, (.look 0 (.look 1 (.look 2 (.look 3 (.look 5 (.look 6 (.look 7 (.look 8 (.look 10 (.look 11 (.look 12 (.look 13 (.look 15 (.look 16 (.look 17 (.look 18 (.act 4 (.act 9 (.act 14 (.act 19 (.act 20 (.act 21 (.act 22 .done .done) .done) .done) .done) .done) .done) .done))))))))))))))))))] []
theorem f77.eq (pa_0 : Int) (pa_1 : Int) (pa_2 : Int) (pa_3 : Int) (pb_0 : Int) (pb_1 : Int) (pb_2 : Int) (pb_3 : Int) (H : Hp) (Q : Value → Hp → Prop) : f77 pa_0 pa_1 pa_2 pa_3 pb_0 pb_1 pb_2 pb_3 H Q = wFun fcx77 Tryz.f77 [.agg #[.int .i64 pa_0, .int .i64 pa_1, .int .i64 pa_2, .int .i64 pa_3], .agg #[.int .i64 pb_0, .int .i64 pb_1, .int .i64 pb_2, .int .i64 pb_3]] H Q := by kernel_rfl
theorem f77.ok (pa_0 : Int) (pa_1 : Int) (pa_2 : Int) (pa_3 : Int) (pb_0 : Int) (pb_1 : Int) (pb_2 : Int) (pb_3 : Int) {H : Hp} {Q : Value → Hp → Prop} (h : f77 pa_0 pa_1 pa_2 pa_3 pb_0 pb_1 pb_2 pb_3 H Q) : HCalls Tryz.prog 77 [.agg #[.int .i64 pa_0, .int .i64 pa_1, .int .i64 pa_2, .int .i64 pa_3], .agg #[.int .i64 pb_0, .int .i64 pb_1, .int .i64 pb_2, .int .i64 pb_3]] H Q := hcalls_of (cxOk 27 [(2, true), (3, true)] [] [(1, (.look 0 (.look 1 (.look 2 (.look 3 (.look 5 (.look 6 (.look 7 (.look 8 (.look 10 (.look 11 (.look 12 (.look 13 (.look 15 (.look 16 (.look 17 (.look 18 (.act 4 (.act 9 (.act 14 (.act 19 (.act 20 (.act 21 (.act 22 .done .done) .done) .done) .done) .done) .done) .done))))))))))))))))))] []) Tryz.func77 (Eq.mp (f77.eq pa_0 pa_1 pa_2 pa_3 pb_0 pb_1 pb_2 pb_3 H Q) h)

/-- slices.Compact[[]justiciar api.Arc,justiciar api.Arc] -/
def f78 (ps_A : Option Addr) (ps_n ps_c : Nat) (H : Hp) (Q : Value → Hp → Prop) : Prop :=
  cnd (decide ((((ps_n : Nat) : Int) : Int) < 2)) (Q (.slice ps_A ps_n ps_c) H) (LoopF (σ := (Int × Unit) × Unit) ((1, ()), ()) H fun s1 H2 next3 => cnd (decide ((s1.1.1 : Int) < ((ps_n : Nat) : Int))) (0 ≤ (s1.1.1 : Int) ∧
    (s1.1.1 : Int) < ((ps_n : Nat) : Int) ∧ onPtr ps_A fun b4 o4 => ∃ x5 : Int, cl H2 b4 (o4 + (s1.1.1 : Int).toNat * 4) = some (.int .i64 x5) ∧ ∃ x6 : Int, cl H2 b4 ((o4 + (s1.1.1 : Int).toNat * 4) + 1) = some (.int .i64
    x6) ∧ ∃ x7 : Int, cl H2 b4 (((o4 + (s1.1.1 : Int).toNat * 4) + 1) + 1) = some (.int .i64 x7) ∧ ∃ x8 : Int, cl H2 b4 ((((o4 + (s1.1.1 : Int).toNat * 4) + 1) + 1) + 1) = some (.int .i64 x8) ∧ 0 ≤ (IntKind.i64.wrap
    (s1.1.1 - 1) : Int) ∧ (IntKind.i64.wrap (s1.1.1 - 1) : Int) < ((ps_n : Nat) : Int) ∧ onPtr ps_A fun b9 o9 => ∃ x10 : Int, cl H2 b9 (o9 + (IntKind.i64.wrap (s1.1.1 - 1) : Int).toNat * 4) = some (.int .i64 x10) ∧ ∃ x11
    : Int, cl H2 b9 ((o9 + (IntKind.i64.wrap (s1.1.1 - 1) : Int).toNat * 4) + 1) = some (.int .i64 x11) ∧ ∃ x12 : Int, cl H2 b9 (((o9 + (IntKind.i64.wrap (s1.1.1 - 1) : Int).toNat * 4) + 1) + 1) = some (.int .i64 x12) ∧ ∃
    x13 : Int, cl H2 b9 ((((o9 + (IntKind.i64.wrap (s1.1.1 - 1) : Int).toNat * 4) + 1) + 1) + 1) = some (.int .i64 x13) ∧ cnd (((x5 : Int) == x10) && (((x6 : Int) == x11) && (((x7 : Int) == x12) && (((x8 : Int) == x13) &&
    true)))) (0 ≤ (s1.1.1 : Int) ∧ (s1.1.1 : Int) ≤ ((ps_n : Nat) : Int) ∧ LoopF (σ := (Int × (Int × Unit)) × Unit) ((s1.1.1, (1, ())), ()) H2 fun s14 H15 next16 => cnd (decide ((s14.1.2.1 : Int) < ((ps_n - ((s1.1.1 :
    Int).toNat) : Nat) : Int))) (jn (fun (j34 : Int) (H35 : Hp) => KeepX [some (.v (.slice ps_A ps_n ps_c)), some (.v (.slice (cutA ps_A (((s1.1.1 : Int).toNat) * 4) (decide (ps_c = ((s1.1.1 : Int).toNat)))) (ps_n -
    ((s1.1.1 : Int).toNat)) (ps_c - ((s1.1.1 : Int).toNat))))] [] ∧ next16 ((j34, (IntKind.i64.wrap (s14.1.2.1 + 1), ())), ()) H35) fun J36 => 0 ≤ (s14.1.2.1 : Int) ∧ (s14.1.2.1 : Int) < ((ps_n - ((s1.1.1 : Int).toNat) :
    Nat) : Int) ∧ onPtr (cutA ps_A (((s1.1.1 : Int).toNat) * 4) (decide (ps_c = ((s1.1.1 : Int).toNat)))) fun b17 o17 => ∃ x18 : Int, cl H15 b17 (o17 + (s14.1.2.1 : Int).toNat * 4) = some (.int .i64 x18) ∧ ∃ x19 : Int, cl
    H15 b17 ((o17 + (s14.1.2.1 : Int).toNat * 4) + 1) = some (.int .i64 x19) ∧ ∃ x20 : Int, cl H15 b17 (((o17 + (s14.1.2.1 : Int).toNat * 4) + 1) + 1) = some (.int .i64 x20) ∧ ∃ x21 : Int, cl H15 b17 ((((o17 + (s14.1.2.1
    : Int).toNat * 4) + 1) + 1) + 1) = some (.int .i64 x21) ∧ 0 ≤ (IntKind.i64.wrap (s14.1.2.1 - 1) : Int) ∧ (IntKind.i64.wrap (s14.1.2.1 - 1) : Int) < ((ps_n - ((s1.1.1 : Int).toNat) : Nat) : Int) ∧ onPtr (cutA ps_A
    (((s1.1.1 : Int).toNat) * 4) (decide (ps_c = ((s1.1.1 : Int).toNat)))) fun b22 o22 => ∃ x23 : Int, cl H15 b22 (o22 + (IntKind.i64.wrap (s14.1.2.1 - 1) : Int).toNat * 4) = some (.int .i64 x23) ∧ ∃ x24 : Int, cl H15 b22
    ((o22 + (IntKind.i64.wrap (s14.1.2.1 - 1) : Int).toNat * 4) + 1) = some (.int .i64 x24) ∧ ∃ x25 : Int, cl H15 b22 (((o22 + (IntKind.i64.wrap (s14.1.2.1 - 1) : Int).toNat * 4) + 1) + 1) = some (.int .i64 x25) ∧ ∃ x26 :
    Int, cl H15 b22 ((((o22 + (IntKind.i64.wrap (s14.1.2.1 - 1) : Int).toNat * 4) + 1) + 1) + 1) = some (.int .i64 x26) ∧ cnd (!(((x18 : Int) == x23) && (((x19 : Int) == x24) && (((x20 : Int) == x25) && (((x21 : Int) ==
    x26) && true))))) (0 ≤ (s14.1.2.1 : Int) ∧ (s14.1.2.1 : Int) < ((ps_n - ((s1.1.1 : Int).toNat) : Nat) : Int) ∧ onPtr (cutA ps_A (((s1.1.1 : Int).toNat) * 4) (decide (ps_c = ((s1.1.1 : Int).toNat)))) fun b27 o27 => ∃
    x28 : Int, cl H15 b27 (o27 + (s14.1.2.1 : Int).toNat * 4) = some (.int .i64 x28) ∧ ∃ x29 : Int, cl H15 b27 ((o27 + (s14.1.2.1 : Int).toNat * 4) + 1) = some (.int .i64 x29) ∧ ∃ x30 : Int, cl H15 b27 (((o27 + (s14.1.2.1
    : Int).toNat * 4) + 1) + 1) = some (.int .i64 x30) ∧ ∃ x31 : Int, cl H15 b27 ((((o27 + (s14.1.2.1 : Int).toNat * 4) + 1) + 1) + 1) = some (.int .i64 x31) ∧ 0 ≤ (s14.1.1 : Int) ∧ (s14.1.1 : Int) < ((ps_n : Nat) : Int)
    ∧ onPtr ps_A fun b32 o32 => storeF H15 b32 (o32 + (s14.1.1 : Int).toNat * 4) [.int .i64 x28, .int .i64 x29, .int .i64 x30, .int .i64 x31] fun H33 => J36 (IntKind.i64.wrap (s14.1.1 + 1)) H33) (J36 s14.1.1 H15)) (jn
    (fun (H39 : Hp) => 0 ≤ (s14.1.1 : Int) ∧ (s14.1.1 : Int) ≤ ((ps_c : Nat) : Int) ∧ Q (.slice (cutA ps_A (0 * 4) (decide (ps_c = 0))) (((s14.1.1 : Int).toNat) - 0) (ps_c - 0)) H39) fun J40 => 0 ≤ (s14.1.1 : Int) ∧
    (s14.1.1 : Int) ≤ ((ps_n : Nat) : Int) ∧ (ps_n - ((s14.1.1 : Int).toNat) = 0 → J40 H15) ∧ (0 < ps_n - ((s14.1.1 : Int).toNat) → onPtr (cutA ps_A (((s14.1.1 : Int).toNat) * 4) (decide (ps_c = ((s14.1.1 : Int).toNat))))
    fun b37 o37 => storeF H15 b37 o37 (List.replicate (ps_n - ((s14.1.1 : Int).toNat)) [.int .i64 0, .int .i64 0, .int .i64 0, .int .i64 0]).flatten fun H38 => J40 H38))) (KeepX [some (.v (.slice ps_A ps_n ps_c))] [] ∧
    next3 ((IntKind.i64.wrap (s1.1.1 + 1), ()), ()) H2)) (Q (.slice ps_A ps_n ps_c) H2))
noncomputable def fcx78 : Cx := cx 61 [] [(4, ⟨[0], [], [(3, .int .i64)], []⟩), (9, ⟨[0, 4], [], [(3, .int .i64), (5, .int .i64)], []⟩)] [(6, (.look 0 (.look 1 (.look 2 (.look 3 (.look 4 (.look 5 (.look 6 (.look 7 (.look 8 (.look 9 .done))))))))))), (11, (.look 0 (.look 1 (.look 2 (.look 3 (.look 4 (.look 5 (.look 6 (.look 7 (.look 8 (.look 9 .done)))))))))))] []
theorem f78.eq (ps_A : Option Addr) (ps_n ps_c : Nat) (H : Hp) (Q : Value → Hp → Prop) : f78 ps_A ps_n ps_c H Q = wFun fcx78 Tryz.f78 [.slice ps_A ps_n ps_c] H Q := by kernel_rfl
theorem f78.ok (ps_A : Option Addr) (ps_n ps_c : Nat) {H : Hp} {Q : Value → Hp → Prop} (h : f78 ps_A ps_n ps_c H Q) : HCalls Tryz.prog 78 [.slice ps_A ps_n ps_c] H Q := hcalls_of (cxOk 61 [] [(4, ⟨[0], [], [(3, .int .i64)], []⟩), (9, ⟨[0, 4], [], [(3, .int .i64), (5, .int .i64)], []⟩)] [(6, (.look 0 (.look 1 (.look 2 (.look 3 (.look 4 (.look 5 (.look 6 (.look 7 (.look 8 (.look 9 .done))))))))))), (11, (.look 0 (.look 1 (.look 2 (.look 3 (.look 4 (.look 5 (.look 6 (.look 7 (.look 8 (.look 9 .done)))))))))))] []) Tryz.func78 (Eq.mp (f78.eq ps_A ps_n ps_c H Q) h)

/-- justiciar history.circle$1 -/
def f80 (px_0 : Int) (px_1 : Int) (px_2 : Int) (px_3 : Int) (fra_b fra_o : Nat) (frb_b frb_o : Nat) (H : Hp) (Q : Value → Hp → Prop) : Prop :=
  jn (fun (j9 : Bool) (H10 : Hp) => Q (.bool j9) H10) fun J11 => ∃ x1 : Int, cl H fra_b fra_o = some (.int .i64 x1) ∧ cnd ((px_2 : Int) == x1) (∃ r2 : Option Nat, cl H frb_b frb_o = some (.map r2) ∧ HCalls Tryz.prog 81
    [.map r2, .int .i64 px_1] H fun v3 H4 => ∃ r5 : Option Nat, v3 = .map r5 ∧ lookF H4 .i64 r5 px_0 (.bool false) fun v6 b7 => ∃ x8 : Bool, v6 = .bool x8 ∧ J11 x8 H4) (J11 false H)
noncomputable def fcx80 : Cx := cx 18 [(3, true)] [] [(1, (.look 0 (.look 1 (.look 2 (.look 3 (.look 4 (.look 5 (.look 6 (.look 7 (.look 9 (.look 10 (.act 8 (.act 11 (.look 12 (.act 13 .done .done)) .done) .done))))))))))))] []
theorem f80.eq (px_0 : Int) (px_1 : Int) (px_2 : Int) (px_3 : Int) (fra_b fra_o : Nat) (frb_b frb_o : Nat) (H : Hp) (Q : Value → Hp → Prop) : f80 px_0 px_1 px_2 px_3 fra_b fra_o frb_b frb_o H Q = wFun fcx80 Tryz.f80 [.agg #[.int .i64 px_0, .int .i64 px_1, .int .i64 px_2, .int .i64 px_3], .pointer (some ⟨fra_b, fra_o, none⟩), .pointer (some ⟨frb_b, frb_o, none⟩)] H Q := by kernel_rfl
theorem f80.ok (px_0 : Int) (px_1 : Int) (px_2 : Int) (px_3 : Int) (fra_b fra_o : Nat) (frb_b frb_o : Nat) {H : Hp} {Q : Value → Hp → Prop} (h : f80 px_0 px_1 px_2 px_3 fra_b fra_o frb_b frb_o H Q) : HCalls Tryz.prog 80 [.agg #[.int .i64 px_0, .int .i64 px_1, .int .i64 px_2, .int .i64 px_3], .pointer (some ⟨fra_b, fra_o, none⟩), .pointer (some ⟨frb_b, frb_o, none⟩)] H Q := hcalls_of (cxOk 18 [(3, true)] [] [(1, (.look 0 (.look 1 (.look 2 (.look 3 (.look 4 (.look 5 (.look 6 (.look 7 (.look 9 (.look 10 (.act 8 (.act 11 (.look 12 (.act 13 .done .done)) .done) .done))))))))))))] []) Tryz.func80 (Eq.mp (f80.eq px_0 px_1 px_2 px_3 fra_b fra_o frb_b frb_o H Q) h)

/-- (justiciar history.graph).reach -/
def f81 (pg : Option Nat) (pfrm : Int) (H : Hp) (Q : Value → Hp → Prop) : Prop :=
  newMapF H fun m1 H2 => putF H2 .i64 (some m1) pfrm (.bool true) fun H3 => newF H3 3 [.int .i64 pfrm] fun g4 H5 => LoopF (σ := ((Option Addr × Nat × Nat) × Unit) × Unit) ((((some ⟨g4, 0, none⟩), 1, 1), ()), ()) H5 fun s6
    H7 next8 => cnd (decide ((((s6.1.1.2.1 : Nat) : Int) : Int) > 0)) (0 ≤ (0 : Int) ∧ (0 : Int) < ((s6.1.1.2.1 : Nat) : Int) ∧ onPtr s6.1.1.1 fun b9 o9 => ∃ x10 : Int, cl H7 b9 (o9 + (0 : Int).toNat * 1) = some (.int
    .i64 x10) ∧ 0 ≤ (1 : Int) ∧ (1 : Int) ≤ ((s6.1.1.2.1 : Nat) : Int) ∧ lookF H7 .i64 pg x10 (.slice none 0 0) fun v11 b12 => ∃ (A13 : Option Addr) (n13 c13 : Nat), v11 = .slice A13 n13 c13 ∧ LoopF (σ := ((Option Addr ×
    Nat × Nat) × (Int × Unit)) × Unit) (((cutA s6.1.1.1 (((1 : Int).toNat) * 1) (decide (s6.1.1.2.2 = ((1 : Int).toNat))), s6.1.1.2.1 - ((1 : Int).toNat), s6.1.1.2.2 - ((1 : Int).toNat)), (0, ())), ()) H7 fun s14 H15
    next16 => cnd (decide ((s14.1.2.1 : Int) < ((n13 : Nat) : Int))) (jn (fun (jA27 : Option Addr) (jn28 : Nat) (jc29 : Nat) (H30 : Hp) => KeepX [some (.v (.map pg)), some (.v (.map (some m1))), some (.v (.slice A13 n13
    c13)), some (.v (.int .i64 ((n13 : Nat) : Int)))] [] ∧ next16 (((jA27, jn28, jc29), (IntKind.i64.wrap (s14.1.2.1 + 1), ())), ()) H30) fun J31 => 0 ≤ (s14.1.2.1 : Int) ∧ (s14.1.2.1 : Int) < ((n13 : Nat) : Int) ∧ onPtr
    A13 fun b17 o17 => ∃ x18 : Int, cl H15 b17 (o17 + (s14.1.2.1 : Int).toNat * 1) = some (.int .i64 x18) ∧ lookF H15 .i64 (some m1) x18 (.bool false) fun v19 b20 => ∃ x21 : Bool, v19 = .bool x21 ∧ cnd (!x21) (putF H15
    .i64 (some m1) x18 (.bool true) fun H22 => newF H22 3 [.int .i64 x18] fun g23 H24 => appendF H24 3 1 8 s14.1.1.1 s14.1.1.2.1 s14.1.1.2.2 (some ⟨g23, 0, none⟩) 1 fun A25 n25 c25 H26 => J31 A25 n25 c25 H26) (J31
    s14.1.1.1 s14.1.1.2.1 s14.1.1.2.2 H15)) (KeepX [some (.v (.map pg)), some (.v (.map (some m1)))] [] ∧ next8 (((s14.1.1.1, s14.1.1.2.1, s14.1.1.2.2), ()), ()) H15)) (Q (.map (some m1)) H7)
noncomputable def fcx81 : Cx := cx 43 [] [(3, ⟨[0, 5], [], [(6, .slice)], []⟩), (7, ⟨[0, 5, 25, 26], [], [(6, .slice), (27, .int .i64)], []⟩)] [] []
theorem f81.eq (pg : Option Nat) (pfrm : Int) (H : Hp) (Q : Value → Hp → Prop) : f81 pg pfrm H Q = wFun fcx81 Tryz.f81 [.map pg, .int .i64 pfrm] H Q := by kernel_rfl
theorem f81.ok (pg : Option Nat) (pfrm : Int) {H : Hp} {Q : Value → Hp → Prop} (h : f81 pg pfrm H Q) : HCalls Tryz.prog 81 [.map pg, .int .i64 pfrm] H Q := hcalls_of (cxOk 43 [] [(3, ⟨[0, 5], [], [(6, .slice)], []⟩), (7, ⟨[0, 5, 25, 26], [], [(6, .slice), (27, .int .i64)], []⟩)] [] []) Tryz.func81 (Eq.mp (f81.eq pg pfrm H Q) h)

/-- slices.ContainsFunc[[]int,int] -/
def f82 (ps_A : Option Addr) (ps_n ps_c : Nat) (pf_f : FuncId) (pf_a pf_c : Array Value) (H : Hp) (Q : Value → Hp → Prop) : Prop :=
  HCalls Tryz.prog 105 [.slice ps_A ps_n ps_c, .func (.func pf_f) pf_a pf_c] H fun v1 H2 => ∃ x3 : Int, v1 = .int .i64 x3 ∧ Q (.bool (decide ((x3 : Int) ≥ 0))) H2
noncomputable def fcx82 : Cx := cx 9 [] [] [] []
theorem f82.eq (ps_A : Option Addr) (ps_n ps_c : Nat) (pf_f : FuncId) (pf_a pf_c : Array Value) (H : Hp) (Q : Value → Hp → Prop) : f82 ps_A ps_n ps_c pf_f pf_a pf_c H Q = wFun fcx82 Tryz.f82 [.slice ps_A ps_n ps_c, .func (.func pf_f) pf_a pf_c] H Q := by kernel_rfl
theorem f82.ok (ps_A : Option Addr) (ps_n ps_c : Nat) (pf_f : FuncId) (pf_a pf_c : Array Value) {H : Hp} {Q : Value → Hp → Prop} (h : f82 ps_A ps_n ps_c pf_f pf_a pf_c H Q) : HCalls Tryz.prog 82 [.slice ps_A ps_n ps_c, .func (.func pf_f) pf_a pf_c] H Q := hcalls_of (cxOk 9 [] [] [] []) Tryz.func82 (Eq.mp (f82.eq ps_A ps_n ps_c pf_f pf_a pf_c H Q) h)

/-- (justiciar history.graph).circles$1 -/
def f83 (py : Int) (fra_b fra_o : Nat) (frb_b frb_o : Nat) (H : Hp) (Q : Value → Hp → Prop) : Prop :=
  ∃ r1 : Option Nat, cl H fra_b fra_o = some (.map r1) ∧ ∃ x2 : Int, cl H frb_b frb_o = some (.int .i64 x2) ∧ HCalls Tryz.prog 81 [.map r1, .int .i64 py] H fun v3 H4 => ∃ r5 : Option Nat, v3 = .map r5 ∧ H4 frb_b = H frb_b ∧
    lookF H4 .i64 r5 x2 (.bool false) fun v6 b7 => ∃ x8 : Bool, v6 = .bool x8 ∧ Q (.bool x8) H4
noncomputable def fcx83 : Cx := cx 10 [] [] [(1, (.look 0 (.look 1 (.look 3 (.act 2 (.act 4 (.act 5 .done .done) .done) .done)))))] []
theorem f83.eq (py : Int) (fra_b fra_o : Nat) (frb_b frb_o : Nat) (H : Hp) (Q : Value → Hp → Prop) : f83 py fra_b fra_o frb_b frb_o H Q = wFun fcx83 Tryz.f83 [.int .i64 py, .pointer (some ⟨fra_b, fra_o, none⟩), .pointer (some ⟨frb_b, frb_o, none⟩)] H Q := by kernel_rfl
theorem f83.ok (py : Int) (fra_b fra_o : Nat) (frb_b frb_o : Nat) {H : Hp} {Q : Value → Hp → Prop} (h : f83 py fra_b fra_o frb_b frb_o H Q) : HCalls Tryz.prog 83 [.int .i64 py, .pointer (some ⟨fra_b, fra_o, none⟩), .pointer (some ⟨frb_b, frb_o, none⟩)] H Q := hcalls_of (cxOk 10 [] [] [(1, (.look 0 (.look 1 (.look 3 (.act 2 (.act 4 (.act 5 .done .done) .done) .done)))))] []) Tryz.func83 (Eq.mp (f83.eq py fra_b fra_o frb_b frb_o H Q) h)

/-- slices.IndexFunc[[]justiciar api.His,justiciar api.His] -/
def f84 (ps_A : Option Addr) (ps_n ps_c : Nat) (pf_f : FuncId) (pf_a pf_c : Array Value) (H : Hp) (Q : Value → Hp → Prop) : Prop :=
  LoopF (σ := (Int × Unit) × Unit) ((0, ()), ()) H fun s1 H2 next3 => cnd (decide ((s1.1.1 : Int) < ((ps_n : Nat) : Int))) (0 ≤ (s1.1.1 : Int) ∧ (s1.1.1 : Int) < ((ps_n : Nat) : Int) ∧ onPtr ps_A fun b4 o4 => ∃ x5 : Int, cl
    H2 b4 (o4 + (s1.1.1 : Int).toNat * 5) = some (.int .i64 x5) ∧ ∃ x6 : Int, cl H2 b4 ((o4 + (s1.1.1 : Int).toNat * 5) + 1) = some (.int .i64 x6) ∧ ∃ x7 : Int, cl H2 b4 (((o4 + (s1.1.1 : Int).toNat * 5) + 1) + 1) = some
    (.int .i64 x7) ∧ ∃ x8 : Int, cl H2 b4 ((((o4 + (s1.1.1 : Int).toNat * 5) + 1) + 1) + 1) = some (.int .i64 x8) ∧ ∃ x9 : Int, cl H2 b4 (((((o4 + (s1.1.1 : Int).toNat * 5) + 1) + 1) + 1) + 1) = some (.int .i64 x9) ∧ FnOk
    Tryz.prog pf_f ∧ HCalls Tryz.prog pf_f (pf_a.toList ++ [.agg #[.int .i64 x5, .int .i64 x6, .int .i64 x7, .int .i64 x8, .int .i64 x9]] ++ pf_c.toList) H2 fun v10 H11 => ∃ x12 : Bool, v10 = .bool x12 ∧ cnd x12 (Q (.int
    .i64 s1.1.1) H11) (KeepX [some (.v (.slice ps_A ps_n ps_c)), some (.v (.func (.func pf_f) pf_a pf_c)), some (.v (.int .i64 ((ps_n : Nat) : Int)))] [] ∧ next3 ((IntKind.i64.wrap (s1.1.1 + 1), ()), ()) H11)) (Q (.int
    .i64 (-1)) H2)
noncomputable def fcx84 : Cx := cx 19 [] [(2, ⟨[0, 1, 7], [], [(8, .int .i64)], []⟩)] [] []
theorem f84.eq (ps_A : Option Addr) (ps_n ps_c : Nat) (pf_f : FuncId) (pf_a pf_c : Array Value) (H : Hp) (Q : Value → Hp → Prop) : f84 ps_A ps_n ps_c pf_f pf_a pf_c H Q = wFun fcx84 Tryz.f84 [.slice ps_A ps_n ps_c, .func (.func pf_f) pf_a pf_c] H Q := by kernel_rfl
theorem f84.ok (ps_A : Option Addr) (ps_n ps_c : Nat) (pf_f : FuncId) (pf_a pf_c : Array Value) {H : Hp} {Q : Value → Hp → Prop} (h : f84 ps_A ps_n ps_c pf_f pf_a pf_c H Q) : HCalls Tryz.prog 84 [.slice ps_A ps_n ps_c, .func (.func pf_f) pf_a pf_c] H Q := hcalls_of (cxOk 19 [] [(2, ⟨[0, 1, 7], [], [(8, .int .i64)], []⟩)] [] []) Tryz.func84 (Eq.mp (f84.eq ps_A ps_n ps_c pf_f pf_a pf_c H Q) h)

/-- justiciar history.in -/
def f85 (pn : Int) (H : Hp) (Q : Value → Hp → Prop) : Prop :=
  jn (fun (j1 : Bool) => Q (.bool j1) H) fun J2 => cnd (decide ((pn : Int) ≥ 1)) (J2 (decide ((pn : Int) ≤ 200))) (J2 false)
noncomputable def fcx85 : Cx := cx 9 [] [] [] []
theorem f85.eq (pn : Int) (H : Hp) (Q : Value → Hp → Prop) : f85 pn H Q = wFun fcx85 Tryz.f85 [.int .i64 pn] H Q := by kernel_rfl
theorem f85.ok (pn : Int) {H : Hp} {Q : Value → Hp → Prop} (h : f85 pn H Q) : HCalls Tryz.prog 85 [.int .i64 pn] H Q := hcalls_of (cxOk 9 [] [] [] []) Tryz.func85 (Eq.mp (f85.eq pn H Q) h)

/-- maps.DeleteFunc[map[int]int,int,int] -/
def f86 (pm : Option Nat) (pdel_f : FuncId) (pdel_a pdel_c : Array Value) (H : Hp) (Q : Value → Hp → Prop) : Prop :=
  rangeF H pm fun i1 H2 => LoopF (σ := Unit × Unit) ((), ()) H2 fun s3 H4 next5 => jn (fun (H22 : Hp) => KeepX [some (.v (.map pm)), some (.v (.func (.func pdel_f) pdel_a pdel_c)), some (.v (.pointer (some ⟨i1, 0, none⟩)))]
    [] ∧ next5 ((), ()) H22) fun J23 => jn (fun (j11 : Bool) (H12 : Hp) => cnd j11 (entryF H12 i1 0 fun k14 v15 => ∃ x16 : Int, k14 = .int .i64 x16 ∧ ∃ x17 : Int, v15 = .int .i64 x17 ∧ FnOk Tryz.prog pdel_f ∧ HCalls
    Tryz.prog pdel_f (pdel_a.toList ++ [.int .i64 x16, .int .i64 x17] ++ pdel_c.toList) H12 fun v18 H19 => ∃ x20 : Bool, v18 = .bool x20 ∧ cnd x20 (delF H19 .i64 pm x16 fun H21 => J23 H21) (J23 H19)) (Q (.tuple #[]) H12))
    fun J13 => nextF H4 i1 0 (J13 false H4) fun k6 v7 H8 => ∃ x9 : Int, k6 = .int .i64 x9 ∧ ∃ x10 : Int, v7 = .int .i64 x10 ∧ J13 true H8
noncomputable def fcx86 : Cx := cx 19 [] [(1, ⟨[0, 1, 7], [], [], []⟩)] [] [(8, ((.int .i64 0), (.int .i64 0))), (10, ((.int .i64 0), (.int .i64 0)))]
theorem f86.eq (pm : Option Nat) (pdel_f : FuncId) (pdel_a pdel_c : Array Value) (H : Hp) (Q : Value → Hp → Prop) : f86 pm pdel_f pdel_a pdel_c H Q = wFun fcx86 Tryz.f86 [.map pm, .func (.func pdel_f) pdel_a pdel_c] H Q := by kernel_rfl
theorem f86.ok (pm : Option Nat) (pdel_f : FuncId) (pdel_a pdel_c : Array Value) {H : Hp} {Q : Value → Hp → Prop} (h : f86 pm pdel_f pdel_a pdel_c H Q) : HCalls Tryz.prog 86 [.map pm, .func (.func pdel_f) pdel_a pdel_c] H Q := hcalls_of (cxOk 19 [] [(1, ⟨[0, 1, 7], [], [], []⟩)] [] [(8, ((.int .i64 0), (.int .i64 0))), (10, ((.int .i64 0), (.int .i64 0)))]) Tryz.func86 (Eq.mp (f86.eq pm pdel_f pdel_a pdel_c H Q) h)

/-- (*justiciar history.checker).event$1 -/
def f87 (pax : Int) (pwho : Int) (fra_b fra_o : Nat) (H : Hp) (Q : Value → Hp → Prop) : Prop :=
  ∃ x1 : Int, cl H fra_b (fra_o + 1) = some (.int .i64 x1) ∧ Q (.bool ((pwho : Int) == x1)) H
noncomputable def fcx87 : Cx := cx 10 [] [] [] []
theorem f87.eq (pax : Int) (pwho : Int) (fra_b fra_o : Nat) (H : Hp) (Q : Value → Hp → Prop) : f87 pax pwho fra_b fra_o H Q = wFun fcx87 Tryz.f87 [.int .i64 pax, .int .i64 pwho, .pointer (some ⟨fra_b, fra_o, none⟩)] H Q := by kernel_rfl
theorem f87.ok (pax : Int) (pwho : Int) (fra_b fra_o : Nat) {H : Hp} {Q : Value → Hp → Prop} (h : f87 pax pwho fra_b fra_o H Q) : HCalls Tryz.prog 87 [.int .i64 pax, .int .i64 pwho, .pointer (some ⟨fra_b, fra_o, none⟩)] H Q := hcalls_of (cxOk 10 [] [] [] []) Tryz.func87 (Eq.mp (f87.eq pax pwho fra_b fra_o H Q) h)

/-- maps.Keys[justiciar history.graph,int,[]int]$1 -/
def f93 (pyield_f : FuncId) (pyield_a pyield_c : Array Value) (fra_b fra_o : Nat) (H : Hp) (Q : Value → Hp → Prop) : Prop :=
  ∃ r1 : Option Nat, cl H fra_b fra_o = some (.map r1) ∧ rangeF H r1 fun i2 H3 => LoopF (σ := Unit × Unit) ((), ()) H3 fun s4 H5 next6 => jn (fun (j12 : Bool) (H13 : Hp) => cnd j12 (entryF H13 i2 0 fun k15 v16 => ∃ x17 :
    Int, k15 = .int .i64 x17 ∧ ∃ (A18 : Option Addr) (n18 c18 : Nat), v16 = .slice A18 n18 c18 ∧ FnOk Tryz.prog pyield_f ∧ HCalls Tryz.prog pyield_f (pyield_a.toList ++ [.int .i64 x17] ++ pyield_c.toList) H13 fun v19 H20
    => ∃ x21 : Bool, v19 = .bool x21 ∧ cnd (!x21) (Q (.tuple #[]) H20) (KeepX [some (.v (.func (.func pyield_f) pyield_a pyield_c)), some (.v (.pointer (some ⟨i2, 0, none⟩)))] [] ∧ next6 ((), ()) H20)) (Q (.tuple #[])
    H13)) fun J14 => nextF H5 i2 0 (J14 false H5) fun k7 v8 H9 => ∃ x10 : Int, k7 = .int .i64 x10 ∧ ∃ (A11 : Option Addr) (n11 c11 : Nat), v8 = .slice A11 n11 c11 ∧ J14 true H9
/-- maps.Keys[map[int]bool,int,bool]$1 -/
def f97 (pyield_f : FuncId) (pyield_a pyield_c : Array Value) (fra_b fra_o : Nat) (H : Hp) (Q : Value → Hp → Prop) : Prop :=
  ∃ r1 : Option Nat, cl H fra_b fra_o = some (.map r1) ∧ rangeF H r1 fun i2 H3 => LoopF (σ := Unit × Unit) ((), ()) H3 fun s4 H5 next6 => jn (fun (j12 : Bool) (H13 : Hp) => cnd j12 (entryF H13 i2 0 fun k15 v16 => ∃ x17 :
    Int, k15 = .int .i64 x17 ∧ ∃ x18 : Bool, v16 = .bool x18 ∧ FnOk Tryz.prog pyield_f ∧ HCalls Tryz.prog pyield_f (pyield_a.toList ++ [.int .i64 x17] ++ pyield_c.toList) H13 fun v19 H20 => ∃ x21 : Bool, v19 = .bool x21 ∧
    cnd (!x21) (Q (.tuple #[]) H20) (KeepX [some (.v (.func (.func pyield_f) pyield_a pyield_c)), some (.v (.pointer (some ⟨i2, 0, none⟩)))] [] ∧ next6 ((), ()) H20)) (Q (.tuple #[]) H13)) fun J14 => nextF H5 i2 0 (J14
    false H5) fun k7 v8 H9 => ∃ x10 : Int, k7 = .int .i64 x10 ∧ ∃ x11 : Bool, v8 = .bool x11 ∧ J14 true H9
/-- slices.IndexFunc[[]justiciar api.Arc,justiciar api.Arc] -/
def f98 (ps_A : Option Addr) (ps_n ps_c : Nat) (pf_f : FuncId) (pf_a pf_c : Array Value) (H : Hp) (Q : Value → Hp → Prop) : Prop :=
  LoopF (σ := (Int × Unit) × Unit) ((0, ()), ()) H fun s1 H2 next3 => cnd (decide ((s1.1.1 : Int) < ((ps_n : Nat) : Int))) (0 ≤ (s1.1.1 : Int) ∧ (s1.1.1 : Int) < ((ps_n : Nat) : Int) ∧ onPtr ps_A fun b4 o4 => ∃ x5 : Int, cl
    H2 b4 (o4 + (s1.1.1 : Int).toNat * 4) = some (.int .i64 x5) ∧ ∃ x6 : Int, cl H2 b4 ((o4 + (s1.1.1 : Int).toNat * 4) + 1) = some (.int .i64 x6) ∧ ∃ x7 : Int, cl H2 b4 (((o4 + (s1.1.1 : Int).toNat * 4) + 1) + 1) = some
    (.int .i64 x7) ∧ ∃ x8 : Int, cl H2 b4 ((((o4 + (s1.1.1 : Int).toNat * 4) + 1) + 1) + 1) = some (.int .i64 x8) ∧ FnOk Tryz.prog pf_f ∧ HCalls Tryz.prog pf_f (pf_a.toList ++ [.agg #[.int .i64 x5, .int .i64 x6, .int .i64
    x7, .int .i64 x8]] ++ pf_c.toList) H2 fun v9 H10 => ∃ x11 : Bool, v9 = .bool x11 ∧ cnd x11 (Q (.int .i64 s1.1.1) H10) (KeepX [some (.v (.slice ps_A ps_n ps_c)), some (.v (.func (.func pf_f) pf_a pf_c)), some (.v (.int
    .i64 ((ps_n : Nat) : Int)))] [] ∧ next3 ((IntKind.i64.wrap (s1.1.1 + 1), ()), ()) H10)) (Q (.int .i64 (-1)) H2)
noncomputable def fcx98 : Cx := cx 19 [] [(2, ⟨[0, 1, 7], [], [(8, .int .i64)], []⟩)] [] []
theorem f98.eq (ps_A : Option Addr) (ps_n ps_c : Nat) (pf_f : FuncId) (pf_a pf_c : Array Value) (H : Hp) (Q : Value → Hp → Prop) : f98 ps_A ps_n ps_c pf_f pf_a pf_c H Q = wFun fcx98 Tryz.f98 [.slice ps_A ps_n ps_c, .func (.func pf_f) pf_a pf_c] H Q := by kernel_rfl
theorem f98.ok (ps_A : Option Addr) (ps_n ps_c : Nat) (pf_f : FuncId) (pf_a pf_c : Array Value) {H : Hp} {Q : Value → Hp → Prop} (h : f98 ps_A ps_n ps_c pf_f pf_a pf_c H Q) : HCalls Tryz.prog 98 [.slice ps_A ps_n ps_c, .func (.func pf_f) pf_a pf_c] H Q := hcalls_of (cxOk 19 [] [(2, ⟨[0, 1, 7], [], [(8, .int .i64)], []⟩)] [] []) Tryz.func98 (Eq.mp (f98.eq ps_A ps_n ps_c pf_f pf_a pf_c H Q) h)

/-- (*justiciar history.book).fits -/
def f99 (pb_b pb_o : Nat) (pt : Int) (pstmt : Int) (pplace : Int) (puntil : Int) (H : Hp) (Q : Value → Hp → Prop) : Prop :=
  newMapF H fun m1 H2 => ∃ r3 : Option Nat, cl H2 pb_b (pb_o + 2) = some (.map r3) ∧ lookF H2 .i64 r3 pt (.int .i64 0) fun v4 b5 => ∃ x6 : Int, v4 = .int .i64 x6 ∧ LoopF (σ := (Int × Unit) × Unit) ((x6, ()), ()) H2 fun s7
    H8 next9 => ∃ (A10 : Option Addr) (n10 c10 : Nat), cl H8 pb_b (pb_o + 0) = some (.slice A10 n10 c10) ∧ cnd (decide ((s7.1.1 : Int) < ((n10 : Nat) : Int))) (jn (fun (H40 : Hp) => KeepX [some (.v (.pointer (some ⟨pb_b,
    pb_o, none⟩))), some (.v (.int .i64 pt)), some (.v (.int .i64 pstmt)), some (.v (.int .i64 pplace)), some (.v (.int .i64 puntil)), some (.v (.map (some m1)))] [] ∧ next9 ((IntKind.i64.wrap (s7.1.1 + 1), ()), ()) H40)
    fun J41 => ∃ (A11 : Option Addr) (n11 c11 : Nat), cl H8 pb_b (pb_o + 0) = some (.slice A11 n11 c11) ∧ 0 ≤ (s7.1.1 : Int) ∧ (s7.1.1 : Int) < ((n11 : Nat) : Int) ∧ onPtr A11 fun b12 o12 => ∃ x13 : Int, cl H8 b12 (o12 +
    (s7.1.1 : Int).toNat * 5) = some (.int .i64 x13) ∧ ∃ x14 : Int, cl H8 b12 ((o12 + (s7.1.1 : Int).toNat * 5) + 1) = some (.int .i64 x14) ∧ ∃ x15 : Int, cl H8 b12 (((o12 + (s7.1.1 : Int).toNat * 5) + 1) + 1) = some
    (.int .i64 x15) ∧ ∃ x16 : Int, cl H8 b12 ((((o12 + (s7.1.1 : Int).toNat * 5) + 1) + 1) + 1) = some (.int .i64 x16) ∧ ∃ x17 : Int, cl H8 b12 (((((o12 + (s7.1.1 : Int).toNat * 5) + 1) + 1) + 1) + 1) = some (.int .i64
    x17) ∧ cnd ((x14 : Int) != pt) (J41 H8) (jn (fun (j18 : Bool) => cnd ((x13 : Int) == 2) (jn (fun (j26 : Int) (H27 : Hp) => jn (fun (j29 : Bool) => cnd j29 (Q (.bool false) H27) (J41 H27)) fun J30 => cnd j18 (J30 ((x16
    : Int) != j26)) (J30 false)) fun J28 => lookF H8 .i64 (some m1) x15 (.bool false) fun v20 b21 => ∃ x22 : Bool, v20 = .bool x22 ∧ cnd (!x22) (HCalls Tryz.prog 111 [.pointer (some ⟨pb_b, pb_o, none⟩), .int .i64 x15,
    .int .i64 pplace] H8 fun v23 H24 => ∃ x25 : Int, v23 = .int .i64 x25 ∧ J28 x25 H24) (J28 pt H8)) (cnd ((x13 : Int) == 3) (jn (fun (j31 : Int) => jn (fun (j36 : Bool) (H37 : Hp) => cnd j36 (Q (.bool false) H37) (putF
    H37 .i64 (some m1) x15 (.bool true) fun H39 => J41 H39)) fun J38 => cnd j18 (HCalls Tryz.prog 112 [.pointer (some ⟨pb_b, pb_o, none⟩), .int .i64 pt, .int .i64 x15, .int .i64 pplace, .int .i64 j31] H8 fun v33 H34 => ∃
    x35 : Bool, v33 = .bool x35 ∧ J38 (!x35) H34) (J38 false H8)) fun J32 => cnd (decide ((puntil : Int) < 0)) (J32 s7.1.1) (J32 puntil)) (J41 H8))) fun J19 => cnd ((pstmt : Int) == 0) (J19 true) (J19 ((x17 : Int) ==
    pstmt)))) (Q (.bool true) H8)
noncomputable def fcx99 : Cx := cx 94 [(13, true)] [(3, ⟨[0, 1, 2, 3, 4, 11], [], [(12, .int .i64)], []⟩)] [] []
theorem f99.eq (pb_b pb_o : Nat) (pt : Int) (pstmt : Int) (pplace : Int) (puntil : Int) (H : Hp) (Q : Value → Hp → Prop) : f99 pb_b pb_o pt pstmt pplace puntil H Q = wFun fcx99 Tryz.f99 [.pointer (some ⟨pb_b, pb_o, none⟩), .int .i64 pt, .int .i64 pstmt, .int .i64 pplace, .int .i64 puntil] H Q := by kernel_rfl
theorem f99.ok (pb_b pb_o : Nat) (pt : Int) (pstmt : Int) (pplace : Int) (puntil : Int) {H : Hp} {Q : Value → Hp → Prop} (h : f99 pb_b pb_o pt pstmt pplace puntil H Q) : HCalls Tryz.prog 99 [.pointer (some ⟨pb_b, pb_o, none⟩), .int .i64 pt, .int .i64 pstmt, .int .i64 pplace, .int .i64 puntil] H Q := hcalls_of (cxOk 94 [(13, true)] [(3, ⟨[0, 1, 2, 3, 4, 11], [], [(12, .int .i64)], []⟩)] [] []) Tryz.func99 (Eq.mp (f99.eq pb_b pb_o pt pstmt pplace puntil H Q) h)

/-- cmp.Or[int] -/
def f102 (pvals_A : Option Addr) (pvals_n pvals_c : Nat) (H : Hp) (Q : Value → Hp → Prop) : Prop :=
  LoopF (σ := (Int × Unit) × Unit) ((0, ()), ()) H fun s1 H2 next3 => cnd (decide ((s1.1.1 : Int) < ((pvals_n : Nat) : Int))) (0 ≤ (s1.1.1 : Int) ∧ (s1.1.1 : Int) < ((pvals_n : Nat) : Int) ∧ onPtr pvals_A fun b4 o4 => ∃ x5
    : Int, cl H2 b4 (o4 + (s1.1.1 : Int).toNat * 1) = some (.int .i64 x5) ∧ cnd ((x5 : Int) != 0) (Q (.int .i64 x5) H2) (KeepX [some (.v (.int .i64 0)), some (.v (.slice pvals_A pvals_n pvals_c)), some (.v (.int .i64
    ((pvals_n : Nat) : Int)))] [] ∧ next3 ((IntKind.i64.wrap (s1.1.1 + 1), ()), ()) H2)) (Q (.int .i64 0) H2)
noncomputable def fcx102 : Cx := cx 18 [] [(3, ⟨[3, 6, 7], [], [(8, .int .i64)], []⟩)] [] []
theorem f102.eq (pvals_A : Option Addr) (pvals_n pvals_c : Nat) (H : Hp) (Q : Value → Hp → Prop) : f102 pvals_A pvals_n pvals_c H Q = wFun fcx102 Tryz.f102 [.slice pvals_A pvals_n pvals_c] H Q := by kernel_rfl
theorem f102.ok (pvals_A : Option Addr) (pvals_n pvals_c : Nat) {H : Hp} {Q : Value → Hp → Prop} (h : f102 pvals_A pvals_n pvals_c H Q) : HCalls Tryz.prog 102 [.slice pvals_A pvals_n pvals_c] H Q := hcalls_of (cxOk 18 [] [(3, ⟨[3, 6, 7], [], [(8, .int .i64)], []⟩)] [] []) Tryz.func102 (Eq.mp (f102.eq pvals_A pvals_n pvals_c H Q) h)

/-- cmp.Compare[int] -/
def f103 (px : Int) (py : Int) (H : Hp) (Q : Value → Hp → Prop) : Prop :=
  HCalls Tryz.prog 123 [.int .i64 px] H fun v1 H2 => ∃ x3 : Bool, v1 = .bool x3 ∧ HCalls Tryz.prog 123 [.int .i64 py] H2 fun v4 H5 => ∃ x6 : Bool, v4 = .bool x6 ∧ cnd x3 (cnd x6 (Q (.int .i64 0) H5) (Q (.int .i64 (-1)) H5))
    (cnd x6 (Q (.int .i64 1) H5) (cnd (decide ((px : Int) < py)) (Q (.int .i64 (-1)) H5) (cnd (decide ((px : Int) > py)) (Q (.int .i64 1) H5) (Q (.int .i64 0) H5))))
noncomputable def fcx103 : Cx := cx 20 [] [] [] []
theorem f103.eq (px : Int) (py : Int) (H : Hp) (Q : Value → Hp → Prop) : f103 px py H Q = wFun fcx103 Tryz.f103 [.int .i64 px, .int .i64 py] H Q := by kernel_rfl
theorem f103.ok (px : Int) (py : Int) {H : Hp} {Q : Value → Hp → Prop} (h : f103 px py H Q) : HCalls Tryz.prog 103 [.int .i64 px, .int .i64 py] H Q := hcalls_of (cxOk 20 [] [] [] []) Tryz.func103 (Eq.mp (f103.eq px py H Q) h)

/-- slices.IndexFunc[[]int,int] -/
def f105 (ps_A : Option Addr) (ps_n ps_c : Nat) (pf_f : FuncId) (pf_a pf_c : Array Value) (H : Hp) (Q : Value → Hp → Prop) : Prop :=
  LoopF (σ := (Int × Unit) × Unit) ((0, ()), ()) H fun s1 H2 next3 => cnd (decide ((s1.1.1 : Int) < ((ps_n : Nat) : Int))) (0 ≤ (s1.1.1 : Int) ∧ (s1.1.1 : Int) < ((ps_n : Nat) : Int) ∧ onPtr ps_A fun b4 o4 => ∃ x5 : Int, cl
    H2 b4 (o4 + (s1.1.1 : Int).toNat * 1) = some (.int .i64 x5) ∧ FnOk Tryz.prog pf_f ∧ HCalls Tryz.prog pf_f (pf_a.toList ++ [.int .i64 x5] ++ pf_c.toList) H2 fun v6 H7 => ∃ x8 : Bool, v6 = .bool x8 ∧ cnd x8 (Q (.int
    .i64 s1.1.1) H7) (KeepX [some (.v (.slice ps_A ps_n ps_c)), some (.v (.func (.func pf_f) pf_a pf_c)), some (.v (.int .i64 ((ps_n : Nat) : Int)))] [] ∧ next3 ((IntKind.i64.wrap (s1.1.1 + 1), ()), ()) H7)) (Q (.int .i64
    (-1)) H2)
noncomputable def fcx105 : Cx := cx 19 [] [(2, ⟨[0, 1, 7], [], [(8, .int .i64)], []⟩)] [] []
theorem f105.eq (ps_A : Option Addr) (ps_n ps_c : Nat) (pf_f : FuncId) (pf_a pf_c : Array Value) (H : Hp) (Q : Value → Hp → Prop) : f105 ps_A ps_n ps_c pf_f pf_a pf_c H Q = wFun fcx105 Tryz.f105 [.slice ps_A ps_n ps_c, .func (.func pf_f) pf_a pf_c] H Q := by kernel_rfl
theorem f105.ok (ps_A : Option Addr) (ps_n ps_c : Nat) (pf_f : FuncId) (pf_a pf_c : Array Value) {H : Hp} {Q : Value → Hp → Prop} (h : f105 ps_A ps_n ps_c pf_f pf_a pf_c H Q) : HCalls Tryz.prog 105 [.slice ps_A ps_n ps_c, .func (.func pf_f) pf_a pf_c] H Q := hcalls_of (cxOk 19 [] [(2, ⟨[0, 1, 7], [], [(8, .int .i64)], []⟩)] [] []) Tryz.func105 (Eq.mp (f105.eq ps_A ps_n ps_c pf_f pf_a pf_c H Q) h)

/-- (*justiciar history.book).last -/
def f111 (pb_b pb_o : Nat) (pitem : Int) (pplace : Int) (H : Hp) (Q : Value → Hp → Prop) : Prop :=
  ∃ r1 : Option Nat, cl H pb_b (pb_o + 3) = some (.map r1) ∧ lookF H .i64 r1 pitem (.slice none 0 0) fun v2 b3 => ∃ (A4 : Option Addr) (n4 c4 : Nat), v2 = .slice A4 n4 c4 ∧ LoopF (σ := (Int × (Int × Unit)) × Unit) ((0, (0,
    ())), ()) H fun s5 H6 next7 => cnd (decide ((s5.1.2.1 : Int) < ((n4 : Nat) : Int))) (jn (fun (j14 : Int) => KeepX [some (.v (.pointer (some ⟨pb_b, pb_o, none⟩))), some (.v (.int .i64 pplace)), some (.v (.slice A4 n4
    c4)), some (.v (.int .i64 ((n4 : Nat) : Int)))] [] ∧ next7 ((j14, (IntKind.i64.wrap (s5.1.2.1 + 1), ())), ()) H6) fun J15 => 0 ≤ (s5.1.2.1 : Int) ∧ (s5.1.2.1 : Int) < ((n4 : Nat) : Int) ∧ onPtr A4 fun b8 o8 => ∃ x9 :
    Int, cl H6 b8 (o8 + (s5.1.2.1 : Int).toNat * 1) = some (.int .i64 x9) ∧ ∃ r10 : Option Nat, cl H6 pb_b (pb_o + 1) = some (.map r10) ∧ lookF H6 .i64 r10 x9 (.int .i64 0) fun v11 b12 => ∃ x13 : Int, v11 = .int .i64 x13
    ∧ cnd (decide ((x13 : Int) < pplace)) (J15 x9) (J15 s5.1.1)) (Q (.int .i64 s5.1.1) H6)
noncomputable def fcx111 : Cx := cx 32 [] [(3, ⟨[0, 2, 15, 16], [], [(7, .int .i64), (17, .int .i64)], []⟩)] [] []
theorem f111.eq (pb_b pb_o : Nat) (pitem : Int) (pplace : Int) (H : Hp) (Q : Value → Hp → Prop) : f111 pb_b pb_o pitem pplace H Q = wFun fcx111 Tryz.f111 [.pointer (some ⟨pb_b, pb_o, none⟩), .int .i64 pitem, .int .i64 pplace] H Q := by kernel_rfl
theorem f111.ok (pb_b pb_o : Nat) (pitem : Int) (pplace : Int) {H : Hp} {Q : Value → Hp → Prop} (h : f111 pb_b pb_o pitem pplace H Q) : HCalls Tryz.prog 111 [.pointer (some ⟨pb_b, pb_o, none⟩), .int .i64 pitem, .int .i64 pplace] H Q := hcalls_of (cxOk 32 [] [(3, ⟨[0, 2, 15, 16], [], [(7, .int .i64), (17, .int .i64)], []⟩)] [] []) Tryz.func111 (Eq.mp (f111.eq pb_b pb_o pitem pplace H Q) h)

/-- (*justiciar history.book).clean -/
def f112 (pb_b pb_o : Nat) (pt : Int) (pitem : Int) (pfrm : Int) (pto : Int) (H : Hp) (Q : Value → Hp → Prop) : Prop :=
  newF H 56 [.pointer (some ⟨pb_b, pb_o, none⟩)] fun g1 H2 => newF H2 3 [.int .i64 pt] fun g3 H4 => newF H4 3 [.int .i64 pfrm] fun g5 H6 => newF H6 3 [.int .i64 pto] fun g7 H8 => ∃ p9 : Option Addr, cl H8 g1 0 = some
    (.pointer p9) ∧ onPtr p9 fun b10 o10 => ∃ r11 : Option Nat, cl H8 b10 (o10 + 3) = some (.map r11) ∧ lookF H8 .i64 r11 pitem (.slice none 0 0) fun v12 b13 => ∃ (A14 : Option Addr) (n14 c14 : Nat), v12 = .slice A14 n14
    c14 ∧ HCalls Tryz.prog 82 [.slice A14 n14 c14, .func (.func 135) #[] #[.pointer (some ⟨g3, 0, none⟩), .pointer (some ⟨g1, 0, none⟩), .pointer (some ⟨g5, 0, none⟩), .pointer (some ⟨g7, 0, none⟩)]] H8 fun v15 H16 => ∃
    x17 : Bool, v15 = .bool x17 ∧ Q (.bool (!x17)) H16
noncomputable def fcx112 : Cx := cx 20 [] [] [] []
theorem f112.eq (pb_b pb_o : Nat) (pt : Int) (pitem : Int) (pfrm : Int) (pto : Int) (H : Hp) (Q : Value → Hp → Prop) : f112 pb_b pb_o pt pitem pfrm pto H Q = wFun fcx112 Tryz.f112 [.pointer (some ⟨pb_b, pb_o, none⟩), .int .i64 pt, .int .i64 pitem, .int .i64 pfrm, .int .i64 pto] H Q := by kernel_rfl
theorem f112.ok (pb_b pb_o : Nat) (pt : Int) (pitem : Int) (pfrm : Int) (pto : Int) {H : Hp} {Q : Value → Hp → Prop} (h : f112 pb_b pb_o pt pitem pfrm pto H Q) : HCalls Tryz.prog 112 [.pointer (some ⟨pb_b, pb_o, none⟩), .int .i64 pt, .int .i64 pitem, .int .i64 pfrm, .int .i64 pto] H Q := hcalls_of (cxOk 20 [] [] [] []) Tryz.func112 (Eq.mp (f112.eq pb_b pb_o pt pitem pfrm pto H Q) h)

/-- cmp.isNaN[int] -/
def f123 (px : Int) (H : Hp) (Q : Value → Hp → Prop) : Prop :=
  Q (.bool ((px : Int) != px)) H
noncomputable def fcx123 : Cx := cx 6 [] [] [] []
theorem f123.eq (px : Int) (H : Hp) (Q : Value → Hp → Prop) : f123 px H Q = wFun fcx123 Tryz.f123 [.int .i64 px] H Q := by kernel_rfl
theorem f123.ok (px : Int) {H : Hp} {Q : Value → Hp → Prop} (h : f123 px H Q) : HCalls Tryz.prog 123 [.int .i64 px] H Q := hcalls_of (cxOk 6 [] [] [] []) Tryz.func123 (Eq.mp (f123.eq px H Q) h)

/-- cmp.Less[int] -/
def f130 (px : Int) (py : Int) (H : Hp) (Q : Value → Hp → Prop) : Prop :=
  jn (fun (j7 : Bool) (H8 : Hp) => Q (.bool j7) H8) fun J9 => HCalls Tryz.prog 123 [.int .i64 px] H fun v1 H2 => ∃ x3 : Bool, v1 = .bool x3 ∧ cnd x3 (HCalls Tryz.prog 123 [.int .i64 py] H2 fun v4 H5 => ∃ x6 : Bool, v4 =
    .bool x6 ∧ cnd (!x6) (J9 true H5) (J9 (decide ((px : Int) < py)) H5)) (J9 (decide ((px : Int) < py)) H2)
/-- (*justiciar history.book).clean$1 -/
def f135 (pu : Int) (fra_b fra_o : Nat) (frb_b frb_o : Nat) (frc_b frc_o : Nat) (frd_b frd_o : Nat) (H : Hp) (Q : Value → Hp → Prop) : Prop :=
  jn (fun (j16 : Bool) => Q (.bool j16) H) fun J17 => ∃ x1 : Int, cl H fra_b fra_o = some (.int .i64 x1) ∧ cnd ((pu : Int) != x1) (∃ p2 : Option Addr, cl H frb_b frb_o = some (.pointer p2) ∧ onPtr p2 fun b3 o3 => ∃ r4 :
    Option Nat, cl H b3 (o3 + 1) = some (.map r4) ∧ ∃ x5 : Int, cl H frc_b frc_o = some (.int .i64 x5) ∧ lookF H .i64 r4 pu (.int .i64 0) fun v6 b7 => ∃ x8 : Int, v6 = .int .i64 x8 ∧ H frc_b = H frc_b ∧ cnd (decide ((x8 :
    Int) ≥ x5)) (∃ p9 : Option Addr, cl H frb_b frb_o = some (.pointer p9) ∧ onPtr p9 fun b10 o10 => ∃ r11 : Option Nat, cl H b10 (o10 + 1) = some (.map r11) ∧ ∃ x12 : Int, cl H frd_b frd_o = some (.int .i64 x12) ∧ lookF
    H .i64 r11 pu (.int .i64 0) fun v13 b14 => ∃ x15 : Int, v13 = .int .i64 x15 ∧ H frd_b = H frd_b ∧ J17 (decide ((x15 : Int) < x12))) (H frd_b = H frd_b ∧ J17 false)) (H frc_b = H frc_b ∧ H frd_b = H frd_b ∧ J17 false)
noncomputable def fcx135 : Cx := cx 30 [] [] [(1, (.look 0 (.look 1 (.look 2 (.look 3 (.look 4 (.look 5 (.look 6 (.look 7 (.look 8 (.look 10 (.act 9 (.look 11 (.look 12 (.look 13 (.look 14 (.look 15 (.look 16 (.look 17 (.look 18 (.look 20 (.act 19 (.look 21 (.look 22 (.act 23 .done .done))) .done)))))))))) .done))))))))))))] []
theorem f135.eq (pu : Int) (fra_b fra_o : Nat) (frb_b frb_o : Nat) (frc_b frc_o : Nat) (frd_b frd_o : Nat) (H : Hp) (Q : Value → Hp → Prop) : f135 pu fra_b fra_o frb_b frb_o frc_b frc_o frd_b frd_o H Q = wFun fcx135 Tryz.f135 [.int .i64 pu, .pointer (some ⟨fra_b, fra_o, none⟩), .pointer (some ⟨frb_b, frb_o, none⟩), .pointer (some ⟨frc_b, frc_o, none⟩), .pointer (some ⟨frd_b, frd_o, none⟩)] H Q := by kernel_rfl
theorem f135.ok (pu : Int) (fra_b fra_o : Nat) (frb_b frb_o : Nat) (frc_b frc_o : Nat) (frd_b frd_o : Nat) {H : Hp} {Q : Value → Hp → Prop} (h : f135 pu fra_b fra_o frb_b frb_o frc_b frc_o frd_b frd_o H Q) : HCalls Tryz.prog 135 [.int .i64 pu, .pointer (some ⟨fra_b, fra_o, none⟩), .pointer (some ⟨frb_b, frb_o, none⟩), .pointer (some ⟨frc_b, frc_o, none⟩), .pointer (some ⟨frd_b, frd_o, none⟩)] H Q := hcalls_of (cxOk 30 [] [] [(1, (.look 0 (.look 1 (.look 2 (.look 3 (.look 4 (.look 5 (.look 6 (.look 7 (.look 8 (.look 10 (.act 9 (.look 11 (.look 12 (.look 13 (.look 14 (.look 15 (.look 16 (.look 17 (.look 18 (.look 20 (.act 19 (.look 21 (.look 22 (.act 23 .done .done))) .done)))))))))) .done))))))))))))] []) Tryz.func135 (Eq.mp (f135.eq pu fra_b fra_o frb_b frb_o frc_b frc_o frd_b frd_o H Q) h)

end Go.Proofs.YtibhpoikhkokiaaGreat.Hw

/- Heaps that grow, slices in them, and what the memory operations of the evaluator come to. -/
set_option linter.unusedVariables false
set_option linter.unusedSimpArgs false
namespace Go.Proofs.YtibhpoikhkokiaaGreat.Hw
open Go

/-- Whatever the one heap has, the other has too. -/
def Ext (H H' : Hp) : Prop := ∀ b o, H b = some o → H' b = some o
theorem Ext.refl (H : Hp) : Ext H H := fun _ _ h => h
theorem Ext.trans {H1 H2 H3 : Hp} (h : Ext H1 H2) (h' : Ext H2 H3) : Ext H1 H3 := fun b o hb => h' b o (h b o hb)
theorem upd_at {α : Type} {t : Nat} {a : α} {e : Nat → Option α} : upd t a e t = some a := by simp [upd]
theorem upd_off {α : Type} {t x : Nat} {a : α} {e : Nat → Option α} (h : x ≠ t) : upd t a e x = e x := by
  unfold upd
  cases hb : Nat.beq x t with
  | true => exact absurd (Nat.eq_of_beq_eq_true hb) h
  | false => rfl
theorem Ext.new {H : Hp} {b : Nat} {o : Obj} (h : H b = none) : Ext H (upd b o H) := fun x p hx => by
  rw [upd_off (fun e => by rw [e, h] at hx; cases hx)]; exact hx
theorem Ext.upd {H0 H : Hp} {b : Nat} {o : Obj} (h : Ext H0 H) (hb : H0 b = none) : Ext H0 (upd b o H) := fun x p hx => by
  rw [upd_off (fun e => by rw [e, hb] at hx; cases hx)]; exact h x p hx
theorem Ext.none {H H' : Hp} (h : Ext H H') {b : Nat} (hb : H' b = none) : H b = none := by
  cases hx : H b with
  | none => rfl
  | some o => rw [h b o hx] at hb; cases hb

theorem cl_ext {H H' : Hp} (h : Ext H H') {b o : Nat} {v : Value} (hc : cl H b o = some v) : cl H' b o = some v := by
  unfold cl at hc ⊢
  cases hb : H b with
  | none => rw [hb] at hc; cases hc
  | some p => rw [hb] at hc; rw [h b p hb]; exact hc
theorem cellsAt_ext {H H' : Hp} (h : Ext H H') {A : Option Addr} {l : List Value} (hc : cellsAt H A l) : cellsAt H' A l := by
  rcases hc with hc | ⟨b, o, hA, hc⟩
  · exact .inl hc
  · exact .inr ⟨b, o, hA, fun j v hj => cl_ext h (hc j v hj)⟩
theorem cl_cells {H : Hp} {b : Nat} {cs : List Value} {ty : Nat} {z : Nat × Nat} (h : H b = some (.cells cs.toArray ty z)) (o : Nat) : cl H b o = cs[o]? := by
  unfold cl; rw [h]; simp
/-- A slice's element: where it lies. -/
theorem at_cells {H : Hp} {A : Option Addr} {vs : List Value} (h : cellsAt H A vs) (hn : vs ≠ []) {K : Nat → Nat → Prop}
    (hk : ∀ b o, A = some ⟨b, o, none⟩ → (∀ j v, vs[j]? = some v → cl H b (o + j) = some v) → K b o) : onPtr A K := by
  rcases h with h | ⟨b, o, rfl, h⟩
  · exact absurd h hn
  · exact hk b o rfl h
theorem cellsAt_take {H : Hp} {A : Option Addr} {vs : List Value} {k : Nat} (h : cellsAt H A vs) : cellsAt H A (vs.take k) := by
  rcases h with h | ⟨b, o, rfl, h⟩
  · subst h; exact .inl (by simp)
  · exact .inr ⟨b, o, rfl, fun j v hj => by
      rw [List.getElem?_take] at hj
      split at hj
      · exact h j v hj
      · cases hj⟩

theorem wrap_id {x : Int} (h1 : -9223372036854775808 ≤ x) (h2 : x < 9223372036854775808) : IntKind.i64.wrap x = x := by
  unfold IntKind.wrap
  simp [IntKind.bits, IntKind.signed]
  omega

/-- The same, with the loop's step handed on as it is. -/
theorem loop_to {σ : Type} {s0 : σ} {H : Hp} {body : σ → Hp → (σ → Hp → Prop) → Prop} (n : Nat) (I : Nat → σ → Hp → Prop) (h0 : I 0 s0 H)
    (hs : ∀ i s H' (next : σ → Hp → Prop), i ≤ n → I i s H' → (∀ s' H2, i < n → I (i + 1) s' H2 → next s' H2) → body s H' next) : LoopF s0 H body :=
  ⟨fun m s H' => ∃ i, i + m = n ∧ I i s H', ⟨n, 0, by omega, h0⟩, fun m s H' ⟨i, hi, hI⟩ => hs i s H' _ (by omega) hI (fun s' H2 hlt h2 => ⟨n - (i + 1), by omega, i + 1, by omega, h2⟩)⟩

theorem cndT {b : Bool} {A B : Prop} (h : b = true) (hA : A) : cnd b A B := by subst h; exact hA
theorem cndF {b : Bool} {A B : Prop} (h : b = false) (hB : B) : cnd b A B := by subst h; exact hB
theorem cndI {b : Bool} {A B : Prop} (hA : b = true → A) (hB : b = false → B) : cnd b A B := by
  cases b
  · exact hB rfl
  · exact hA rfl
theorem onPtrI {b o : Nat} {K : Nat → Nat → Prop} (h : K b o) : onPtr (some ⟨b, o, none⟩) K := h
/-- A loop over the indices of a slice. -/
theorem scan {n : Nat} {H : Hp} {body : ((Int × Unit) × Unit) → Hp → (((Int × Unit) × Unit) → Hp → Prop) → Prop} (hn : n < 4611686018427387904) (I : Nat → Hp → Prop) (h0 : I 0 H)
    (hs : ∀ (i : Nat) H' next, i < n → I i H' → (∀ H2, I (i + 1) H2 → next ((IntKind.i64.wrap ((i : Int) + 1), ()), ()) H2) → body (((i : Int), ()), ()) H' next)
    (he : ∀ H' next, I n H' → body (((n : Int), ()), ()) H' next) : LoopF (((0 : Int), ()), ()) H body := by
  refine loop_to n (fun i s H' => s = (((i : Int), ()), ()) ∧ I i H') ⟨rfl, h0⟩ ?_
  rintro i s H' next hi ⟨rfl, hI⟩ hnext
  by_cases h : i < n
  · refine hs i H' next h hI fun H2 h2 => hnext _ _ h ⟨?_, h2⟩
    rw [wrap_id (by omega) (by omega)]
    rfl
  · obtain rfl : i = n := by omega
    exact he H' next hI

/-! ### rows: blocks of their own behind slices -/
/-- A slice whose block is its own (no other slice of 'H0' has it), of which the first cells are known. -/
def Row (H0 H : Hp) (A : Option Addr) (n c esz : Nat) (vals : List Value) : Prop :=
  vals.length = n * esz ∧ n ≤ c ∧ ((A = none ∧ c = 0) ∨ ∃ (b : Nat) (cs : List Value) (ty : Nat), A = some ⟨b, 0, none⟩ ∧ H b = some (.cells cs.toArray ty (0, 0)) ∧ c * esz ≤ cs.length ∧ cs.take (n * esz) = vals ∧ H0 b = none)
/-- The block of a row, if it has one. -/
def rowB (A : Option Addr) (b : Nat) : Prop := ∃ o q, A = some ⟨b, o, q⟩
theorem Row.cells {H0 H : Hp} {A : Option Addr} {n c esz : Nat} {vals : List Value} (h : Row H0 H A n c esz vals) : cellsAt H A vals := by
  obtain ⟨h1, h2, h3 | ⟨b, cs, ty, rfl, hb, hl, ht, _⟩⟩ := h
  · left
    have : n = 0 := by omega
    subst this
    simpa using h1
  · right
    refine ⟨b, 0, rfl, fun j v hj => ?_⟩
    rw [cl_cells hb, Nat.zero_add]
    rw [← ht, List.getElem?_take] at hj
    split at hj
    · exact hj
    · cases hj
/-- A row stays where its block stays. -/
theorem Row.keep {H0 H H' : Hp} {A : Option Addr} {n c esz : Nat} {vals : List Value} (h : Row H0 H A n c esz vals) (hk : ∀ b, rowB A b → H' b = H b) : Row H0 H' A n c esz vals := by
  obtain ⟨h1, h2, h3 | ⟨b, cs, ty, rfl, hb, hl, ht, hz⟩⟩ := h
  · exact ⟨h1, h2, .inl h3⟩
  · exact ⟨h1, h2, .inr ⟨b, cs, ty, rfl, (hk b ⟨_, _, rfl⟩).trans hb, hl, ht, hz⟩⟩
theorem Row.lt {H0 H : Hp} {A : Option Addr} {n c esz : Nat} {vals : List Value} (h : Row H0 H A n c esz vals) {b : Nat} (hb : rowB A b) : H b ≠ none ∧ H0 b = none := by
  obtain ⟨h1, h2, h3 | ⟨b', cs, ty, rfl, hb', hl, ht, hz⟩⟩ := h
  · obtain ⟨o, q, hA⟩ := hb; rw [h3.1] at hA; cases hA
  · obtain ⟨o, q, hA⟩ := hb
    cases hA
    exact ⟨by rw [hb']; simp, hz⟩
theorem Row.base {H0 H1 H : Hp} {A : Option Addr} {n c esz : Nat} {vals : List Value} (h : Row H1 H A n c esz vals) (hx : Ext H0 H1) : Row H0 H A n c esz vals := by
  obtain ⟨h1, h2, h3 | ⟨b, cs, ty, rfl, hb, hl, ht, hz⟩⟩ := h
  · exact ⟨h1, h2, .inl h3⟩
  · exact ⟨h1, h2, .inr ⟨b, cs, ty, rfl, hb, hl, ht, hx.none hz⟩⟩
theorem Row.nil {H0 H : Hp} {esz : Nat} : Row H0 H none 0 0 esz [] := ⟨by simp, Nat.le_refl _, .inl ⟨rfl, rfl⟩⟩

theorem setR_take {cs vs : List Value} {o : Nat} (h : o + vs.length ≤ cs.length) : (setR cs o vs).take (o + vs.length) = cs.take o ++ vs := by
  unfold setR
  rw [List.take_append_of_le_length (by rw [List.length_append, List.length_take]; omega), List.take_of_length_le (by rw [List.length_append, List.length_take]; omega)]
theorem setR_length {cs vs : List Value} {o : Nat} (h : o + vs.length ≤ cs.length) : (setR cs o vs).length = cs.length := by
  unfold setR
  rw [List.length_append, List.length_append, List.length_take, List.length_drop]; omega

/-- Appending to a row: it stays a row, and no block but its own, or a new one, is touched. -/
theorem Row.append {H0 H : Hp} {A B : Option Addr} {n c m el esz eby : Nat} {vals new : List Value} {K : Option Addr → Nat → Nat → Hp → Prop} (R : Row H0 H A n c esz vals) (hx : Ext H0 H)
    (hnew : cellsAt H B new) (hl : new.length = m * esz) (ho : ∀ v ∈ new, v.oneCell' = true) (hz1 : (n + m) * eby ≤ 140737488355328) (hz2 : n + m ≤ 140737488355328)
    (hk : ∀ A' c' H', Row H0 H' A' (n + m) c' esz (vals ++ new) → Ext H0 H' → (∀ b, H' b ≠ H b → rowB A' b ∧ (rowB A b ∨ H b = none)) → (∀ b, rowB A' b → rowB A b ∨ H b = none) → (n + m ≤ c → A' = A ∧ c' = c) → K A' (n + m) c' H') :
    appendF H el esz eby A n c B m K := by
  have hR := R
  obtain ⟨h1, h2, h3⟩ := R
  have hmul : (n + m) * esz = n * esz + m * esz := Nat.add_mul _ _ _
  have hmn : c < n + m → c * esz ≤ (n + m) * esz := fun h => Nat.mul_le_mul_right _ (by omega)
  refine ⟨hz1, hz2, new, hl, hnew, ho, fun hc => ⟨fun hm => ?_, fun hm => ?_⟩, fun hc => ⟨vals, h1, hR.cells, fun b cap rest hb hcap hcl hrl => ?_⟩⟩
  · subst hm
    have : new = [] := List.length_eq_zero_iff.1 (by simpa using hl)
    subst this
    exact hk A c H (by simpa using hR) hx (fun b hb => absurd rfl hb) (fun b hb => .inl hb) (fun _ => ⟨rfl, rfl⟩)
  · rcases h3 with h3 | ⟨b, cs, ty, rfl, hb, hcl, ht, hz⟩
    · omega
    · have hle : (n + m) * esz ≤ cs.length := Nat.le_trans (Nat.mul_le_mul_right _ hc) hcl
      refine ⟨b, 0, cs, ty, rfl, hb, by omega, ?_⟩
      rw [Nat.zero_add]
      refine hk _ c _ ⟨?_, hc, .inr ⟨b, setR cs (n * esz) new, ty, rfl, upd_at, ?_, ?_, hz⟩⟩ (hx.upd hz) ?_ (fun b' hb' => .inl hb') (fun _ => ⟨rfl, rfl⟩)
      · rw [List.length_append, h1, hl, hmul]
      · rw [setR_length (by omega)]; exact hcl
      · rw [hmul, ← hl, setR_take (by omega), ht]
      · intro b' hb'
        by_cases hbb : b' = b
        · subst hbb; exact ⟨⟨_, _, rfl⟩, .inl ⟨_, _, rfl⟩⟩
        · exact absurd (upd_off hbb) hb'
  · refine hk _ cap _ ⟨?_, hcap, .inr ⟨b, vals ++ new ++ rest, el, rfl, upd_at, ?_, ?_, hx.none hb⟩⟩ (hx.upd (hx.none hb)) ?_ ?_ (fun h => by omega)
    · rw [List.length_append, h1, hl, hmul]
    · have h4 : cap * esz = (n + m) * esz + (cap - (n + m)) * esz := by rw [← Nat.add_mul]; congr 1; omega
      rw [List.length_append, List.length_append, h1, hl, hrl, h4, hmul]; exact Nat.le_refl _
    · rw [List.take_append_of_le_length (by rw [List.length_append, h1, hl, hmul]; exact Nat.le_refl _), List.take_of_length_le (by rw [List.length_append, h1, hl, hmul]; exact Nat.le_refl _)]
    · intro b' hb'
      by_cases hbb : b' = b
      · subst hbb; exact ⟨⟨_, _, rfl⟩, .inr hb⟩
      · exact absurd (upd_off hbb) hb'
    · rintro b' ⟨o, q, h⟩
      cases h
      exact .inr hb

/-! ### slices that are read -/
def ints (l : List Int) : List Value := l.map (fun x => .int .i64 x)
theorem flat_get {α : Type} {f : α → List Value} {k : Nat} : ∀ {l : List α} {i j : Nat} {x : α}, (∀ x ∈ l, (f x).length = k) → l[i]? = some x → j < k → (l.flatMap f)[i * k + j]? = (f x)[j]?
  | [], i, j, x, _, h, _ => by simp at h
  | y :: r, 0, j, x, hl, h, hj => by
    simp at h
    subst h
    rw [List.flatMap_cons, Nat.zero_mul, Nat.zero_add, List.getElem?_append_left (by rw [hl y List.mem_cons_self]; exact hj)]
  | y :: r, i + 1, j, x, hl, h, hj => by
    rw [List.flatMap_cons, show (i + 1) * k + j = (f y).length + (i * k + j) by rw [hl y List.mem_cons_self, Nat.add_mul]; omega, List.getElem?_append_right (by omega), Nat.add_sub_cancel_left]
    exact flat_get (fun z hz => hl z (List.mem_cons_of_mem _ hz)) (by simpa using h) hj
theorem flat_length {α : Type} {f : α → List Value} {k : Nat} : ∀ {l : List α}, (∀ x ∈ l, (f x).length = k) → (l.flatMap f).length = l.length * k
  | [], _ => by simp
  | y :: r, hl => by
    rw [List.flatMap_cons, List.length_append, flat_length (fun z hz => hl z (List.mem_cons_of_mem _ hz)), hl y List.mem_cons_self, List.length_cons, Nat.add_mul]; omega
theorem flat_ne {α : Type} {f : α → List Value} {k : Nat} {l : List α} (hl : ∀ x ∈ l, (f x).length = k) (hk : 0 < k) (h : l ≠ []) : l.flatMap f ≠ [] := fun e => by
  have := flat_length hl
  rw [e] at this
  cases l with
  | nil => exact h rfl
  | cons y r => simp only [List.length_nil, List.length_cons, Nat.add_mul] at this; omega
end Go.Proofs.YtibhpoikhkokiaaGreat.Hw

/- Maps whose keys are whole numbers: what the evaluator's words come to, said of lists of pairs. -/
set_option linter.unusedVariables false
set_option linter.unusedSimpArgs false
namespace Go.Proofs.YtibhpoikhkokiaaGreat.Hw
open Go
abbrev KV := List (Int × Value)
def kvGet (kv : KV) (x : Int) : Option Value := (kv.find? (fun p => decide (x = p.1))).map (·.2)
def kvPut (kv : KV) (x : Int) (v : Value) : KV := match kv.findIdx? (fun p => decide (x = p.1)) with
  | some i => kv.set i (x, v)
  | none => kv ++ [(x, v)]
def kvDel (kv : KV) (x : Int) : KV := match kv.findIdx? (fun p => decide (x = p.1)) with
  | some i => kv.eraseIdx i
  | none => kv
def keysD (kv : KV) : Prop := (kv.map (·.1)).Nodup
/-- The entries of a map, as pairs. -/
def EsOf (k : IntKind) (es : Array MapEntry) (clock : Nat) (kv : KV) : Prop :=
  es.toList.map (fun e => (e.key, e.val)) = kv.map (fun p => (Value.int k p.1, p.2)) ∧ (es.toList.map (·.born)).Nodup ∧ (∀ e ∈ es.toList, e.born < clock) ∧ keysD kv
def MapAt (k : IntKind) (H : Hp) (b : Nat) (kv : KV) : Prop := ∃ es clock, H b = some (.map es clock) ∧ EsOf k es clock kv
section
variable {k : IntKind} {H : Hp} {es : Array MapEntry} {clock : Nat} {kv : KV} {x : Int} {v : Value}
theorem EsOf.ints (h : EsOf k es clock kv) : intKeys k es.toList := fun e he => by
  have : (e.key, e.val) ∈ kv.map (fun p => (Value.int k p.1, p.2)) := by rw [← h.1]; exact List.mem_map_of_mem he
  obtain ⟨p, _, hp⟩ := List.mem_map.1 this
  injection hp with h1 h2
  exact ⟨p.1, h1.symm⟩
theorem esOf_at : ∀ {l : List MapEntry} {kv : KV}, l.map (fun e => (e.key, e.val)) = kv.map (fun p => (Value.int k p.1, p.2)) → l.findIdx? (isKey x) = kv.findIdx? (fun p => decide (x = p.1))
  | [], [], _ => rfl
  | [], _ :: _, h => by cases h
  | _ :: _, [], h => by cases h
  | e :: l, p :: r, h => by
    simp only [List.map_cons, List.cons.injEq, Prod.mk.injEq] at h
    rw [List.findIdx?_cons, List.findIdx?_cons, esOf_at (l := l) (kv := r) h.2]
    have : isKey x e = decide (x = p.1) := by unfold isKey; rw [h.1.1]
    rw [this]
theorem esOf_find : ∀ {l : List MapEntry} {kv : KV}, l.map (fun e => (e.key, e.val)) = kv.map (fun p => (Value.int k p.1, p.2)) → findE x l = kvGet kv x
  | [], [], _ => rfl
  | [], _ :: _, h => by cases h
  | _ :: _, [], h => by cases h
  | e :: l, p :: r, h => by
    simp only [List.map_cons, List.cons.injEq, Prod.mk.injEq] at h
    have ih := esOf_find (l := l) (kv := r) h.2
    unfold findE kvGet at ih ⊢
    rw [List.find?_cons, List.find?_cons]
    have : isKey x e = decide (x = p.1) := by unfold isKey; rw [h.1.1]
    rw [this]
    cases decide (x = p.1) with
    | true => simp [h.1.2]
    | false => exact ih
theorem esOf_len (h : EsOf k es clock kv) : es.size = kv.length := by
  have := congrArg List.length h.1
  simpa using this
theorem look_to {b : Nat} {z : Value} {K : Value → Bool → Prop} (h : MapAt k H b kv) (hk : K ((kvGet kv x).getD z) (kvGet kv x).isSome) : lookF H k (some b) x z K := by
  obtain ⟨es, clock, hb, he⟩ := h
  refine ⟨es, clock, hb, he.ints, ?_⟩
  rw [esOf_find he.1]; exact hk
theorem size_to {b : Nat} {K : Nat → Prop} (h : MapAt k H b kv) (hk : K kv.length) : sizeF H (some b) K := by
  obtain ⟨es, clock, hb, he⟩ := h
  exact ⟨es, clock, hb, by rw [esOf_len he]; exact hk⟩
theorem keysD_put (h : keysD kv) : keysD (kvPut kv x v) := by
  unfold kvPut
  split
  · rename_i i hi
    rw [List.findIdx?_eq_some_iff_getElem] at hi
    obtain ⟨hlt, hp, _⟩ := hi
    have hp := of_decide_eq_true hp
    unfold keysD at h ⊢
    have : (kv.set i (x, v)).map (·.1) = kv.map (·.1) := by
      rw [List.map_set]
      apply List.ext_getElem
      · simp
      · intro j h1 h2
        rw [List.getElem_set]
        split
        · rename_i e; subst e; simp [hp]
        · rfl
    rw [this]; exact h
  · rename_i hn
    rw [List.findIdx?_eq_none_iff] at hn
    unfold keysD at h ⊢
    rw [List.map_append, List.nodup_append]
    refine ⟨h, by simp, fun a ha c hc => ?_⟩
    obtain ⟨p, hp, rfl⟩ := List.mem_map.1 ha
    simp only [List.map_cons, List.map_nil, List.mem_singleton] at hc
    subst hc
    have := of_decide_eq_false (hn p hp)
    exact fun e => this e.symm
theorem esOf_put (h : EsOf k es clock kv) : ∃ es' clock', putE k x v es clock = .map es' clock' ∧ EsOf k es' clock' (kvPut kv x v) := by
  obtain ⟨h1, h2, h3, h4⟩ := h
  have hk := keysD_put (x := x) (v := v) h4
  unfold putE
  rw [esOf_at h1]
  cases hi : kv.findIdx? (fun p => decide (x = p.1)) with
  | some i =>
    refine ⟨_, clock, rfl, ?_⟩
    have hput : kvPut kv x v = kv.set i (x, v) := by unfold kvPut; rw [hi]
    rw [hput] at hk ⊢
    rw [List.findIdx?_eq_some_iff_getElem] at hi
    obtain ⟨hlt, hp, _⟩ := hi
    have hlen : es.size = kv.length := by have := congrArg List.length h1; simpa using this
    have hmod : (es.modify i fun e => { e with key := .int k x, val := v }).toList = es.toList.modify i fun e => { e with key := .int k x, val := v } := by simp
    refine ⟨?_, ?_, ?_, hk⟩
    · rw [hmod]
      have h1' := h1
      apply List.ext_getElem?
      intro j
      have hj := congrArg (fun l => l[j]?) h1'
      simp only [List.getElem?_map] at hj
      simp only [List.getElem?_map, List.getElem?_modify, List.getElem?_set]
      by_cases e : i = j
      · subst e
        have : i < es.toList.length := by simpa using hlen ▸ hlt
        simp [List.getElem?_eq_getElem this, hlt]
      · simp only [e, if_false]
        rw [← hj]
        cases es.toList[j]? <;> rfl
    · rw [hmod]
      have : (es.toList.modify i fun e => { e with key := .int k x, val := v }).map (·.born) = es.toList.map (·.born) := by
        apply List.ext_getElem?
        intro j
        simp only [List.getElem?_map, List.getElem?_modify]
        by_cases e : i = j
        · subst e; simp only [if_true]; cases es.toList[i]? <;> rfl
        · simp only [e, if_false]; cases es.toList[j]? <;> rfl
      rw [this]; exact h2
    · intro e he
      rw [hmod] at he
      obtain ⟨j, hj⟩ := List.getElem?_of_mem he
      rw [List.getElem?_modify] at hj
      cases hx : es.toList[j]? with
      | none => rw [hx] at hj; cases hj
      | some e0 =>
        rw [hx] at hj
        simp only [Option.map_eq_map, Option.map_some, Option.some.injEq] at hj
        have hb := h3 e0 (List.mem_of_getElem? hx)
        subst hj
        split <;> exact hb
  | none =>
    refine ⟨_, clock + 1, rfl, ?_⟩
    have hput : kvPut kv x v = kv ++ [(x, v)] := by unfold kvPut; rw [hi]
    rw [hput] at hk ⊢
    refine ⟨by simp [h1], ?_, ?_, hk⟩
    · rw [Array.toList_push, List.map_append, List.nodup_append]
      refine ⟨h2, by simp, fun a ha c hc => ?_⟩
      obtain ⟨e, he, rfl⟩ := List.mem_map.1 ha
      simp only [List.map_cons, List.map_nil, List.mem_singleton] at hc
      subst hc
      have := h3 e he
      omega
    · intro e he
      rw [Array.toList_push, List.mem_append, List.mem_singleton] at he
      rcases he with he | rfl
      · have := h3 e he; omega
      · exact Nat.lt_succ_self _
theorem put_to {b : Nat} {K : Hp → Prop} (h : MapAt k H b kv) (hk : ∀ H', MapAt k H' b (kvPut kv x v) → (∀ q, q ≠ b → H' q = H q) → K H') : putF H k (some b) x v K := by
  obtain ⟨es, clock, hb, he⟩ := h
  obtain ⟨es', clock', e, he'⟩ := esOf_put (x := x) (v := v) he
  refine ⟨b, es, clock, rfl, hb, he.ints, ?_⟩
  rw [e]
  exact hk _ ⟨es', clock', upd_at, he'⟩ (fun q hq => upd_off hq)
theorem kvGet_set {y : Int} : ∀ {kv : KV} {i : Nat} (hlt : i < kv.length), kv[i].1 = x → (∀ j (hj : j < kv.length), j < i → x ≠ kv[j].1) → kvGet (kv.set i (x, v)) y = if y = x then some v else kvGet kv y
  | [], i, hlt, _, _ => by simp at hlt
  | a :: r, 0, _, hf, _ => by
    simp only [List.getElem_cons_zero] at hf
    unfold kvGet
    simp only [List.set_cons_zero, List.find?_cons, hf]
    by_cases e : y = x
    · simp [e]
    · simp [e]
  | a :: r, i + 1, hlt, hf, hn => by
    have ha : x ≠ a.1 := hn 0 (by simp) (by omega)
    have ih := kvGet_set (y := y) (kv := r) (i := i) (by simpa using hlt) (by simpa using hf) (fun j hj hji => by have := hn (j + 1) (by simpa using hj) (by omega); simpa using this)
    unfold kvGet at ih ⊢
    simp only [List.set_cons_succ, List.find?_cons]
    by_cases e : y = a.1
    · have hyx : y ≠ x := fun h => ha (h ▸ e)
      simp [e, Ne.symm ha]
    · simp only [decide_eq_false e]
      exact ih
theorem kvGet_put {y : Int} : kvGet (kvPut kv x v) y = if y = x then some v else kvGet kv y := by
  unfold kvPut
  split
  · rename_i i hi
    rw [List.findIdx?_eq_some_iff_getElem] at hi
    obtain ⟨hlt, hp, hn⟩ := hi
    exact kvGet_set hlt (of_decide_eq_true hp).symm (fun j hj hji => by have := hn j hji; simpa using this)
  · rename_i hn
    rw [List.findIdx?_eq_none_iff] at hn
    unfold kvGet
    rw [List.find?_append]
    by_cases e : y = x
    · subst e
      have : kv.find? (fun p => decide (y = p.1)) = none := by
        rw [List.find?_eq_none]
        intro p hp
        rw [hn p hp]; decide
      rw [this]; simp
    · simp [e]
end
end Go.Proofs.YtibhpoikhkokiaaGreat.Hw

/- Ranges over maps whose keys are whole numbers. -/
set_option linter.unusedVariables false
set_option linter.unusedSimpArgs false
namespace Go.Proofs.YtibhpoikhkokiaaGreat.Hw
open Go
theorem map_erase {α β : Type} {f : α → β} : ∀ {l : List α} {j : Nat}, (l.eraseIdx j).map f = (l.map f).eraseIdx j
  | [], _ => rfl
  | a :: r, 0 => rfl
  | a :: r, j + 1 => by simp only [List.eraseIdx_cons_succ, List.map_cons, map_erase (l := r)]
theorem nodup_inj {α β : Type} {f : α → β} : ∀ {l : List α}, (l.map f).Nodup → ∀ a ∈ l, ∀ b ∈ l, f a = f b → a = b
  | [], _, a, ha, _, _, _ => by cases ha
  | c :: r, h, a, ha, b, hb, e => by
    rw [List.map_cons, List.nodup_cons] at h
    rcases List.mem_cons.1 ha with rfl | ha' <;> rcases List.mem_cons.1 hb with rfl | hb'
    · rfl
    · exact absurd (e ▸ List.mem_map_of_mem hb') h.1
    · exact absurd (e.symm ▸ List.mem_map_of_mem ha') h.1
    · exact nodup_inj h.2 a ha' b hb' e
theorem kvGet_mem {x : Int} {v : Value} : ∀ {kv : KV}, keysD kv → (kvGet kv x = some v ↔ (x, v) ∈ kv)
  | [], _ => by simp [kvGet]
  | (y, u) :: r, h => by
    unfold keysD at h
    rw [List.map_cons, List.nodup_cons] at h
    have ih := kvGet_mem (x := x) (v := v) (kv := r) h.2
    unfold kvGet at ih ⊢
    rw [List.find?_cons, List.mem_cons]
    by_cases e : x = y
    · subst e
      simp only [decide_true]
      constructor
      · intro h'; left; simpa using h'.symm
      · rintro (h' | h')
        · injection h' with _ h'; simp [h']
        · exact absurd (List.mem_map_of_mem (f := (·.1)) h') h.1
    · simp only [decide_eq_false e]
      rw [ih]
      constructor
      · exact .inr
      · rintro (h' | h')
        · injection h' with h' _; exact absurd h' e
        · exact h'
theorem kvDel_eq {x : Int} : ∀ {kv : KV}, keysD kv → kvDel kv x = kv.filter fun p => decide (p.1 ≠ x)
  | [], _ => rfl
  | (y, u) :: r, h => by
    unfold keysD at h
    rw [List.map_cons, List.nodup_cons] at h
    have ih := kvDel_eq (x := x) (kv := r) h.2
    unfold kvDel at ih ⊢
    rw [List.findIdx?_cons, List.filter_cons]
    by_cases e : x = y
    · subst e
      simp only [decide_true, if_true, List.eraseIdx_zero, List.tail_cons, ne_eq, not_true_eq_false, decide_false, Bool.false_eq_true, if_false]
      refine (List.filter_eq_self.2 fun p hp => ?_).symm
      exact decide_eq_true fun e => h.1 (e ▸ List.mem_map_of_mem (f := (·.1)) hp)
    · simp only [decide_eq_false e]
      rw [if_pos (decide_eq_true (Ne.symm e)), ← ih]
      cases hr : List.findIdx? (fun p => decide (x = p.1)) r with
      | none => rfl
      | some i => rfl
theorem keysD_del {x : Int} {kv : KV} (h : keysD kv) : keysD (kvDel kv x) := by
  rw [kvDel_eq h]
  unfold keysD at h ⊢
  exact h.sublist (List.filter_sublist.map _)
theorem mem_kvDel {x : Int} {kv : KV} {p : Int × Value} (h : keysD kv) : p ∈ kvDel kv x ↔ p ∈ kv ∧ p.1 ≠ x := by
  rw [kvDel_eq h, List.mem_filter]; simp
section
variable {k : IntKind} {H : Hp} {es : Array MapEntry} {clock : Nat} {kv : KV} {x : Int} {v : Value}
theorem EsOf.keyD (h : EsOf k es clock kv) : (es.toList.map (·.key)).Nodup := by
  obtain ⟨h1, _, _, h4⟩ := h
  have e : es.toList.map (·.key) = (kv.map (·.1)).map (Value.int k) := by
    have := congrArg (List.map (·.1)) h1
    simpa [List.map_map, Function.comp_def] using this
  rw [e]
  unfold keysD at h4
  refine List.pairwise_map.2 (List.Pairwise.imp (fun hne he => ?_) h4)
  injection he with _ he
  exact hne he
theorem EsOf.pair (h : EsOf k es clock kv) {e : MapEntry} (he : e ∈ es.toList) : ∃ y, e.key = .int k y ∧ (y, e.val) ∈ kv := by
  have : (e.key, e.val) ∈ kv.map (fun p => (Value.int k p.1, p.2)) := by rw [← h.1]; exact List.mem_map_of_mem he
  obtain ⟨p, hp, e2⟩ := List.mem_map.1 this
  injection e2 with h1 h2
  exact ⟨p.1, h1.symm, by rw [← h2]; exact hp⟩
theorem EsOf.back (h : EsOf k es clock kv) {y : Int} {u : Value} (hm : (y, u) ∈ kv) : ∃ e ∈ es.toList, e.key = .int k y ∧ e.val = u := by
  have : (Value.int k y, u) ∈ es.toList.map (fun e => (e.key, e.val)) := by rw [h.1]; exact List.mem_map_of_mem (f := fun p : Int × Value => (Value.int k p.1, p.2)) hm
  obtain ⟨e, he, e2⟩ := List.mem_map.1 this
  injection e2 with h1 h2
  exact ⟨e, he, h1, h2⟩
/-- A range that is under way: the keys that it has not met. -/
def IterAt (k : IntKind) (H : Hp) (i b : Nat) (kv : KV) (left : List Int) : Prop :=
  ∃ es clock since seen c0, H i = some (.mapIter (some b) since seen c0) ∧ H b = some (.map es clock) ∧ EsOf k es clock kv ∧ (∀ e ∈ es.toList, e.born < since) ∧ since ≤ c0 ∧ since ≤ clock ∧
    left.Nodup ∧ ∀ y, y ∈ left ↔ ∃ e ∈ es.toList, seen.contains e.born = false ∧ e.key = .int k y
/-- The entry that it met last. -/
def EntAt (k : IntKind) (H : Hp) (i b : Nat) (x : Int) (v : Value) : Prop :=
  ∃ (since : Nat) (seen : Array Nat) (es : Array MapEntry) (clock : Nat) (e : MapEntry), H i = some (.mapIter (some b) since (seen.push e.born) clock) ∧ H b = some (.map es clock) ∧ e ∈ es.toList ∧ (es.toList.map (·.born)).Nodup ∧ e.key = .int k x ∧ e.val = v
theorem IterAt.map {i b : Nat} {left : List Int} (h : IterAt k H i b kv left) : MapAt k H b kv := by
  obtain ⟨es, clock, since, seen, c0, h1, h2, h3, _⟩ := h
  exact ⟨es, clock, h2, h3⟩
theorem IterAt.ext {H' : Hp} {i b : Nat} {left : List Int} (h : IterAt k H i b kv left) (hi : H' i = H i) (hb : H' b = H b) : IterAt k H' i b kv left := by
  obtain ⟨es, clock, since, seen, c0, h1, h2, h3⟩ := h
  exact ⟨es, clock, since, seen, c0, hi.trans h1, hb.trans h2, h3⟩
theorem EntAt.ext {H' : Hp} {i b : Nat} (h : EntAt k H i b x v) (hi : H' i = H i) (hb : H' b = H b) : EntAt k H' i b x v := by
  obtain ⟨since, seen, es, clock, e, h1, h2, h3⟩ := h
  exact ⟨since, seen, es, clock, e, hi.trans h1, hb.trans h2, h3⟩
theorem range_to {b : Nat} {K : Nat → Hp → Prop} (h : MapAt k H b kv) (hk : ∀ i H', H i = none → Ext H H' → IterAt k H' i b kv (kv.map (·.1)) → (∀ q, q ≠ i → H' q = H q) → K i H') : rangeF H (some b) K := by
  obtain ⟨es, clock, hb, he⟩ := h
  refine ⟨b, es, clock, rfl, hb, fun i hi => ?_⟩
  have hne : b ≠ i := fun e => by rw [e, hi] at hb; cases hb
  refine hk i _ hi (Ext.new hi) ⟨es, clock, clock, #[], clock, upd_at, (upd_off hne).trans hb, he, he.2.2.1, Nat.le_refl _, Nat.le_refl _, he.2.2.2, fun y => ?_⟩ (fun q hq => upd_off hq)
  constructor
  · intro hy
    obtain ⟨p, hp, rfl⟩ := List.mem_map.1 hy
    obtain ⟨e, h1, h2, _⟩ := he.back (y := p.1) (u := p.2) hp
    exact ⟨e, h1, by simp, h2⟩
  · rintro ⟨e, h1, _, h2⟩
    obtain ⟨z, h3, h4⟩ := he.pair h1
    rw [h2] at h3
    injection h3 with _ h3
    rw [h3]
    exact List.mem_map_of_mem (f := (·.1)) h4
theorem next_to {i b : Nat} {left : List Int} {Kn : Prop} {Ks : Value → Value → Hp → Prop} (h : IterAt k H i b kv left) (hne : i ≠ b) (hn : left = [] → Kn)
    (hs : ∀ x v H', (x, v) ∈ kv → x ∈ left → IterAt k H' i b kv (left.filter fun y => decide (y ≠ x)) → EntAt k H' i b x v → (∀ q, q ≠ i → H' q = H q) → Ks (.int k x) v H') : nextF H i 0 Kn Ks := by
  obtain ⟨es, clock, since, seen, c0, h1, h2, h3, h4, h5, h6, h7, h8⟩ := h
  refine ⟨rfl, b, since, seen, c0, es, clock, h1, h2, h4, h5, fun h0 => hn ?_, fun e he => ?_⟩
  · rw [List.eq_nil_iff_forall_not_mem]
    intro y hy
    obtain ⟨e, g1, g2, g3⟩ := (h8 y).1 hy
    have : e ∈ leftOf es seen := by unfold leftOf; rw [Array.mem_filter]; exact ⟨Array.mem_def.2 g1, by rw [g2]; rfl⟩
    have := Array.size_pos_of_mem this
    omega
  · have he' : e ∈ leftOf es seen := Array.mem_def.2 he
    unfold leftOf at he'
    rw [Array.mem_filter] at he'
    have hm := Array.mem_def.1 he'.1
    have hc : seen.contains e.born = false := by simpa using he'.2
    obtain ⟨y, hy, hyk⟩ := h3.pair hm
    rw [hy]
    have hb' : (upd i (.mapIter (some b) since (seen.push e.born) clock) H) b = some (.map es clock) := (upd_off (Ne.symm hne)).trans h2
    refine hs y e.val _ hyk ((h8 y).2 ⟨e, hm, hc, hy⟩) ⟨es, clock, since, _, clock, upd_at, hb', h3, h4, h6, h6, h7.filter _, fun z => ?_⟩ ⟨since, seen, es, clock, e, upd_at, hb', hm, h3.2.1, hy, rfl⟩ (fun q hq => upd_off hq)
    rw [List.mem_filter, h8, decide_eq_true_eq]
    constructor
    · rintro ⟨⟨e', g1, g2, g3⟩, hz⟩
      refine ⟨e', g1, ?_, g3⟩
      have hne' : e'.born ≠ e.born := fun eb => by
        have := nodup_inj h3.2.1 e' g1 e hm eb
        subst this
        rw [hy] at g3
        injection g3 with _ g3
        exact hz g3.symm
      rw [Array.contains_push, g2]
      simp [hne']
    · rintro ⟨e', g1, g2, g3⟩
      rw [Array.contains_push, Bool.or_eq_false_iff] at g2
      refine ⟨⟨e', g1, g2.1, g3⟩, fun ez => ?_⟩
      subst ez
      have := nodup_inj h3.keyD e' g1 e hm (g3.trans hy.symm)
      subst this
      have := g2.2
      simp at this
theorem entry_to {i b : Nat} {K : Value → Value → Prop} (h : EntAt k H i b x v) (hk : K (.int k x) v) : entryF H i 0 K := by
  obtain ⟨since, seen, es, clock, e, h1, h2, h3, h4, h5, h6⟩ := h
  exact ⟨rfl, b, since, seen, es, clock, e, h1, h2, h3, h4, by rw [h5, h6]; exact hk⟩
theorem del_to {i b : Nat} {left : List Int} {K : Hp → Prop} (h : IterAt k H i b kv left) (hne : i ≠ b) (hx : x ∉ left) (hk : ∀ H', IterAt k H' i b (kvDel kv x) left → (∀ q, q ≠ b → H' q = H q) → K H') : delF H k (some b) x K := by
  obtain ⟨es, clock, since, seen, c0, h1, h2, h3, h4, h5, h6, h7, h8⟩ := h
  refine ⟨b, es, clock, rfl, h2, h3.ints, ?_⟩
  have hi : ∀ o, (upd b o H) i = some (.mapIter (some b) since seen c0) := fun o => (upd_off hne).trans h1
  have hd := keysD_del (x := x) h3.2.2.2
  unfold delE
  rw [esOf_at h3.1]
  unfold kvDel at hk hd
  cases hf : kv.findIdx? (fun p => decide (x = p.1)) with
  | none =>
    rw [hf] at hk
    exact hk _ ⟨es, clock, since, seen, c0, hi _, upd_at, h3, h4, h5, h6, h7, h8⟩ (fun q hq => upd_off hq)
  | some j =>
    rw [hf] at hk hd
    have hlen : es.size = kv.length := esOf_len h3
    rw [List.findIdx?_eq_some_iff_getElem] at hf
    obtain ⟨hlt, hp, _⟩ := hf
    have hp := of_decide_eq_true hp
    have hl : (es.eraseIdxIfInBounds j).toList = es.toList.eraseIdx j := by
      unfold Array.eraseIdxIfInBounds
      rw [dif_pos (by omega)]
      simp
    have hsub : ∀ e, e ∈ (es.eraseIdxIfInBounds j).toList → e ∈ es.toList := fun e he => by rw [hl] at he; exact List.mem_of_mem_eraseIdx he
    have hkey : ∀ hj : j < es.toList.length, (es.toList[j]).key = .int k x := fun hj => by
      have := congrArg (fun l => l[j]?) h3.1
      simp only [List.getElem?_map, List.getElem?_eq_getElem hj, List.getElem?_eq_getElem hlt, Option.map_some, Option.some.injEq, Prod.mk.injEq] at this
      rw [this.1, hp]
    refine hk _ ⟨es.eraseIdxIfInBounds j, clock, since, seen, c0, hi _, upd_at, ⟨?_, ?_, fun e he => h3.2.2.1 e (hsub e he), hd⟩, fun e he => h4 e (hsub e he), h5, h6, h7, fun y => ?_⟩ (fun q hq => upd_off hq)
    · rw [hl, map_erase, h3.1, map_erase]
    · rw [hl]; exact h3.2.1.sublist ((List.eraseIdx_sublist _ _).map _)
    · rw [h8]
      constructor
      · rintro ⟨e, g1, g2, g3⟩
        refine ⟨e, ?_, g2, g3⟩
        rw [hl, List.mem_eraseIdx_iff_getElem?]
        obtain ⟨m, hm⟩ := List.getElem?_of_mem g1
        refine ⟨m, fun em => ?_, hm⟩
        subst em
        obtain ⟨hj, ej⟩ := List.getElem?_eq_some_iff.1 hm
        have := hkey hj
        rw [ej, g3] at this
        injection this with _ this
        exact hx (this ▸ (h8 y).2 ⟨e, g1, g2, g3⟩)
      · rintro ⟨e, g1, g2, g3⟩
        exact ⟨e, hsub e g1, g2, g3⟩
end
end Go.Proofs.YtibhpoikhkokiaaGreat.Hw

/- Maps whose keys are pairs of whole numbers, as functions. -/
set_option linter.unusedVariables false
set_option linter.unusedSimpArgs false
namespace Go.Proofs.YtibhpoikhkokiaaGreat.Hw
open Go
theorem find_mod_hit {p : MapEntry → Bool} {g : MapEntry → MapEntry} : ∀ {l : List MapEntry} {i : Nat}, l.findIdx? p = some i → (∀ e, p e = true → p (g e) = true) → (∃ e, p e = true ∧ (l.modify i g).find? p = some (g e))
  | [], i, h, _ => by simp at h
  | e :: r, i, h, hg => by
    rw [List.findIdx?_cons] at h
    cases hp : p e with
    | true =>
      rw [hp] at h
      cases h
      refine ⟨e, hp, ?_⟩
      show ((g e) :: r).find? p = _
      rw [List.find?_cons, hg e hp]
    | false =>
      rw [hp] at h
      simp only [Bool.false_eq_true, if_false, Option.map_eq_some_iff] at h
      obtain ⟨j, hj, rfl⟩ := h
      obtain ⟨e', h1, h2⟩ := find_mod_hit hj hg
      refine ⟨e', h1, ?_⟩
      show (e :: r.modify j g).find? p = _
      rw [List.find?_cons, hp]; exact h2
theorem find_mod_off {p q : MapEntry → Bool} {g : MapEntry → MapEntry} : ∀ {l : List MapEntry} {i : Nat}, l.findIdx? p = some i → (∀ e, p e = true → q e = false ∧ q (g e) = false) → (l.modify i g).find? q = l.find? q
  | [], i, h, _ => by simp at h
  | e :: r, i, h, hg => by
    rw [List.findIdx?_cons] at h
    cases hp : p e with
    | true =>
      rw [hp] at h
      cases h
      show ((g e) :: r).find? q = _
      rw [List.find?_cons, List.find?_cons, (hg e hp).1, (hg e hp).2]
    | false =>
      rw [hp] at h
      simp only [Bool.false_eq_true, if_false, Option.map_eq_some_iff] at h
      obtain ⟨j, hj, rfl⟩ := h
      have ih := find_mod_off hj hg
      show (e :: r.modify j g).find? q = _
      rw [List.find?_cons, List.find?_cons, ih]
theorem key2_is {x y a b : Int} {v : Value} {n : Nat} : isKey2 x y ⟨key2 a b, v, n⟩ = (decide (x = a) && decide (y = b)) := rfl
theorem isKey2_key {x y a b : Int} {e : MapEntry} (h : e.key = key2 a b) : isKey2 x y e = (decide (x = a) && decide (y = b)) := by
  unfold isKey2; rw [h]; rfl
theorem isKey2_iff {x y : Int} {e : MapEntry} (h : ∃ a b, e.key = key2 a b) : isKey2 x y e = true ↔ e.key = key2 x y := by
  obtain ⟨a, b, h⟩ := h
  rw [isKey2_key h, h]
  constructor
  · intro hh
    simp only [Bool.and_eq_true, decide_eq_true_eq] at hh
    rw [hh.1, hh.2]
  · intro hh
    unfold key2 at hh
    injection hh with hh
    have := congrArg Array.toList hh
    simp at this
    simp [this.1, this.2]
/-- A map with pairs as keys, as a function. -/
def MapF2 (H : Hp) (b : Nat) (f : Int → Int → Option Value) : Prop := ∃ es clock, H b = some (.map es clock) ∧ pairKeys es.toList ∧ ∀ x y, findE2 x y es.toList = f x y
section
variable {H : Hp} {b : Nat} {f : Int → Int → Option Value}
theorem MapF2.look {x y : Int} {z : Value} {K : Value → Bool → Prop} (h : MapF2 H b f) (hk : K ((f x y).getD z) (f x y).isSome) : lookF2 H (some b) x y z K := by
  obtain ⟨es, clock, hb, hp, hf⟩ := h
  refine ⟨es, clock, hb, hp, ?_⟩
  rw [hf]; exact hk
theorem MapF2.keep {H' : Hp} (h : MapF2 H b f) (hb : H' b = H b) : MapF2 H' b f := by
  obtain ⟨es, clock, h1, hp, hf⟩ := h
  exact ⟨es, clock, hb.trans h1, hp, hf⟩
theorem MapF2.new {K : Nat → Hp → Prop} (hk : ∀ b H', H b = none → Ext H H' → (∀ q, q ≠ b → H' q = H q) → MapF2 H' b (fun _ _ => none) → K b H') : newMapF H K := fun b hb =>
  hk b _ hb (Ext.new hb) (fun q hq => upd_off hq) ⟨#[], 0, upd_at, fun e he => (by cases he), fun x y => rfl⟩
theorem MapF2.put {x y : Int} {v : Value} {K : Hp → Prop} (h : MapF2 H b f) (hk : ∀ H', MapF2 H' b (fun x' y' => if x' = x ∧ y' = y then some v else f x' y') → (∀ q, q ≠ b → H' q = H q) → K H') : putF2 H (some b) x y v K := by
  classical
  obtain ⟨es, clock, hb, hp, hf⟩ := h
  refine ⟨b, es, clock, rfl, hb, hp, hk _ ?_ fun q hq => upd_off hq⟩
  have hself : ∀ n : Nat, isKey2 x y ⟨key2 x y, v, n⟩ = true := fun n => by rw [key2_is]; simp
  unfold putE2
  cases hi : es.toList.findIdx? (isKey2 x y) with
  | none =>
    refine ⟨_, _, upd_at, fun e he => ?_, fun x' y' => ?_⟩
    · rw [Array.toList_push] at he
      rcases List.mem_append.1 he with he | he
      · exact hp e he
      · obtain rfl := List.mem_singleton.1 he; exact ⟨x, y, rfl⟩
    · have hn : es.toList.find? (isKey2 x y) = none := by
        rw [List.find?_eq_none]
        rw [List.findIdx?_eq_none_iff] at hi
        intro e he hk
        rw [hi e he] at hk; cases hk
      unfold findE2 at hf ⊢
      rw [Array.toList_push, List.find?_append]
      show _ = if x' = x ∧ y' = y then some v else f x' y'
      by_cases hxy : x' = x ∧ y' = y
      · obtain ⟨rfl, rfl⟩ := hxy
        rw [if_pos ⟨rfl, rfl⟩, hn]
        rw [List.find?_cons, hself]
        rfl
      · rw [if_neg hxy, ← hf x' y']
        have : isKey2 x' y' ⟨key2 x y, v, clock⟩ = false := by
          rw [key2_is]
          cases h1 : decide (x' = x) <;> cases h2 : decide (y' = y) <;> first | rfl | skip
          exact absurd ⟨of_decide_eq_true h1, of_decide_eq_true h2⟩ hxy
        rw [List.find?_cons, this, List.find?_nil, Option.or_none]
  | some i =>
    refine ⟨_, _, upd_at, fun e he => ?_, fun x' y' => ?_⟩
    · rw [Array.toList_modify] at he
      obtain ⟨j, hj⟩ := List.getElem?_of_mem he
      rw [List.getElem?_modify] at hj
      cases he' : es.toList[j]? with
      | none => rw [he'] at hj; cases hj
      | some e0 =>
        rw [he'] at hj
        have hj : some (if i = j then ({ e0 with key := key2 x y, val := v } : MapEntry) else e0) = some e := hj
        by_cases hij : i = j
        · rw [if_pos hij] at hj
          cases hj
          exact ⟨x, y, rfl⟩
        · rw [if_neg hij] at hj
          cases hj
          exact hp e (List.mem_of_getElem? he')
    · unfold findE2 at hf ⊢
      rw [Array.toList_modify]
      show _ = if x' = x ∧ y' = y then some v else f x' y'
      by_cases hxy : x' = x ∧ y' = y
      · obtain ⟨rfl, rfl⟩ := hxy
        rw [if_pos ⟨rfl, rfl⟩]
        obtain ⟨e, _, he⟩ := find_mod_hit (g := fun e => { e with key := key2 x' y', val := v }) hi (fun e _ => hself e.born)
        rw [he]; rfl
      · rw [if_neg hxy, ← hf x' y']
        rw [List.findIdx?_eq_some_iff_getElem] at hi
        obtain ⟨hlt, hpi, hbefore⟩ := hi
        have hi' : es.toList.findIdx? (fun e => isKey2 x y e && decide (∃ a b, e.key = key2 a b)) = some i := by
          rw [List.findIdx?_eq_some_iff_getElem]
          refine ⟨hlt, ?_, fun j hj => ?_⟩
          · rw [hpi, decide_eq_true (hp _ (List.getElem_mem hlt))]; rfl
          · have := hbefore j hj
            cases hh : isKey2 x y es.toList[j] with
            | false => simp
            | true => exact absurd hh this
        rw [find_mod_off (p := fun e => isKey2 x y e && decide (∃ a b, e.key = key2 a b)) hi']
        intro e he
        simp only [Bool.and_eq_true, decide_eq_true_eq] at he
        have hk := (isKey2_iff he.2).1 he.1
        have hoff : (decide (x' = x) && decide (y' = y)) = false := by
          cases h1 : decide (x' = x) <;> cases h2 : decide (y' = y) <;> first | rfl | skip
          exact absurd ⟨of_decide_eq_true h1, of_decide_eq_true h2⟩ hxy
        exact ⟨by rw [isKey2_key hk, hoff], by rw [key2_is, hoff]⟩
end
/-- A map with whole numbers as keys, as a function. -/
def MapF (H : Hp) (b : Nat) (f : Int → Option Value) : Prop := ∃ kv, MapAt .i64 H b kv ∧ ∀ x, kvGet kv x = f x
section
variable {H : Hp} {b : Nat} {f : Int → Option Value}
theorem MapAt.keep {k : IntKind} {H' : Hp} {kv : KV} (h : MapAt k H b kv) (hb : H' b = H b) : MapAt k H' b kv := by
  obtain ⟨es, clock, h1, hp⟩ := h
  exact ⟨es, clock, hb.trans h1, hp⟩
theorem MapF.look {x : Int} {z : Value} {K : Value → Bool → Prop} (h : MapF H b f) (hk : K ((f x).getD z) (f x).isSome) : lookF H .i64 (some b) x z K := by
  obtain ⟨kv, hm, hf⟩ := h
  refine look_to hm ?_
  rw [hf]; exact hk
theorem MapF.keep {H' : Hp} (h : MapF H b f) (hb : H' b = H b) : MapF H' b f := by
  obtain ⟨kv, hm, hf⟩ := h
  exact ⟨kv, hm.keep hb, hf⟩
theorem MapF.new {K : Nat → Hp → Prop} (hk : ∀ b H', H b = none → Ext H H' → (∀ q, q ≠ b → H' q = H q) → MapF H' b (fun _ => none) → K b H') : newMapF H K := fun b hb =>
  hk b _ hb (Ext.new hb) (fun q hq => upd_off hq) ⟨[], ⟨#[], 0, upd_at, rfl, by simp, fun e he => (by cases he), List.nodup_nil⟩, fun x => rfl⟩
theorem MapF.put {x : Int} {v : Value} {K : Hp → Prop} (h : MapF H b f) (hk : ∀ H', MapF H' b (fun y => if y = x then some v else f y) → (∀ q, q ≠ b → H' q = H q) → K H') : putF H .i64 (some b) x v K := by
  obtain ⟨kv, hm, hf⟩ := h
  refine put_to hm fun H' h1 h2 => hk H' ⟨_, h1, fun y => ?_⟩ h2
  rw [kvGet_put, hf]
theorem MapF.ne {b' : Nat} {cs : Array Value} {ty : Nat} {z : Nat × Nat} (h : MapF H b f) (hb : H b' = some (.cells cs ty z)) : b ≠ b' := by
  rintro rfl
  obtain ⟨kv, ⟨es, clock, h1, _⟩, _⟩ := h
  rw [h1] at hb; cases hb
theorem MapF.live (h : MapF H b f) : H b ≠ none := by
  obtain ⟨kv, ⟨es, clock, h1, _⟩, _⟩ := h
  rw [h1]; simp
theorem MapF2.live {g : Int → Int → Option Value} (h : MapF2 H b g) : H b ≠ none := by
  obtain ⟨es, clock, h1, _⟩ := h
  rw [h1]; simp
end
end Go.Proofs.YtibhpoikhkokiaaGreat.Hw

/- Histories: events, and what a history says, in plain words. -/
set_option linter.unusedVariables false
set_option linter.unusedSimpArgs false
namespace Go.Proofs.YtibhpoikhkokiaaGreat.Hw
open Go Go.Proofs
structure Ev where
  op : Int
  txn : Int
  item : Int
  frm : Int
  stmt : Int
def inB (n : Int) : Bool := decide (1 ≤ n) && decide (n ≤ 200)
def isW (t i : Int) (x : Ev) : Bool := x.op == 3 && (x.txn == t && x.item == i)
def isB (t : Int) (x : Ev) : Bool := x.op == 1 && x.txn == t
def isC (t : Int) (x : Ev) : Bool := x.op == 4 && x.txn == t
def isE (t : Int) (x : Ev) : Bool := (x.op == 4 || x.op == 5) && x.txn == t
def begunM (p : List Ev) (t : Int) : Bool := p.any (isB t)
def endedM (p : List Ev) (t : Int) : Bool := p.any (isE t)
def wroteM (p : List Ev) (t i : Int) : Bool := p.any (isW t i)
def stmtStep (t : Int) (s : Int) (x : Ev) : Int := if (x.op == 2 || x.op == 3) && x.txn == t then x.stmt else s
def stmtM (p : List Ev) (t : Int) : Int := p.foldl (stmtStep t) 0
def openStep (i : Int) (s : Option Int) (x : Ev) : Option Int :=
  if x.op == 3 && x.item == i then some x.txn
  else if (x.op == 4 || x.op == 5) && s == some x.txn then none
  else s
def openM (p : List Ev) (i : Int) : Option Int := p.foldl (openStep i) none
def plainB (x : Ev) : Bool := x.item == 0 && (x.frm == 0 && x.stmt == 0)
def takenB (p : List Ev) (t i : Int) : Bool := match openM p i with
  | none => false
  | some w => !(w == t)
/-- An event that can come after some. -/
def evOk (p : List Ev) (x : Ev) : Bool := inB x.txn && (!endedM p x.txn && ((begunM p x.txn != (x.op == 1)) &&
  (if x.op == 1 then plainB x
   else if x.op == 2 then inB x.item && (decide (max (stmtM p x.txn) 1 ≤ x.stmt) && (x.frm == 0 || wroteM p x.frm x.item))
   else if x.op == 3 then inB x.item && (decide (max (stmtM p x.txn) 1 ≤ x.stmt) && (!takenB p x.txn x.item && x.frm == 0))
   else if x.op == 4 || x.op == 5 then plainB x
   else false)))
/-- The first events all can come. -/
def OkTo (l : List Ev) (n : Nat) : Prop := ∀ i x, i < n → l[i]? = some x → evOk (l.take i) x = true
def goodB (l : List Ev) : Bool := (List.range l.length).all fun i => match l[i]? with
  | some x => evOk (l.take i) x
  | none => true
def validM (l : List Ev) : Bool := decide (l.length ≤ 2000) && goodB l
theorem good_iff {l : List Ev} : goodB l = true ↔ OkTo l l.length := by
  unfold goodB OkTo
  rw [List.all_eq_true]
  constructor
  · intro h i x hi hx
    have := h i (List.mem_range.2 hi)
    rw [hx] at this
    exact this
  · intro h i hi
    have hi := List.mem_range.1 hi
    rw [List.getElem?_eq_getElem hi]
    exact h i _ hi (List.getElem?_eq_getElem hi)
theorem take_snoc {α : Type} {l : List α} {i : Nat} {x : α} (h : l[i]? = some x) : l.take (i + 1) = l.take i ++ [x] := by
  rw [List.take_add_one, h]; rfl
theorem begun_snoc {p : List Ev} {x : Ev} {t : Int} : begunM (p ++ [x]) t = (begunM p t || isB t x) := by unfold begunM; simp
theorem ended_snoc {p : List Ev} {x : Ev} {t : Int} : endedM (p ++ [x]) t = (endedM p t || isE t x) := by unfold endedM; simp
theorem wrote_snoc {p : List Ev} {x : Ev} {t i : Int} : wroteM (p ++ [x]) t i = (wroteM p t i || isW t i x) := by unfold wroteM; simp
theorem stmt_snoc {p : List Ev} {x : Ev} {t : Int} : stmtM (p ++ [x]) t = stmtStep t (stmtM p t) x := by unfold stmtM; rw [List.foldl_append]; rfl
theorem open_snoc {p : List Ev} {x : Ev} {i : Int} : openM (p ++ [x]) i = openStep i (openM p i) x := by unfold openM; rw [List.foldl_append]; rfl
/-! ### places -/
def lastI (p : Ev → Bool) (l : List Ev) : Option Nat := (l.reverse.findIdx? p).map fun j => l.length - 1 - j
theorem lastI_snoc {p : Ev → Bool} {l : List Ev} {x : Ev} : lastI p (l ++ [x]) = if p x then some l.length else lastI p l := by
  unfold lastI
  rw [List.reverse_append, List.length_append]
  show Option.map _ ((x :: l.reverse).findIdx? p) = _
  rw [List.findIdx?_cons]
  cases p x with
  | true => simp
  | false =>
    simp only [Bool.false_eq_true, if_false, Option.map_map]
    congr 1
    funext j
    simp only [Function.comp, List.length_singleton]
    omega
def commitI (l : List Ev) (t : Int) : Option Nat := lastI (isC t) l
def beginI (l : List Ev) (t : Int) : Option Nat := lastI (isB t) l
def lastW (l : List Ev) (t i : Int) : Option Nat := lastI (isW t i) l
def comB (l : List Ev) (t : Int) : Bool := (commitI l t).isSome
/-- The transactions of an item's versions, in the order of their commits. -/
def versM (l : List Ev) (i : Int) : List Int := (List.range l.length).filterMap fun j => match l[j]? with
  | some x => if x.op == 4 && wroteM (l.take j) x.txn i then some x.txn else none
  | none => none
theorem fm_congr {α β : Type} {f g : α → Option β} : ∀ {l : List α}, (∀ x ∈ l, f x = g x) → l.filterMap f = l.filterMap g
  | [], _ => rfl
  | a :: r, h => by
    rw [List.filterMap_cons, List.filterMap_cons, h a List.mem_cons_self, fm_congr fun x hx => h x (List.mem_cons_of_mem _ hx)]
theorem vers_nil {i : Int} : versM [] i = [] := rfl
theorem vers_snoc {l : List Ev} {x : Ev} {i : Int} : versM (l ++ [x]) i = versM l i ++ if x.op == 4 && wroteM l x.txn i then [x.txn] else [] := by
  unfold versM
  rw [List.length_append, List.length_singleton, List.range_succ, List.filterMap_append]
  congr 1
  · apply fm_congr
    intro j hj
    have hj := List.mem_range.1 hj
    rw [List.getElem?_append_left hj, List.take_append_of_le_length (by omega)]
  · have e1 : (l ++ [x])[l.length]? = some x := by simp
    have e2 : (l ++ [x]).take l.length = l := by rw [List.take_append_of_le_length (Nat.le_refl _), List.take_length]
    rw [List.filterMap_cons, List.filterMap_nil]
    simp only [e1, e2]
    cases x.op == 4 && wroteM l x.txn i <;> rfl
end Go.Proofs.YtibhpoikhkokiaaGreat.Hw

/- Histories: what holds of valid ones, in plain words. -/
set_option linter.unusedVariables false
set_option linter.unusedSimpArgs false
namespace Go.Proofs.YtibhpoikhkokiaaGreat.Hw
open Go Go.Proofs
def LastIs (p : Ev → Bool) (l : List Ev) (n : Nat) : Option Nat → Prop
  | none => ∀ i x, i < n → l[i]? = some x → p x = false
  | some i => i < n ∧ (∃ x, l[i]? = some x ∧ p x = true) ∧ ∀ j y, i < j → j < n → l[j]? = some y → p y = false
theorem lastI_take {p : Ev → Bool} {l : List Ev} : ∀ n, n ≤ l.length → LastIs p l n (lastI p (l.take n)) := by
  intro n
  induction n with
  | zero => intro _; show LastIs p l 0 none; intro i x hi; omega
  | succ n ih =>
    intro hn
    have ih := ih (by omega)
    have hx : l[n]? = some l[n] := List.getElem?_eq_getElem (by omega)
    rw [take_snoc hx, lastI_snoc, List.length_take, Nat.min_eq_left (by omega)]
    cases hp : p l[n] with
    | true =>
      rw [if_pos rfl]
      exact ⟨by omega, ⟨_, hx, hp⟩, fun j y h1 h2 => by omega⟩
    | false =>
      rw [if_neg (by decide)]
      cases hl : lastI p (l.take n) with
      | none =>
        rw [hl] at ih
        intro i x hi hxi
        by_cases e : i = n
        · subst e; rw [hx] at hxi; cases hxi; exact hp
        · exact ih i x (by omega) hxi
      | some k =>
        rw [hl] at ih
        obtain ⟨h1, h2, h3⟩ := ih
        refine ⟨by omega, h2, fun j y hj hjn hy => ?_⟩
        by_cases e : j = n
        · subst e; rw [hx] at hy; cases hy; exact hp
        · exact h3 j y hj (by omega) hy
theorem lastI_is {p : Ev → Bool} {l : List Ev} : LastIs p l l.length (lastI p l) := by
  have := lastI_take (p := p) (l := l) l.length (Nat.le_refl _)
  rwa [List.take_length] at this
theorem lastI_some {p : Ev → Bool} {l : List Ev} {i : Nat} (h : lastI p l = some i) : ∃ x, l[i]? = some x ∧ p x = true ∧ ∀ j y, i < j → l[j]? = some y → p y = false := by
  have := lastI_is (p := p) (l := l)
  rw [h] at this
  obtain ⟨h1, ⟨x, h2, h3⟩, h4⟩ := this
  exact ⟨x, h2, h3, fun j y hj hy => h4 j y hj (List.getElem?_eq_some_iff.1 hy).1 hy⟩
theorem lastI_none {p : Ev → Bool} {l : List Ev} (h : lastI p l = none) {i : Nat} {x : Ev} (hx : l[i]? = some x) : p x = false := by
  have := lastI_is (p := p) (l := l)
  rw [h] at this
  exact this i x (List.getElem?_eq_some_iff.1 hx).1 hx
theorem lastI_ge {p : Ev → Bool} {l : List Ev} {i : Nat} {x : Ev} (hx : l[i]? = some x) (hp : p x = true) : ∃ j, lastI p l = some j ∧ i ≤ j := by
  cases h : lastI p l with
  | none => rw [lastI_none h hx] at hp; cases hp
  | some j =>
    refine ⟨j, rfl, ?_⟩
    obtain ⟨y, _, _, h3⟩ := lastI_some h
    by_cases hij : i ≤ j
    · exact hij
    · rw [h3 i x (by omega) hx] at hp; cases hp
theorem any_take {p : Ev → Bool} {l : List Ev} {n : Nat} : (l.take n).any p = true ↔ ∃ i x, i < n ∧ l[i]? = some x ∧ p x = true := by
  rw [List.any_eq_true]
  constructor
  · rintro ⟨x, hx, hp⟩
    obtain ⟨i, hi⟩ := List.getElem?_of_mem hx
    rw [List.getElem?_take] at hi
    split at hi
    · exact ⟨i, x, by omega, hi, hp⟩
    · cases hi
  · rintro ⟨i, x, hi, hx, hp⟩
    exact ⟨x, List.mem_of_getElem? (i := i) (by rw [List.getElem?_take_of_lt hi]; exact hx), hp⟩
/-- What an event that can come is like. -/
theorem ev_parts {p : List Ev} {x : Ev} (h : evOk p x = true) : inB x.txn = true ∧ endedM p x.txn = false ∧ (begunM p x.txn = true ↔ x.op ≠ 1) ∧
    ((x.op = 1 ∧ plainB x = true) ∨ (x.op = 2 ∧ inB x.item = true ∧ max (stmtM p x.txn) 1 ≤ x.stmt ∧ (x.frm = 0 ∨ wroteM p x.frm x.item = true)) ∨
     (x.op = 3 ∧ inB x.item = true ∧ max (stmtM p x.txn) 1 ≤ x.stmt ∧ takenB p x.txn x.item = false ∧ x.frm = 0) ∨ ((x.op = 4 ∨ x.op = 5) ∧ plainB x = true)) := by
  unfold evOk at h
  simp only [Bool.and_eq_true, Bool.not_eq_true', bne_iff_ne, ne_eq] at h
  obtain ⟨h1, h2, h3, h4⟩ := h
  refine ⟨h1, h2, ?_, ?_⟩
  · by_cases e : x.op = 1
    · simp only [e, beq_self_eq_true, Bool.not_eq_true] at h3
      simp [e, h3]
    · have e' : (x.op == 1) = false := by simpa using e
      rw [e'] at h3
      simp only [Bool.not_eq_false] at h3
      simp [e, h3]
  · split at h4
    · rename_i e; exact .inl ⟨by simpa using e, h4⟩
    · split at h4
      · rename_i e
        simp only [Bool.and_eq_true, decide_eq_true_eq, Bool.or_eq_true, beq_iff_eq] at h4
        exact .inr (.inl ⟨by simpa using e, h4.1, h4.2.1, h4.2.2⟩)
      · split at h4
        · rename_i e
          simp only [Bool.and_eq_true, decide_eq_true_eq, Bool.not_eq_true', beq_iff_eq] at h4
          exact .inr (.inr (.inl ⟨by simpa using e, h4.1, h4.2.1, h4.2.2.1, h4.2.2.2⟩))
        · split at h4
          · rename_i e
            simp only [Bool.or_eq_true, beq_iff_eq] at e
            exact .inr (.inr (.inr ⟨e, h4⟩))
          · cases h4
section
variable {l : List Ev} {n : Nat}
theorem OkTo.mono {m : Nat} (h : OkTo l n) (hm : m ≤ n) : OkTo l m := fun i x hi hx => h i x (by omega) hx
/-- Behind the end of a transaction it has no events. -/
theorem OkTo.after (h : OkTo l n) {i j : Nat} {x y : Ev} (hi : l[i]? = some x) (hj : l[j]? = some y) (hjn : j < n) (hij : i < j) (he : isE y.txn x = true) : False := by
  have := (ev_parts (h j y hjn hj)).2.1
  unfold endedM at this
  rw [any_take.2 ⟨i, x, hij, hi, he⟩] at this
  cases this
theorem isC_isE {t : Int} {x : Ev} (h : isC t x = true) : isE t x = true ∧ x.txn = t ∧ x.op = 4 := by
  unfold isC at h
  unfold isE
  simp only [Bool.and_eq_true, beq_iff_eq] at h
  rw [h.1, h.2]
  simp
theorem OkTo.commit_one (h : OkTo l n) {i j : Nat} {x y : Ev} {t : Int} (hi : l[i]? = some x) (hj : l[j]? = some y) (hin : i < n) (hjn : j < n) (hx : isC t x = true) (hy : isC t y = true) : i = j := by
  rcases Nat.lt_trichotomy i j with hlt | rfl | hlt
  · exact (h.after hi hj hjn hlt (by rw [(isC_isE hy).2.1]; exact (isC_isE hx).1)).elim
  · rfl
  · exact (h.after hj hi hin hlt (by rw [(isC_isE hx).2.1]; exact (isC_isE hy).1)).elim
theorem OkTo.commit_at (h : OkTo l l.length) {i : Nat} {x : Ev} {t : Int} (hi : l[i]? = some x) (hx : isC t x = true) : commitI l t = some i := by
  obtain ⟨j, hj, hij⟩ := lastI_ge hi hx
  obtain ⟨y, hy, hyp, _⟩ := lastI_some hj
  have := h.commit_one hi hy (List.getElem?_eq_some_iff.1 hi).1 (List.getElem?_eq_some_iff.1 hy).1 hx hyp
  subst this; exact hj
theorem commit_get {t : Int} {i : Nat} (h : commitI l t = some i) : ∃ x, l[i]? = some x ∧ isC t x = true := by
  obtain ⟨x, hx, hp, _⟩ := lastI_some h
  exact ⟨x, hx, hp⟩
/-- Only its begin comes first. -/
theorem OkTo.begun (h : OkTo l n) {i : Nat} {x : Ev} (hi : l[i]? = some x) (hin : i < n) (hop : x.op ≠ 1) : begunM (l.take i) x.txn = true := (ev_parts (h i x hin hi)).2.2.1.2 hop
theorem isB_iff {t : Int} {x : Ev} : isB t x = true ↔ x.op = 1 ∧ x.txn = t := by unfold isB; simp
theorem isW_iff {t i : Int} {x : Ev} : isW t i x = true ↔ x.op = 3 ∧ x.txn = t ∧ x.item = i := by unfold isW; simp
theorem isC_iff {t : Int} {x : Ev} : isC t x = true ↔ x.op = 4 ∧ x.txn = t := by unfold isC; simp
theorem isE_iff {t : Int} {x : Ev} : isE t x = true ↔ (x.op = 4 ∨ x.op = 5) ∧ x.txn = t := by unfold isE; simp
theorem OkTo.begin_one (h : OkTo l n) {i j : Nat} {x y : Ev} {t : Int} (hi : l[i]? = some x) (hj : l[j]? = some y) (hin : i < n) (hjn : j < n) (hx : isB t x = true) (hy : isB t y = true) : i = j := by
  have key : ∀ {i j : Nat} {x y : Ev}, l[i]? = some x → l[j]? = some y → j < n → isB t x = true → isB t y = true → ¬ i < j := fun {i j x y} hi hj hjn hx hy hlt => by
    have := (ev_parts (h j y hjn hj)).2.2.1.1 (any_take.2 ⟨i, x, hlt, hi, by rw [(isB_iff.1 hy).2]; exact hx⟩)
    exact this (isB_iff.1 hy).1
  have h1 := key hi hj hjn hx hy
  have h2 := key hj hi hin hy hx
  omega
theorem OkTo.begin_at (h : OkTo l l.length) {i : Nat} {x : Ev} {t : Int} (hi : l[i]? = some x) (hx : isB t x = true) : beginI l t = some i := by
  obtain ⟨j, hj, hij⟩ := lastI_ge hi hx
  obtain ⟨y, hy, hyp, _⟩ := lastI_some hj
  have := h.begin_one hi hy (List.getElem?_eq_some_iff.1 hi).1 (List.getElem?_eq_some_iff.1 hy).1 hx hyp
  subst this; exact hj
/-- Each event of a transaction lies behind its begin. -/
theorem OkTo.begin_lt (h : OkTo l l.length) {i : Nat} {x : Ev} (hi : l[i]? = some x) (hop : x.op ≠ 1) : ∃ b, beginI l x.txn = some b ∧ b < i := by
  obtain ⟨b, y, hb, hy, hp⟩ := any_take.1 (h.begun hi (List.getElem?_eq_some_iff.1 hi).1 hop)
  exact ⟨b, h.begin_at hy hp, hb⟩
theorem OkTo.commit_gt (h : OkTo l l.length) {i c : Nat} {x : Ev} (hi : l[i]? = some x) (hc : commitI l x.txn = some c) : i ≤ c := by
  obtain ⟨y, hy, hp⟩ := commit_get hc
  by_cases hlt : i ≤ c
  · exact hlt
  · exact (h.after hy hi (List.getElem?_eq_some_iff.1 hi).1 (by omega) (by rw [← (isC_isE hp).2.1] ; exact (isC_isE (by rw [(isC_isE hp).2.1]; exact hp)).1)).elim
theorem stmt_zero {p : List Ev} {t : Int} (h : ∀ x ∈ p, x.txn ≠ t) : stmtM p t = 0 := by
  unfold stmtM
  have : ∀ (q : List Ev) (s : Int), (∀ x ∈ q, x.txn ≠ t) → q.foldl (stmtStep t) s = s := by
    intro q
    induction q with
    | nil => intro s _; rfl
    | cons x q ih =>
      intro s hq
      have hx := hq x List.mem_cons_self
      show q.foldl (stmtStep t) (stmtStep t s x) = s
      have : stmtStep t s x = s := by unfold stmtStep; rw [if_neg]; simp [hx]
      rw [this]
      exact ih s fun y hy => hq y (List.mem_cons_of_mem _ hy)
  exact this p 0 h
end
end Go.Proofs.YtibhpoikhkokiaaGreat.Hw

/- Histories: what is read. -/
set_option linter.unusedVariables false
set_option linter.unusedSimpArgs false
namespace Go.Proofs.YtibhpoikhkokiaaGreat.Hw
open Go Go.Proofs
def inC (x : Int) : List Value := [.int .i64 x]
def big : Nat := 1000000000000
def huge : Nat := 140737488355329
/-- Elements in a slice. -/
structure SlAt {α : Type} (f : α → List Value) (H : Hp) (A : Option Addr) (n : Nat) (l : List α) : Prop where
  len : n = l.length
  cells : cellsAt H A (l.flatMap f)
  small : l.length < huge
theorem SlAt.ext {α : Type} {f : α → List Value} {H H' : Hp} {A : Option Addr} {n : Nat} {l : List α} (h : SlAt f H A n l) (hx : Ext H H') : SlAt f H' A n l := ⟨h.len, cellsAt_ext hx h.cells, h.small⟩
theorem SlAt.lt {α : Type} {f : α → List Value} {H : Hp} {A : Option Addr} {n : Nat} {l : List α} (h : SlAt f H A n l) : l.length < 4611686018427387904 := by have := h.small; unfold huge at this; omega
theorem rd_in {H : Hp} {A : Option Addr} {n : Nat} {l : List Int} {i : Nat} {x : Int} (h : SlAt inC H A n l) (hi : l[i]? = some x) {K : Nat → Nat → Prop}
    (hk : ∀ p o, A = some ⟨p, o, none⟩ → cl H p (o + i) = some (.int .i64 x) → K p o) : onPtr A K := by
  have hlen : ∀ x ∈ l, (inC x).length = 1 := fun x _ => rfl
  have hne : l ≠ [] := fun e => by subst e; simp at hi
  refine at_cells h.cells (flat_ne hlen (by omega) hne) fun p o hA hc => hk p o hA ?_
  have := hc (i * 1 + 0) _ (flat_get hlen hi (by omega))
  rw [Nat.mul_one, Nat.add_zero] at this
  exact this
theorem fnOk (f : Nat) {ts : List Nat} (h : look f tR = some ts) : FnOk Tryz.prog f := chkR_ok tR_ok f ts h
theorem any_take_succ {α : Type} {g : α → Bool} {l : List α} {i : Nat} {x : α} (hx : l[i]? = some x) : (l.take (i + 1)).any g = ((l.take i).any g || g x) := by
  rw [List.take_add_one, hx]; simp
theorem any_hit {α : Type} {g : α → Bool} {l : List α} {i : Nat} {x : α} (hx : l[i]? = some x) (hg : g x = true) : l.any g = true :=
  List.any_eq_true.2 ⟨x, List.mem_of_getElem? hx, hg⟩
theorem any_done {α : Type} {g : α → Bool} {l : List α} (h : (l.take l.length).any g = false) : l.any g = false := by
  rwa [List.take_length] at h
theorem all_take_succ {α : Type} {g : α → Bool} {l : List α} {i : Nat} {x : α} (hx : l[i]? = some x) : (l.take (i + 1)).all g = ((l.take i).all g && g x) := by
  rw [List.take_add_one, hx]; simp
theorem get_of {α : Type} {l : List α} {i : Nat} (h : i < l.length) : ∃ x, l[i]? = some x := ⟨_, List.getElem?_eq_getElem h⟩
def evC (x : Ev) : List Value := [.int .i64 x.op, .int .i64 x.txn, .int .i64 x.item, .int .i64 x.frm, .int .i64 x.stmt]
theorem rd_ev {H : Hp} {A : Option Addr} {n : Nat} {l : List Ev} {i : Nat} {x : Ev} (h : SlAt evC H A n l) (hi : l[i]? = some x) {K : Nat → Nat → Prop}
    (hk : ∀ p o, A = some ⟨p, o, none⟩ → cl H p (o + i * 5) = some (.int .i64 x.op) → cl H p (o + i * 5 + 1) = some (.int .i64 x.txn) → cl H p (o + i * 5 + 1 + 1) = some (.int .i64 x.item) → cl H p (o + i * 5 + 1 + 1 + 1) = some (.int .i64 x.frm) → cl H p (o + i * 5 + 1 + 1 + 1 + 1) = some (.int .i64 x.stmt) → K p o) : onPtr A K := by
  have hlen : ∀ x ∈ l, (evC x).length = 5 := fun x _ => rfl
  have hne : l ≠ [] := fun e => by subst e; simp at hi
  refine at_cells h.cells (flat_ne hlen (by omega) hne) fun p o hA hc => hk p o hA ?_ ?_ ?_ ?_ ?_
  · have := hc (i * 5 + 0) _ (flat_get hlen hi (by omega)); rw [Nat.add_zero] at this; exact this
  · have := hc (i * 5 + 1) _ (flat_get hlen hi (by omega)); rw [← Nat.add_assoc] at this; exact this
  · have := hc (i * 5 + 2) _ (flat_get hlen hi (by omega)); rw [← Nat.add_assoc] at this; exact this
  · have := hc (i * 5 + 3) _ (flat_get hlen hi (by omega)); rw [← Nat.add_assoc] at this; exact this
  · have := hc (i * 5 + 4) _ (flat_get hlen hi (by omega)); rw [← Nat.add_assoc] at this; exact this
theorem kvGet_del {kv : KV} {x y : Int} (h : keysD kv) : kvGet (kvDel kv x) y = if y = x then none else kvGet kv y := by
  have hd := keysD_del (x := x) h
  by_cases e : y = x
  · rw [if_pos e]
    cases hg : kvGet (kvDel kv x) y with
    | none => rfl
    | some v => exact absurd e ((mem_kvDel h).1 ((kvGet_mem hd).1 hg)).2
  · rw [if_neg e]
    cases hg : kvGet kv y with
    | none =>
      cases hg' : kvGet (kvDel kv x) y with
      | none => rfl
      | some v =>
        have := ((mem_kvDel h).1 ((kvGet_mem hd).1 hg')).1
        rw [(kvGet_mem h).2 this] at hg; cases hg
    | some v => exact (kvGet_mem hd).2 ((mem_kvDel h).2 ⟨(kvGet_mem h).1 hg, e⟩)
theorem MapAt.keys {k : IntKind} {H : Hp} {b : Nat} {kv : KV} (h : MapAt k H b kv) : keysD kv := by
  obtain ⟨es, clock, hb, he⟩ := h
  exact he.2.2.2
section
variable {H0 H : Hp} {Q : Value → Hp → Prop}
theorem c85 {n : Int} (hq : Q (.bool (inB n)) H) : HCalls Tryz.prog 85 [.int .i64 n] H Q := by
  refine f85.ok _ ?_
  unfold f85 jn
  unfold inB at hq
  refine cndI (fun h => ?_) (fun h => ?_)
  · rw [show decide (1 ≤ n) = true from h, Bool.true_and] at hq; exact hq
  · rw [show decide (1 ≤ n) = false from h, Bool.false_and] at hq; exact hq
/-- maps.DeleteFunc over a map of whole numbers. -/
theorem c86 {b : Nat} {m : Int → Option Int} {f : Nat} {fa fc : Array Value} {g : Int → Int → Bool} (h : MapF H b (fun x => (m x).map (.int .i64))) (hf : FnOk Tryz.prog f)
    (hg : ∀ k v H' (Q : Value → Hp → Prop), (∀ q, q ≠ b → H q ≠ none → H' q = H q) → Q (.bool (g k v)) H' → HCalls Tryz.prog f (fa.toList ++ [.int .i64 k, .int .i64 v] ++ fc.toList) H' Q)
    (hq : ∀ H', MapF H' b (fun x => ((m x).filter fun v => !g x v).map (.int .i64)) → (∀ q, q ≠ b → H q ≠ none → H' q = H q) → Q (.tuple #[]) H') : HCalls Tryz.prog 86 [.map (some b), .func (.func f) fa fc] H Q := by
  refine f86.ok _ _ _ _ ?_
  unfold f86
  obtain ⟨kv, hm, hkv0⟩ := h
  have hkv : ∀ x, kvGet kv x = (m x).map (.int .i64) := hkv0
  clear hkv0
  refine range_to hm fun i H2 hi x2 hI ho => ?_
  have hib : i ≠ b := by
    rintro rfl
    obtain ⟨es, clock, hb, _⟩ := hm
    rw [hi] at hb; cases hb
  have hin : ∀ y, y ∈ kv.map (·.1) → (m y).isSome = true := fun y hy => by
    obtain ⟨p, hp, rfl⟩ := List.mem_map.1 hy
    have h1 := hkv p.1
    rw [(kvGet_mem hm.keys).2 hp] at h1
    cases hmy : m p.1 with
    | none => rw [hmy] at h1; cases h1
    | some v => rfl
  refine ⟨fun n s H' => ∃ kv' left, n = left.length ∧ IterAt .i64 H' i b kv' left ∧ (∀ q, q ≠ b → H q ≠ none → H' q = H q) ∧ ∀ y, kvGet kv' y = if y ∈ left then (m y).map (.int .i64) else ((m y).filter fun v => !g y v).map (.int .i64),
    ⟨_, kv, kv.map (·.1), rfl, hI, fun q hq hn => ho q (fun e => hn (e ▸ hi)), fun y => ?_⟩, ?_⟩
  · split
    · exact hkv y
    · rename_i hy
      rw [hkv y]
      cases hmy : m y with
      | none => rfl
      | some v =>
        have h1 := hkv y
        rw [hmy] at h1
        exact absurd (List.mem_map.2 ⟨_, (kvGet_mem hm.keys).1 h1, rfl⟩) hy
  rintro n s H4 ⟨kv', left, rfl, hI, hfr, hkv'⟩
  unfold jn
  refine next_to hI hib (fun hl => cndF rfl ?_) (fun x v H8 hxv hxl hI8 hE ho8 => ?_)
  · subst hl
    exact hq H4 ⟨kv', hI.map, fun y => by rw [hkv' y, if_neg (by simp)]⟩ hfr
  have hv := (kvGet_mem hI.map.keys).2 hxv
  rw [hkv' x, if_pos hxl] at hv
  cases hmx : m x with
  | none => rw [hmx] at hv; cases hv
  | some w =>
  rw [hmx] at hv
  cases hv
  have hfr8 : ∀ q, q ≠ b → H q ≠ none → H8 q = H q := fun q hq hn => (ho8 q (fun e => hn (e ▸ hi))).trans (hfr q hq hn)
  have hxn : x ∉ left.filter fun y => decide (y ≠ x) := fun h => by have := (List.mem_filter.1 h).2; simp at this
  have hlt : (left.filter fun y => decide (y ≠ x)).length < left.length := by
    have h1 := List.length_filter_le (fun y => decide (y ≠ x)) left
    by_cases e : (left.filter fun y => decide (y ≠ x)).length = left.length
    · have := List.length_filter_eq_length_iff.1 e x hxl
      simp at this
    · omega
  refine ⟨x, rfl, w, rfl, cndT rfl (entry_to hE ⟨x, rfl, w, rfl, hf, hg x w H8 _ hfr8 ⟨_, rfl, cndI (fun hgx => ?_) (fun hgx => ?_)⟩⟩)⟩
  · refine del_to hI8 hib hxn fun H' hI' ho' => ⟨rfl, _, hlt, _, _, rfl, hI', fun q hq hn => (ho' q hq).trans (hfr8 q hq hn), fun y => ?_⟩
    rw [kvGet_del hI8.map.keys, hkv' y]
    by_cases e : y = x
    · subst e
      rw [if_pos rfl, if_neg hxn, hmx]
      simp [Option.filter, hgx]
    · rw [if_neg e]
      simp [List.mem_filter, e]
  · refine ⟨rfl, _, hlt, _, _, rfl, hI8, hfr8, fun y => ?_⟩
    rw [hkv' y]
    by_cases e : y = x
    · subst e
      rw [if_pos hxl, if_neg hxn, hmx]
      simp [Option.filter, hgx]
    · simp [List.mem_filter, e]
end
end Go.Proofs.YtibhpoikhkokiaaGreat.Hw

/- Histories: the checker of events. -/
set_option linter.unusedVariables false
set_option linter.unusedSimpArgs false
set_option maxRecDepth 20000
namespace Go.Proofs.YtibhpoikhkokiaaGreat.Hw
open Go Go.Proofs
def boolAt (b : Bool) : Option Value := if b then some (.bool true) else none
/-- What the checker holds behind some events. -/
structure CkAt (H0 H : Hp) (c ct cw co : Nat) (blk : Int → Nat) (p : List Ev) : Prop where
  ext : Ext H0 H
  cell : ∃ ty, H c = some (.cells #[.map (some ct), .map (some cw), .map (some co)] ty (0, 0))
  n1 : H0 c = none
  n2 : H0 ct = none
  n3 : H0 cw = none
  n4 : H0 co = none
  txns : MapF H ct (fun u => if begunM p u then some (.pointer (some ⟨blk u, 0, none⟩)) else none)
  each : ∀ u, begunM p u = true → (∃ ty, H (blk u) = some (.cells #[.bool true, .bool (endedM p u), .int .i64 (stmtM p u)] ty (0, 0))) ∧ H0 (blk u) = none
  inj : ∀ u v, begunM p u = true → begunM p v = true → blk u = blk v → u = v
  wrote : MapF2 H cw (fun u i => boolAt (wroteM p u i))
  opn : MapF H co (fun i => (openM p i).map (.int .i64))
  d1 : ct ≠ cw
  d2 : ct ≠ co
  d3 : cw ≠ co
  zero : ∀ u, begunM p u = false → stmtM p u = 0 ∧ endedM p u = false
/-- The same while an event of a transaction is looked at: its state's block, the maps as they are. -/
structure MidAt (H0 H : Hp) (c ct cw co : Nat) (blk : Int → Nat) (p : List Ev) (t : Int) (e : Nat) (vb ve : Bool) (vs : Int) (W : Int → Int → Option Value) (O : Int → Option Value) (g : Nat) (x : Ev) : Prop where
  ext : Ext H0 H
  cell : ∃ ty, H c = some (.cells #[.map (some ct), .map (some cw), .map (some co)] ty (0, 0))
  n1 : H0 c = none
  n2 : H0 ct = none
  n3 : H0 cw = none
  n4 : H0 co = none
  n5 : H0 e = none
  txns : MapF H ct (fun u => if u = t then some (.pointer (some ⟨e, 0, none⟩)) else if begunM p u then some (.pointer (some ⟨blk u, 0, none⟩)) else none)
  own : ∃ ty, H e = some (.cells #[.bool vb, .bool ve, .int .i64 vs] ty (0, 0))
  each : ∀ u, u ≠ t → begunM p u = true → (∃ ty, H (blk u) = some (.cells #[.bool true, .bool (endedM p u), .int .i64 (stmtM p u)] ty (0, 0))) ∧ H0 (blk u) = none ∧ blk u ≠ e
  inj : ∀ u v, begunM p u = true → begunM p v = true → blk u = blk v → u = v
  wrote : MapF2 H cw W
  opn : MapF H co O
  d1 : ct ≠ cw
  d2 : ct ≠ co
  d3 : cw ≠ co
  ev : ∃ ty, H g = some (.cells (evC x).toArray ty (0, 0))
  ge : g ≠ e
theorem MapF2.ne {H : Hp} {b : Nat} {f : Int → Int → Option Value} {b' : Nat} {cs : Array Value} {ty : Nat} {z : Nat × Nat} (h : MapF2 H b f) (hb : H b' = some (.cells cs ty z)) : b ≠ b' := by
  rintro rfl
  obtain ⟨es, clock, h1, _⟩ := h
  rw [h1] at hb; cases hb
section
variable {H0 H H' : Hp} {c ct cw co e g : Nat} {blk : Int → Nat} {p : List Ev} {t : Int} {vb ve : Bool} {vs : Int} {W : Int → Int → Option Value} {O : Int → Option Value} {x : Ev}
theorem MidAt.move {vb' ve' : Bool} {vs' : Int} {W' : Int → Int → Option Value} {O' : Int → Option Value} (M : MidAt H0 H c ct cw co blk p t e vb ve vs W O g x)
    (hk : ∀ q, q ≠ e → q ≠ cw → q ≠ co → H q ≠ none → H' q = H q) (hown : ∃ ty, H' e = some (.cells #[.bool vb', .bool ve', .int .i64 vs'] ty (0, 0))) (hW : MapF2 H' cw W') (hO : MapF H' co O') : MidAt H0 H' c ct cw co blk p t e vb' ve' vs' W' O' g x := by
  obtain ⟨tc, hc⟩ := M.cell
  obtain ⟨te, he⟩ := M.own
  obtain ⟨tg, hg⟩ := M.ev
  have hce : c ≠ e := fun h => by subst h; rw [hc] at he; cases he
  refine ⟨fun q o hq => ?_, ⟨tc, (hk c hce (M.wrote.ne hc).symm (M.opn.ne hc).symm (by rw [hc]; simp)).trans hc⟩, M.n1, M.n2, M.n3, M.n4, M.n5, M.txns.keep (hk ct (M.txns.ne he) M.d1 M.d2 M.txns.live), hown, fun u hu hb => ?_, M.inj, hW, hO, M.d1, M.d2, M.d3, ⟨tg, (hk g M.ge (M.wrote.ne hg).symm (M.opn.ne hg).symm (by rw [hg]; simp)).trans hg⟩, M.ge⟩
  · have h1 := M.ext q o hq
    rw [hk q (fun h => by subst h; rw [M.n5] at hq; cases hq) (fun h => by subst h; rw [M.n3] at hq; cases hq) (fun h => by subst h; rw [M.n4] at hq; cases hq) (by rw [h1]; simp)]
    exact h1
  · obtain ⟨⟨ty, h1⟩, h2, h3⟩ := M.each u hu hb
    exact ⟨⟨ty, (hk (blk u) h3 (M.wrote.ne h1).symm (M.opn.ne h1).symm (by rw [h1]; simp)).trans h1⟩, h2, h3⟩
/-- Behind an event that could come the checker holds what it shall. -/
theorem MidAt.next (M : MidAt H0 H c ct cw co blk p x.txn e true (endedM (p ++ [x]) x.txn) (stmtM (p ++ [x]) x.txn) (fun u i => boolAt (wroteM (p ++ [x]) u i)) (fun i => (openM (p ++ [x]) i).map (.int .i64)) g x) (hok : evOk p x = true)
    (hz : ∀ u, begunM p u = false → stmtM p u = 0 ∧ endedM p u = false) : CkAt H0 H c ct cw co (fun u => if u = x.txn then e else blk u) (p ++ [x]) := by
  obtain ⟨q1, q2, q3, q4⟩ := ev_parts hok
  have hself : begunM (p ++ [x]) x.txn = true := by
    rw [begun_snoc]
    by_cases h1 : x.op = 1
    · have : isB x.txn x = true := isB_iff.2 ⟨h1, rfl⟩
      rw [this, Bool.or_true]
    · rw [q3.2 h1, Bool.true_or]
  have hoth : ∀ u, u ≠ x.txn → begunM (p ++ [x]) u = begunM p u ∧ endedM (p ++ [x]) u = endedM p u ∧ stmtM (p ++ [x]) u = stmtM p u := fun u hu => by
    have hu' : (x.txn == u) = false := by simpa using fun h => hu h.symm
    refine ⟨?_, ?_, ?_⟩
    · rw [begun_snoc]; unfold isB; rw [hu', Bool.and_false, Bool.or_false]
    · rw [ended_snoc]; unfold isE; rw [hu', Bool.and_false, Bool.or_false]
    · rw [stmt_snoc]; unfold stmtStep; rw [hu', Bool.and_false]; rfl
  refine ⟨M.ext, M.cell, M.n1, M.n2, M.n3, M.n4, ?_, fun u hu => ?_, fun u v hu hv huv => ?_, M.wrote, M.opn, M.d1, M.d2, M.d3, fun u hu => ?_⟩
  · obtain ⟨kv, hm, hf⟩ := M.txns
    refine ⟨kv, hm, fun u => (hf u).trans ?_⟩
    by_cases hu : u = x.txn
    · subst hu
      simp only [if_true, hself]
    · simp only [if_neg hu, (hoth u hu).1]
  · by_cases h : u = x.txn
    · subst h
      simp only [if_true]
      exact ⟨M.own, M.n5⟩
    · simp only [if_neg h]
      rw [(hoth u h).1] at hu
      obtain ⟨h1, h2, h3⟩ := M.each u h hu
      rw [(hoth u h).2.1, (hoth u h).2.2]
      exact ⟨h1, h2⟩
  · by_cases h1 : u = x.txn
    · by_cases h2 : v = x.txn
      · rw [h1, h2]
      · simp only [if_pos h1, if_neg h2] at huv
        rw [(hoth v h2).1] at hv
        exact absurd huv.symm (M.each v h2 hv).2.2
    · by_cases h2 : v = x.txn
      · simp only [if_neg h1, if_pos h2] at huv
        rw [(hoth u h1).1] at hu
        exact absurd huv (M.each u h1 hu).2.2
      · simp only [if_neg h1, if_neg h2] at huv
        rw [(hoth u h1).1] at hu
        rw [(hoth v h2).1] at hv
        exact M.inj u v hu hv huv
  · by_cases h : u = x.txn
    · subst h; rw [hself] at hu; cases hu
    · rw [(hoth u h).1] at hu
      rw [(hoth u h).2.1, (hoth u h).2.2]
      exact hz u hu
end
end Go.Proofs.YtibhpoikhkokiaaGreat.Hw
