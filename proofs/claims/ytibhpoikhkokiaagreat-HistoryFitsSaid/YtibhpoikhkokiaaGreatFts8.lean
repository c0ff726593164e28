/- HsTab HsFa HsMem HsCmp Ts Tm Tn To Tu Tv Tw (joined by merge.py) -/
import Derived.Test.YtibhpoikhkokiaaGreatFts7
import Derived.Test.YtibhpoikhkokiaaGreatProg
import Derived.KernelRfl
import Derived.Sort.Grow
import Derived.Deep.Draws
import Derived.Test.YtibhpoikhkokiaaGreatFts5
import Derived.Shelf.SlSortCmp.NoneTotal
/- The types and functions of this translation, for the evaluator. Written by a program of this session. -/
set_option linter.unusedVariables false
set_option maxRecDepth 100000
namespace Go.Proofs.YtibhpoikhkokiaaGreat.Hs
open Go Go.Proofs
def tT : List (Nat × TI) := [
  (3, ⟨false, [(.int .i64 0)], .scalar, false⟩),
  (4, ⟨false, [(.bool false)], .scalar, false⟩),
  (5, ⟨false, [(.int .u8 0)], .scalar, false⟩),
  (9, ⟨false, [(.string ByteArray.empty)], .string, false⟩),
  (22, ⟨false, [(.slice none 0 0)], .slice 35 5 40, false⟩),
  (23, ⟨false, [(.slice none 0 0)], .slice 3 1 8, false⟩),
  (26, ⟨false, [(.int .i64 0)], .scalar, false⟩),
  (29, ⟨false, [(.slice none 0 0)], .slice 9 1 16, false⟩),
  (33, ⟨false, [(.int .i64 0)], .scalar, false⟩),
  (35, ⟨true, [(.int .i64 0), (.int .i64 0), (.int .i64 0), (.int .i64 0), (.int .i64 0)], .struct [(0, 1, false), (1, 1, false), (2, 1, false), (3, 1, false), (4, 1, false)], true⟩),
  (39, ⟨false, [(.slice none 0 0)], .slice 52 4 32, false⟩),
  (52, ⟨true, [(.int .i64 0), (.int .i64 0), (.int .i64 0), (.int .i64 0)], .struct [(0, 1, false), (1, 1, false), (2, 1, false), (3, 1, false)], true⟩),
  (56, ⟨false, [(.pointer none)], .scalar, false⟩),
  (58, ⟨false, [(.map none)], .map 3 3, false⟩),
  (59, ⟨false, [(.map none)], .map 3 23, false⟩),
  (60, ⟨false, [(.map none)], .map 99 3, false⟩),
  (62, ⟨true, [(.slice none 0 0), (.map none), (.map none), (.map none), (.map none)], .struct [(0, 1, false), (1, 1, false), (2, 1, false), (3, 1, false), (4, 1, false)], false⟩),
  (63, ⟨false, [.nilFunc], .scalar, false⟩),
  (69, ⟨false, [(.map none)], .map 3 23, false⟩),
  (72, ⟨false, [(.pointer none)], .scalar, false⟩),
  (73, ⟨false, [(.map none)], .map 3 111, false⟩),
  (74, ⟨false, [(.map none)], .map 99 4, false⟩),
  (76, ⟨true, [(.map none), (.map none), (.map none)], .struct [(0, 1, false), (1, 1, false), (2, 1, false)], false⟩),
  (78, ⟨false, [.nilFunc], .scalar, false⟩),
  (79, ⟨false, [(.pointer none)], .scalar, false⟩),
  (81, ⟨false, [(.slice none 0 0)], .slice 84 4 40, false⟩),
  (84, ⟨true, [(.bool false), (.bool false), (.int .i64 0), (.slice none 0 0)], .struct [(0, 1, false), (1, 1, false), (2, 1, false), (3, 1, false)], false⟩),
  (88, ⟨false, [.nilFunc], .scalar, false⟩),
  (94, ⟨false, [(.map none)], .map 3 4, false⟩),
  (97, ⟨false, [.nilFunc], .scalar, false⟩),
  (98, ⟨false, [(.map none)], .map 3 94, false⟩),
  (99, ⟨true, [(.int .i64 0), (.int .i64 0)], .array 2 1 false, true⟩),
  (105, ⟨false, [.nilFunc], .scalar, false⟩),
  (111, ⟨false, [(.pointer none)], .scalar, false⟩),
  (113, ⟨true, [(.bool false), (.bool false), (.int .i64 0)], .struct [(0, 1, false), (1, 1, false), (2, 1, false)], false⟩),
  (116, ⟨false, [.nilFunc], .scalar, false⟩),
  (118, ⟨true, [(.slice none 0 0), (.slice none 0 0)], .struct [(0, 1, false), (1, 1, false)], false⟩),
  (122, ⟨false, [(.slice none 0 0)], .slice 23 1 24, false⟩),
  (127, ⟨false, [(.int .u64 0)], .scalar, false⟩),
  (134, ⟨false, [(.int .i64 0)], .scalar, false⟩),
  (141, ⟨false, [(.int .u32 0)], .scalar, false⟩),
  (143, ⟨false, [(.int .u64 0)], .scalar, false⟩),
  (149, ⟨false, [(.int .u64 0)], .scalar, false⟩),
  (153, ⟨false, [(.pointer none)], .scalar, false⟩),
  (157, ⟨false, [(.pointer none)], .scalar, false⟩)]
def tR : List (Nat × List Nat) := [(3, [4]), (4, [4]), (5, [4]), (6, [4]), (7, [4]), (8, [4]), (9, [4]), (10, [4]), (11, [4]), (12, [4, 26]), (13, [29, 26]), (14, [4]), (15, [4]), (16, [4, 26]), (17, [4, 26]), (18, [39, 26]), (19, [39, 26]), (20, [4]), (21, [4]), (22, [29, 26]), (23, [23, 26]), (24, [23, 26]), (25, [4]), (26, [4, 26]), (27, [4, 26]), (28, [4, 26]), (29, [23, 4, 26]), (30, [23, 4, 26]), (31, [22, 26]), (32, [22, 26]), (33, [4]), (34, [35]), (35, [35]), (36, [35]), (37, [35]), (38, [56]), (39, [4]), (40, [4]), (41, [4]), (42, [39]), (43, [4]), (44, [4, 4]), (45, [69]), (46, [4]), (47, [4]), (48, [4]), (49, [4]), (50, [4]), (51, [4]), (52, [4]), (53, [4]), (54, [79]), (55, [39]), (56, [4]), (57, [4]), (58, [4]), (59, [4]), (60, [4]), (61, [4]), (62, [23]), (63, [88]), (64, [23]), (65, [23]), (66, [23]), (67, [4]), (68, [88]), (69, [4]), (70, [4]), (71, [4]), (72, [3]), (73, []), (74, [4]), (75, [3]), (76, []), (77, [3]), (78, [39]), (79, []), (80, [4]), (81, [94]), (82, [4]), (83, [4]), (84, [3]), (85, [4]), (86, []), (87, [4]), (88, [23]), (89, [39]), (90, [4]), (91, [4]), (92, [23]), (93, []), (94, [23]), (95, [4]), (96, [4]), (97, []), (98, [3]), (99, [4]), (100, []), (101, [3]), (102, [3]), (103, [3]), (104, []), (105, [3]), (106, [4]), (108, [4]), (109, [4]), (110, [4]), (111, [3]), (112, [4]), (113, []), (114, []), (115, []), (116, [3, 134]), (117, []), (118, [4]), (119, [3]), (120, [3, 4]), (121, [3]), (122, [3]), (123, [4]), (124, []), (125, []), (126, []), (127, [3, 134]), (128, []), (129, [4]), (130, [4]), (131, [3]), (132, [3, 4]), (133, [4]), (134, [3]), (135, [4]), (136, []), (137, [127]), (138, [143]), (139, [3]), (140, [3])]
def tO : List Nat := []
theorem tO_ok : ∀ g, elemN g tO = true → OverOk Tryz.prog g := fun g h => by
  cases h
theorem tT_ok : chkT Tryz.prog tT = true := by kernel_rfl
theorem tR_ok : chkR Tryz.prog tR = true := by kernel_rfl
theorem mixed : Tryz.prog.follows .mixedOrders = true := by kernel_rfl
noncomputable def cx (n : Nat) (virt : List (Nat × Bool)) (loops : List (Nat × LD)) (perms : List (Nat × OT)) (nexts : List (Nat × (Value × Value))) : Cx := ⟨Tryz.prog, tT, tR, n, virt, loops, perms, nexts, tO⟩
theorem cxOk (n : Nat) (virt : List (Nat × Bool)) (loops : List (Nat × LD)) (perms : List (Nat × OT)) (nexts : List (Nat × (Value × Value))) : CxOk (cx n virt loops perms nexts) := ⟨chkT_ok tT_ok, ⟨chkR_ok tR_ok, tO_ok⟩, mixed⟩
end Go.Proofs.YtibhpoikhkokiaaGreat.Hs


/- What functions of the program come to, by the evaluator: printed by a program of this session (gen.py) and checked here. -/
set_option linter.unusedVariables false
set_option maxRecDepth 100000
namespace Go.Proofs.YtibhpoikhkokiaaGreat.Hs
open Go Go.Proofs

/-- justiciar history.order -/
def f77 (pa_0 : Int) (pa_1 : Int) (pa_2 : Int) (pa_3 : Int) (pb_0 : Int) (pb_1 : Int) (pb_2 : Int) (pb_3 : Int) (H : Hp) (Q : Value → Hp → Prop) : Prop :=
  HCalls Tryz.prog 103 [.int .i64 pa_0, .int .i64 pb_0] H fun v1 H2 => ∃ x3 : Int, v1 = .int .i64 x3 ∧ HCalls Tryz.prog 103 [.int .i64 pa_1, .int .i64 pb_1] H2 fun v4 H5 => ∃ x6 : Int, v4 = .int .i64 x6 ∧ HCalls Tryz.prog
    103 [.int .i64 pa_2, .int .i64 pb_2] H5 fun v7 H8 => ∃ x9 : Int, v7 = .int .i64 x9 ∧ HCalls Tryz.prog 103 [.int .i64 pa_3, .int .i64 pb_3] H8 fun v10 H11 => ∃ x12 : Int, v10 = .int .i64 x12 ∧ newF H11 3 [.int .i64 x3,
    .int .i64 x6, .int .i64 x9, .int .i64 x12] fun g13 H14 => HCalls Tryz.prog 102 [.slice (some ⟨g13, 0, none⟩) 4 4] H14 fun v15 H16 => ∃ x17 : Int, v15 = .int .i64 x17 ∧ Q (.int .i64 x17) H16
noncomputable def fcx77 : Cx := cx 27 [(2, true), (3, true)] [] [(1, (.look 0 (.look 1 (.look 2 (.look 3 (.look 5 (.look 6 (.look 7 (.look 8 (.look 10 (.look 11 (.look 12 (.look 13 (.look 15 (.look 16 (.look 17 (.look 18 (.act 4 (.act 9 (.act 14 (.act 19 (.act 20 (.act 21 (.act 22 .done .done) .done) .done) .done) .done) .done) .done))))))))))))))))))] []
theorem f77.eq (pa_0 : Int) (pa_1 : Int) (pa_2 : Int) (pa_3 : Int) (pb_0 : Int) (pb_1 : Int) (pb_2 : Int) (pb_3 : Int) (H : Hp) (Q : Value → Hp → Prop) : f77 pa_0 pa_1 pa_2 pa_3 pb_0 pb_1 pb_2 pb_3 H Q = wFun fcx77 Tryz.f77 [.agg #[.int .i64 pa_0, .int .i64 pa_1, .int .i64 pa_2, .int .i64 pa_3], .agg #[.int .i64 pb_0, .int .i64 pb_1, .int .i64 pb_2, .int .i64 pb_3]] H Q := by kernel_rfl
theorem f77.ok (pa_0 : Int) (pa_1 : Int) (pa_2 : Int) (pa_3 : Int) (pb_0 : Int) (pb_1 : Int) (pb_2 : Int) (pb_3 : Int) {H : Hp} {Q : Value → Hp → Prop} (h : f77 pa_0 pa_1 pa_2 pa_3 pb_0 pb_1 pb_2 pb_3 H Q) : HCalls Tryz.prog 77 [.agg #[.int .i64 pa_0, .int .i64 pa_1, .int .i64 pa_2, .int .i64 pa_3], .agg #[.int .i64 pb_0, .int .i64 pb_1, .int .i64 pb_2, .int .i64 pb_3]] H Q := hcalls_of (cxOk 27 [(2, true), (3, true)] [] [(1, (.look 0 (.look 1 (.look 2 (.look 3 (.look 5 (.look 6 (.look 7 (.look 8 (.look 10 (.look 11 (.look 12 (.look 13 (.look 15 (.look 16 (.look 17 (.look 18 (.act 4 (.act 9 (.act 14 (.act 19 (.act 20 (.act 21 (.act 22 .done .done) .done) .done) .done) .done) .done) .done))))))))))))))))))] []) Tryz.func77 (Eq.mp (f77.eq pa_0 pa_1 pa_2 pa_3 pb_0 pb_1 pb_2 pb_3 H Q) h)

/-- cmp.Or[int] -/
def f102 (pvals_A : Option Addr) (pvals_n pvals_c : Nat) (H : Hp) (Q : Value → Hp → Prop) : Prop :=
  LoopF (σ := (Int × Unit) × Unit) ((0, ()), ()) H fun s1 H2 next3 => cnd (decide ((s1.1.1 : Int) < ((pvals_n : Nat) : Int))) (0 ≤ (s1.1.1 : Int) ∧ (s1.1.1 : Int) < ((pvals_n : Nat) : Int) ∧ onPtr pvals_A fun b4 o4 => ∃ x5
    : Int, cl H2 b4 (o4 + (s1.1.1 : Int).toNat * 1) = some (.int .i64 x5) ∧ cnd ((x5 : Int) != 0) (Q (.int .i64 x5) H2) (KeepX [some (.v (.int .i64 0)), some (.v (.slice pvals_A pvals_n pvals_c)), some (.v (.int .i64
    ((pvals_n : Nat) : Int)))] [] ∧ next3 ((IntKind.i64.wrap (s1.1.1 + 1), ()), ()) H2)) (Q (.int .i64 0) H2)
noncomputable def fcx102 : Cx := cx 18 [] [(3, ⟨[3, 6, 7], [], [(8, .int .i64)], []⟩)] [] []
theorem f102.eq (pvals_A : Option Addr) (pvals_n pvals_c : Nat) (H : Hp) (Q : Value → Hp → Prop) : f102 pvals_A pvals_n pvals_c H Q = wFun fcx102 Tryz.f102 [.slice pvals_A pvals_n pvals_c] H Q := by kernel_rfl
theorem f102.ok (pvals_A : Option Addr) (pvals_n pvals_c : Nat) {H : Hp} {Q : Value → Hp → Prop} (h : f102 pvals_A pvals_n pvals_c H Q) : HCalls Tryz.prog 102 [.slice pvals_A pvals_n pvals_c] H Q := hcalls_of (cxOk 18 [] [(3, ⟨[3, 6, 7], [], [(8, .int .i64)], []⟩)] [] []) Tryz.func102 (Eq.mp (f102.eq pvals_A pvals_n pvals_c H Q) h)

/-- cmp.Compare[int] -/
def f103 (px : Int) (py : Int) (H : Hp) (Q : Value → Hp → Prop) : Prop :=
  HCalls Tryz.prog 123 [.int .i64 px] H fun v1 H2 => ∃ x3 : Bool, v1 = .bool x3 ∧ HCalls Tryz.prog 123 [.int .i64 py] H2 fun v4 H5 => ∃ x6 : Bool, v4 = .bool x6 ∧ cnd x3 (cnd x6 (Q (.int .i64 0) H5) (Q (.int .i64 (-1)) H5))
    (cnd x6 (Q (.int .i64 1) H5) (cnd (decide ((px : Int) < py)) (Q (.int .i64 (-1)) H5) (cnd (decide ((px : Int) > py)) (Q (.int .i64 1) H5) (Q (.int .i64 0) H5))))
noncomputable def fcx103 : Cx := cx 20 [] [] [] []
theorem f103.eq (px : Int) (py : Int) (H : Hp) (Q : Value → Hp → Prop) : f103 px py H Q = wFun fcx103 Tryz.f103 [.int .i64 px, .int .i64 py] H Q := by kernel_rfl
theorem f103.ok (px : Int) (py : Int) {H : Hp} {Q : Value → Hp → Prop} (h : f103 px py H Q) : HCalls Tryz.prog 103 [.int .i64 px, .int .i64 py] H Q := hcalls_of (cxOk 20 [] [] [] []) Tryz.func103 (Eq.mp (f103.eq px py H Q) h)

/-- cmp.isNaN[int] -/
def f123 (px : Int) (H : Hp) (Q : Value → Hp → Prop) : Prop :=
  Q (.bool ((px : Int) != px)) H
noncomputable def fcx123 : Cx := cx 6 [] [] [] []
theorem f123.eq (px : Int) (H : Hp) (Q : Value → Hp → Prop) : f123 px H Q = wFun fcx123 Tryz.f123 [.int .i64 px] H Q := by kernel_rfl
theorem f123.ok (px : Int) {H : Hp} {Q : Value → Hp → Prop} (h : f123 px H Q) : HCalls Tryz.prog 123 [.int .i64 px] H Q := hcalls_of (cxOk 6 [] [] [] []) Tryz.func123 (Eq.mp (f123.eq px H Q) h)

end Go.Proofs.YtibhpoikhkokiaaGreat.Hs

/- Heaps that grow, slices in them, and what the memory operations of the evaluator come to. -/
set_option linter.unusedVariables false
set_option linter.unusedSimpArgs false
namespace Go.Proofs.YtibhpoikhkokiaaGreat.Hs
open Go

/-- Whatever the one heap has, the other has too. -/
def Ext (H H' : Hp) : Prop := ∀ b o, H b = some o → H' b = some o
theorem Ext.refl (H : Hp) : Ext H H := fun _ _ h => h
theorem Ext.trans {H1 H2 H3 : Hp} (h : Ext H1 H2) (h' : Ext H2 H3) : Ext H1 H3 := fun b o hb => h' b o (h b o hb)
theorem upd_at {α : Type} {t : Nat} {a : α} {e : Nat → Option α} : upd t a e t = some a := by simp [upd]
theorem upd_off {α : Type} {t x : Nat} {a : α} {e : Nat → Option α} (h : x ≠ t) : upd t a e x = e x := by
  unfold upd
  cases hb : Nat.beq x t with
  | true => exact absurd (Nat.eq_of_beq_eq_true hb) h
  | false => rfl
theorem Ext.new {H : Hp} {b : Nat} {o : Obj} (h : H b = none) : Ext H (upd b o H) := fun x p hx => by
  rw [upd_off (fun e => by rw [e, h] at hx; cases hx)]; exact hx
theorem Ext.upd {H0 H : Hp} {b : Nat} {o : Obj} (h : Ext H0 H) (hb : H0 b = none) : Ext H0 (upd b o H) := fun x p hx => by
  rw [upd_off (fun e => by rw [e, hb] at hx; cases hx)]; exact h x p hx
theorem Ext.none {H H' : Hp} (h : Ext H H') {b : Nat} (hb : H' b = none) : H b = none := by
  cases hx : H b with
  | none => rfl
  | some o => rw [h b o hx] at hb; cases hb

theorem cl_ext {H H' : Hp} (h : Ext H H') {b o : Nat} {v : Value} (hc : cl H b o = some v) : cl H' b o = some v := by
  unfold cl at hc ⊢
  cases hb : H b with
  | none => rw [hb] at hc; cases hc
  | some p => rw [hb] at hc; rw [h b p hb]; exact hc
theorem cellsAt_ext {H H' : Hp} (h : Ext H H') {A : Option Addr} {l : List Value} (hc : cellsAt H A l) : cellsAt H' A l := by
  rcases hc with hc | ⟨b, o, hA, hc⟩
  · exact .inl hc
  · exact .inr ⟨b, o, hA, fun j v hj => cl_ext h (hc j v hj)⟩
theorem cl_cells {H : Hp} {b : Nat} {cs : List Value} {ty : Nat} {z : Nat × Nat} (h : H b = some (.cells cs.toArray ty z)) (o : Nat) : cl H b o = cs[o]? := by
  unfold cl; rw [h]; simp
/-- A slice's element: where it lies. -/
theorem at_cells {H : Hp} {A : Option Addr} {vs : List Value} (h : cellsAt H A vs) (hn : vs ≠ []) {K : Nat → Nat → Prop}
    (hk : ∀ b o, A = some ⟨b, o, none⟩ → (∀ j v, vs[j]? = some v → cl H b (o + j) = some v) → K b o) : onPtr A K := by
  rcases h with h | ⟨b, o, rfl, h⟩
  · exact absurd h hn
  · exact hk b o rfl h
theorem cellsAt_take {H : Hp} {A : Option Addr} {vs : List Value} {k : Nat} (h : cellsAt H A vs) : cellsAt H A (vs.take k) := by
  rcases h with h | ⟨b, o, rfl, h⟩
  · subst h; exact .inl (by simp)
  · exact .inr ⟨b, o, rfl, fun j v hj => by
      rw [List.getElem?_take] at hj
      split at hj
      · exact h j v hj
      · cases hj⟩

theorem wrap_id {x : Int} (h1 : -9223372036854775808 ≤ x) (h2 : x < 9223372036854775808) : IntKind.i64.wrap x = x := by
  unfold IntKind.wrap
  simp [IntKind.bits, IntKind.signed]
  omega

/-- The same, with the loop's step handed on as it is. -/
theorem loop_to {σ : Type} {s0 : σ} {H : Hp} {body : σ → Hp → (σ → Hp → Prop) → Prop} (n : Nat) (I : Nat → σ → Hp → Prop) (h0 : I 0 s0 H)
    (hs : ∀ i s H' (next : σ → Hp → Prop), i ≤ n → I i s H' → (∀ s' H2, i < n → I (i + 1) s' H2 → next s' H2) → body s H' next) : LoopF s0 H body :=
  ⟨fun m s H' => ∃ i, i + m = n ∧ I i s H', ⟨n, 0, by omega, h0⟩, fun m s H' ⟨i, hi, hI⟩ => hs i s H' _ (by omega) hI (fun s' H2 hlt h2 => ⟨n - (i + 1), by omega, i + 1, by omega, h2⟩)⟩

theorem cndT {b : Bool} {A B : Prop} (h : b = true) (hA : A) : cnd b A B := by subst h; exact hA
theorem cndF {b : Bool} {A B : Prop} (h : b = false) (hB : B) : cnd b A B := by subst h; exact hB
theorem cndI {b : Bool} {A B : Prop} (hA : b = true → A) (hB : b = false → B) : cnd b A B := by
  cases b
  · exact hB rfl
  · exact hA rfl
theorem onPtrI {b o : Nat} {K : Nat → Nat → Prop} (h : K b o) : onPtr (some ⟨b, o, none⟩) K := h
/-- A loop over the indices of a slice. -/
theorem scan {n : Nat} {H : Hp} {body : ((Int × Unit) × Unit) → Hp → (((Int × Unit) × Unit) → Hp → Prop) → Prop} (hn : n < 4611686018427387904) (I : Nat → Hp → Prop) (h0 : I 0 H)
    (hs : ∀ (i : Nat) H' next, i < n → I i H' → (∀ H2, I (i + 1) H2 → next ((IntKind.i64.wrap ((i : Int) + 1), ()), ()) H2) → body (((i : Int), ()), ()) H' next)
    (he : ∀ H' next, I n H' → body (((n : Int), ()), ()) H' next) : LoopF (((0 : Int), ()), ()) H body := by
  refine loop_to n (fun i s H' => s = (((i : Int), ()), ()) ∧ I i H') ⟨rfl, h0⟩ ?_
  rintro i s H' next hi ⟨rfl, hI⟩ hnext
  by_cases h : i < n
  · refine hs i H' next h hI fun H2 h2 => hnext _ _ h ⟨?_, h2⟩
    rw [wrap_id (by omega) (by omega)]
    rfl
  · obtain rfl : i = n := by omega
    exact he H' next hI

/-! ### rows: blocks of their own behind slices -/
/-- A slice whose block is its own (no other slice of 'H0' has it), of which the first cells are known. -/
def Row (H0 H : Hp) (A : Option Addr) (n c esz : Nat) (vals : List Value) : Prop :=
  vals.length = n * esz ∧ n ≤ c ∧ ((A = none ∧ c = 0) ∨ ∃ (b : Nat) (cs : List Value) (ty : Nat), A = some ⟨b, 0, none⟩ ∧ H b = some (.cells cs.toArray ty (0, 0)) ∧ c * esz ≤ cs.length ∧ cs.take (n * esz) = vals ∧ H0 b = none)
/-- The block of a row, if it has one. -/
def rowB (A : Option Addr) (b : Nat) : Prop := ∃ o q, A = some ⟨b, o, q⟩
theorem Row.cells {H0 H : Hp} {A : Option Addr} {n c esz : Nat} {vals : List Value} (h : Row H0 H A n c esz vals) : cellsAt H A vals := by
  obtain ⟨h1, h2, h3 | ⟨b, cs, ty, rfl, hb, hl, ht, _⟩⟩ := h
  · left
    have : n = 0 := by omega
    subst this
    simpa using h1
  · right
    refine ⟨b, 0, rfl, fun j v hj => ?_⟩
    rw [cl_cells hb, Nat.zero_add]
    rw [← ht, List.getElem?_take] at hj
    split at hj
    · exact hj
    · cases hj
/-- A row stays where its block stays. -/
theorem Row.keep {H0 H H' : Hp} {A : Option Addr} {n c esz : Nat} {vals : List Value} (h : Row H0 H A n c esz vals) (hk : ∀ b, rowB A b → H' b = H b) : Row H0 H' A n c esz vals := by
  obtain ⟨h1, h2, h3 | ⟨b, cs, ty, rfl, hb, hl, ht, hz⟩⟩ := h
  · exact ⟨h1, h2, .inl h3⟩
  · exact ⟨h1, h2, .inr ⟨b, cs, ty, rfl, (hk b ⟨_, _, rfl⟩).trans hb, hl, ht, hz⟩⟩
theorem Row.lt {H0 H : Hp} {A : Option Addr} {n c esz : Nat} {vals : List Value} (h : Row H0 H A n c esz vals) {b : Nat} (hb : rowB A b) : H b ≠ none ∧ H0 b = none := by
  obtain ⟨h1, h2, h3 | ⟨b', cs, ty, rfl, hb', hl, ht, hz⟩⟩ := h
  · obtain ⟨o, q, hA⟩ := hb; rw [h3.1] at hA; cases hA
  · obtain ⟨o, q, hA⟩ := hb
    cases hA
    exact ⟨by rw [hb']; simp, hz⟩
theorem Row.base {H0 H1 H : Hp} {A : Option Addr} {n c esz : Nat} {vals : List Value} (h : Row H1 H A n c esz vals) (hx : Ext H0 H1) : Row H0 H A n c esz vals := by
  obtain ⟨h1, h2, h3 | ⟨b, cs, ty, rfl, hb, hl, ht, hz⟩⟩ := h
  · exact ⟨h1, h2, .inl h3⟩
  · exact ⟨h1, h2, .inr ⟨b, cs, ty, rfl, hb, hl, ht, hx.none hz⟩⟩
theorem Row.nil {H0 H : Hp} {esz : Nat} : Row H0 H none 0 0 esz [] := ⟨by simp, Nat.le_refl _, .inl ⟨rfl, rfl⟩⟩

theorem setR_take {cs vs : List Value} {o : Nat} (h : o + vs.length ≤ cs.length) : (setR cs o vs).take (o + vs.length) = cs.take o ++ vs := by
  unfold setR
  rw [List.take_append_of_le_length (by rw [List.length_append, List.length_take]; omega), List.take_of_length_le (by rw [List.length_append, List.length_take]; omega)]
theorem setR_length {cs vs : List Value} {o : Nat} (h : o + vs.length ≤ cs.length) : (setR cs o vs).length = cs.length := by
  unfold setR
  rw [List.length_append, List.length_append, List.length_take, List.length_drop]; omega

/-- Appending to a row: it stays a row, and no block but its own, or a new one, is touched. -/
theorem Row.append {H0 H : Hp} {A B : Option Addr} {n c m el esz eby : Nat} {vals new : List Value} {K : Option Addr → Nat → Nat → Hp → Prop} (R : Row H0 H A n c esz vals) (hx : Ext H0 H)
    (hnew : cellsAt H B new) (hl : new.length = m * esz) (ho : ∀ v ∈ new, v.oneCell' = true) (hz1 : (n + m) * eby ≤ 140737488355328) (hz2 : n + m ≤ 140737488355328)
    (hk : ∀ A' c' H', Row H0 H' A' (n + m) c' esz (vals ++ new) → Ext H0 H' → (∀ b, H' b ≠ H b → rowB A' b ∧ (rowB A b ∨ H b = none)) → (∀ b, rowB A' b → rowB A b ∨ H b = none) → (n + m ≤ c → A' = A ∧ c' = c) → K A' (n + m) c' H') :
    appendF H el esz eby A n c B m K := by
  have hR := R
  obtain ⟨h1, h2, h3⟩ := R
  have hmul : (n + m) * esz = n * esz + m * esz := Nat.add_mul _ _ _
  have hmn : c < n + m → c * esz ≤ (n + m) * esz := fun h => Nat.mul_le_mul_right _ (by omega)
  refine ⟨hz1, hz2, new, hl, hnew, ho, fun hc => ⟨fun hm => ?_, fun hm => ?_⟩, fun hc => ⟨vals, h1, hR.cells, fun b cap rest hb hcap hcl hrl => ?_⟩⟩
  · subst hm
    have : new = [] := List.length_eq_zero_iff.1 (by simpa using hl)
    subst this
    exact hk A c H (by simpa using hR) hx (fun b hb => absurd rfl hb) (fun b hb => .inl hb) (fun _ => ⟨rfl, rfl⟩)
  · rcases h3 with h3 | ⟨b, cs, ty, rfl, hb, hcl, ht, hz⟩
    · omega
    · have hle : (n + m) * esz ≤ cs.length := Nat.le_trans (Nat.mul_le_mul_right _ hc) hcl
      refine ⟨b, 0, cs, ty, rfl, hb, by omega, ?_⟩
      rw [Nat.zero_add]
      refine hk _ c _ ⟨?_, hc, .inr ⟨b, setR cs (n * esz) new, ty, rfl, upd_at, ?_, ?_, hz⟩⟩ (hx.upd hz) ?_ (fun b' hb' => .inl hb') (fun _ => ⟨rfl, rfl⟩)
      · rw [List.length_append, h1, hl, hmul]
      · rw [setR_length (by omega)]; exact hcl
      · rw [hmul, ← hl, setR_take (by omega), ht]
      · intro b' hb'
        by_cases hbb : b' = b
        · subst hbb; exact ⟨⟨_, _, rfl⟩, .inl ⟨_, _, rfl⟩⟩
        · exact absurd (upd_off hbb) hb'
  · refine hk _ cap _ ⟨?_, hcap, .inr ⟨b, vals ++ new ++ rest, el, rfl, upd_at, ?_, ?_, hx.none hb⟩⟩ (hx.upd (hx.none hb)) ?_ ?_ (fun h => by omega)
    · rw [List.length_append, h1, hl, hmul]
    · have h4 : cap * esz = (n + m) * esz + (cap - (n + m)) * esz := by rw [← Nat.add_mul]; congr 1; omega
      rw [List.length_append, List.length_append, h1, hl, hrl, h4, hmul]; exact Nat.le_refl _
    · rw [List.take_append_of_le_length (by rw [List.length_append, h1, hl, hmul]; exact Nat.le_refl _), List.take_of_length_le (by rw [List.length_append, h1, hl, hmul]; exact Nat.le_refl _)]
    · intro b' hb'
      by_cases hbb : b' = b
      · subst hbb; exact ⟨⟨_, _, rfl⟩, .inr hb⟩
      · exact absurd (upd_off hbb) hb'
    · rintro b' ⟨o, q, h⟩
      cases h
      exact .inr hb

/-! ### slices that are read -/
def ints (l : List Int) : List Value := l.map (fun x => .int .i64 x)
theorem flat_get {α : Type} {f : α → List Value} {k : Nat} : ∀ {l : List α} {i j : Nat} {x : α}, (∀ x ∈ l, (f x).length = k) → l[i]? = some x → j < k → (l.flatMap f)[i * k + j]? = (f x)[j]?
  | [], i, j, x, _, h, _ => by simp at h
  | y :: r, 0, j, x, hl, h, hj => by
    simp at h
    subst h
    rw [List.flatMap_cons, Nat.zero_mul, Nat.zero_add, List.getElem?_append_left (by rw [hl y List.mem_cons_self]; exact hj)]
  | y :: r, i + 1, j, x, hl, h, hj => by
    rw [List.flatMap_cons, show (i + 1) * k + j = (f y).length + (i * k + j) by rw [hl y List.mem_cons_self, Nat.add_mul]; omega, List.getElem?_append_right (by omega), Nat.add_sub_cancel_left]
    exact flat_get (fun z hz => hl z (List.mem_cons_of_mem _ hz)) (by simpa using h) hj
theorem flat_length {α : Type} {f : α → List Value} {k : Nat} : ∀ {l : List α}, (∀ x ∈ l, (f x).length = k) → (l.flatMap f).length = l.length * k
  | [], _ => by simp
  | y :: r, hl => by
    rw [List.flatMap_cons, List.length_append, flat_length (fun z hz => hl z (List.mem_cons_of_mem _ hz)), hl y List.mem_cons_self, List.length_cons, Nat.add_mul]; omega
theorem flat_ne {α : Type} {f : α → List Value} {k : Nat} {l : List α} (hl : ∀ x ∈ l, (f x).length = k) (hk : 0 < k) (h : l ≠ []) : l.flatMap f ≠ [] := fun e => by
  have := flat_length hl
  rw [e] at this
  cases l with
  | nil => exact h rfl
  | cons y r => simp only [List.length_nil, List.length_cons, Nat.add_mul] at this; omega
end Go.Proofs.YtibhpoikhkokiaaGreat.Hs

/- Compare, Or, the order of arcs once more, over the layer that counts draws: the closure that SortFunc is handed only lays blocks of its own. -/
set_option linter.unusedVariables false
set_option linter.unusedSimpArgs false
set_option maxRecDepth 20000
namespace Go.Proofs.YtibhpoikhkokiaaGreat.Hs
open Go Go.Proofs Go.Sort
def inC (x : Int) : List Value := [.int .i64 x]
def big : Nat := 1000000000000
def huge : Nat := 140737488355329
/-- Elements in a slice. -/
structure SlAt {α : Type} (f : α → List Value) (H : Hp) (A : Option Addr) (n : Nat) (l : List α) : Prop where
  len : n = l.length
  cells : cellsAt H A (l.flatMap f)
  small : l.length < huge
theorem SlAt.ext {α : Type} {f : α → List Value} {H H' : Hp} {A : Option Addr} {n : Nat} {l : List α} (h : SlAt f H A n l) (hx : Ext H H') : SlAt f H' A n l := ⟨h.len, cellsAt_ext hx h.cells, h.small⟩
theorem SlAt.lt {α : Type} {f : α → List Value} {H : Hp} {A : Option Addr} {n : Nat} {l : List α} (h : SlAt f H A n l) : l.length < 4611686018427387904 := by have := h.small; unfold huge at this; omega
theorem rd_in {H : Hp} {A : Option Addr} {n : Nat} {l : List Int} {i : Nat} {x : Int} (h : SlAt inC H A n l) (hi : l[i]? = some x) {K : Nat → Nat → Prop}
    (hk : ∀ p o, A = some ⟨p, o, none⟩ → cl H p (o + i) = some (.int .i64 x) → K p o) : onPtr A K := by
  have hlen : ∀ x ∈ l, (inC x).length = 1 := fun x _ => rfl
  have hne : l ≠ [] := fun e => by subst e; simp at hi
  refine at_cells h.cells (flat_ne hlen (by omega) hne) fun p o hA hc => hk p o hA ?_
  have := hc (i * 1 + 0) _ (flat_get hlen hi (by omega))
  rw [Nat.mul_one, Nat.add_zero] at this
  exact this
theorem get_of {α : Type} {l : List α} {i : Nat} (h : i < l.length) : ∃ x, l[i]? = some x := ⟨_, List.getElem?_eq_getElem h⟩
theorem take_snoc {α : Type} {l : List α} {i : Nat} {x : α} (h : l[i]? = some x) : l.take (i + 1) = l.take i ++ [x] := by
  rw [List.take_add_one, h]; rfl
def cmpI (x y : Int) : Int := if x < y then -1 else if x > y then 1 else 0
def orI (x y : Int) : Int := if x == 0 then y else x
section
variable {H0 H H' : Hp} {Q : Value → Hp → Prop}
theorem c123 {x : Int} (hq : Q (.bool false) H) : HCalls Tryz.prog 123 [.int .i64 x] H Q := by
  refine f123.ok _ ?_
  unfold f123
  simpa using hq
theorem c103 {x y : Int} (hq : Q (.int .i64 (cmpI x y)) H) : HCalls Tryz.prog 103 [.int .i64 x, .int .i64 y] H Q := by
  refine f103.ok _ _ ?_
  unfold f103
  unfold cmpI at hq
  refine c123 ⟨false, rfl, c123 ⟨false, rfl, cndF rfl (cndF rfl (cndI (fun h => ?_) fun h => cndI (fun h2 => ?_) fun h2 => ?_))⟩⟩
  · rw [if_pos (of_decide_eq_true h)] at hq; exact hq
  · rw [if_neg (of_decide_eq_false h), if_pos (of_decide_eq_true h2)] at hq; exact hq
  · rw [if_neg (of_decide_eq_false h), if_neg (of_decide_eq_false h2)] at hq; exact hq
def orL (l : List Int) : Int := (l.find? (fun x => x != 0)).getD 0
theorem c102 {A : Option Addr} {n k : Nat} {l : List Int} (hA : SlAt inC H A n l) (hq : Q (.int .i64 (orL l)) H) : HCalls Tryz.prog 102 [.slice A n k] H Q := by
  refine f102.ok _ _ _ ?_
  unfold f102
  obtain rfl := hA.len
  have hlt := hA.lt
  refine scan hlt (fun i H' => H' = H ∧ ∀ y ∈ l.take i, (y != 0) = false) ⟨rfl, fun y hy => by simp at hy⟩ ?_ ?_
  · rintro i H next hi ⟨rfl, hI⟩ hnext
    obtain ⟨y, hy⟩ := get_of hi
    dsimp only
    refine cndT (decide_eq_true (by omega)) ⟨by omega, by omega, rd_in hA hy fun q o _ hc => ⟨y, by simpa using hc, cndI (fun h => ?_) (fun h => ⟨rfl, hnext _ ⟨rfl, fun z hz => ?_⟩⟩)⟩⟩
    · have : l.find? (fun x => x != 0) = some y := by
        obtain ⟨h1, h2⟩ := List.getElem?_eq_some_iff.1 hy
        rw [← List.take_append_drop i l, List.find?_append, List.find?_eq_none.2 (fun z hz => by rw [hI z hz]; decide), List.drop_eq_getElem_cons h1, h2, List.find?_cons, h]
        rfl
      unfold orL at hq
      rw [this] at hq; exact hq
    · rw [take_snoc hy] at hz
      rcases List.mem_append.1 hz with hz | hz
      · exact hI z hz
      · obtain rfl := List.mem_singleton.1 hz; exact h
  · rintro H next ⟨rfl, hI⟩
    rw [List.take_length] at hI
    have : l.find? (fun x => x != 0) = none := List.find?_eq_none.2 fun z hz => by rw [hI z hz]; decide
    unfold orL at hq
    rw [this] at hq
    dsimp only
    exact cndF (decide_eq_false (by omega)) hq
theorem c77 {a1 a2 a3 a4 b1 b2 b3 b4 : Int} (hq : ∀ H', Ext H H' → Q (.int .i64 (orI (cmpI a1 b1) (orI (cmpI a2 b2) (orI (cmpI a3 b3) (cmpI a4 b4))))) H') : HCalls Tryz.prog 77 [.agg #[.int .i64 a1, .int .i64 a2, .int .i64 a3, .int .i64 a4], .agg #[.int .i64 b1, .int .i64 b2, .int .i64 b3, .int .i64 b4]] H Q := by
  refine f77.ok _ _ _ _ _ _ _ _ ?_
  unfold f77
  refine c103 ⟨_, rfl, c103 ⟨_, rfl, c103 ⟨_, rfl, c103 ⟨_, rfl, fun g hg => ?_⟩⟩⟩⟩
  have hx : Ext H (upd g (Obj.cells [Value.int .i64 (cmpI a1 b1), .int .i64 (cmpI a2 b2), .int .i64 (cmpI a3 b3), .int .i64 (cmpI a4 b4)].toArray 3 (0, 0)) H) := Ext.new hg
  refine c102 (l := [cmpI a1 b1, cmpI a2 b2, cmpI a3 b3, cmpI a4 b4]) ⟨rfl, .inr ⟨g, 0, rfl, fun j u hj => ?_⟩, by show 4 < huge; decide⟩ ⟨_, rfl, ?_⟩
  · rw [cl_cells upd_at, Nat.zero_add]; exact hj
  · have : orL [cmpI a1 b1, cmpI a2 b2, cmpI a3 b3, cmpI a4 b4] = orI (cmpI a1 b1) (orI (cmpI a2 b2) (orI (cmpI a3 b3) (cmpI a4 b4))) := by
      unfold orL orI
      generalize cmpI a1 b1 = p
      generalize cmpI a2 b2 = q
      generalize cmpI a3 b3 = r
      generalize cmpI a4 b4 = s
      simp only [List.find?_cons, List.find?_nil, bne]
      cases h1 : p == 0 with
      | false => rfl
      | true =>
        cases h2 : q == 0 with
        | false => rfl
        | true =>
          cases h3 : r == 0 with
          | false => rfl
          | true =>
            cases h4 : s == 0 with
            | false => rfl
            | true =>
              have : s = 0 := by simpa using h4
              subst this; rfl
    rw [this]; exact hq _ hx
end
theorem grow_of {w w' : World} (h : Fr (fun _ => none) w w') : ∃ q os, w' = grow (w.drewN q) os := by
  obtain ⟨h1, h2, h3, h4, h5, h6⟩ := h
  refine ⟨w'.drawn - w.drawn, w'.heap.extract w.heap.size w'.heap.size, ?_⟩
  have hh : w'.heap = w.heap ++ w'.heap.extract w.heap.size w'.heap.size := by
    apply Array.ext_getElem?
    intro i
    by_cases hi : i < w.heap.size
    · rw [Array.getElem?_append_left hi, h5 i hi rfl]
    · rw [Array.getElem?_append_right (by omega), Array.getElem?_extract]
      by_cases hi2 : i < w'.heap.size
      · rw [if_pos (by omega), show w.heap.size + (i - w.heap.size) = i by omega]
      · rw [if_neg (by omega), Array.getElem?_eq_none (by omega)]
  have hd : w'.drawn = w.drawn + (w'.drawn - w.drawn) := by omega
  obtain ⟨a, b, c, d, e⟩ := w'
  simp only at h1 h2 h3 hh hd
  unfold grow World.drewN
  simp only [World.mk.injEq]
  exact ⟨hh, h2, hd, h1, h3⟩
theorem closure77 (a1 a2 a3 a4 b1 b2 b3 b4 : Int) (W : World) : Calls Tryz.prog 77 #[.agg #[.int .i64 a1, .int .i64 a2, .int .i64 a3, .int .i64 a4], .agg #[.int .i64 b1, .int .i64 b2, .int .i64 b3, .int .i64 b4]] W fun e w' => e = .returned (.int .i64 (orI (cmpI a1 b1) (orI (cmpI a2 b2) (orI (cmpI a3 b3) (cmpI a4 b4))))) ∧ ∃ q os', w' = grow (W.drewN q) os' := by
  have := c77 (a1 := a1) (a2 := a2) (a3 := a3) (a4 := a4) (b1 := b1) (b2 := b2) (b3 := b3) (b4 := b4) (H := fun _ => none) (Q := fun v _ => v = .int .i64 (orI (cmpI a1 b1) (orI (cmpI a2 b2) (orI (cmpI a3 b3) (cmpI a4 b4))))) (fun H' _ => rfl) W (fun b o h => by cases h)
  refine Calls.mono this ?_
  rintro e w' ⟨v, H', rfl, rfl, _, hf, _⟩
  exact ⟨rfl, grow_of hf⟩
end Go.Proofs.YtibhpoikhkokiaaGreat.Hs

/- Histories: SortFunc of arcs, by the kit's contract. -/
set_option linter.unusedVariables false
set_option linter.unusedSimpArgs false
set_option maxRecDepth 20000
namespace Go.Proofs.YtibhpoikhkokiaaGreat.Hw
open Go Go.Proofs Go.Sort Go.Shelf
instance : Inhabited Arc := ⟨⟨0, 0, 0, 0⟩⟩
theorem ordA_ltOf {x y : Arc} : ltOf ordA x y = true ↔ ltA x y := by unfold ltOf; rw [decide_eq_true_eq]; exact ordA_lt
theorem ordA_ltF {x y : Arc} : ltOf ordA x y = false ↔ ¬ ltA x y := by rw [← ordA_ltOf]; simp
theorem swoA : SWO (ltOf ordA) where
  irrefl x := ordA_ltF.2 ltA_irrefl
  trans x y z h1 h2 := ordA_ltOf.2 (ltA_trans (ordA_ltOf.1 h1) (ordA_ltOf.1 h2))
  ntrans x y z h1 h2 := ordA_ltF.2 fun h => by
    have h1 := ordA_ltF.1 h1
    have h2 := ordA_ltF.1 h2
    unfold ltA at *; omega
theorem cmpLays {blk off size : Nat} {w : World} : CmpLays Tryz.prog 77 #[] arC 4 ordA blk off size w := fun m os dk hs x y => Hs.closure77 x.a x.b x.kind x.item y.a y.b y.kind y.item _
section
variable {H0 H : Hp} {Q : Value → Hp → Prop} {w : World}
theorem flatA {l : List Arc} : (flatK arC 4 l.toArray) = (l.flatMap arC).toArray := by
  apply Array.ext_getElem?
  intro i
  show (flatK arC 4 l.toArray)[i]? = ((l.flatMap arC).toArray)[i]?
  have hfl : (l.flatMap arC).length = l.length * 4 := flat_length fun y _ => rfl
  by_cases hi : i < l.length * 4
  · have h1 := get_flatK arC 4 l.toArray i (by simpa using hi)
    obtain ⟨x, hx⟩ := get_of (l := l) (i := i / 4) (by omega)
    have h2 := flat_get (f := arC) (k := 4) (j := i % 4) (fun x _ => rfl) hx (by omega)
    rw [show i / 4 * 4 + i % 4 = i by omega] at h2
    have hs : i < (flatK arC 4 l.toArray).size := by rw [size_flatK]; simpa using hi
    have e1 : ((l.flatMap arC).toArray)[i]? = (l.flatMap arC)[i]? := by simp
    rw [e1, h2, Array.getElem?_eq_getElem hs]
    rw [getElem!_pos (flatK arC 4 l.toArray) i hs] at h1
    rw [h1]
    have : l.toArray[i / 4]! = x := by
      have hl : i / 4 < l.length := by omega
      rw [getElem!_pos l.toArray (i / 4) (by simpa using hl)]
      obtain ⟨_, e⟩ := List.getElem?_eq_some_iff.1 hx
      simpa using e
    rw [this]
    have h4 : i % 4 < (arC x).length := by show _ < 4; omega
    rw [getElem!_pos (arC x) (i % 4) h4, List.getElem?_eq_getElem h4]
  · rw [Array.getElem?_eq_none (by rw [size_flatK]; simpa using hi), List.getElem?_toArray, List.getElem?_eq_none (by omega)]
theorem putV {vs cs : List Value} (h : vs.length ≤ cs.length) : putCells id 0 vs.toArray cs.toArray = (vs ++ cs.drop vs.length).toArray := by
  apply Array.ext'
  unfold putCells
  rw [Array.toList_mapIdx]
  apply List.ext_getElem?
  intro j
  simp only [List.getElem?_mapIdx, Nat.zero_le, true_and, Nat.zero_add, List.size_toArray, Nat.sub_zero]
  by_cases hj : j < vs.length
  · rw [List.getElem?_append_left hj, List.getElem?_eq_getElem (by omega : j < cs.length), List.getElem?_eq_getElem hj]
    simp [hj]
  · rw [List.getElem?_append_right (by omega), List.getElem?_drop, show vs.length + (j - vs.length) = j by omega]
    cases hc : cs[j]? with
    | none => simp [hc]
    | some v => simp [hc, hj]
theorem row_putV {b m : Nat} {cs vs : List Value} {ty : Nat} {os : Array Obj} (hw : Has w H) (hb : H b = some (.cells cs.toArray ty (0, 0))) (h : vs.length ≤ cs.length) :
    Has (grow (putRow id (Sort.ahead w m) b 0 vs.toArray) os) (upd b (.cells (vs ++ cs.drop vs.length).toArray ty (0, 0)) H) ∧ Fr H w (grow (putRow id (Sort.ahead w m) b 0 vs.toArray) os) ∧ New H w (upd b (.cells (vs ++ cs.drop vs.length).toArray ty (0, 0)) H) := by
  have hwb := hw b _ hb
  have hlt : b < w.heap.size := (Array.getElem?_eq_some_iff.1 hwb).1
  have hat : ∀ x, x < w.heap.size → (grow (putRow id (Sort.ahead w m) b 0 vs.toArray) os).heap[x]? = if x = b then some (.cells (vs ++ cs.drop vs.length).toArray ty (0, 0)) else w.heap[x]? := fun x hx => by
    unfold grow putRow mapBlock Sort.ahead
    simp only
    rw [Array.getElem?_append_left (by simpa using hx), Array.getElem?_modify]
    by_cases e : b = x
    · subst e
      rw [if_pos rfl, if_pos rfl, hwb]
      simp only [Option.map_eq_map, Option.map_some, onCells]
      rw [putV h]
    · rw [if_neg e, if_neg (fun e' => e e'.symm)]
  refine ⟨fun x o hx => ?_, ⟨rfl, rfl, rfl, ?_, fun x hx hn => ?_⟩, fun x hx => ?_⟩
  · rcases upd_some hx with ⟨rfl, rfl⟩ | ⟨hne, hx⟩
    · rw [hat x hlt, if_pos rfl]
    · rw [hat x (Array.getElem?_eq_some_iff.1 (hw x o hx)).1, if_neg hne]; exact hw x o hx
  · unfold grow putRow mapBlock Sort.ahead; simp
  · rw [hat x hx, if_neg (fun e => by subst e; rw [hb] at hn; cases hn)]
  · by_cases e : x = b
    · subst e; left; rw [hb]; simp
    · rw [upd_other e] at hx; exact .inl hx
theorem c76 {A : Option Addr} {c : Nat} {l : List Arc} (R : Row H0 H A l.length c 4 (l.flatMap arC)) (hx : Ext H0 H) (hs : l.length < 1000000000)
    (hq : ∀ (l' : List Arc) (H' : Hp), l'.Perm l → l'.Pairwise (fun x y => ¬ ltA y x) → Row H0 H' A l'.length c 4 (l'.flatMap arC) → Ext H0 H' → (∀ q, ¬ rowB A q → H q ≠ none → H' q = H q) → Q (.tuple #[]) H') :
    HCalls Tryz.prog 76 [.slice A l.length c, .func (.func 77) #[] #[]] H Q := by
  intro w hw
  by_cases h0 : l = []
  · subst h0
    refine Calls.mono (AnyF.slices_SortFunc_none Tryz.sortArc A c _ w) ?_
    rintro e w' ⟨rfl, rfl⟩
    exact ⟨_, H, rfl, hq [] H (List.Perm.refl _) List.Pairwise.nil R hx (fun q _ _ => rfl), hw, ⟨rfl, rfl, rfl, Nat.le_refl _, fun _ _ _ => rfl⟩, fun b hb => .inl hb⟩
  obtain ⟨h1, h2, h3 | ⟨b, cs, ty, rfl, hb, hcl, ht, hz⟩⟩ := R
  · have : 0 < l.length := List.length_pos_iff.2 h0
    omega
  have hwb := hw b _ hb
  have hlt : b < w.heap.size := (Array.getElem?_eq_some_iff.1 hwb).1
  have hH : HoldsK arC 4 w b 0 l.toArray := by
    unfold HoldsK
    rw [flatA]
    intro j hj
    have hj' : j < (l.flatMap arC).length := by simpa using hj
    refine ⟨?_, frz_of w hwb⟩
    rw [cl_of w hwb, Nat.zero_add]
    have h1' : (cs.take (l.length * 4))[j]? = cs[j]? := by rw [List.getElem?_take_of_lt (by omega)]
    rw [← h1', ht, List.getElem?_eq_getElem hj']
    simp
    rw [List.getElem?_eq_getElem hj']; rfl
  have eg : ∀ args w, (callFunc 77 args).run Tryz.prog w = .ok (.enter 77 args) w := enters_of Tryz.func77 (by kernel_rfl) rfl
  have hcon := AnyQ.slices_SortFunc_total Tryz.sortArc 4 Tryz.isAgg52 Tryz.sizeOf52 arC arC_len arC_one ordA swoA 77 #[] b 0 c l.toArray w eg cmpLays hH hlt (by simpa using (by omega : l.length < 4611686018427387904)) fun x y h h' => ltA_total (ordA_ltF.1 h) (ordA_ltF.1 h')
  simp only [List.size_toArray] at hcon
  change Calls Tryz.prog 76 _ w _ at hcon
  refine Calls.mono hcon ?_
  rintro e w' ⟨rfl, m, os, rfl⟩
  have hp := List.mergeSort_perm l (fun x y => !(ltOf ordA) y x)
  have hsorted : (l.mergeSort fun x y => !(ltOf ordA) y x).Pairwise (fun x y => ¬ ltA y x) := by
    have := List.pairwise_mergeSort (le := fun x y => !(ltOf ordA) y x) (fun a b c h1 h2 => by
      have h1 : ltOf ordA b a = false := by simpa using h1
      have h2 : ltOf ordA c b = false := by simpa using h2
      have := swoA.ntrans c b a h2 h1
      simp [this]) (fun a b => by
      cases h1 : ltOf ordA b a with
      | false => simp
      | true =>
        have : ltOf ordA a b = false := ordA_ltF.2 fun h => ltA_irrefl (ltA_trans h (ordA_ltOf.1 h1))
        simp [this]) l
    refine List.Pairwise.imp (fun {x y} h => ?_) this
    have : ltOf ordA y x = false := by simpa using h
    exact ordA_ltF.1 this
  generalize (l.mergeSort fun x y => !(ltOf ordA) y x) = l' at hp hsorted ⊢
  have hl' : l'.length = l.length := hp.length_eq
  have hfl : (l'.flatMap arC).length = l.length * 4 := by rw [flat_length (fun y _ => arC_len y), hl']
  obtain ⟨g1, g2, g3⟩ := row_putV (m := m) (os := os) (vs := l'.flatMap arC) hw hb (by omega)
  have e : sortWorldK arC 4 w b 0 m l'.toArray os = grow (putRow id (Sort.ahead w m) b 0 (l'.flatMap arC).toArray) os := by
    unfold sortWorldK putRowK
    rw [flatA]
  rw [e]
  refine ⟨_, _, rfl, hq l' _ hp hsorted ⟨by rw [hfl, hl'], by rw [hl']; exact h2, .inr ⟨b, _, ty, rfl, upd_at, ?_, ?_, hz⟩⟩ (hx.upd hz) (fun q hq' _ => ?_), g1, g2, g3⟩
  · rw [List.length_append, List.length_drop, hfl]; omega
  · rw [List.take_left' (by rw [hfl, hl'])]
  · exact upd_off fun e => hq' ⟨0, none, by rw [e]⟩
end
end Go.Proofs.YtibhpoikhkokiaaGreat.Hw

/- Histories: all arcs. -/
set_option linter.unusedVariables false
set_option linter.unusedSimpArgs false
set_option maxRecDepth 20000
namespace Go.Proofs.YtibhpoikhkokiaaGreat.Hw
open Go Go.Proofs
def wwAt (l : List Ev) (k : Int) (j : Nat) : List Arc := match (versM l k)[j]?, (versM l k)[j + 1]? with
  | some a, some b => arc1 l a b 1 k
  | _, _ => []
def wwTo (l : List Ev) (k : Int) (n : Nat) : List Arc := (List.range n).flatMap (wwAt l k)
def rdOf (l : List Ev) (i : Nat) : List Arc := match l[i]? with
  | some x => if x.op == 2 then (if natOr (lastW l x.frm x.item) < i then arc1 l x.frm x.txn 2 x.item else []) ++ (if x.frm == 0 || comB l x.frm then arc1 l x.txn (nextM l x.item x.frm) 3 x.item else []) else []
  | none => []
def rdTo (l : List Ev) (n : Nat) : List Arc := (List.range n).flatMap (rdOf l)
def IsArc (l : List Ev) (x : Arc) : Prop := (∃ k, x ∈ wwTo l k ((versM l k).length - 1)) ∨ x ∈ rdTo l l.length
def ArcsOf (l : List Ev) (rs : List Arc) : Prop := rs.Pairwise ltA ∧ ∀ x, x ∈ rs ↔ IsArc l x
theorem arcs_one {l : List Ev} {a b : List Arc} (h : ArcsOf l a) (h' : ArcsOf l b) : a = b := ext_ltA h.1 h'.1 fun x => (h.2 x).trans (h'.2 x).symm
theorem wwTo_succ {l : List Ev} {k : Int} {n : Nat} : wwTo l k (n + 1) = wwTo l k n ++ wwAt l k n := by unfold wwTo; rw [List.range_succ]; simp
theorem rdTo_succ {l : List Ev} {n : Nat} : rdTo l (n + 1) = rdTo l n ++ rdOf l n := by unfold rdTo; rw [List.range_succ]; simp
theorem arc1_len {l : List Ev} {a b k i : Int} : (arc1 l a b k i).length ≤ 1 := by unfold arc1; split <;> simp
theorem wwAt_len {l : List Ev} {k : Int} {j : Nat} : (wwAt l k j).length ≤ 1 := by
  unfold wwAt; split
  · exact arc1_len
  · simp
theorem wwTo_len {l : List Ev} {k : Int} : ∀ {n : Nat}, (wwTo l k n).length ≤ n
  | 0 => by simp [wwTo]
  | n + 1 => by
    have := wwTo_len (l := l) (k := k) (n := n)
    have := wwAt_len (l := l) (k := k) (j := n)
    rw [wwTo_succ, List.length_append]; omega
theorem rdOf_len {l : List Ev} {i : Nat} : (rdOf l i).length ≤ 2 := by
  unfold rdOf
  split
  · rename_i x _
    have h1 := arc1_len (l := l) (a := x.frm) (b := x.txn) (k := 2) (i := x.item)
    have h2 := arc1_len (l := l) (a := x.txn) (b := nextM l x.item x.frm) (k := 3) (i := x.item)
    split
    · rw [List.length_append]
      split <;> split <;> simp <;> omega
    · simp
  · simp
theorem rdTo_len {l : List Ev} : ∀ {n : Nat}, (rdTo l n).length ≤ 2 * n
  | 0 => by simp [rdTo]
  | n + 1 => by
    have := rdTo_len (l := l) (n := n)
    have := rdOf_len (l := l) (i := n)
    rw [rdTo_succ, List.length_append]; omega
theorem vers_mem {l : List Ev} {k t : Int} : t ∈ versM l k ↔ ∃ j x, l[j]? = some x ∧ isC t x = true ∧ wroteM (l.take j) t k = true := by
  unfold versM
  rw [List.mem_filterMap]
  constructor
  · rintro ⟨j, hj, h⟩
    cases hx : l[j]? with
    | none => rw [hx] at h; cases h
    | some x =>
      rw [hx] at h
      simp only at h
      split at h
      · rename_i hc
        simp only [Bool.and_eq_true, beq_iff_eq] at hc
        cases h
        exact ⟨j, x, hx, isC_iff.2 ⟨hc.1, rfl⟩, hc.2⟩
      · cases h
  · rintro ⟨j, x, hx, hc, hw⟩
    obtain ⟨o, e⟩ := isC_iff.1 hc
    refine ⟨j, List.mem_range.2 (List.getElem?_eq_some_iff.1 hx).1, ?_⟩
    rw [hx]
    simp only
    rw [if_pos (by rw [o, e, hw]; rfl), e]
theorem vers_item {l : List Ev} {k : Int} (h : (versM l k).isEmpty = false) : k ∈ l.map (·.item) := by
  cases hv : versM l k with
  | nil => rw [hv] at h; cases h
  | cons t r =>
    obtain ⟨j, x, _, _, hw⟩ := vers_mem.1 (show t ∈ versM l k by rw [hv]; exact List.mem_cons_self)
    obtain ⟨i, y, _, hy, hp⟩ := any_take.1 hw
    exact List.mem_map.2 ⟨y, List.mem_of_getElem? hy, (isW_iff.1 hp).2.2⟩
theorem Row.cellK {H0 H : Hp} {A : Option Addr} {n c k : Nat} {vals : List Value} (R : Row H0 H A n c k vals) {q : Nat} (hq : rowB A q) : ∃ cs ty, H q = some (.cells cs ty (0, 0)) := by
  obtain ⟨_, _, h | ⟨b, cs, ty, rfl, hb, _⟩⟩ := R
  · obtain ⟨o, z, h'⟩ := hq; rw [h.1] at h'; cases h'
  · obtain ⟨o, z, h'⟩ := hq
    cases h'
    exact ⟨_, _, hb⟩
theorem jn_out {α : Type} {r : α} {A : α → Prop} (h : A r) : jn r A := h
section
variable {H0 H H' : Hp} {g c b v w : Nat} {sl : Int → Option Addr × Nat} {A : Option Addr} {n cp : Nat} {l : List Ev} {Q : Value → Hp → Prop}
theorem c42 (B : BookAt H g c b v w sl A n cp l) (hl : l.length ≤ 2000) (hq : ∀ rs A' c' H', ArcsOf l rs → rs.length < 100000000 → Ext H H' → Row H H' A' rs.length c' 4 (rs.flatMap arC) → Q (.slice A' rs.length c') H') : HCalls Tryz.prog 42 [.pointer (some ⟨g, 0, none⟩)] H Q := by
  refine f42.ok _ _ ?_
  unfold f42
  intro g1 hg1
  generalize hH2 : upd g1 (Obj.cells _ 56 _) H = H2
  have e1 : H2 g1 = some (.cells #[.pointer (some ⟨g, 0, none⟩)] 56 (0, 0)) := by subst hH2; exact upd_at
  have x2 : Ext H H2 := by subst hH2; exact Ext.new hg1
  intro g3 hg3
  generalize hH4 : upd g3 (Obj.cells _ 39 _) H2 = H4
  have e3 : H4 g3 = some (.cells #[.slice none 0 0] 39 (0, 0)) := by subst hH4; exact upd_at
  have x4 : Ext H2 H4 := by subst hH4; exact Ext.new hg3
  have B2 := B.ext x2
  have O4 : OutA H2 H4 g3 [] := ⟨x4, hg3, none, 0, e3, Row.nil, fun ⟨o, z, h⟩ => by cases h⟩
  have rg1 : ∀ {X}, Ext H2 X → cl X g1 0 = some (.pointer (some ⟨g, 0, none⟩)) := fun {X} hx => cl_cells (cs := [.pointer (some ⟨g, 0, none⟩)]) (hx _ _ e1) 0
  obtain ⟨kv, hm, hkv0⟩ := (B2.ext x4).vers
  have hkv : ∀ k, kvGet kv k = if (versM l k).isEmpty then none else some (.slice (sl k).1 (versM l k).length (sl k).2) := hkv0
  clear hkv0
  have hkeys : ∀ k, k ∈ kv.map (·.1) ↔ (versM l k).isEmpty = false := fun k => by
    have h1 := hkv k
    constructor
    · intro hk
      obtain ⟨pr, hp, rfl⟩ := List.mem_map.1 hk
      rw [(kvGet_mem hm.keys).2 hp] at h1
      cases hw : (versM l pr.1).isEmpty with
      | false => rfl
      | true => rw [hw] at h1; cases h1
    · intro hw
      rw [hw] at h1
      exact List.mem_map.2 ⟨_, (kvGet_mem hm.keys).1 h1, rfl⟩
  have hkl : (kv.map (·.1)).length ≤ 2000 := by
    have h1 : (kv.map (fun p : Int × Value => p.1)).Nodup := hm.keys
    have h2 := nodup_len (m := l.map (·.item)) h1 fun k hk => vers_item ((hkeys k).1 hk)
    have h3 : (l.map (·.item)).length = l.length := List.length_map _
    omega
  refine ⟨_, rg1 x4, some v, (B2.ext x4).cl 3, range_to hm fun i8 H9 hi8 x9 hI9 f9 => ?_⟩
  have hib : i8 ≠ v := by
    rintro rfl
    exact (B2.ext x4).vers.live hi8
  have lv2 : ∀ {X}, Ext H2 X → X v = H2 v := fun hx => ext_at hx B2.vers.live
  refine ⟨fun n s H' => ∃ left out, n = left.length ∧ IterAt .i64 H' i8 v kv left ∧ OutA H2 H' g3 out ∧ (∀ x, x ∈ out ↔ ∃ k, k ∈ kv.map (·.1) ∧ k ∉ left ∧ x ∈ wwTo l k ((versM l k).length - 1)) ∧ out.length + left.length * 2000 ≤ 4000000 ∧ ∀ k ∈ left, k ∈ kv.map (·.1),
    ⟨_, kv.map (·.1), [], rfl, hI9, O4.grow x9, fun x => ⟨fun h => (by cases h), fun ⟨k, h1, h2, _⟩ => absurd h1 h2⟩, by simp only [List.length_nil]; omega, fun k hk => hk⟩, ?_⟩
  rintro n' s H11 ⟨left, out, rfl, hI, O, hout, hlen, hleft⟩
  refine jn_out ?_
  refine next_to hI hib (fun hl0 => cndF rfl ?_) (fun k u H15 hku hkl0 hI15 hE f15 => ?_)
  · -- the reads
    subst hl0
    have B11 := B2.ext O.ext
    refine ⟨_, rg1 O.ext, A, n, cp, B11.cl 0, ?_⟩
    have hA := B2.evs
    obtain rfl := hA.len
    have hlt := hA.lt
    have hout0 : ∀ x, x ∈ out ↔ ∃ k, x ∈ wwTo l k ((versM l k).length - 1) := fun x => by
      rw [hout]
      constructor
      · rintro ⟨k, _, _, h⟩; exact ⟨k, h⟩
      · rintro ⟨k, h⟩
        refine ⟨k, ?_, by simp, h⟩
        rw [hkeys]
        cases he : (versM l k).isEmpty with
        | false => rfl
        | true => rw [List.isEmpty_iff.1 he] at h; simp [wwTo] at h
    refine scan hlt (fun i H' => OutA H2 H' g3 (out ++ rdTo l i)) (by simpa [rdTo] using O) (fun i H38 next hi O38 hnext => ?_) (fun H38 next O38 => ?_)
    · obtain ⟨x, hx⟩ := get_of hi
      have B38 := B2.ext O38.ext
      have hb38 : ∀ m, m ≤ i → (out ++ rdTo l m).length + 4 < 1000000000 := fun m hm => by
        have := rdTo_len (l := l) (n := m)
        rw [List.length_append]; simp only [List.length_nil] at hlen; omega
      have hrd : rdOf l i = if x.op == 2 then (if natOr (lastW l x.frm x.item) < i then arc1 l x.frm x.txn 2 x.item else []) ++ (if x.frm == 0 || comB l x.frm then arc1 l x.txn (nextM l x.item x.frm) 3 x.item else []) else [] := by unfold rdOf; rw [hx]
      dsimp only
      refine cndT (decide_eq_true (by omega)) (jn_intro (fun J => ∀ H', OutA H2 H' g3 (out ++ rdTo l (i + 1)) → J H') (fun H' hO => ⟨rfl, hnext H' hO⟩) fun J hJ => ⟨by omega, by omega, rd_ev (hA.ext O38.ext) hx fun q o _ k1 k2 k3 k4 k5 => ⟨x.op, by simpa using k1, x.txn, by simpa using k2, x.item, by simpa using k3, x.frm, by simpa using k4, x.stmt, by simpa using k5, ?_⟩⟩)
      rw [rdTo_succ, hrd] at hJ
      refine cndI (fun o2 => ?_) fun o2 => ?_
      · have : (x.op == 2) = false := by simpa using o2
        rw [this] at hJ
        exact hJ H38 (by simpa using O38)
      have o2' : (x.op == 2) = true := by simpa using o2
      rw [o2', if_pos rfl] at hJ
      refine jn_intro (fun J2 => ∀ H', OutA H2 H' g3 (out ++ rdTo l i ++ if natOr (lastW l x.frm x.item) < i then arc1 l x.frm x.txn 2 x.item else []) → J2 H') (fun H54 O54 => ?_) fun J2 hJ2 => ⟨_, rg1 O38.ext, some w, B38.cl 4, B38.lastw.look ⟨((lastW l x.frm x.item).getD 0 : Nat), by cases lastW l x.frm x.item <;> rfl, ?_⟩⟩
      · have B54 := B2.ext O54.ext
        have hlen54 : (out ++ rdTo l i ++ if natOr (lastW l x.frm x.item) < i then arc1 l x.frm x.txn 2 x.item else []).length < 1000000000 := by
          have := hb38 i (Nat.le_refl _)
          have h1 := arc1_len (l := l) (a := x.frm) (b := x.txn) (k := 2) (i := x.item)
          rw [List.length_append]
          split
          · omega
          · simp only [List.length_nil]; omega
        refine jn_intro (fun J3 => ((x.frm == 0 || comB l x.frm) = true → J3 true H54) ∧ ((x.frm == 0 || comB l x.frm) = false → J3 false H54)) ⟨fun hb => cndT rfl ⟨_, rg1 O54.ext, c75 B54 ⟨_, rfl, fnOk 73 rfl, c73 O54 B2 e1 hlen54 fun H' hO' _ => hJ H' ?_⟩⟩, fun hb => cndF rfl (hJ H54 ?_)⟩ fun J3 h3 => cndI (fun f0 => h3.1 (by rw [f0]; rfl)) fun f0 => ⟨_, rg1 O54.ext, c74 B54 ⟨_, rfl, ?_⟩⟩
        · rw [hb, if_pos rfl, ← List.append_assoc, ← List.append_assoc]; exact hO'
        · rw [hb]; simpa [List.append_assoc] using O54
        · cases hc : comB l x.frm with
          | true => exact h3.1 (by rw [hc, Bool.or_true])
          | false => exact h3.2 (by rw [f0, hc]; rfl)
      · refine cndI (fun hlw => ⟨fnOk 73 rfl, c73 O38 B2 e1 (by have := hb38 i (Nat.le_refl _); omega) fun H' hO' _ => hJ2 H' ?_⟩) fun hlw => hJ2 H38 ?_
        · have : natOr (lastW l x.frm x.item) < i := by have := of_decide_eq_true hlw; unfold natOr; omega
          rw [if_pos this]; exact hO'
        · have : ¬ natOr (lastW l x.frm x.item) < i := by have := of_decide_eq_false hlw; unfold natOr; omega
          rw [if_neg this]; simpa using O38
    · have hlo : (out ++ rdTo l l.length).length < 100000000 := by
        have := rdTo_len (l := l) (n := l.length)
        rw [List.length_append]; simp only [List.length_nil] at hlen; omega
      have hmem : ∀ x, x ∈ out ++ rdTo l l.length ↔ IsArc l x := fun x => by rw [List.mem_append, hout0]; rfl
      generalize out ++ rdTo l l.length = o2 at O38 hlo hmem
      obtain ⟨A2, c2, hc2, R2, hn2⟩ := O38.cell
      dsimp only
      refine cndF (decide_eq_false (by omega)) ⟨A2, o2.length, c2, cl_cells (cs := [.slice A2 o2.length c2]) hc2 0, c76 R2 O38.ext (by omega) fun l' H73 hp hs R73 x73 f73 => ⟨rfl, A2, o2.length, c2, ?_, ?_⟩⟩
      · have : H73 g3 = some (.cells #[.slice A2 o2.length c2] 39 (0, 0)) := (f73 g3 hn2 (by rw [hc2]; simp)).trans hc2
        exact cl_cells (cs := [.slice A2 o2.length c2]) this 0
      · have hl' : l'.length = o2.length := hp.length_eq
        rw [← hl']
        refine c78 R73 x73 (by unfold huge; omega) fun A4 c4 H76 R76 x76 => ⟨_, _, _, rfl, hq _ A4 c4 H76 ⟨ddT_sorted hs, fun x => ?_⟩ ?_ (x2.trans x76) (R76.base x2)⟩
        · rw [ddT_mem, List.take_length, hp.mem_iff, hmem]
        · have := ddT_len (l := l') (j := l'.length); omega
  · -- the versions of an item
    have hk := hleft k hkl0
    have hne := (hkeys k).1 hk
    have hu := (kvGet_mem hm.keys).2 hku
    rw [hkv k, hne, if_neg (by decide)] at hu
    cases hu
    obtain ⟨hsl, hcap⟩ := B2.row k hne
    have hi15 : ∀ cs ty z, H15 i8 ≠ some (.cells cs ty z) := fun cs ty z h => by
      obtain ⟨es, clock, since, seen, c0, hh, _⟩ := hI15
      rw [hh] at h; cases h
    have li15 : H15 i8 ≠ none := by
      obtain ⟨es, clock, since, seen, c0, hh, _⟩ := hI15
      rw [hh]; simp
    have i2 : H2 i8 = none := x4.none hi8
    have O15 : OutA H2 H15 g3 out := by
      obtain ⟨A2, c2, hc2, R2, hn2⟩ := O.cell
      have hnc : ∀ cs ty z, H11 i8 ≠ some (.cells cs ty z) := fun cs ty z h => by
        obtain ⟨es, clock, since, seen, c0, hh, _⟩ := hI
        rw [hh] at h; cases h
      have ng : g3 ≠ i8 := fun e => hnc _ _ _ (e ▸ hc2)
      refine ⟨fun q o hq' => (f15 q fun e => by rw [e, i2] at hq'; cases hq').trans (O.ext q o hq'), hg3, A2, c2, (f15 g3 ng).trans hc2, R2.keep fun q hq' => f15 q fun e => ?_, hn2⟩
      obtain ⟨cs, ty, h1⟩ := R2.cellK hq'
      exact hnc _ _ _ (e ▸ h1)
    have hlt' : (left.filter fun y => decide (y ≠ k)).length < left.length := by
      have h1 := List.length_filter_le (fun y => decide (y ≠ k)) left
      by_cases e : (left.filter fun y => decide (y ≠ k)).length = left.length
      · have := List.length_filter_eq_length_iff.1 e k hkl0
        simp at this
      · omega
    have hvl := vers_len (l := l) (k := k)
    have hlv : (versM l k).length ≠ 0 := fun e => by rw [List.length_eq_zero_iff.1 e] at hne; cases hne
    refine ⟨k, rfl, _, _, _, rfl, cndT rfl (entry_to hE ⟨k, rfl, _, _, _, rfl, ?_⟩)⟩
    refine loop_to (versM l k).length (fun i s H' => s = ((((i + 1 : Nat) : Int), ()), ()) ∧ i + 1 ≤ (versM l k).length ∧ OutA H2 H' g3 (out ++ wwTo l k i) ∧ H' i8 = H15 i8) ⟨rfl, by omega, by simpa [wwTo] using O15, rfl⟩ ?_
    rintro i s H26 next hi ⟨rfl, hil, O26, hi26⟩ hnext
    dsimp only
    by_cases h : i + 1 < (versM l k).length
    · obtain ⟨y, hy⟩ := get_of h
      obtain ⟨z, hz⟩ := get_of (l := versM l k) (i := i) (by omega)
      have em : IntKind.i64.wrap (((i + 1 : Nat) : Int) - 1) = (i : Int) := by rw [wrap_id (by omega) (by omega)]; omega
      have ei : IntKind.i64.wrap (((i + 1 : Nat) : Int) + 1) = ((i + 1 + 1 : Nat) : Int) := by rw [wrap_id (by omega) (by omega)]; rfl
      have hs26 := hsl.ext O26.ext
      have hw : wwTo l k (i + 1) = wwTo l k i ++ arc1 l z y 1 k := by rw [wwTo_succ]; unfold wwAt; rw [hz, hy]
      rw [em]
      refine cndT (decide_eq_true (by omega)) ⟨by omega, by omega, rd_in hs26 hz fun q o _ k1 => ⟨z, by simpa using k1, by omega, by omega, rd_in hs26 hy fun q' o' _ j1 => ⟨y, by simpa using j1, fnOk 73 rfl, c73 O26 B2 e1 ?_ fun H' hO' hfr => ⟨rfl, hnext _ _ (by omega) ⟨by rw [ei], by omega, ?_, ?_⟩⟩⟩⟩⟩
      · have := wwTo_len (l := l) (k := k) (n := i)
        rw [List.length_append]; omega
      · rw [hw, ← List.append_assoc]; exact hO'
      · rw [hfr i8 (by rw [hi26]; exact li15) (fun cs ty z => by rw [hi26]; exact hi15 cs ty z)]; exact hi26
    · have ei : i = (versM l k).length - 1 := by omega
      refine cndF (decide_eq_false (by omega)) ⟨rfl, _, hlt', _, _, rfl, hI15.ext hi26 ((lv2 O26.ext).trans (lv2 O15.ext).symm), O26, fun x => ?_, ?_, fun k' hk' => hleft k' (List.mem_filter.1 hk').1⟩
      · rw [List.mem_append, hout, ei]
        constructor
        · rintro (⟨k', h1, h2, h3⟩ | h1)
          · exact ⟨k', h1, fun h => h2 (List.mem_filter.1 h).1, h3⟩
          · exact ⟨k, hk, by simp [List.mem_filter], h1⟩
        · rintro ⟨k', h1, h2, h3⟩
          by_cases e : k' = k
          · subst e; exact .inr h3
          · exact .inl ⟨k', h1, fun h => h2 (List.mem_filter.2 ⟨h, by simpa using e⟩), h3⟩
      · have := wwTo_len (l := l) (k := k) (n := i)
        have h1 : (left.filter fun y => decide (y ≠ k)).length * 2000 + 2000 ≤ left.length * 2000 := by omega
        rw [List.length_append]; omega
end
end Go.Proofs.YtibhpoikhkokiaaGreat.Hw

/- Histories: graphs. -/
set_option linter.unusedVariables false
set_option linter.unusedSimpArgs false
set_option maxRecDepth 20000
namespace Go.Proofs.YtibhpoikhkokiaaGreat.Hw
open Go Go.Proofs
def Strict (l : List Int) : Prop := l.Pairwise (· < ·)
/-- The arcs of some kinds, by their first transactions; rising. -/
def GraphOf (rs : List Arc) (want : Int → Bool) (E : Int → List Int) : Prop := ∀ k, Strict (E k) ∧ ∀ y, y ∈ E k ↔ ∃ x ∈ rs, x.a = k ∧ x.b = y ∧ want x.kind = true
structure GraphAt (H : Hp) (m : Nat) (sl : Int → Option Addr × Nat) (E : Int → List Int) : Prop where
  map : MapF H m (fun k => if (E k).isEmpty then none else some (.slice (sl k).1 (E k).length (sl k).2))
  row : ∀ k, (E k).isEmpty = false → SlAt inC H (sl k).1 (E k).length (E k) ∧ (E k).length ≤ (sl k).2
theorem GraphAt.ext {H H' : Hp} {m : Nat} {sl : Int → Option Addr × Nat} {E : Int → List Int} (G : GraphAt H m sl E) (hx : Ext H H') : GraphAt H' m sl E :=
  ⟨G.map.keep (ext_at hx G.map.live), fun k hk => ⟨(G.row k hk).1.ext hx, (G.row k hk).2⟩⟩
theorem GraphAt.look {H : Hp} {m : Nat} {sl : Int → Option Addr × Nat} {E : Int → List Int} {k : Int} {K : Value → Bool → Prop} (G : GraphAt H m sl E) (hk : ∀ A' n' c' b, SlAt inC H A' n' (E k) → n' ≤ c' → K (.slice A' n' c') b) : lookF H .i64 (some m) k (.slice none 0 0) K := by
  refine G.map.look ?_
  cases he : (E k).isEmpty with
  | true =>
    rw [if_pos rfl]
    have e : E k = [] := List.isEmpty_iff.1 he
    exact hk none 0 0 _ (by rw [e]; exact ⟨rfl, .inl rfl, by decide⟩) (Nat.le_refl _)
  | false =>
    rw [if_neg (by decide)]
    exact hk _ _ _ _ (G.row k he).1 (G.row k he).2
theorem strict_sort {l : List Int} (h : l.Nodup) : Strict (sortM l) := by
  have h1 := List.pairwise_mergeSort (le := fun x y : Int => decide (x ≤ y)) (fun a b c h1 h2 => by simp at *; omega) (fun a b => by simp; omega) l
  have h2 : (sortM l).Nodup := ((List.mergeSort_perm l _).nodup_iff).2 h
  unfold Strict
  refine List.Pairwise.imp (fun {a b} hh => ?_) (h1.and h2)
  have := hh.1
  have h3 := hh.2
  simp at this
  omega
/-- A graph where its blocks are. -/
theorem GraphAt.move {H H' : Hp} {m : Nat} {sl : Int → Option Addr × Nat} {E : Int → List Int} (G : GraphAt H m sl E) (h : ∀ q, (q = m ∨ ∃ k, (E k).isEmpty = false ∧ rowB (sl k).1 q) → H' q = H q) : GraphAt H' m sl E := by
  refine ⟨G.map.keep (h m (.inl rfl)), fun k hk => ⟨⟨rfl, ?_, (G.row k hk).1.small⟩, (G.row k hk).2⟩⟩
  rcases (G.row k hk).1.cells with hc | ⟨b, o, hA, hc⟩
  · exact .inl hc
  · refine .inr ⟨b, o, hA, fun j v hj => ?_⟩
    have := hc j v hj
    unfold cl at this ⊢
    rw [h b (.inr ⟨k, hk, o, none, hA⟩)]; exact this
section
variable {H0 H H' : Hp} {rl : Nat → Nat} {v : Nat} {sl : Int → Option Addr × Nat} {vs : Int → List Int} {A : Option Addr} {n c : Nat} {rs : List Arc} {Q : Value → Hp → Prop}
theorem Fam.slice {k : Int} (F : Fam H0 H rl v sl vs) (hl : (vs k).length < huge) {A' : Option Addr} {n' c' : Nat} (h : (if (vs k).isEmpty then some (Value.slice none 0 0) else some (.slice (sl k).1 (vs k).length (sl k).2)) = some (.slice A' n' c')) : SlAt inC H A' n' (vs k) := by
  cases he : (vs k).isEmpty with
  | true =>
    rw [he, if_pos rfl] at h
    cases h
    rw [List.isEmpty_iff.1 he]; exact ⟨rfl, .inl rfl, by decide⟩
  | false =>
    rw [he, if_neg (by decide)] at h
    cases h
    exact (F.row k he).1.slI hl
/-- One row is sorted. -/
theorem Fam.perm {k : Int} {d : List Int} (F : Fam H0 H rl v sl vs) (hp : d.Perm (vs k)) (hne : (vs k).isEmpty = false) (R : Row H0 H' (sl k).1 d.length (sl k).2 1 (ints d)) (hfr : ∀ q, H' q ≠ H q → rowB (sl k).1 q) : Fam H0 H' rl v sl (fun k' => if k' = k then d else vs k') := by
  have hl := hp.length_eq
  have hde : d.isEmpty = false := by
    cases d with
    | nil => rw [List.length_nil] at hl; rw [List.length_eq_zero_iff.1 hl.symm] at hne; cases hne
    | cons a r => rfl
  have keepv : H' v = H v := by
    apply Classical.byContradiction
    intro hne'
    have h1 := hfr v hne'
    obtain ⟨cs, ty, h2⟩ := (F.row k hne).1.cell h1
    obtain ⟨kv, ⟨es, clock, h3, _⟩, _⟩ := F.map
    rw [h2] at h3; cases h3
  refine ⟨(F.map.keep keepv).congr fun k' => ?_, fun k' he => ?_, fun k1 k2 h1 h2 hne' q hq1 hq2 => ?_⟩
  · by_cases e : k' = k
    · subst e; simp only [if_true, hne, hde, hl]
    · simp only [if_neg e]
  · by_cases e : k' = k
    · subst e
      simp only [if_true]
      exact ⟨R, (F.row k' hne).2⟩
    · simp only [if_neg e] at he ⊢
      obtain ⟨r1, r2⟩ := F.row k' he
      refine ⟨r1.keep fun q hq => ?_, r2⟩
      apply Classical.byContradiction
      intro hne'
      exact F.disj k' k he hne e q hq (hfr q hne')
  · have g : ∀ k', (if k' = k then d else vs k').isEmpty = false → (vs k').isEmpty = false := fun k' h => by
      by_cases e : k' = k
      · subst e; exact hne
      · rwa [if_neg e] at h
    exact F.disj k1 k2 (g k1 h1) (g k2 h2) hne' q hq1 hq2
theorem c45 {f : Nat} {fa fc : Array Value} {want : Int → Bool} (hA : SlAt arC H A n rs) (hf : FnOk Tryz.prog f) (hg : ∀ k H' (Q : Value → Hp → Prop), Q (.bool (want k)) H' → HCalls Tryz.prog f (fa.toList ++ [.int .i64 k] ++ fc.toList) H' Q) (hlen : rs.length < 1000000000)
    (hq : ∀ m sl E H', GraphOf rs want E → GraphAt H' m sl E → Ext H H' → (∀ q, (q = m ∨ ∃ k, (E k).isEmpty = false ∧ rowB (sl k).1 q) → H q = none) → Q (.map (some m)) H') : HCalls Tryz.prog 45 [.slice A n c, .func (.func f) fa fc] H Q := by
  refine f45.ok _ _ _ _ _ _ ?_
  unfold f45
  obtain rfl := hA.len
  have hlt := hA.lt
  refine MapF.new fun m1 H2 hm1 x2 o2 M1 => ?_
  have F0 : Fam H H2 (fun q => if q = m1 then 3 else 99) m1 (fun _ => (none, 0)) (fun _ => []) := ⟨M1.congr fun k => rfl, fun k hk => (by cases hk), fun k k' hk => (by cases hk)⟩
  have O0 : OwnR H H2 (fun q => if q = m1 then 3 else 99) := fun q hq => by
    by_cases e : q = m1
    · rw [e]; exact ⟨hm1, M1.live⟩
    · simp only [if_neg e] at hq; omega
  refine scan hlt (fun i H' => ∃ rl sl vs, Fam H H' rl m1 sl vs ∧ Ext H H' ∧ OwnR H H' rl ∧ rl m1 = 3 ∧ ∀ k, (vs k).Nodup ∧ (vs k).length ≤ i ∧ ∀ y, y ∈ vs k ↔ ∃ x ∈ rs.take i, x.a = k ∧ x.b = y ∧ want x.kind = true)
    ⟨_, _, _, F0, x2, O0, by simp, fun k => ⟨List.nodup_nil, Nat.zero_le _, fun y => by simp⟩⟩ (fun i H4 next hi hI hnext => ?_) (fun H4 next hI => ?_)
  · obtain ⟨rl, sl, vs, F, hx, O, hr, hvs⟩ := hI
    obtain ⟨x, hxi⟩ := get_of hi
    have hm1l : H4 m1 ≠ none := F.map.live
    have hvl : (vs x.a).length < 1000000000000 := by have := (hvs x.a).2.1; omega
    have hok : want x.kind = true → (vs x.a).any (fun y => x.b == y) = false → ∀ k, ((if k = x.a then vs x.a ++ [x.b] else vs k)).Nodup ∧ (if k = x.a then vs x.a ++ [x.b] else vs k).length ≤ i + 1 ∧ ∀ y, y ∈ (if k = x.a then vs x.a ++ [x.b] else vs k) ↔ ∃ z ∈ rs.take (i + 1), z.a = k ∧ z.b = y ∧ want z.kind = true := fun hw hany k => by
      obtain ⟨h1, h2, h3⟩ := hvs k
      rw [take_snoc hxi]
      by_cases e : k = x.a
      · subst e
        rw [if_pos rfl]
        have hni : x.b ∉ vs x.a := fun h => by rw [List.any_eq_false] at hany; exact hany _ h (by simp)
        refine ⟨?_, by rw [List.length_append, List.length_singleton]; omega, fun y => ?_⟩
        · rw [List.nodup_append]
          exact ⟨h1, List.pairwise_singleton _ _, fun a ha b hb e => by rw [List.mem_singleton.1 hb] at e; exact hni (e ▸ ha)⟩
        · rw [List.mem_append, h3, List.mem_singleton]
          constructor
          · rintro (⟨z, hz, h⟩ | rfl)
            · exact ⟨z, List.mem_append_left _ hz, h⟩
            · exact ⟨x, List.mem_append_right _ (List.mem_singleton.2 rfl), rfl, rfl, hw⟩
          · rintro ⟨z, hz, h⟩
            rcases List.mem_append.1 hz with hz | hz
            · exact .inl ⟨z, hz, h⟩
            · rw [List.mem_singleton.1 hz] at h; exact .inr h.2.1.symm
      · rw [if_neg e]
        refine ⟨h1, by omega, fun y => ?_⟩
        rw [h3]
        constructor
        · rintro ⟨z, hz, h⟩; exact ⟨z, List.mem_append_left _ hz, h⟩
        · rintro ⟨z, hz, h⟩
          rcases List.mem_append.1 hz with hz | hz
          · exact ⟨z, hz, h⟩
          · rw [List.mem_singleton.1 hz] at h; exact absurd h.1.symm e
    have hno : (want x.kind && !(vs x.a).any (fun y => x.b == y)) = false → ∀ k, (vs k).Nodup ∧ (vs k).length ≤ i + 1 ∧ ∀ y, y ∈ vs k ↔ ∃ z ∈ rs.take (i + 1), z.a = k ∧ z.b = y ∧ want z.kind = true := fun hw k => by
      obtain ⟨h1, h2, h3⟩ := hvs k
      rw [take_snoc hxi]
      refine ⟨h1, by omega, fun y => ?_⟩
      constructor
      · intro hy
        obtain ⟨z, hz, h⟩ := (h3 y).1 hy
        exact ⟨z, List.mem_append_left _ hz, h⟩
      · rintro ⟨z, hz, h⟩
        rcases List.mem_append.1 hz with hz | hz
        · exact (h3 y).2 ⟨z, hz, h⟩
        · rw [List.mem_singleton.1 hz] at h
          obtain ⟨ha, hb, hk⟩ := h
          rw [hk, Bool.true_and, Bool.not_eq_false', List.any_eq_true] at hw
          obtain ⟨y', hy', he⟩ := hw
          have he : x.b = y' := by simpa using he
          rw [← ha, ← hb, he]; exact hy'
    dsimp only
    refine cndT (decide_eq_true (by omega)) (jn_intro (fun J => ∀ H' rl' sl' vs', Fam H H' rl' m1 sl' vs' → Ext H H' → OwnR H H' rl' → rl' m1 = 3 → (∀ k, (vs' k).Nodup ∧ (vs' k).length ≤ i + 1 ∧ ∀ y, y ∈ vs' k ↔ ∃ z ∈ rs.take (i + 1), z.a = k ∧ z.b = y ∧ want z.kind = true) → J H') (fun H' rl' sl' vs' a b c d e => ⟨rfl, hnext H' ⟨rl', sl', vs', a, b, c, d, e⟩⟩) fun J hJ => ⟨by omega, by omega, rd_ar (hA.ext hx) hxi fun q o _ k1 k2 k3 k4 => ⟨x.a, by simpa using k1, x.b, by simpa using k2, x.kind, by simpa using k3, x.item, by simpa using k4, ?_⟩⟩)
    refine jn_intro (fun J2 => ∀ b, b = (want x.kind && !(vs x.a).any (fun y => x.b == y)) → J2 b H4) (fun b hb => cndI (fun hbt => ?_) fun hbf => hJ H4 rl sl vs F hx O hr (hno (by rw [← hb]; exact hbf))) fun J2 h2 => ⟨hf, hg _ _ _ ⟨_, rfl, cndI (fun hw => F.look fun A' n' c' b' hA' => ⟨A', n', c', rfl, c40 (F.slice (by unfold huge; omega) hA') ⟨_, rfl, h2 _ (by rw [hw]; rfl)⟩⟩) fun hw => h2 _ (by rw [hw]; rfl)⟩⟩
    · rw [hbt] at hb
      have hb' := hb.symm
      rw [Bool.and_eq_true, Bool.not_eq_true'] at hb'
      have push : ∀ g, H4 g = none → ∀ A' n' c', (if (vs x.a).isEmpty then some (Value.slice none 0 0) else some (.slice (sl x.a).1 (vs x.a).length (sl x.a).2)) = some (.slice A' n' c') → appendF (upd g (Obj.cells [Value.int .i64 x.b].toArray 3 (0, 0)) H4) 3 1 8 A' n' c' (some ⟨g, 0, none⟩) 1 fun A2 n2 c2 H6 => putF H6 .i64 (some m1) x.a (.slice A2 n2 c2) fun H7 => J H7 := by
        intro g hg' A' n' c' hA'
        have x61 : Ext H4 (upd g (Obj.cells [Value.int .i64 x.b].toArray 3 (0, 0)) H4) := Ext.new hg'
        have e61 : (upd g (Obj.cells [Value.int .i64 x.b].toArray 3 (0, 0)) H4) g = some (.cells [Value.int .i64 x.b].toArray 3 (0, 0)) := upd_at
        generalize upd g (Obj.cells [Value.int .i64 x.b].toArray 3 (0, 0)) H4 = H6 at x61 e61 ⊢
        refine Fam.app (t := x.b) (F.grow x61) (hx.trans x61) (O.grow x61) (by omega) hvl hA' (.inr ⟨g, 0, rfl, fun j u hu => ?_⟩) fun A2 n2 c2 H7 f7 hput => hput _ fun H8 rl3 sl3 F8 x8 O8 hr8 f8 => hJ H8 rl3 sl3 _ F8 x8 O8 ?_ (hok hb'.1 hb'.2)
        · rw [cl_cells e61, Nat.zero_add]; exact hu
        · rw [hr8 m1 (by rw [ext_at x61 hm1l]; exact hm1l)]; exact hr
      exact ⟨F.look fun A' n' c' b' hA' => ⟨A', n', c', rfl, fun g hg' => push g hg' A' n' c' hA'⟩, fun g hg' => (F.grow (Ext.new hg')).look fun A' n' c' b' hA' => ⟨A', n', c', rfl, push g hg' A' n' c' hA'⟩⟩
  · obtain ⟨rl, sl, vs, F, hx, O, hr, hvs⟩ := hI
    rw [List.take_length] at hvs
    dsimp only
    refine cndF (decide_eq_false (by omega)) ?_
    obtain ⟨kv, hm, hkv0⟩ := F.map
    have hkv : ∀ k, kvGet kv k = if (vs k).isEmpty then none else some (.slice (sl k).1 (vs k).length (sl k).2) := hkv0
    refine range_to hm fun i H9 hi9 x9 hI9 f9 => ?_
    have hib : i ≠ m1 := fun e => F.map.live (e ▸ hi9)
    have h0i : H i = none := hx.none hi9
    refine ⟨fun n s H' => ∃ left vs', n = left.length ∧ IterAt .i64 H' i m1 kv left ∧ Fam H H' rl m1 sl vs' ∧ Ext H H' ∧ (∀ k, (vs' k).Perm (vs k)) ∧ (∀ k, k ∉ left → k ∈ kv.map (·.1) → Strict (vs' k)), ⟨_, kv.map (·.1), vs, rfl, hI9, F.grow x9, hx.trans x9, fun k => List.Perm.refl _, fun k h1 h2 => absurd h2 h1⟩, ?_⟩
    rintro n s H11 ⟨left, vs', rfl, hI, F', hx', hp, hst⟩
    refine jn_out ?_
    refine next_to hI hib (fun hl => cndF rfl ?_) (fun k u H15 hku hkl hI15 hE f15 => ?_)
    · subst hl
      refine hq m1 sl vs' H11 (fun k => ⟨?_, fun y => (hp k).mem_iff.trans ((hvs k).2.2 y)⟩) ⟨F'.map, fun k hk => ?_⟩ hx' (fun q hq' => ?_)
      rotate_left 2
      · rcases hq' with rfl | ⟨k, hk, hb⟩
        · exact hm1
        · exact ((F'.row k hk).1.lt hb).2
      · cases he : (vs k).isEmpty with
        | true =>
          have : vs' k = [] := by
            have := (hp k).length_eq
            rw [List.isEmpty_iff.1 he] at this
            exact List.length_eq_zero_iff.1 this
          rw [this]; exact List.Pairwise.nil
        | false =>
          refine hst k (by simp) ?_
          have h1 := hkv k
          rw [he, if_neg (by decide)] at h1
          exact List.mem_map.2 ⟨_, (kvGet_mem hm.keys).1 h1, rfl⟩
      · have hl := (hp k).length_eq
        have := (hvs k).2.1
        exact ⟨(F'.row k hk).1.slI (by unfold huge; omega), (F'.row k hk).1.2.1⟩
    · have hu := (kvGet_mem hm.keys).2 hku
      have hne : (vs k).isEmpty = false := by
        cases he : (vs k).isEmpty with
        | false => rfl
        | true => rw [hkv k, he] at hu; cases hu
      rw [hkv k, hne, if_neg (by decide)] at hu
      cases hu
      have hl := (hp k).length_eq
      have hne' : (vs' k).isEmpty = false := by
        cases he : (vs' k).isEmpty with
        | false => rfl
        | true => rw [List.isEmpty_iff.1 he] at hl; rw [List.length_eq_zero_iff.1 hl.symm] at hne; cases hne
      have hic : ∀ cs ty z, H11 i ≠ some (.cells cs ty z) := fun cs ty z h => by
        obtain ⟨es, clock, since, seen, c0, hh, _⟩ := hI
        rw [hh] at h; cases h
      have F15 := F'.off hic hib.symm f15
      have x15 : Ext H H15 := fun q o hq' => (f15 q fun e => by rw [e, h0i] at hq'; cases hq').trans (hx' q o hq')
      have hlt' : (left.filter fun y => decide (y ≠ k)).length < left.length := by
        have h1 := List.length_filter_le (fun y => decide (y ≠ k)) left
        by_cases e : (left.filter fun y => decide (y ≠ k)).length = left.length
        · have := List.length_filter_eq_length_iff.1 e k hkl
          simp at this
        · omega
      have R := (F15.row k hne').1
      have hvk := (hvs k).2.1
      refine ⟨k, rfl, _, _, _, rfl, cndT rfl (entry_to hE ⟨k, rfl, _, _, _, rfl, ?_⟩)⟩
      rw [← hl]
      rw [← ints_eq] at R
      refine c79 R x15 (by unfold big; omega) fun H59 R59 hsl x59 f59 => ⟨rfl, rfl, _, hlt', _, fun k' => if k' = k then sortM (vs' k) else vs' k', rfl, ?_, ?_, x59, fun k' => ?_, fun k' h1 h2 => ?_⟩
      · have hni : ∀ q, (∀ cs ty z, H15 q ≠ some (.cells cs ty z)) → H59 q = H15 q := fun q hq' => by
          apply Classical.byContradiction
          intro hne2
          obtain ⟨cs, ty, h1⟩ := (F15.row k hne').1.cell (f59 q hne2)
          exact hq' _ _ _ h1
        refine hI15.ext (hni i fun cs ty z h => ?_) (hni m1 fun cs ty z h => ?_)
        · obtain ⟨es, clock, since, seen, c0, hh, _⟩ := hI15
          rw [hh] at h; cases h
        · exact F15.map.ne h rfl
      · unfold RowI at R59
        rw [ints_eq] at R59
        have hp2 : (sortM (vs' k)).Perm (vs' k) := List.mergeSort_perm _ _
        exact F15.perm hp2 hne' R59 f59
      · show (if k' = k then sortM (vs' k) else vs' k').Perm (vs k')
        by_cases e : k' = k
        · rw [if_pos e, e]; exact (List.mergeSort_perm _ _).trans (hp k)
        · rw [if_neg e]; exact hp k'
      · show Strict (if k' = k then sortM (vs' k) else vs' k')
        by_cases e : k' = k
        · rw [if_pos e]
          exact strict_sort (((hp k).nodup_iff).2 (hvs k).1)
        · rw [if_neg e]
          exact hst k' (fun h => h1 (List.mem_filter.2 ⟨h, by simpa using e⟩)) h2
end
end Go.Proofs.YtibhpoikhkokiaaGreat.Hw

/- Histories: what arcs lead to; circles. -/
set_option linter.unusedVariables false
set_option linter.unusedSimpArgs false
set_option maxRecDepth 20000
namespace Go.Proofs.YtibhpoikhkokiaaGreat.Hw
open Go Go.Proofs
/-- Arcs lead from one to another one, or it is the same. -/
inductive ReachE (E : Int → List Int) (s : Int) : Int → Prop
  | refl : ReachE E s s
  | step {x y : Int} : ReachE E s x → y ∈ E x → ReachE E s y
open Classical in
noncomputable def reachB (E : Int → List Int) (s y : Int) : Bool := decide (ReachE E s y)
theorem reachB_iff {E : Int → List Int} {s y : Int} : reachB E s y = true ↔ ReachE E s y := by classical unfold reachB; exact ⟨fun h => of_decide_eq_true h, fun h => decide_eq_true h⟩
/-- A slice of numbers on a block of its own, from some place on. -/
def QAt (H0 H : Hp) (A : Option Addr) (n c : Nat) (q : List Int) : Prop := n = q.length ∧ n ≤ c ∧ (c = 0 ∨ ∃ (b o : Nat) (cs : List Value) (ty : Nat), A = some ⟨b, o, none⟩ ∧ H b = some (.cells cs.toArray ty (0, 0)) ∧ o + c ≤ cs.length ∧ (∀ j, j < n → cs[o + j]? = (ints q)[j]?) ∧ H0 b = none)
section
variable {H0 H H' : Hp} {A : Option Addr} {n c : Nat} {q : List Int} {Q : Value → Hp → Prop}
theorem QAt.cellsA (h : QAt H0 H A n c q) : cellsAt H A (ints q) := by
  obtain ⟨h1, h2, h3 | ⟨b, o, cs, ty, rfl, hb, hl, hc, _⟩⟩ := h
  · left
    have : q = [] := List.length_eq_zero_iff.1 (by omega)
    rw [this]; rfl
  · right
    refine ⟨b, o, rfl, fun j v hj => ?_⟩
    have hjn : j < n := by
      have := (List.getElem?_eq_some_iff.1 hj).1
      unfold ints at this
      rw [List.length_map] at this; omega
    rw [cl_cells hb, hc j hjn]; exact hj
theorem QAt.keep (h : QAt H0 H A n c q) (hk : ∀ b cs ty z, H b = some (.cells cs ty z) → H' b = H b) : QAt H0 H' A n c q := by
  obtain ⟨h1, h2, h3 | ⟨b, o, cs, ty, rfl, hb, hl, hc, h0⟩⟩ := h
  · exact ⟨h1, h2, .inl h3⟩
  · exact ⟨h1, h2, .inr ⟨b, o, cs, ty, rfl, (hk b _ _ _ hb).trans hb, hl, hc, h0⟩⟩
theorem QAt.tail {x : Int} (h : QAt H0 H A n c (x :: q)) : QAt H0 H (cutA A (1 * 1) (decide (c = 1))) (n - 1) (c - 1) q := by
  obtain ⟨h1, h2, h3⟩ := h
  rw [List.length_cons] at h1
  refine ⟨by omega, by omega, ?_⟩
  rcases h3 with h3 | ⟨b, o, cs, ty, rfl, hb, hl, hc, h0⟩
  · omega
  by_cases h : c = 1
  · exact .inl (by omega)
  · refine .inr ⟨b, o + 1, cs, ty, ?_, hb, by omega, fun j hj => ?_, h0⟩
    · rw [decide_eq_false h]; rfl
    · rw [show o + 1 + j = o + (j + 1) by omega, hc (j + 1) (by omega)]; rfl
theorem QAt.push {y : Int} {K : Option Addr → Nat → Nat → Hp → Prop} (h : QAt H0 H A n c q) (hx : Ext H0 H) (hs : q.length < 1000000000000) {g : Nat} (hg : H g = some (.cells [Value.int .i64 y].toArray 3 (0, 0)))
    (hk : ∀ A' c' H', QAt H0 H' A' (n + 1) c' (q ++ [y]) → Ext H0 H' → (∀ b, (∀ cs ty z, H b ≠ some (.cells cs ty z)) → H b ≠ none → H' b = H b) → K A' (n + 1) c' H') : appendF H 3 1 8 A n c (some ⟨g, 0, none⟩) 1 K := by
  have hcA := h.cellsA
  obtain ⟨rfl, h2, h3⟩ := h
  refine ⟨by omega, by omega, [.int .i64 y], rfl, .inr ⟨g, 0, rfl, fun j v hj => by rw [cl_cells hg, Nat.zero_add]; exact hj⟩, fun v hv => by obtain rfl := List.mem_singleton.1 hv; rfl, fun hc => ⟨fun h0 => by omega, fun _ => ?_⟩, fun hc => ⟨ints q, by unfold ints; rw [List.length_map, Nat.mul_one], hcA, fun b cap rest hb hcap hcl hrl => ?_⟩⟩
  · rcases h3 with h3 | ⟨b, o, cs, ty, rfl, hb, hl, hcs, h0⟩
    · omega
    refine ⟨b, o, cs, ty, rfl, hb, by omega, ?_⟩
    have hsl : (setR cs (o + q.length * 1) [.int .i64 y]).length = cs.length := setR_length (by simp only [List.length_singleton]; omega)
    refine hk _ c _ ⟨by rw [List.length_append]; rfl, by omega, .inr ⟨b, o, _, ty, rfl, upd_at, by rw [hsl]; exact hl, fun j hj => ?_, h0⟩⟩ (hx.upd h0) fun b' hb' hn => upd_off fun e => by subst e; exact hb' _ _ _ hb
    unfold setR
    rw [ints_append]
    have hil : (ints q).length = q.length := by unfold ints; rw [List.length_map]
    by_cases hjq : j < q.length
    · rw [List.append_assoc, List.getElem?_append_left (by rw [List.length_take]; omega), List.getElem?_take_of_lt (by omega), hcs j hjq, List.getElem?_append_left (by rw [hil]; exact hjq)]
    · have ej : j = q.length := by omega
      subst ej
      have e2 : (ints q ++ ints [y])[q.length]? = some (.int .i64 y) := by rw [List.getElem?_append_right (by rw [hil]; omega), hil, Nat.sub_self]; rfl
      rw [e2, List.append_assoc, List.getElem?_append_right (by rw [List.length_take]; omega), List.length_take, Nat.min_eq_left (by omega), show o + q.length - (o + q.length * 1) = 0 by omega]
      rfl
  · have hil : (ints q).length = q.length := by unfold ints; rw [List.length_map]
    refine hk _ cap _ ⟨by rw [List.length_append]; rfl, hcap, .inr ⟨b, 0, _, 3, rfl, upd_at, ?_, fun j hj => ?_, hx.none hb⟩⟩ (hx.upd (hx.none hb)) fun b' hb' hn => upd_off fun e => hn (e ▸ hb)
    · simp only [List.length_append, hil, List.length_singleton]; omega
    · rw [Nat.zero_add, ints_append]
      rw [List.getElem?_append_left (by simp only [List.length_append, hil, List.length_singleton]; omega)]
      rfl
theorem filter_drop {U : List Int} {f f' : Int → Bool} {y : Int} (hy : y ∈ U) (h : f y = false) (h' : f' y = true) (hm : ∀ z, f z = true → f' z = true) : (U.filter fun u => !f' u).length + 1 ≤ (U.filter fun u => !f u).length := by
  induction U with
  | nil => cases hy
  | cons a U ih =>
    have mono : (U.filter fun u => !f' u).length ≤ (U.filter fun u => !f u).length := by
      clear ih hy
      induction U with
      | nil => exact Nat.le_refl _
      | cons a U ih =>
        rw [List.filter_cons, List.filter_cons]
        cases h1 : f a with
        | true => rw [hm a h1]; simpa using ih
        | false =>
          cases h2 : f' a with
          | true => simp; omega
          | false => simp; omega
    rw [List.filter_cons, List.filter_cons]
    rcases List.mem_cons.1 hy with rfl | hy
    · rw [h, h']; simp; omega
    · have := ih hy
      cases h1 : f a with
      | true => rw [hm a h1]; simpa using this
      | false =>
        cases h2 : f' a with
        | true => simp; omega
        | false => simp; omega
theorem GraphAt.lookX {m : Nat} {sl : Int → Option Addr × Nat} {E : Int → List Int} {k : Int} {K : Value → Bool → Prop} (G : GraphAt H m sl E) (hx : Ext H H') (hk : ∀ A' n' c' b, SlAt inC H A' n' (E k) → n' ≤ c' → K (.slice A' n' c') b) : lookF H' .i64 (some m) k (.slice none 0 0) K := by
  refine (G.map.keep (ext_at hx G.map.live)).look ?_
  cases he : (E k).isEmpty with
  | true =>
    rw [if_pos rfl]
    have e : E k = [] := List.isEmpty_iff.1 he
    exact hk none 0 0 _ (by rw [e]; exact ⟨rfl, .inl rfl, by decide⟩) (Nat.le_refl _)
  | false =>
    rw [if_neg (by decide)]
    exact hk _ _ _ _ (G.row k he).1 (G.row k he).2
theorem c81 {m : Nat} {sl : Int → Option Addr × Nat} {E : Int → List Int} {s : Int} {U : List Int} (G : GraphAt H m sl E) (hU : ∀ x y, y ∈ E x → y ∈ U) (hUl : U.length < 100000000) (hEl : ∀ x, (E x).length < 100000000)
    (hq : ∀ m1 H', Ext H H' → MapF H' m1 (fun y => boolAt (reachB E s y)) → Q (.map (some m1)) H') : HCalls Tryz.prog 81 [.map (some m), .int .i64 s] H Q := by
  refine f81.ok _ _ ?_
  unfold f81
  refine MapF.new fun m1 H2 hm1 x2 o2 M1 => M1.put fun H3 M3 o3 => fun g4 hg4 => ?_
  have x3 : Ext H H3 := fun q o hq' => by rw [o3 q fun e => by subst e; rw [hm1] at hq'; cases hq']; exact x2 q o hq'
  generalize hH5 : upd g4 (Obj.cells _ 3 _) H3 = H5
  have e5 : H5 g4 = some (.cells [Value.int .i64 s].toArray 3 (0, 0)) := by subst hH5; exact upd_at
  have x5 : Ext H3 H5 := by subst hH5; exact Ext.new hg4
  have M5 := M3.keep (ext_at x5 M3.live)
  refine ⟨fun k st H' => ∃ A n c q f, st = (((A, n, c), ()), ()) ∧ QAt H H' A n c q ∧ MapF H' m1 (fun y => boolAt (f y)) ∧ Ext H H' ∧ f s = true ∧ (∀ y, f y = true → ReachE E s y) ∧ (∀ x, f x = true → x ∉ q → ∀ y ∈ E x, f y = true) ∧ (∀ x ∈ q, f x = true) ∧ k = 2 * (U.filter fun u => !f u).length + q.length ∧ k < 300000000,
    ⟨_, some ⟨g4, 0, none⟩, 1, 1, [s], fun y => y == s, rfl, ⟨rfl, Nat.le_refl _, .inr ⟨g4, 0, [.int .i64 s], 3, rfl, e5, by simp, fun j hj => by rw [Nat.zero_add]; rfl, x3.none hg4⟩⟩, M5.congr fun y => ?_, x3.trans x5, by simp, fun y hy => ?_, fun x hx hn => ?_, fun x hx => ?_, rfl, ?_⟩, ?_⟩
  · by_cases e : y = s
    · rw [if_pos e, e]; simp [boolAt]
    · rw [if_neg e]
      show none = boolAt (y == s)
      have : (y == s) = false := by simpa using e
      rw [this]; rfl
  · have : y = s := by simpa using hy
    rw [this]; exact .refl
  · have : x = s := by simpa using hx
    exact absurd (by rw [this]; exact List.mem_singleton.2 rfl) hn
  · simpa using hx
  · have := List.length_filter_le (fun u => !(u == s)) U
    simp only [List.length_singleton]; omega
  rintro k st H7 ⟨A, n, c, q, f, rfl, hQ, hM, hx7, f1, f2, f3, f4, rfl, hk8⟩
  dsimp only
  cases q with
  | nil =>
    have hn : n = 0 := hQ.1
    subst hn
    refine cndF rfl (hq m1 H7 hx7 (hM.congr fun y => ?_))
    have : f y = reachB E s y := by
      rw [Bool.eq_iff_iff, reachB_iff]
      refine ⟨f2 y, fun h => ?_⟩
      induction h with
      | refl => exact f1
      | step _ hy ih => exact f3 _ ih (by simp) _ hy
    rw [this]
  | cons x q =>
    have hn := hQ.1
    rw [List.length_cons] at hn
    have hfx : f x = true := f4 x List.mem_cons_self
    refine cndT (decide_eq_true (by omega)) ⟨by omega, by omega, at_cells hQ.cellsA (by simp [ints]) fun b o hb hc => ⟨x, ?_, by omega, by omega, ?_⟩⟩
    · have := hc 0 (.int .i64 x) rfl
      simpa using this
    refine G.lookX hx7 fun A13 n13 c13 b12 hs13 hc13 => ⟨A13, n13, c13, rfl, ?_⟩
    obtain rfl := hs13.len
    have hlt := hs13.lt
    have hEx := hEl x
    refine loop_to (E x).length (fun i st H' => ∃ A n c q2 f2', st = (((A, n, c), ((i : Int), ())), ()) ∧ QAt H H' A n c q2 ∧ MapF H' m1 (fun y => boolAt (f2' y)) ∧ Ext H H' ∧ (∀ y, f y = true → f2' y = true) ∧ (∀ y, f2' y = true → ReachE E s y) ∧ (∀ z, f2' z = true → z ∉ q2 → z ≠ x → ∀ y ∈ E z, f2' y = true) ∧ (∀ z ∈ q2, f2' z = true) ∧ (∀ y ∈ (E x).take i, f2' y = true) ∧ 2 * (U.filter fun u => !f2' u).length + q2.length ≤ 2 * (U.filter fun u => !f u).length + q.length)
      ⟨_, _, _, q, f, rfl, hQ.tail, hM, hx7, fun y h => h, f2, fun z hz hn hne => f3 z hz (fun h => (List.mem_cons.1 h).elim hne hn), fun z hz => f4 z (List.mem_cons_of_mem _ hz), fun y hy => by simp at hy, Nat.le_refl _⟩ ?_
    rintro i st H15 next hi ⟨A2, n2, c2, q2, f', rfl, hQ2, hM2, hx2, g1, g2, g3, g4', g5, g6⟩ hnext
    dsimp only
    by_cases h : i < (E x).length
    · obtain ⟨y, hy⟩ := get_of h
      have ei : IntKind.i64.wrap ((i : Int) + 1) = ((i + 1 : Nat) : Int) := by rw [wrap_id (by omega) (by omega)]; rfl
      have hyE : y ∈ E x := List.mem_of_getElem? hy
      have hyU := hU x y hyE
      have hFl := List.length_filter_le (fun u => !f u) U
      refine cndT (decide_eq_true (by omega)) (jn_intro (fun J => ∀ A3 n3 c3 H' q3 f3', QAt H H' A3 n3 c3 q3 → MapF H' m1 (fun y => boolAt (f3' y)) → Ext H H' → (∀ y, f y = true → f3' y = true) → (∀ y, f3' y = true → ReachE E s y) → (∀ z, f3' z = true → z ∉ q3 → z ≠ x → ∀ y ∈ E z, f3' y = true) → (∀ z ∈ q3, f3' z = true) → (∀ y ∈ (E x).take (i + 1), f3' y = true) → 2 * (U.filter fun u => !f3' u).length + q3.length ≤ 2 * (U.filter fun u => !f u).length + q.length → J A3 n3 c3 H')
        (fun A3 n3 c3 H' q3 f3' a1 a2 a3 a4 a5 a6 a7 a8 a9 => ⟨rfl, hnext _ _ h ⟨A3, n3, c3, q3, f3', by rw [ei], a1, a2, a3, a4, a5, a6, a7, a8, a9⟩⟩) fun J hJ => ⟨by omega, by omega, rd_in (hs13.ext hx2) hy fun b o _ hc => ⟨y, by simpa using hc, hM2.look ⟨f' y, by unfold boolAt; cases f' y <;> rfl, cndI (fun hfy => ?_) fun hfy => ?_⟩⟩⟩)
      · have hfy : f' y = false := by simpa using hfy
        refine hM2.put fun H22 M22 o22 => fun g23 hg23 => ?_
        have x22 : Ext H H22 := fun b o hb => by rw [o22 b fun e => by subst e; rw [hm1] at hb; cases hb]; exact hx2 b o hb
        have Q22 : QAt H H22 A2 n2 c2 q2 := hQ2.keep fun b cs ty z hb => o22 b (hM2.ne hb).symm
        generalize hH24 : upd g23 (Obj.cells _ 3 _) H22 = H24
        have e24 : H24 g23 = some (.cells [Value.int .i64 y].toArray 3 (0, 0)) := by subst hH24; exact upd_at
        have x24 : Ext H22 H24 := by subst hH24; exact Ext.new hg23
        have Q24 : QAt H H24 A2 n2 c2 q2 := Q22.keep fun b cs ty z hb => ext_at x24 (by rw [hb]; simp)
        refine Q24.push (x22.trans x24) ?_ e24 fun A3 c3 H26 Q26 x26 k26 => hJ A3 _ c3 H26 _ (fun u => u == y || f' u) Q26 ?_ x26 (fun z hz => by rw [g1 z hz, Bool.or_true]) (fun z hz => ?_) (fun z hz hn hne => ?_) (fun z hz => ?_) (fun z hz => ?_) ?_
        · rw [List.length_cons] at hk8; omega
        · have M24 := M22.keep (ext_at x24 M22.live)
          have e26 : H26 m1 = H24 m1 := k26 m1 (fun cs ty z hb => M24.ne hb rfl) M24.live
          exact (M24.keep e26).congr fun u => by
            by_cases e : u = y
            · rw [if_pos e, e]; simp [boolAt]
            · rw [if_neg e]
              have : (u == y) = false := by simpa using e
              rw [this, Bool.false_or]
        · rcases Bool.or_eq_true_iff.1 hz with hz | hz
          · have : z = y := by simpa using hz
            rw [this]; exact .step (f2 x hfx) hyE
          · exact g2 z hz
        · rcases Bool.or_eq_true_iff.1 hz with hz | hz
          · have : z = y := by simpa using hz
            exact absurd (by rw [this]; simp) hn
          · intro u hu
            rw [g3 z hz (fun h => hn (List.mem_append_left _ h)) hne u hu, Bool.or_true]
        · rcases List.mem_append.1 hz with hz | hz
          · rw [g4' z hz, Bool.or_true]
          · rw [List.mem_singleton.1 hz]; simp
        · rw [take_snoc hy] at hz
          rcases List.mem_append.1 hz with hz | hz
          · rw [g5 z hz, Bool.or_true]
          · rw [List.mem_singleton.1 hz]; simp
        · have := filter_drop (f := f') (f' := fun u => u == y || f' u) hyU hfy (by simp) (fun z hz => by rw [hz, Bool.or_true])
          rw [List.length_append, List.length_singleton]; omega
      · have hfy : f' y = true := by simpa using hfy
        refine hJ A2 n2 c2 H15 q2 f' hQ2 hM2 hx2 g1 g2 g3 g4' (fun z hz => ?_) g6
        rw [take_snoc hy] at hz
        rcases List.mem_append.1 hz with hz | hz
        · exact g5 z hz
        · rw [List.mem_singleton.1 hz]; exact hfy
    · obtain rfl : i = (E x).length := by omega
      rw [List.take_length] at g5
      refine cndF (decide_eq_false (by omega)) ⟨rfl, _, ?_, A2, n2, c2, q2, f', rfl, hQ2, hM2, hx2, g1 s f1, g2, fun z hz hn => ?_, g4', rfl, ?_⟩
      · rw [List.length_cons]; omega
      · by_cases e : z = x
        · rw [e]; exact g5
        · exact g3 z hz hn e
      · rw [List.length_cons] at hk8; omega
end
end Go.Proofs.YtibhpoikhkokiaaGreat.Hw

/- Histories: Faults. -/
set_option linter.unusedVariables false
set_option linter.unusedSimpArgs false
set_option maxRecDepth 20000
namespace Go.Proofs.YtibhpoikhkokiaaGreat.Hw
open Go Go.Proofs
/-- Arcs of some kinds lead from one to another one, or it is the same. -/
inductive ReachR (rs : List Arc) (want : Int → Bool) (s : Int) : Int → Prop
  | refl : ReachR rs want s s
  | step {x : Arc} : ReachR rs want s x.a → x ∈ rs → want x.kind = true → ReachR rs want s x.b
theorem reach_graph {rs : List Arc} {want : Int → Bool} {E : Int → List Int} (G : GraphOf rs want E) {s y : Int} : ReachE E s y ↔ ReachR rs want s y := by
  constructor
  · intro h
    induction h with
    | refl => exact .refl
    | step _ hy ih =>
      obtain ⟨a, ha, rfl, rfl, hw⟩ := ((G _).2 _).1 hy
      exact .step ih ha hw
  · intro h
    induction h with
    | refl => exact .refl
    | @step a h1 ha hw ih => exact .step ih (((G a.a).2 a.b).2 ⟨a, ha, rfl, rfl, hw⟩)
open Classical in
noncomputable def circB (rs : List Arc) (kind : Int) (want : Int → Bool) : Bool := decide (∃ x ∈ rs, x.kind = kind ∧ ReachR rs want x.b x.a)
open Classical in
noncomputable def circsB (rs : List Arc) : Bool := decide (∃ x ∈ rs, ReachR rs (fun _ => true) x.b x.a)
theorem circB_iff {rs : List Arc} {kind : Int} {want : Int → Bool} : circB rs kind want = true ↔ ∃ x ∈ rs, x.kind = kind ∧ ReachR rs want x.b x.a := by classical unfold circB; exact ⟨fun h => of_decide_eq_true h, fun h => decide_eq_true h⟩
theorem circsB_iff {rs : List Arc} : circsB rs = true ↔ ∃ x ∈ rs, ReachR rs (fun _ => true) x.b x.a := by classical unfold circsB; exact ⟨fun h => of_decide_eq_true h, fun h => decide_eq_true h⟩
def wW (k : Int) : Bool := k == 1
def wP (k : Int) : Bool := k != 3
def wA (k : Int) : Bool := true
def sAb : ByteArray := { data := #[97, 98, 111, 114, 116, 101, 100, 32, 114, 101, 97, 100] }
def sBt : ByteArray := { data := #[114, 101, 97, 100, 32, 98, 101, 116, 119, 101, 101, 110] }
def sWw : ByteArray := { data := #[99, 105, 114, 99, 108, 101, 32, 119, 119] }
def sWr : ByteArray := { data := #[99, 105, 114, 99, 108, 101, 32, 119, 114] }
def sRw : ByteArray := { data := #[99, 105, 114, 99, 108, 101, 32, 114, 119] }
def sRs : ByteArray := { data := #[99, 105, 114, 99, 108, 101, 115, 32, 114, 119] }
def noteL (b : Bool) (s : ByteArray) : List ByteArray := if b then [s] else []
noncomputable def faultsF (l : List Ev) (rs : List Arc) : List ByteArray :=
  noteL (abTo l l.length) sAb ++ noteL (btTo l l.length) sBt ++ noteL (circB rs 1 wW) sWw ++ noteL (circB rs 2 wP) sWr ++ noteL (circB rs 3 wP) sRw ++ noteL (!circB rs 1 wW && (!circB rs 2 wP && (!circB rs 3 wP && circsB rs))) sRs
def stC (s : ByteArray) : List Value := [.string s]
structure OutS (H0 H : Hp) (g : Nat) (out : List ByteArray) : Prop where
  ext : Ext H0 H
  none0 : H0 g = none
  cell : ∃ A c, H g = some (.cells #[.slice A out.length c] 29 (0, 0)) ∧ Row H0 H A out.length c 1 (out.flatMap stC) ∧ ¬ rowB A g
section
variable {H0 H H' : Hp} {Q : Value → Hp → Prop}
theorem OutS.grow {g : Nat} {out : List ByteArray} (O : OutS H0 H g out) (hx : Ext H H') : OutS H0 H' g out := by
  obtain ⟨A, c, h1, h2, h3⟩ := O.cell
  exact ⟨O.ext.trans hx, O.none0, A, c, hx _ _ h1, h2.keep fun q hq => ext_at hx (h2.lt hq).1, h3⟩
theorem c43 {g : Nat} {out : List ByteArray} {b : Bool} {s : ByteArray} (O : OutS H0 H g out) (hs : out.length < 1000) (hq : ∀ H', OutS H0 H' g (out ++ noteL b s) → Q (.bool b) H') : HCalls Tryz.prog 43 [.bool b, .string s, .pointer (some ⟨g, 0, none⟩)] H Q := by
  refine f43.ok _ _ _ _ ?_
  unfold f43
  refine jn_intro (fun J => ∀ H', OutS H0 H' g (out ++ noteL b s) → J H') (fun H' hO => hq H' hO) fun J hJ => cndI (fun hb => ?_) fun hb => hJ H ?_
  · subst hb
    obtain ⟨A', c', hc, R, hn⟩ := O.cell
    refine ⟨A', out.length, c', cl_cells (cs := [.slice A' out.length c']) hc 0, fun g13 hg13 => ?_⟩
    refine Row.push1 (w := s) (f := stC) (k := 1) (fun _ => rfl) (fun x v hv => by obtain rfl := List.mem_singleton.1 hv; rfl) (by omega) R O.ext (by unfold big; omega) hg13 fun A2 c2 H2 R2 x2 fr2 nb2 => ?_
    have hg3 : H2 g = H g := by
      apply Classical.byContradiction
      intro hne
      rcases fr2 g hne with h | h
      · exact hn h
      · rw [hc] at h; cases h
    have hn2 : ¬ rowB A2 g := fun h => by
      rcases nb2 g h with h | h
      · exact hn h
      · rw [hc] at h; cases h
    refine ⟨[.slice A' out.length c'], 29, hg3.trans hc, by simp, ?_⟩
    exact hJ _ ⟨x2.upd O.none0, O.none0, A2, c2, by rw [upd_at]; rfl, R2.keep fun q hq' => upd_off fun e => hn2 (e ▸ hq'), hn2⟩
  · subst hb
    simpa [noteL] using O
theorem MapAt.live' {k : IntKind} {b : Nat} {kv : KV} (h : MapAt k H b kv) : H b ≠ none := by
  obtain ⟨es, clock, h1, _⟩ := h
  rw [h1]; simp
/-- slices.IndexFunc over arcs, by what a function says of each. -/
theorem c98 {A : Option Addr} {n c : Nat} {l : List Arc} {f : Nat} {fa fc : Array Value} {g : Arc → Bool} (hA : SlAt arC H0 A n l) (hx : Ext H0 H) (hf : FnOk Tryz.prog f)
    (hg : ∀ x ∈ l, ∀ H' (Q : Value → Hp → Prop), Ext H H' → (∀ H'', Ext H' H'' → Q (.bool (g x)) H'') → HCalls Tryz.prog f (fa.toList ++ [.agg #[.int .i64 x.a, .int .i64 x.b, .int .i64 x.kind, .int .i64 x.item]] ++ fc.toList) H' Q)
    (hq : ∀ r H', decide (r ≥ 0) = l.any g → Ext H H' → Q (.int .i64 r) H') : HCalls Tryz.prog 98 [.slice A n c, .func (.func f) fa fc] H Q := by
  refine f98.ok _ _ _ _ _ _ ?_
  unfold f98
  obtain rfl := hA.len
  have hlt := hA.lt
  refine scan hlt (fun i H' => Ext H H' ∧ (l.take i).any g = false) ⟨Ext.refl _, by simp⟩ (fun i H2 next hi hI hnext => ?_) (fun H2 next hI => ?_)
  · obtain ⟨x, hxi⟩ := get_of hi
    dsimp only
    refine cndT (decide_eq_true (by omega)) ⟨by omega, by omega, rd_ar (hA.ext (hx.trans hI.1)) hxi fun q o _ k1 k2 k3 k4 => ⟨x.a, by simpa using k1, x.b, by simpa using k2, x.kind, by simpa using k3, x.item, by simpa using k4, hf, hg x (List.mem_of_getElem? hxi) H2 _ hI.1 fun H3 x3 => ⟨g x, rfl, cndI (fun h => hq _ H3 ?_ (hI.1.trans x3)) (fun h => ⟨rfl, hnext H3 ⟨hI.1.trans x3, ?_⟩⟩)⟩⟩⟩
    · rw [any_hit hxi h, decide_eq_true (by omega)]
    · rw [any_take_succ hxi, hI.2, h]; rfl
  · dsimp only
    refine cndF (decide_eq_false (by omega)) (hq _ H2 ?_ hI.1)
    rw [any_done hI.2]; rfl
theorem c69 {A : Option Addr} {n c : Nat} {l : List Arc} {f : Nat} {fa fc : Array Value} {g : Arc → Bool} (hA : SlAt arC H0 A n l) (hx : Ext H0 H) (hf : FnOk Tryz.prog f)
    (hg : ∀ x ∈ l, ∀ H' (Q : Value → Hp → Prop), Ext H H' → (∀ H'', Ext H' H'' → Q (.bool (g x)) H'') → HCalls Tryz.prog f (fa.toList ++ [.agg #[.int .i64 x.a, .int .i64 x.b, .int .i64 x.kind, .int .i64 x.item]] ++ fc.toList) H' Q)
    (hq : ∀ H', Ext H H' → Q (.bool (l.any g)) H') : HCalls Tryz.prog 69 [.slice A n c, .func (.func f) fa fc] H Q := by
  refine f69.ok _ _ _ _ _ _ ?_
  unfold f69
  exact c98 hA hx hf hg fun r H' hr hx' => ⟨r, rfl, by rw [hr]; exact hq H' hx'⟩
theorem c105 {A : Option Addr} {n c : Nat} {l : List Int} {f : Nat} {fa fc : Array Value} {g : Int → Bool} (hA : SlAt inC H0 A n l) (hx : Ext H0 H) (hf : FnOk Tryz.prog f)
    (hg : ∀ x ∈ l, ∀ H' (Q : Value → Hp → Prop), Ext H H' → (∀ H'', Ext H' H'' → Q (.bool (g x)) H'') → HCalls Tryz.prog f (fa.toList ++ [.int .i64 x] ++ fc.toList) H' Q)
    (hq : ∀ r H', decide (r ≥ 0) = l.any g → Ext H H' → Q (.int .i64 r) H') : HCalls Tryz.prog 105 [.slice A n c, .func (.func f) fa fc] H Q := by
  refine f105.ok _ _ _ _ _ _ ?_
  unfold f105
  obtain rfl := hA.len
  have hlt := hA.lt
  refine scan hlt (fun i H' => Ext H H' ∧ (l.take i).any g = false) ⟨Ext.refl _, by simp⟩ (fun i H2 next hi hI hnext => ?_) (fun H2 next hI => ?_)
  · obtain ⟨x, hxi⟩ := get_of hi
    dsimp only
    refine cndT (decide_eq_true (by omega)) ⟨by omega, by omega, rd_in (hA.ext (hx.trans hI.1)) hxi fun q o _ k1 => ⟨x, by simpa using k1, hf, hg x (List.mem_of_getElem? hxi) H2 _ hI.1 fun H3 x3 => ⟨g x, rfl, cndI (fun h => hq _ H3 ?_ (hI.1.trans x3)) (fun h => ⟨rfl, hnext H3 ⟨hI.1.trans x3, ?_⟩⟩)⟩⟩⟩
    · rw [any_hit hxi h, decide_eq_true (by omega)]
    · rw [any_take_succ hxi, hI.2, h]; rfl
  · dsimp only
    refine cndF (decide_eq_false (by omega)) (hq _ H2 ?_ hI.1)
    rw [any_done hI.2]; rfl
theorem c82 {A : Option Addr} {n c : Nat} {l : List Int} {f : Nat} {fa fc : Array Value} {g : Int → Bool} (hA : SlAt inC H0 A n l) (hx : Ext H0 H) (hf : FnOk Tryz.prog f)
    (hg : ∀ x ∈ l, ∀ H' (Q : Value → Hp → Prop), Ext H H' → (∀ H'', Ext H' H'' → Q (.bool (g x)) H'') → HCalls Tryz.prog f (fa.toList ++ [.int .i64 x] ++ fc.toList) H' Q)
    (hq : ∀ H', Ext H H' → Q (.bool (l.any g)) H') : HCalls Tryz.prog 82 [.slice A n c, .func (.func f) fa fc] H Q := by
  refine f82.ok _ _ _ _ _ _ ?_
  unfold f82
  exact c105 hA hx hf hg fun r H' hr hx' => ⟨r, rfl, by rw [hr]; exact hq H' hx'⟩
theorem c46 {k : Int} (hq : Q (.bool (wW k)) H) : HCalls Tryz.prog 46 [.int .i64 k] H Q := by
  refine f46.ok _ ?_
  unfold f46; exact hq
theorem c47 {k : Int} (hq : Q (.bool (wP k)) H) : HCalls Tryz.prog 47 [.int .i64 k] H Q := by
  refine f47.ok _ ?_
  unfold f47; exact hq
theorem c48 {k : Int} (hq : Q (.bool (wA k)) H) : HCalls Tryz.prog 48 [.int .i64 k] H Q := by
  refine f48.ok _ ?_
  unfold f48; exact hq
section
variable {m : Nat} {sl : Int → Option Addr × Nat} {E : Int → List Int} {rs : List Arc} {want : Int → Bool}
theorem graph_U (G : GraphOf rs want E) : ∀ x y, y ∈ E x → y ∈ rs.map (·.b) := fun x y hy => by
  obtain ⟨a, ha, _, rfl, _⟩ := ((G x).2 y).1 hy
  exact List.mem_map_of_mem ha
theorem strict_nodup {l : List Int} (h : Strict l) : l.Nodup := List.Pairwise.imp (fun {a b} (h : a < b) => by omega) h
theorem graph_len (G : GraphOf rs want E) (x : Int) : (E x).length ≤ rs.length := by
  have := nodup_len (strict_nodup (G x).1) (graph_U G x)
  rwa [List.length_map] at this
theorem c49 {A : Option Addr} {n c : Nat} {kind : Int} (hA : SlAt arC H0 A n rs) (hx : Ext H0 H) (G : GraphOf rs want E) (GA : GraphAt H m sl E) (hl : rs.length < 100000000) (hq : ∀ H', Ext H H' → Q (.bool (circB rs kind want)) H') : HCalls Tryz.prog 49 [.slice A n c, .int .i64 kind, .map (some m)] H Q := by
  refine f49.ok _ _ _ _ _ ?_
  unfold f49
  intro g1 hg1
  generalize hH2 : upd g1 (Obj.cells _ 3 _) H = H2
  have e1 : H2 g1 = some (.cells [Value.int .i64 kind].toArray 3 (0, 0)) := by subst hH2; exact upd_at
  have x2 : Ext H H2 := by subst hH2; exact Ext.new hg1
  intro g3 hg3
  generalize hH4 : upd g3 (Obj.cells _ 69 _) H2 = H4
  have e3 : H4 g3 = some (.cells [Value.map (some m)].toArray 69 (0, 0)) := by subst hH4; exact upd_at
  have x4 : Ext H2 H4 := by subst hH4; exact Ext.new hg3
  refine c69 (g := fun x => (x.kind == kind) && reachB E x.b x.a) hA ((hx.trans x2).trans x4) (fnOk 80 rfl) (fun x hxm H' Q' hx' hQ' => ?_) fun H' hx' => ⟨_, rfl, ?_⟩
  · refine f80.ok _ _ _ _ _ _ _ _ ?_
    unfold f80
    refine jn_intro (fun J => ∀ H'', Ext H' H'' → J ((x.kind == kind) && reachB E x.b x.a) H'') (fun H'' h => hQ' H'' h) fun J hJ => ⟨kind, cl_cells (hx' _ _ (x4 _ _ e1)) 0, cndI (fun hk => ⟨some m, cl_cells (hx' _ _ e3) 0, c81 (U := rs.map (·.b)) (GA.ext ((x2.trans x4).trans hx')) (graph_U G) (by rw [List.length_map]; exact hl) (fun z => Nat.lt_of_le_of_lt (graph_len G z) hl) fun m1 H4' x4' M1 => ⟨_, rfl, M1.look ⟨reachB E x.b x.a, by unfold boolAt; cases reachB E x.b x.a <;> rfl, ?_⟩⟩⟩) fun hk => ?_⟩
    · have := hJ H4' x4'
      rw [hk, Bool.true_and] at this; exact this
    · have := hJ H' (Ext.refl _)
      rw [hk, Bool.false_and] at this; exact this
  · have : (rs.any fun x => (x.kind == kind) && reachB E x.b x.a) = circB rs kind want := by
      rw [Bool.eq_iff_iff, List.any_eq_true, circB_iff]
      constructor
      · rintro ⟨x, hx1, h⟩
        rw [Bool.and_eq_true, reachB_iff, reach_graph G] at h
        exact ⟨x, hx1, by simpa using h.1, h.2⟩
      · rintro ⟨x, hx1, h1, h2⟩
        refine ⟨x, hx1, ?_⟩
        rw [Bool.and_eq_true, reachB_iff, reach_graph G]
        exact ⟨by simpa using h1, h2⟩
    rw [this]
    exact hq H' ((x2.trans x4).trans hx')
theorem c50 (G : GraphOf rs wA E) (GA : GraphAt H m sl E) (hl : rs.length < 100000000) (hq : ∀ H', Ext H H' → Q (.bool (circsB rs)) H') : HCalls Tryz.prog 50 [.map (some m)] H Q := by
  refine f50.ok _ ?_
  unfold f50
  intro g1 hg1
  generalize hH2 : upd g1 (Obj.cells _ 69 _) H = H2
  have e1 : H2 g1 = some (.cells [Value.map (some m)].toArray 69 (0, 0)) := by subst hH2; exact upd_at
  have x2 : Ext H H2 := by subst hH2; exact Ext.new hg1
  have G2 := GA.ext x2
  obtain ⟨kv, hm, hkv0⟩ := G2.map
  have hkv : ∀ k, kvGet kv k = if (E k).isEmpty then none else some (.slice (sl k).1 (E k).length (sl k).2) := hkv0
  refine ⟨some m, cl_cells e1 0, range_to hm fun i4 H5 hi4 x5 hI5 f5 => ?_⟩
  have hib : i4 ≠ m := fun e => G2.map.live (e ▸ hi4)
  refine ⟨fun n s H' => ∃ left, n = left.length ∧ IterAt .i64 H' i4 m kv left ∧ Ext H2 H' ∧ ∀ x y, y ∈ E x → x ∉ left → reachB E y x = false, ⟨_, kv.map (·.1), rfl, hI5, x5, fun x y hy hn => ?_⟩, ?_⟩
  · exfalso
    apply hn
    have hne : (E x).isEmpty = false := by
      cases he : (E x).isEmpty with
      | false => rfl
      | true => rw [List.isEmpty_iff.1 he] at hy; cases hy
    have h1 := hkv x
    rw [hne, if_neg (by decide)] at h1
    exact List.mem_map.2 ⟨_, (kvGet_mem hm.keys).1 h1, rfl⟩
  rintro n s H7 ⟨left, rfl, hI, hx7, hno⟩
  refine jn_out ?_
  refine next_to hI hib (fun hl0 => cndF rfl ?_) (fun k u H11 hku hkl hI11 hE f11 => ?_)
  · subst hl0
    have : circsB rs = false := by
      cases hc : circsB rs with
      | false => rfl
      | true =>
        obtain ⟨x, hx, hr⟩ := circsB_iff.1 hc
        have h1 := hno x.a x.b (((G x.a).2 x.b).2 ⟨x, hx, rfl, rfl, rfl⟩) (by simp)
        rw [reachB_iff.2 ((reach_graph G).2 hr)] at h1; cases h1
    rw [this] at hq
    exact hq H7 (x2.trans hx7)
  · have hu := (kvGet_mem hm.keys).2 hku
    have hne : (E k).isEmpty = false := by
      cases he : (E k).isEmpty with
      | false => rfl
      | true => rw [hkv k, he] at hu; cases hu
    rw [hkv k, hne, if_neg (by decide)] at hu
    cases hu
    have i2 : H2 i4 = none := hi4
    have x11 : Ext H2 H11 := fun q o hq' => (f11 q fun e => by rw [e, i2] at hq'; cases hq').trans (hx7 q o hq')
    have hlt' : (left.filter fun y => decide (y ≠ k)).length < left.length := by
      have h1 := List.length_filter_le (fun y => decide (y ≠ k)) left
      by_cases e : (left.filter fun y => decide (y ≠ k)).length = left.length
      · have := List.length_filter_eq_length_iff.1 e k hkl
        simp at this
      · omega
    refine ⟨k, rfl, _, _, _, rfl, cndT rfl (entry_to hE ⟨k, rfl, _, _, _, rfl, fun g21 hg21 => ?_⟩)⟩
    have x22 : Ext H11 (upd g21 (Obj.cells [Value.int .i64 k].toArray 3 (0, 0)) (upd g21 (Obj.cells [Value.int .i64 0].toArray 3 (0, 0)) H11)) := fun q o hq' => by
      have : q ≠ g21 := fun e => by rw [e, hg21] at hq'; cases hq'
      rw [upd_off this, upd_off this]; exact hq'
    refine ⟨[.int .i64 0], 3, upd_at, by simp, ?_⟩
    have e23 : (upd g21 (Obj.cells [Value.int .i64 k].toArray 3 (0, 0)) (upd g21 (Obj.cells [Value.int .i64 0].toArray 3 (0, 0)) H11)) g21 = some (.cells [Value.int .i64 k].toArray 3 (0, 0)) := upd_at
    show HCalls _ _ _ (upd g21 (Obj.cells [Value.int .i64 k].toArray 3 (0, 0)) (upd g21 (Obj.cells [Value.int .i64 0].toArray 3 (0, 0)) H11)) _
    generalize (upd g21 (Obj.cells [Value.int .i64 k].toArray 3 (0, 0)) (upd g21 (Obj.cells [Value.int .i64 0].toArray 3 (0, 0)) H11)) = H23 at x22 e23 ⊢
    have hsl := (G2.row k hne).1
    refine c82 (g := fun y => reachB E y k) hsl (x11.trans x22) (fnOk 83 rfl) (fun y hy H' Q' hx' hQ' => ?_) fun H25 x25 => ⟨_, rfl, cndI (fun hb => ?_) fun hb => ⟨rfl, _, hlt', _, rfl, ?_, (x11.trans x22).trans x25, fun x y hy hn => ?_⟩⟩
    · refine f83.ok _ _ _ _ _ ?_
      unfold f83
      have h1 := x11.trans (x22.trans hx')
      refine ⟨some m, cl_cells (h1 _ _ e1) 0, k, cl_cells (hx' _ _ e23) 0, c81 (U := rs.map (·.b)) (G2.ext h1) (graph_U G) (by rw [List.length_map]; exact hl) (fun z => Nat.lt_of_le_of_lt (graph_len G z) hl) fun m1 H4' x4' M1 => ⟨_, rfl, ext_at x4' (by rw [hx' _ _ e23]; simp), M1.look ⟨reachB E y k, by unfold boolAt; cases reachB E y k <;> rfl, hQ' H4' x4'⟩⟩⟩
    · have : circsB rs = true := by
        obtain ⟨y, hy, hr⟩ := List.any_eq_true.1 hb
        obtain ⟨a, ha, rfl, rfl, _⟩ := ((G k).2 y).1 hy
        exact circsB_iff.2 ⟨a, ha, (reach_graph G).1 (reachB_iff.1 hr)⟩
      rw [this] at hq
      exact hq H25 (((x2.trans x11).trans x22).trans x25)
    · have li : H11 i4 ≠ none := by obtain ⟨es, clock, since, seen, c0, hh, _⟩ := hI11; rw [hh]; simp
      exact hI11.ext ((ext_at (x22.trans x25) li)) ((ext_at (x22.trans x25) hI11.map.live'))
    · by_cases e : x = k
      · rw [e] at hy ⊢
        rw [List.any_eq_false] at hb
        have := hb y hy
        simpa using this
      · exact hno x y hy fun h => hn (List.mem_filter.2 ⟨h, by simpa using e⟩)
end
end
end Go.Proofs.YtibhpoikhkokiaaGreat.Hw

/- Histories: Faults and Arcs, whole. -/
set_option linter.unusedVariables false
set_option linter.unusedSimpArgs false
set_option maxRecDepth 20000
namespace Go.Proofs.YtibhpoikhkokiaaGreat.Hw
open Go Go.Proofs
theorem valid_ok {l : List Ev} (h : validM l = true) : OkTo l l.length ∧ l.length ≤ 2000 := by
  unfold validM at h
  simp only [Bool.and_eq_true, decide_eq_true_eq] at h
  exact ⟨good_iff.1 h.2, h.1⟩
/-- What Faults hands back. -/
def FaultsQ (H : Hp) (Q : Value → Hp → Prop) (l : List Ev) : Prop :=
  (validM l = false → ∀ H', Ext H H' → Q (.tuple #[.slice none 0 0, .int .i64 2]) H') ∧
  (validM l = true → ∀ rs A c H', ArcsOf l rs → Ext H H' → SlAt stC H' A (faultsF l rs).length (faultsF l rs) → (faultsF l rs).length ≤ c → Q (.tuple #[.slice A (faultsF l rs).length c, .int .i64 0]) H')
def ArcsQ (H : Hp) (Q : Value → Hp → Prop) (l : List Ev) : Prop :=
  (validM l = false → ∀ H', Ext H H' → Q (.tuple #[.slice none 0 0, .int .i64 2]) H') ∧
  (validM l = true → ∀ rs A c H', ArcsOf l rs → Ext H H' → SlAt arC H' A rs.length rs → rs.length ≤ c → Q (.tuple #[.slice A rs.length c, .int .i64 0]) H')
theorem noteL_len {b : Bool} {s : ByteArray} : (noteL b s).length ≤ 1 := by unfold noteL; cases b <;> simp
section
variable {H : Hp} {Q : Value → Hp → Prop} {A : Option Addr} {n cp : Nat} {l : List Ev}
theorem c18 (hA : SlAt evC H A n l) (hc : n ≤ cp) (hq : ArcsQ H Q l) : HCalls Tryz.prog 18 [.slice A n cp] H Q := by
  refine f18.ok _ _ _ ?_
  unfold f18
  obtain ⟨q1, q2⟩ := hq
  refine c14 hA fun H2 x2 => ⟨_, rfl, ?_⟩
  cases hv : validM l with
  | false => exact cndT rfl (q1 hv H2 x2)
  | true =>
    obtain ⟨hok, hlen⟩ := valid_ok hv
    refine cndF rfl (c38 (hA.ext x2) hc hok hlen fun g c b v w sl H5 x5 B => ⟨_, rfl, c42 B hlen fun rs A' c' H8 ha hl x8 R => ⟨_, _, _, rfl, q2 hv rs A' c' H8 ha ((x2.trans x5).trans x8) ⟨rfl, R.cells, by unfold huge; omega⟩ R.2.1⟩⟩)
theorem c13 (hA : SlAt evC H A n l) (hc : n ≤ cp) (hq : FaultsQ H Q l) : HCalls Tryz.prog 13 [.slice A n cp] H Q := by
  refine f13.ok _ _ _ ?_
  unfold f13
  obtain ⟨q1, q2⟩ := hq
  refine c14 hA fun H2 x2 => ⟨_, rfl, ?_⟩
  cases hv : validM l with
  | false => exact cndT rfl (q1 hv H2 x2)
  | true =>
    obtain ⟨hok, hlen⟩ := valid_ok hv
    refine cndF rfl (c38 (hA.ext x2) hc hok hlen fun g c b v w sl H5 x5 B => ⟨_, rfl, c42 B hlen fun rs A' c' H8 ha hl x8 R => ⟨_, _, _, rfl, fun g10 hg10 => ?_⟩⟩)
    have hsl : SlAt arC H8 A' rs.length rs := ⟨rfl, R.cells, by unfold huge; omega⟩
    generalize hH11 : upd g10 (Obj.cells _ 29 _) H8 = H11
    have e11 : H11 g10 = some (.cells #[.slice none 0 0] 29 (0, 0)) := by subst hH11; exact upd_at
    have x11 : Ext H8 H11 := by subst hH11; exact Ext.new hg10
    have O0 : OutS H8 H11 g10 [] := ⟨x11, hg10, none, 0, e11, Row.nil, fun ⟨o, z, h⟩ => by cases h⟩
    have B11 := B.ext (x8.trans x11)
    have small : ∀ {o : List ByteArray} {b : Bool} {s : ByteArray}, o.length ≤ 5 → (o ++ noteL b s).length ≤ o.length + 1 := fun {o b s} h => by
      have := noteL_len (b := b) (s := s)
      rw [List.length_append]; omega
    refine c44 B11 ⟨_, _, rfl, fnOk 43 rfl, c43 O0 (by simp) fun H17 O17 => ⟨_, rfl, fnOk 43 rfl, c43 O17 ?_ fun H20 O20 => ⟨_, rfl, ?_⟩⟩⟩
    · have := noteL_len (b := abTo l l.length) (s := sAb)
      simp only [List.nil_append]
      show (noteL (abTo l l.length) sAb).length < 1000
      omega
    have l20 : (([] : List ByteArray) ++ noteL (abTo l l.length) sAb ++ noteL (btTo l l.length) sBt).length ≤ 2 := by
      have := noteL_len (b := abTo l l.length) (s := sAb)
      have := noteL_len (b := btTo l l.length) (s := sBt)
      rw [List.length_append, List.nil_append]; omega
    have O20 : OutS H8 H20 g10 ([] ++ noteL (abTo l l.length) sAb ++ noteL (btTo l l.length) sBt) := O20
    refine c45 (want := wW) (hsl.ext O20.ext) (fnOk 46 rfl) (fun k H' Q' hQ' => c46 hQ') (by omega) fun m1 sl1 E1 H23 G1 GA1 x23 n1 => ⟨_, rfl, ?_⟩
    refine c45 (want := wP) ((hsl.ext O20.ext).ext x23) (fnOk 47 rfl) (fun k H' Q' hQ' => c47 hQ') (by omega) fun m2 sl2 E2 H26 G2 GA2 x26 n2 => ⟨_, rfl, ?_⟩
    refine c45 (want := wA) (((hsl.ext O20.ext).ext x23).ext x26) (fnOk 48 rfl) (fun k H' Q' hQ' => c48 hQ') (by omega) fun m3 sl3 E3 H29 G3 GA3 x29 n3 => ⟨_, rfl, ?_⟩
    have x2029 := (x23.trans x26).trans x29
    have O29 := O20.grow x2029
    classical
    -- what lies beside the strings
    have hB0 : ∃ B0 : Hp, (∀ q, (H20 q ≠ none ∧ H8 q = none) → B0 q = none) ∧ ∀ q, ¬ (H20 q ≠ none ∧ H8 q = none) → B0 q = H29 q := ⟨fun q => if H20 q ≠ none ∧ H8 q = none then none else H29 q, fun q hq' => if_pos hq', fun q hq' => if_neg hq'⟩
    obtain ⟨B0, b0, b1⟩ := hB0
    have xB : Ext B0 H29 := fun q o hq' => by
      by_cases h : H20 q ≠ none ∧ H8 q = none
      · rw [b0 q h] at hq'; cases hq'
      · rw [b1 q h] at hq'; exact hq'
    have x8B : Ext H8 B0 := fun q o hq' => by
      rw [b1 q fun h => by rw [h.2] at hq'; cases hq']
      exact O29.ext q o hq'
    have OB : OutS B0 H29 g10 ([] ++ noteL (abTo l l.length) sAb ++ noteL (btTo l l.length) sBt) := by
      obtain ⟨A2, c2, hc2, R2, hn2⟩ := O20.cell
      have hg : H20 g10 ≠ none := by rw [hc2]; simp
      refine ⟨xB, b0 g10 ⟨hg, hg10⟩, A2, c2, x2029 _ _ hc2, ?_, hn2⟩
      obtain ⟨r1, r2, r3 | ⟨bb, cs, ty, rfl, hbb, hcl, ht, h0⟩⟩ := R2
      · exact ⟨r1, r2, .inl r3⟩
      · exact ⟨r1, r2, .inr ⟨bb, cs, ty, rfl, x2029 _ _ hbb, hcl, ht, b0 bb ⟨by rw [hbb]; simp, h0⟩⟩⟩
    have GB1 : GraphAt B0 m1 sl1 E1 := (GA1.ext (x26.trans x29)).move fun q hq' => b1 q fun h => h.1 (n1 q hq')
    have GB2 : GraphAt B0 m2 sl2 E2 := (GA2.ext x29).move fun q hq' => b1 q fun h => h.1 (x23.none (n2 q hq'))
    have GB3 : GraphAt B0 m3 sl3 E3 := GA3.move fun q hq' => b1 q fun h => h.1 (x23.none (x26.none (n3 q hq')))
    have hslB := hsl.ext x8B
    have key : ∀ {o : List ByteArray} {b : Bool} {s : ByteArray} {k : Nat}, o.length ≤ k → (o ++ noteL b s).length ≤ k + 1 := fun {o b s k} h => by
      have := noteL_len (b := b) (s := s)
      rw [List.length_append]; omega
    have h0 : Ext H B0 := ((x2.trans x5).trans x8).trans x8B
    refine c49 (kind := 1) hslB xB G1 (GB1.ext xB) (by omega) fun H32 x32 => ⟨_, rfl, fnOk 43 rfl, c43 (OB.grow x32) (by omega) fun H35 O35 => ⟨_, rfl, ?_⟩⟩
    have l35 := key (b := circB rs 1 wW) (s := sWw) l20
    refine c49 (kind := 2) hslB O35.ext G2 (GB2.ext O35.ext) (by omega) fun H38 x38 => ⟨_, rfl, fnOk 43 rfl, c43 (O35.grow x38) (Nat.lt_of_le_of_lt l35 (by omega)) fun H41 O41 => ⟨_, rfl, ?_⟩⟩
    have l41 := key (b := circB rs 2 wP) (s := sWr) l35
    refine c49 (kind := 3) hslB O41.ext G2 (GB2.ext O41.ext) (by omega) fun H44 x44 => ⟨_, rfl, fnOk 43 rfl, c43 (O41.grow x44) (Nat.lt_of_le_of_lt l41 (by omega)) fun H47 O47 => ⟨_, rfl, ?_⟩⟩
    have l47 := key (b := circB rs 3 wP) (s := sRw) l41
    refine jn_intro (fun J => ∀ H', OutS B0 H' g10 (faultsF l rs) → J H') (fun H64 O64 => ?_) fun J hJ => ?_
    · obtain ⟨A2, c2, hc2, R2, hn2⟩ := O64.cell
      have hfl : (faultsF l rs).length ≤ 6 := by
        have h := key (b := !circB rs 1 wW && (!circB rs 2 wP && (!circB rs 3 wP && circsB rs))) (s := sRs) l47
        exact h
      exact ⟨A2, _, c2, cl_cells (cs := [.slice A2 (faultsF l rs).length c2]) hc2 0, q2 hv rs A2 c2 H64 ha (h0.trans O64.ext) ⟨rfl, R2.cells, by unfold huge; omega⟩ R2.2.1⟩
    · have fin : ∀ (b : Bool) (H' : Hp), b = (!circB rs 1 wW && (!circB rs 2 wP && (!circB rs 3 wP && circsB rs))) → OutS B0 H' g10 ([] ++ noteL (abTo l l.length) sAb ++ noteL (btTo l l.length) sBt ++ noteL (circB rs 1 wW) sWw ++ noteL (circB rs 2 wP) sWr ++ noteL (circB rs 3 wP) sRw) → FnOk Tryz.prog 43 ∧ HCalls Tryz.prog 43 [.bool b, .string sRs, .pointer (some ⟨g10, 0, none⟩)] H' fun v H53 => ∃ x54 : Bool, v = .bool x54 ∧ J H53 := fun b H' hb O' =>
        ⟨fnOk 43 rfl, c43 O' (Nat.lt_of_le_of_lt l47 (by omega)) fun H53 O53 => ⟨_, rfl, hJ H53 (by rw [hb] at O53; exact O53)⟩⟩
      refine cndI (fun h1 => cndI (fun h2 => cndI (fun h3 => c50 G3 (GB3.ext O47.ext) (by omega) fun H50 x50 => ⟨_, rfl, fin _ H50 ?_ (O47.grow x50)⟩) fun h3 => fin false H47 ?_ O47) fun h2 => fin false H47 ?_ O47) fun h1 => fin false H47 ?_ O47
      · rw [h1, h2, h3]; rfl
      · rw [h1, h2, h3]; rfl
      · rw [h1, h2]; rfl
      · rw [h1]; rfl
end
end Go.Proofs.YtibhpoikhkokiaaGreat.Hw

/- Histories: what a transaction reads and writes at a place. -/
set_option linter.unusedVariables false
set_option linter.unusedSimpArgs false
set_option maxRecDepth 20000
namespace Go.Proofs.YtibhpoikhkokiaaGreat.Hw
open Go Go.Proofs
def comAt (l : List Ev) (t : Int) : Int := (natOr (commitI l t) : Nat)
def begAt (l : List Ev) (t : Int) : Int := (natOr (beginI l t) : Nat)
def lastS (l : List Ev) (place : Int) (s t : Int) : Int := if decide (comAt l t < place) then t else s
def lastM (l : List Ev) (item place : Int) : Int := (versM l item).foldl (lastS l place) 0
def otherB (l : List Ev) (t frm to : Int) (u : Int) : Bool := (u != t) && (decide (comAt l u ≥ frm) && decide (comAt l u < to))
def cleanB (l : List Ev) (t item frm to : Int) : Bool := !(versM l item).any (otherB l t frm to)
def wantedB (stmt : Int) (x : Ev) : Bool := stmt == 0 || x.stmt == stmt
def okEv (l : List Ev) (t stmt place until_ : Int) (i : Nat) (x : Ev) : Bool :=
  if x.txn != t then true
  else if x.op == 2 then !(wantedB stmt x && x.frm != (if wroteM (l.take i) t x.item then t else lastM l x.item place))
  else if x.op == 3 then !(wantedB stmt x && !cleanB l t x.item place (if decide (until_ < 0) then (i : Int) else until_))
  else true
def okAt (l : List Ev) (t stmt place until_ : Int) (i : Nat) : Bool := match l[i]? with
  | some x => okEv l t stmt place until_ i x
  | none => true
def fitsB (l : List Ev) (t stmt place until_ : Int) : Bool := (List.range l.length).all (okAt l t stmt place until_)
def foundB (l : List Ev) (t stmt low high until_ : Int) : Bool := (List.range (high + 1 - low).toNat).any fun (k : Nat) => fitsB l t stmt (low + k) until_
section
variable {H H' : Hp} {g c b v w : Nat} {sl : Int → Option Addr × Nat} {A : Option Addr} {n cp : Nat} {l : List Ev} {Q : Value → Hp → Prop}
theorem BookAt.com {t : Int} {K : Value → Bool → Prop} (B : BookAt H g c b v w sl A n cp l) (hk : K (.int .i64 (comAt l t)) (comB l t)) : lookF H .i64 (some c) t (.int .i64 0) K := by
  refine B.commits.look ?_
  unfold comAt comB at hk
  cases h : commitI l t <;> rw [h] at hk <;> exact hk
theorem BookAt.beg {t : Int} {K : Value → Bool → Prop} (B : BookAt H g c b v w sl A n cp l) (hk : ∀ b, K (.int .i64 (begAt l t)) b) : lookF H .i64 (some b) t (.int .i64 0) K := by
  refine B.begins.look ?_
  unfold begAt at hk
  cases h : beginI l t <;> rw [h] at hk <;> exact hk _
theorem c111 {item place : Int} (B : BookAt H g c b v w sl A n cp l) (hq : Q (.int .i64 (lastM l item place)) H) : HCalls Tryz.prog 111 [.pointer (some ⟨g, 0, none⟩), .int .i64 item, .int .i64 place] H Q := by
  refine f111.ok _ _ _ _ ?_
  unfold f111
  refine ⟨some v, B.cl 3, B.look fun A' n' c' b' hA' hc' => ⟨A', n', c', rfl, ?_⟩⟩
  obtain rfl := hA'.len
  have hlt := hA'.lt
  refine loop_to (versM l item).length (fun i s H' => s = ((((versM l item).take i).foldl (lastS l place) 0, ((i : Int), ())), ()) ∧ H' = H) ⟨rfl, rfl⟩ ?_
  rintro i s H6 next hi ⟨rfl, rfl⟩ hnext
  dsimp only
  by_cases h : i < (versM l item).length
  · obtain ⟨t, ht⟩ := get_of h
    have ei : IntKind.i64.wrap ((i : Int) + 1) = ((i + 1 : Nat) : Int) := by rw [wrap_id (by omega) (by omega)]; rfl
    refine cndT (decide_eq_true (by omega)) (jn_intro (fun J => J (lastS l place (((versM l item).take i).foldl (lastS l place) 0) t)) ⟨rfl, hnext _ _ h ⟨by rw [ei, take_snoc ht, List.foldl_append]; rfl, rfl⟩⟩ fun J hJ => ⟨by omega, by omega, rd_in hA' ht fun q o _ k1 => ⟨t, by simpa using k1, some c, B.cl 1, B.com ⟨_, rfl, cndI (fun hb => ?_) fun hb => ?_⟩⟩⟩)
    · unfold lastS at hJ; rw [if_pos hb] at hJ; exact hJ
    · unfold lastS at hJ; rw [if_neg (by rw [hb]; decide)] at hJ; exact hJ
  · obtain rfl : i = (versM l item).length := by omega
    rw [List.take_length]
    exact cndF (decide_eq_false (by omega)) hq
theorem c112 {t item frm to : Int} (B : BookAt H g c b v w sl A n cp l) (hq : ∀ H', Ext H H' → Q (.bool (cleanB l t item frm to)) H') : HCalls Tryz.prog 112 [.pointer (some ⟨g, 0, none⟩), .int .i64 t, .int .i64 item, .int .i64 frm, .int .i64 to] H Q := by
  refine f112.ok _ _ _ _ _ _ ?_
  unfold f112
  intro g1 hg1
  generalize hH2 : upd g1 (Obj.cells _ 56 _) H = H2
  have e1 : H2 g1 = some (.cells [Value.pointer (some ⟨g, 0, none⟩)].toArray 56 (0, 0)) := by subst hH2; exact upd_at
  have x2 : Ext H H2 := by subst hH2; exact Ext.new hg1
  intro g3 hg3
  generalize hH4 : upd g3 (Obj.cells _ 3 _) H2 = H4
  have e3 : H4 g3 = some (.cells [Value.int .i64 t].toArray 3 (0, 0)) := by subst hH4; exact upd_at
  have x4 : Ext H2 H4 := by subst hH4; exact Ext.new hg3
  intro g5 hg5
  generalize hH6 : upd g5 (Obj.cells _ 3 _) H4 = H6
  have e5 : H6 g5 = some (.cells [Value.int .i64 frm].toArray 3 (0, 0)) := by subst hH6; exact upd_at
  have x6 : Ext H4 H6 := by subst hH6; exact Ext.new hg5
  intro g7 hg7
  generalize hH8 : upd g7 (Obj.cells _ 3 _) H6 = H8
  have e7 : H8 g7 = some (.cells [Value.int .i64 to].toArray 3 (0, 0)) := by subst hH8; exact upd_at
  have x8 : Ext H6 H8 := by subst hH8; exact Ext.new hg7
  have hx8 : Ext H H8 := ((x2.trans x4).trans x6).trans x8
  have B8 := B.ext hx8
  refine ⟨_, cl_cells (((x4.trans x6).trans x8) _ _ e1) 0, some v, B8.cl 3, B8.look fun A' n' c' b' hA' hc' => ⟨A', n', c', rfl, ?_⟩⟩
  refine c82 (g := otherB l t frm to) hA' (Ext.refl _) (fnOk 135 rfl) (fun u hu H' Q' hx' hQ' => ?_) fun H16 x16 => ⟨_, rfl, hq H16 (hx8.trans x16)⟩
  refine f135.ok _ _ _ _ _ _ _ _ _ ?_
  unfold f135
  have B' := B8.ext hx'
  have r1 : cl H' g1 0 = some (.pointer (some ⟨g, 0, none⟩)) := cl_cells (hx' _ _ (((x4.trans x6).trans x8) _ _ e1)) 0
  have r3 : cl H' g3 0 = some (.int .i64 t) := cl_cells (hx' _ _ ((x6.trans x8) _ _ e3)) 0
  have r5 : cl H' g5 0 = some (.int .i64 frm) := cl_cells (hx' _ _ (x8 _ _ e5)) 0
  have r7 : cl H' g7 0 = some (.int .i64 to) := cl_cells (hx' _ _ e7) 0
  have hQ := hQ' H' (Ext.refl _)
  unfold otherB at hQ
  refine jn_intro (fun J => ∀ bb, bb = ((u != t) && (decide (comAt l u ≥ frm) && decide (comAt l u < to))) → J bb) (fun bb hb => by rw [hb]; exact hQ) fun J hJ => ⟨t, r3, cndI (fun h1 => ⟨_, r1, some c, B'.cl 1, frm, r5, B'.com ⟨_, rfl, rfl, cndI (fun h2 => ⟨_, r1, some c, B'.cl 1, to, r7, B'.com ⟨_, rfl, rfl, hJ _ ?_⟩⟩) fun h2 => ⟨rfl, hJ _ ?_⟩⟩⟩) fun h1 => ⟨rfl, rfl, hJ _ ?_⟩⟩
  · rw [show (u != t) = true from h1, h2]; rfl
  · rw [h2]; simp
  · rw [show (u != t) = false from h1]; rfl
theorem no_before {t : Int} {k i : Nat} (hok : OkTo l l.length) (hb : beginI l t = some k) {x : Ev} (hx : l[i]? = some x) (hi : i < k) : x.txn ≠ t := fun e => by
  by_cases h1 : x.op = 1
  · have := hok.begin_at hx (isB_iff.2 ⟨h1, e⟩)
    rw [hb] at this; cases this; omega
  · obtain ⟨b', h2, h3⟩ := hok.begin_lt hx h1
    rw [e, hb] at h2; cases h2; omega
theorem c99 {t stmt place until_ : Int} {k : Nat} (B : BookAt H g c b v w sl A n cp l) (hok : OkTo l l.length) (hb : beginI l t = some k) (hq : ∀ H', Ext H H' → Q (.bool (fitsB l t stmt place until_)) H') :
    HCalls Tryz.prog 99 [.pointer (some ⟨g, 0, none⟩), .int .i64 t, .int .i64 stmt, .int .i64 place, .int .i64 until_] H Q := by
  refine f99.ok _ _ _ _ _ _ ?_
  unfold f99
  refine MapF.new fun m1 H2 hm1 x2 o2 M1 => ?_
  have B2 := B.ext x2
  refine ⟨some b, B2.cl 2, B2.beg fun b' => ⟨_, rfl, ?_⟩⟩
  have hbk : begAt l t = (k : Int) := by unfold begAt natOr; rw [hb]; rfl
  rw [hbk]
  have hA := B.evs
  obtain rfl := hA.len
  have hlt := hA.lt
  have hkl : k < l.length := by
    obtain ⟨x, hx, _⟩ := lastI_some hb
    exact (List.getElem?_eq_some_iff.1 hx).1
  have w0 : ∀ q, wroteM (l.take k) t q = false := fun q => by
    cases hw : wroteM (l.take k) t q with
    | false => rfl
    | true =>
      obtain ⟨i, x, hi, hx, hp⟩ := any_take.1 hw
      exact absurd (isW_iff.1 hp).2.1 (no_before hok hb hx hi)
  refine loop_to l.length (fun i s H' => ∃ i' : Nat, s = (((i' : Int), ()), ()) ∧ i' = k + i ∧ i' ≤ l.length ∧ Ext H H' ∧ H' m1 ≠ none ∧ MapF H' m1 (fun q => boolAt (wroteM (l.take i') t q)) ∧ ∀ j, j < i' → okAt l t stmt place until_ j = true)
    ⟨k, rfl, rfl, by omega, x2, M1.live, M1.congr fun q => by rw [w0]; rfl, fun j hj => ?_⟩ ?_
  · unfold okAt
    cases hx : l[j]? with
    | none => rfl
    | some x =>
      have := no_before hok hb hx (by omega)
      show okEv l t stmt place until_ j x = true
      unfold okEv
      rw [if_pos (by simpa using this)]
  rintro i s H8 next hi ⟨i', rfl, hki, hil, hx8, hl8, M8, hpre⟩ hnext
  have B8 := B.ext hx8
  dsimp only
  refine ⟨A, l.length, cp, B8.cl 0, ?_⟩
  by_cases h : i' < l.length
  · obtain ⟨x, hx⟩ := get_of h
    have ei : IntKind.i64.wrap (((i' : Nat) : Int) + 1) = ((i' + 1 : Nat) : Int) := by rw [wrap_id (by omega) (by omega)]; rfl
    have hfail : okEv l t stmt place until_ i' x = false → fitsB l t stmt place until_ = false := fun hf => by
      cases hh : fitsB l t stmt place until_ with
      | false => rfl
      | true =>
        unfold fitsB at hh
        rw [List.all_eq_true] at hh
        have h2 := hh i' (List.mem_range.2 h)
        have h3 : okAt l t stmt place until_ i' = okEv l t stmt place until_ i' x := by unfold okAt; rw [hx]
        rw [h3, hf] at h2; cases h2
    have hwsame : ¬ (x.txn = t ∧ x.op = 3) → ∀ q, wroteM (l.take (i' + 1)) t q = wroteM (l.take i') t q := fun hn q => by
      rw [take_snoc hx, wrote_snoc]
      have : isW t q x = false := by
        cases hh : isW t q x with
        | false => rfl
        | true => have := isW_iff.1 hh; exact absurd ⟨this.2.1, this.1⟩ hn
      rw [this, Bool.or_false]
    refine cndT (decide_eq_true (by omega)) (jn_intro (fun J => okEv l t stmt place until_ i' x = true → ∀ H', Ext H H' → MapF H' m1 (fun q => boolAt (wroteM (l.take (i' + 1)) t q)) → J H') (fun ho H' hx' M' => ⟨rfl, hnext _ _ (by omega) ⟨i' + 1, by rw [ei], by omega, by omega, hx', M'.live, M', fun j hj => ?_⟩⟩) fun J hJ => ⟨A, l.length, cp, B8.cl 0, by omega, by omega, rd_ev (hA.ext hx8) hx fun q o _ k1 k2 k3 k4 k5 => ⟨x.op, by simpa using k1, x.txn, by simpa using k2, x.item, by simpa using k3, x.frm, by simpa using k4, x.stmt, by simpa using k5, ?_⟩⟩)
    · by_cases e : j = i'
      · subst e; unfold okAt; rw [hx]; exact ho
      · exact hpre j (by omega)
    refine cndI (fun ht => ?_) fun ht => ?_
    · have ht' : (x.txn != t) = true := ht
      refine hJ (by unfold okEv; rw [if_pos ht']) H8 hx8 (M8.congr fun q => by rw [hwsame fun h => by simp [h.1] at ht'])
    have ht' : (x.txn != t) = false := ht
    have hte : x.txn = t := by simpa using ht'
    refine jn_intro (fun J2 => J2 (wantedB stmt x)) ?_ fun J2 h2 => ?_
    rotate_left
    · unfold wantedB at h2
      refine cndI (fun hs => ?_) fun hs => ?_
      · rw [hs] at h2; exact h2
      · rw [hs] at h2; exact h2
    refine cndI (fun o2 => ?_) fun o2 => cndI (fun o3 => ?_) fun o3 => ?_
    · have hE : okEv l t stmt place until_ i' x = !(wantedB stmt x && x.frm != (if wroteM (l.take i') t x.item then t else lastM l x.item place)) := by unfold okEv; rw [if_neg (by rw [ht']; decide), if_pos o2]
      have no3 : ¬ (x.txn = t ∧ x.op = 3) := fun h => by
        have h2 : x.op = 2 := by simpa using o2
        omega
      refine jn_intro (fun J3 => J3 (if wroteM (l.take i') t x.item then t else lastM l x.item place) H8) ?_ fun J3 h3 => M8.look ⟨wroteM (l.take i') t x.item, by unfold boolAt; cases wroteM (l.take i') t x.item <;> rfl, cndI (fun hw => c111 B8 ⟨_, rfl, ?_⟩) fun hw => ?_⟩
      · refine jn_intro (fun J4 => ∀ bb, bb = (wantedB stmt x && x.frm != (if wroteM (l.take i') t x.item then t else lastM l x.item place)) → J4 bb) (fun bb hbb => cndI (fun ht2 => ?_) fun ht2 => hJ (by rw [hE, ← hbb, ht2] <;> rfl) H8 hx8 (M8.congr fun q => by rw [hwsame no3])) fun J4 h4 => cndI (fun hw => h4 _ (by rw [hw]; rfl)) fun hw => h4 _ (by rw [hw]; rfl)
        have := hq H8 hx8
        rw [hfail (by rw [hE, ← hbb, ht2] <;> rfl)] at this; exact this
      · have hw : wroteM (l.take i') t x.item = false := by simpa using hw
        rw [hw] at h3; exact h3
      · have hw : wroteM (l.take i') t x.item = true := by simpa using hw
        rw [hw] at h3; exact h3
    · have hE : okEv l t stmt place until_ i' x = !(wantedB stmt x && !cleanB l t x.item place (if decide (until_ < 0) then ((i' : Nat) : Int) else until_)) := by unfold okEv; rw [if_neg (by rw [ht']; decide), if_neg (by rw [o2]; decide), if_pos o3]
      have h3 : x.op = 3 := by simpa using o3
      refine jn_intro (fun J3 => ∀ to, to = (if decide (until_ < 0) then ((i' : Nat) : Int) else until_) → J3 to) (fun to hto => ?_) fun J3 h3 => cndI (fun hu => h3 _ (by rw [if_pos hu])) fun hu => h3 _ (by rw [if_neg (by rw [hu]; decide)])
      refine jn_intro (fun J4 => ∀ bb H', bb = (wantedB stmt x && !cleanB l t x.item place to) → Ext H8 H' → J4 bb H') (fun bb H' hbb hx' => cndI (fun ht2 => ?_) fun ht2 => ?_) fun J4 h4 => cndI (fun hw => c112 B8 fun H34 x34 => ⟨_, rfl, h4 _ H34 (by rw [hw]; rfl) x34⟩) fun hw => h4 _ H8 (by rw [hw]; rfl) (Ext.refl _)
      · have := hq H' (hx8.trans hx')
        rw [hfail (by rw [hE, ← hto, ← hbb, ht2] <;> rfl)] at this; exact this
      · refine (M8.keep (ext_at hx' M8.live)).put fun H39 M39 f39 => hJ (by rw [hE, ← hto, ← hbb, ht2] <;> rfl) H39 (fun q o hq' => ?_) (M39.congr fun q => ?_)
        · rw [f39 q fun e => by rw [e, hm1] at hq'; cases hq']
          exact hx' _ _ (hx8 q o hq')
        · rw [take_snoc hx, wrote_snoc]
          by_cases e : q = x.item
          · rw [if_pos e, isW_iff.2 ⟨h3, hte, e.symm⟩, Bool.or_true]; rfl
          · have : isW t q x = false := by
              cases hh : isW t q x with
              | false => rfl
              | true => exact absurd (isW_iff.1 hh).2.2.symm e
            rw [if_neg e, this, Bool.or_false]
    · refine hJ (by unfold okEv; rw [if_neg (by rw [ht']; decide), if_neg (by rw [o2]; decide), if_neg (by rw [o3]; decide)]) H8 hx8 (M8.congr fun q => by rw [hwsame fun h => by simp [h.2] at o3])
  · have e : i' = l.length := by omega
    have : fitsB l t stmt place until_ = true := by
      unfold fitsB
      rw [List.all_eq_true]
      exact fun j hj => hpre j (by have := List.mem_range.1 hj; omega)
    rw [this] at hq
    exact cndF (decide_eq_false (by omega)) (hq H8 hx8)
theorem c71 {t stmt low high until_ : Int} {k : Nat} (B : BookAt H g c b v w sl A n cp l) (hok : OkTo l l.length) (hb : beginI l t = some k) (h1 : 0 ≤ low) (h2 : low < 1000000) (h3 : high < 1000000) (hq : ∀ H', Ext H H' → Q (.bool (foundB l t stmt low high until_)) H') :
    HCalls Tryz.prog 71 [.pointer (some ⟨g, 0, none⟩), .int .i64 t, .int .i64 stmt, .int .i64 low, .int .i64 high, .int .i64 until_] H Q := by
  refine f71.ok _ _ _ _ _ _ _ ?_
  unfold f71
  refine loop_to (high + 1 - low).toNat (fun i s H' => s = ((low + (i : Int), ()), ()) ∧ Ext H H' ∧ ∀ j, j < i → fitsB l t stmt (low + (j : Int)) until_ = false) ⟨by simp, Ext.refl _, fun j hj => by omega⟩ ?_
  rintro i s H2 next hi ⟨rfl, hx, hno⟩ hnext
  dsimp only
  by_cases h : i < (high + 1 - low).toNat
  · have ei : IntKind.i64.wrap (low + (i : Int) + 1) = low + ((i + 1 : Nat) : Int) := by rw [wrap_id (by omega) (by omega)]; omega
    refine cndT (decide_eq_true (by omega)) (c99 (B.ext hx) hok hb fun H5 x5 => ⟨_, rfl, cndI (fun hf => ?_) fun hf => ⟨rfl, hnext _ _ h ⟨by rw [ei], hx.trans x5, fun j hj => ?_⟩⟩⟩)
    · have : foundB l t stmt low high until_ = true := List.any_eq_true.2 ⟨i, List.mem_range.2 h, hf⟩
      rw [this] at hq
      exact hq H5 (hx.trans x5)
    · by_cases e : j = i
      · subst e; exact hf
      · exact hno j (by omega)
  · have : foundB l t stmt low high until_ = false := by
      unfold foundB
      rw [List.any_eq_false]
      intro j hj
      have := hno j (by have := List.mem_range.1 hj; omega)
      rw [this]; decide
    rw [this] at hq
    exact cndF (decide_eq_false (by omega)) (hq H2 hx)
end
end Go.Proofs.YtibhpoikhkokiaaGreat.Hw
