/- The pair: awake. -/
import Derived.Test.YtkkmoeimcedkgaaPq
set_option linter.unusedVariables false
set_option linter.unusedSimpArgs false
namespace Go.Proofs.Ytkkmoeimcedkgaa.Hw
open Go Go.Proofs
def P1 : PS := ⟨[⟨3, true, [3]⟩, ⟨3, true, [2, 3]⟩], [(0, 7)]⟩
def P2 : PS := ⟨[⟨0, false, []⟩, ⟨2, true, [2]⟩], [(0, 2)]⟩
def stopL : List Act3 := [(1, 0, 0), (2, 0, 0), (3, 0, 0), (6, 0, 0)]
theorem run1 : runP newP goodL = P1 := by decide
theorem run2 : runP newP stopL = P2 := by decide
theorem out1 : outcomeP P1 = (3, 0) := by decide
theorem set1 : settledQ P1 = (true, 0) := by decide
theorem dbt2 : doubtP P2 = (true, 0) := by decide
theorem frm2 : formed P2 = true := by decide
theorem clm2 : (calmM P2).2.length ≠ 0 := by decide
theorem do2a : doCode P2 2 0 0 = 5 := by decide
theorem do2b : doCode P2 6 2 0 = 21 := by decide
theorem do2c : doCode P2 0 0 0 = 2 := by decide
section
variable {H0 H H' : Hp} {Q : Value → Hp → Prop}
theorem psOf_two {l : List RS} {ns : List (Int × Int)} {x y : Side} {z : List (Int × Int)} (h : psOf l ns = ⟨[x, y], z⟩) : ∃ r0 r1, l = [r0, r1] ∧ r0.side = x ∧ r1.side = y ∧ ns = z := by
  unfold psOf at h
  injection h with h1 h2
  match l, h1 with
  | [a, b], h1 =>
    simp only [List.map_cons, List.map_nil, List.cons.injEq, and_true] at h1
    exact ⟨a, b, rfl, h1.1, h1.2, h2⟩
theorem c9 (hq : ∀ H', Ext H H' → Q (.bool true) H') : HCalls Try.prog 9 [] H Q := by
  refine f9.ok ?_
  unfold f9 jn
  dsimp only
  refine c26 fun ga H2 x2 ha _ => ⟨_, _, _, rfl, c22 (l := goodL) ⟨rfl, .inr ⟨ga, 0, rfl, fun j v hj => by rw [cl_cells ha, Nat.zero_add]; exact hj⟩⟩ (by decide) fun A6 n6 c6 A7 n7 c7 B d H5 lp np x5 hp ep hB => ⟨_, _, _, _, _, _, _, _, _, rfl, ?_⟩⟩
  rw [run1] at ep
  refine c14 hp fun H10 x10 => ⟨_, _, rfl, c18 (hp.ext x10) ⟨_, _, rfl, c26 fun gb H18 x18 hb hbn => ⟨_, _, _, rfl, by omega, by omega, by omega, by omega, fun g20 hg20 => ?_⟩⟩⟩
  rw [ep, out1, set1]
  have x21 : Ext H18 (upd g20 (.cells (actC (6, 0, 0)).toArray 28 (0, 0)) H18) := Ext.new hg20
  have hb21 := x21 gb _ hb
  have R : Row H10 (upd g20 (.cells (actC (6, 0, 0)).toArray 28 (0, 0)) H18) (some ⟨gb, 0, none⟩) 3 3 3 ((goodL.take 3).flatMap actC) := ⟨rfl, by omega, .inr ⟨gb, _, 28, rfl, hb21, by decide, rfl, hbn⟩⟩
  refine R.append (new := actC (6, 0, 0)) (x18.trans x21) (.inr ⟨g20, 0, rfl, fun j v hj => by rw [cl_cells upd_at, Nat.zero_add]; exact hj⟩) rfl act_one (by omega) (by omega) ?_
  intro A22 c22' H23 hrow x23 _ _ _
  refine c22 (l := stopL) ⟨rfl, hrow.cells⟩ (by decide) fun A26 n26 k26 A27 n27 k27 B2 d2 H25 lq nq x25 hp2 ep2 _ => ⟨_, _, _, _, _, _, _, _, _, rfl, ?_⟩
  rw [run2] at ep2
  refine c16 hp2 ⟨_, _, rfl, c20 hp2 (by rw [ep2]; decide) (fun hf => by rw [ep2, frm2] at hf; cases hf) fun _ A35 d35 H34 x34 hcalm => ⟨_, _, _, _, rfl, ?_⟩⟩
  rw [ep2, dbt2]
  have sz : partsP lq nq + 2 < big := by rw [← sizeP_ps, ep2]; decide
  refine c11 (hp2.ext x34) sz fun _ _ _ _ _ _ H38 _ _ x38 _ _ => ⟨_, _, _, _, _, _, _, rfl, c11 ((hp2.ext x34).ext x38) sz fun _ _ _ _ _ _ H43 _ _ x43 _ _ => ⟨_, _, _, _, _, _, _, rfl, c11 (((hp2.ext x34).ext x38).ext x43) sz fun _ _ _ _ _ _ H48 _ _ x48 _ _ => ⟨_, _, _, _, _, _, _, rfl, ?_⟩⟩⟩
  rw [ep2, do2a, do2b, do2c]
  have xx : Ext H5 H48 := (((((x10.trans x23).trans x25).trans x34).trans x38).trans x43).trans x48
  have hpx := hp.ext xx
  obtain ⟨r0, r1, rfl, e0, e1, rfl⟩ := psOf_two ep
  obtain rfl : n6 = 2 := hp.sides.len
  have f0 : r0.ph = 3 := congrArg Side.ph e0
  have f1 : r1.ph = 3 := congrArg Side.ph e1
  refine cndF rfl (cndF rfl ⟨by omega, by omega, rd_side hpx.sides (i := 0) rfl fun b o _ k1 _ _ => ⟨3, by rw [← f0]; simpa using k1, cndT rfl ⟨by omega, by omega, rd_side hpx.sides (i := 1) rfl fun b o _ k1 _ _ => ⟨3, by rw [← f1]; simpa using k1, ?_⟩⟩⟩⟩)
  refine cndT rfl (cndT rfl (cndT rfl (cndT rfl (cndT rfl (cndT rfl (cndT rfl (cndT ?_ (cndT rfl (cndT rfl (cndT rfl (cndT rfl ?_)))))))))))
  · have := clm2
    exact decide_eq_true (by omega)
  refine c24 fun g60 H59 l60 x60 hp60 e60 => ⟨_, _, _, _, _, _, rfl, c27 fun g64 H63 l64 x64 hp64 e64 => ⟨_, _, _, _, _, _, rfl, c13 (hp60.ext x64) hp64 ⟨_, rfl, ?_⟩⟩⟩
  rw [e60, e64, decide_eq_true rfl]
  exact hq _ ((((x2.trans x5).trans xx).trans x60).trans x64)
end
end Go.Proofs.Ytkkmoeimcedkgaa.Hw
