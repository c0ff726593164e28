/- Locks: awake, and the law LockAsks. -/
import Derived.Test.YtkbancdmhcnhjaaMa
set_option linter.unusedVariables false
set_option linter.unusedSimpArgs false
namespace Go.Proofs.Ytkbancdmhcnhjaa.Hw
open Go Go.Proofs
section
variable {H0 H : Hp} {Q : Value → Hp → Prop}
theorem oneI {g : Nat} {x : Int} : SlAt inC (upd g (.cells [Value.int .i64 x].toArray 3 (0, 0)) H) (some ⟨g, 0, none⟩) 1 [x] :=
  ⟨rfl, .inr ⟨g, 0, rfl, fun j v hj => by rw [cl_cells upd_at, Nat.zero_add]; exact hj⟩, by unfold huge; simp⟩
theorem twoI {g : Nat} {x y : Int} : SlAt inC (upd g (.cells [Value.int .i64 x, .int .i64 y].toArray 3 (0, 0)) H) (some ⟨g, 0, none⟩) 2 [x, y] :=
  ⟨rfl, .inr ⟨g, 0, rfl, fun j v hj => by rw [cl_cells upd_at, Nat.zero_add]; exact hj⟩, by unfold huge; simp⟩
theorem c7 (hq : ∀ H', Ext H H' → Q (.bool true) H') : HCalls Try.prog 7 [] H Q := by
  refine f7.ok ?_
  unfold f7
  refine c15 (l := nilK) (thing := sA) (LocksAt.nil H) (by decide) ?_
  rw [aw1]
  intro B0 d0 B1 d1 B2 d2 H2 x2 la
  refine ⟨_, _, _, _, _, _, _, _, _, _, _, rfl, ?_⟩
  refine c15 (l := kA) (thing := sB) la (by decide) ?_
  rw [aw2]
  intro C0 e0 C1 e1 C2 e2 H9 x9 lb
  refine ⟨_, _, _, _, _, _, _, _, _, _, _, rfl, ?_⟩
  refine c15 (l := kB) (thing := sB) lb (by decide) ?_
  rw [aw3]
  intro D0 f0 D1 f1 D2 f2 H16 x16 lc
  refine ⟨_, _, _, _, _, _, _, _, _, _, _, rfl, ?_⟩
  refine c15 (l := kC) (thing := sA) lc (by decide) ?_
  rw [aw4]
  intro _ _ _ _ _ _ H23 x23 _
  refine ⟨_, _, _, _, _, _, _, _, _, _, _, rfl, ?_⟩
  have lc := LocksAt.ext lc x23
  refine c12 (l := kC) lc ?_
  rw [aw5]
  intro A31 n31 c37 H30 x30 li _
  refine ⟨_, _, _, _, rfl, ?_⟩
  have lc := LocksAt.ext lc x30
  refine c13 (l := kC) lc ?_
  rw [aw6]
  intro E0 g0 E1 g1 E2 g2 A38 c38g H34 x34 ld lw _
  refine ⟨_, _, _, _, _, _, _, _, _, _, _, _, _, rfl, ?_⟩
  have lc := LocksAt.ext lc x34
  refine c9 (l := kC) lc ?_
  rw [aw7]
  intro A42 n42 c42g H41 x41 _ _
  refine ⟨_, _, _, _, rfl, ?_⟩
  refine c17 (l := kD) (thing := sB) (LocksAt.ext ld x41) (by decide) ?_
  rw [aw8]
  intro H45 x45
  refine ⟨_, _, _, rfl, ?_⟩
  have lc := LocksAt.ext (LocksAt.ext lc x41) x45
  refine c18 (l := kC) lc ?_
  rw [aw9]
  intro _ _ _ _ _ _ H50 x50 _
  refine ⟨_, _, _, _, _, _, _, _, _, _, rfl, ?_⟩
  have x250 := (((((((x9.trans x16).trans x23).trans x30).trans x34).trans x41).trans x45).trans x50)
  refine c18 (l := kA) (LocksAt.ext la x250) ?_
  rw [aw10]
  intro F0 h0 F1 h1 F2 h2 H56 x56 lo
  refine ⟨_, _, _, _, _, _, _, _, _, _, rfl, ?_⟩
  have lc := LocksAt.ext (LocksAt.ext lc x50) x56
  refine c19 (l := kC) lc ?_
  rw [aw11]
  intro G0 i0 G1 i1 G2 i2 A66 c51 H62 x62 lq _ _
  refine ⟨_, _, _, _, _, _, _, _, _, _, _, _, _, rfl, ?_⟩
  have lc := LocksAt.ext lc x62
  refine c15 (l := kC) (thing := sZ) lc (by decide) ?_
  rw [aw12]
  intro _ _ _ _ _ _ H69 x69 _
  refine ⟨_, _, _, _, _, _, _, _, _, _, _, rfl, fun g hg => ?_⟩
  have x76 : Ext H69 (upd g (.cells [Value.int .i64 3, .int .i64 4, .int .i64 4, .int .i64 3].toArray 53 (0, 0)) H69) := Ext.new hg
  have lI : LocksAt (upd g (.cells [Value.int .i64 3, .int .i64 4, .int .i64 4, .int .i64 3].toArray 53 (0, 0)) H69) none 0 0 none 0 0 (some ⟨g, 0, none⟩) 2 2 kI :=
    ⟨⟨rfl, .inl rfl, by decide⟩, ⟨rfl, .inl rfl, by decide⟩, ⟨rfl, .inr ⟨g, 0, rfl, fun j v hj => by rw [cl_cells upd_at, Nat.zero_add]; exact hj⟩, by decide⟩, Nat.le_refl _, Nat.le_refl _, Nat.le_refl _, fun x h => (by cases h), fun x h => (by cases h)⟩
  refine c9 (l := kI) lI ?_
  rw [aw13]
  intro A79 n79 c79g H78 x78 lz _
  refine ⟨_, _, _, _, rfl, ?_⟩
  have lc := LocksAt.ext (LocksAt.ext (LocksAt.ext lc x69) x76) x78
  have x2_78 := (((((x250.trans x56).trans x62).trans x69).trans x76).trans x78)
  unfold jn
  refine cndT rfl (cndT rfl (cndT rfl (cndT rfl (cndT rfl (cndT rfl (cndT rfl fun g81 hg81 => ?_))))))
  have y1 : Ext H78 (upd g81 (.cells [Value.int .i64 2].toArray 3 (0, 0)) H78) := Ext.new hg81
  have x3078 := ((((((((x34.trans x41).trans x45).trans x50).trans x56).trans x62).trans x69).trans x76).trans x78)
  refine c20 (l := [2]) (r := [2]) (SlAt.ext (SlAt.ext li x3078) y1) oneI ⟨_, rfl, cndT (by decide) (cndT rfl fun g86 hg86 => ?_)⟩
  have y2 := Ext.new (o := .cells [Value.int .i64 1].toArray 3 (0, 0)) hg86
  have x3478 := (((((((x41.trans x45).trans x50).trans x56).trans x62).trans x69).trans x76).trans x78)
  refine c20 (l := [1]) (r := [1]) (SlAt.ext (SlAt.ext (SlAt.ext lw x3478) y1) y2) oneI ⟨_, rfl, cndT (by decide) (cndT rfl (cndT rfl (cndT rfl (cndT rfl (cndT rfl (cndT rfl (cndT rfl (cndT rfl ?_))))))))⟩
  have x6278 := (x69.trans x76).trans x78
  have x9_78 := ((((((((((x16.trans x23).trans x30).trans x34).trans x41).trans x45).trans x50).trans x56).trans x62).trans x69).trans x76).trans x78
  refine c16 (l := kB) (r := kB) (LocksAt.ext (LocksAt.ext (LocksAt.ext lq x6278) y1) y2) (LocksAt.ext (LocksAt.ext (LocksAt.ext lb x9_78) y1) y2) fun b hb => ⟨_, rfl, cndT (hb.2 rfl) (cndT rfl (cndT rfl fun g94 hg94 => ?_))⟩
  have y3 := Ext.new (o := .cells [Value.int .i64 3, .int .i64 4].toArray 3 (0, 0)) hg94
  refine c20 (l := [3, 4]) (r := [3, 4]) (SlAt.ext (SlAt.ext (SlAt.ext lz y1) y2) y3) twoI ⟨_, rfl, cndT (by decide) (cndT rfl ?_)⟩
  refine c10 (l := kC) (LocksAt.ext (LocksAt.ext (LocksAt.ext lc y1) y2) y3) fun H100 x100 => ⟨_, rfl, ?_⟩
  rw [aw14]
  exact hq H100 (((((x2.trans x2_78).trans y1).trans y2).trans y3).trans x100)
theorem few_small {l : LK} (h : fewB l = true) (hs : StrOk l) : Small l := by
  unfold fewB at h
  simp only [Bool.and_eq_true, decide_eq_true_eq] at h
  unfold Small big
  exact ⟨by omega, by omega, by omega, hs⟩
end
end Go.Proofs.Ytkbancdmhcnhjaa.Hw
