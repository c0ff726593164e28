/- The law PairDoes: its function returns true. -/
import Derived.Test.YtkkmoeimcedkgaaPr
set_option linter.unusedVariables false
set_option linter.unusedSimpArgs false
namespace Go.Proofs.Ytkkmoeimcedkgaa.Hw
open Go Go.Proofs
section
variable {H0 H H' : Hp} {Q : Value → Hp → Prop}
theorem Own.pair {B0 B1 : Option Addr} {d0 d1 : Nat} {l : List RS} {ns : List (Int × Int)} (o : Own H0 H B0 d0 B1 d1 l ns) (hl : l.length < huge ∧ ns.length < huge) : PairAt H B0 l.length B1 ns.length l ns :=
  ⟨⟨rfl, o.sides.cells, fun r hr => ⟨by have := (o.logs r hr).1.1; simp [ints] at this; omega, (o.logs r hr).1.cells, lt_huge (o.logs r hr).2⟩⟩, ⟨rfl, o.notes.cells⟩, hl⟩
theorem c3 {A0 A1 : Option Addr} {n0 c0 n1 c1 : Nat} {l : List RS} {ns : List (Int × Int)} {op sd nt : Int} (hp : PairAt H A0 n0 A1 n1 l ns) (hq : ∀ H', Ext H H' → Q (.bool true) H') :
    HCalls Try.prog 3 [.agg #[.slice A0 n0 c0, .slice A1 n1 c1], .agg #[.int .i64 op, .int .i64 sd, .int .i64 nt]] H Q := by
  refine f3.ok _ _ _ _ _ _ _ _ _ ?_
  unfold f3 jn
  dsimp only
  refine c8 hp fun b hb => ⟨_, rfl, cndI (fun h => c9 fun H' hx => ⟨_, rfl, hq _ hx⟩) (fun h => ?_)⟩
  have hsm := hb (by simpa using h)
  have sz : partsP l ns + 2 < big := by unfold big; omega
  refine c10 hp (by omega) fun l' B0 d0 B1 d1 H8 hm o => ⟨_, _, _, _, _, _, rfl, ?_⟩
  have hp8 := hp.ext o.ext
  have hl' : l'.length = l.length := by simpa using congrArg List.length hm
  have hpc := o.pair (by rw [hl']; exact hp.small)
  rw [hl'] at hpc
  have ec : psOf l' ns = psOf l ns := by unfold psOf; rw [hm]
  refine c11 hp8 sz fun _ _ _ _ _ _ H12 _ _ x12 hp12 e12 => ⟨_, _, _, _, _, _, _, rfl, c12 (hp8.ext x12) sz fun _ _ _ _ _ _ H17 _ _ x17 hp17 e17 => ⟨_, _, _, _, _, _, _, rfl, c13 (hp12.ext x17) hp17 ⟨_, rfl, ?_⟩⟩⟩
  rw [e12, e17, decide_eq_true rfl]
  have hp22 := (hp8.ext x12).ext x17
  refine cndF rfl (cndF (by simp) (c14 hp22 fun H28 x28 => ⟨_, _, rfl, c15 (hp22.ext x28) ⟨_, _, rfl, cndF (by simp) (cndF (by simp) ?_)⟩⟩))
  have hp28 := hp22.ext x28
  refine c16 hp28 ⟨_, _, rfl, c17 hp28 ⟨_, _, rfl, cndF (by simp) (cndF (by simp) (c18 hp28 ⟨_, _, rfl, c19 hp28 ⟨_, _, rfl, ?_⟩⟩))⟩⟩
  have last : ∀ H56 k, Ext H28 H56 → (((k : Int) == 2) == (!formed (psOf l ns))) = true → cnd ((settledQ (psOf l ns)).1 == (settledQ (psOf l ns)).1) (cnd (((settledQ (psOf l ns)).2 : Int) == (settledQ (psOf l ns)).2) (HCalls Try.prog 21 [.agg #[.slice A0 n0 c0, .slice A1 n1 c1]] H56 fun v59 H60 => ∃ x61 : Bool, v59 = .bool x61 ∧ cnd (((k : Int) == 2) == (!x61)) (HCalls Try.prog 13 [.agg #[.slice B0 l.length d0, .slice B1 ns.length d1], .agg #[.slice A0 n0 c0, .slice A1 n1 c1]] H60 fun v62 H63 => ∃ x64 : Bool, v62 = .bool x64 ∧ cnd x64 (HCalls Try.prog 9 [] H63 fun v65 H66 => ∃ x67 : Bool, v65 = .bool x67 ∧ Q (.bool x67) H66) (Q (.bool false) H63)) (Q (.bool false) H60)) (Q (.bool false) H56)) (Q (.bool false) H56) := fun H56 k x56 hk => by
    have hp56 := hp28.ext x56
    refine cndT (by simp) (cndT (by simp) (c21 hp56 ⟨_, rfl, cndT hk (c13 ((((hpc.ext x12).ext x17).ext x28).ext x56) hp56 ⟨_, rfl, cndT (decide_eq_true ec) (c9 fun H' hx => ⟨_, rfl, hq _ ?_⟩)⟩)⟩))
    exact ((((o.ext.trans x12).trans x17).trans x28).trans x56).trans hx
  refine c20 hp28 (by rw [sizeP_ps]; omega) (fun hf H56 x56 => ⟨_, _, _, _, rfl, last H56 2 x56 (by rw [hf]; rfl)⟩) (fun hf B d H56 x56 _ => ⟨_, _, _, _, rfl, last H56 0 x56 (by rw [hf]; rfl)⟩)
end
end Go.Proofs.Ytkkmoeimcedkgaa.Hw
