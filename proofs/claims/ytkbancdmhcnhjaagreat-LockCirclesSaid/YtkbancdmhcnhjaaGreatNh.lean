/- The row LockCircles, proved. -/
import Derived.Test.YtkbancdmhcnhjaaGreatNg
import Derived.Test.YtkbancdmhcnhjaaGreatMc
import Derived.Test.YtkbancdmhcnhjaaGreatRows
set_option linter.unusedVariables false
set_option linter.unusedSimpArgs false
namespace Go.Proofs.YtkbancdmhcnhjaaGreat
open Go.ChangeShapes Go.WideShapes Go.ChangeAt Go.RowKit
open Hw
theorem Hw.arr_of {P : Program} {W : World} {base : Nat} {t e : TypeId} {k : Nat} {v : Value} {l : List Value} (hs : P.underlying t = some (.array k e)) (h : Value.okWide P W .any base t v) (hc : v.cells.toList = l) : v = .agg l.toArray := by
  simp only [Value.okWide, hs] at h
  cases v <;> simp_all [Value.cells]
  rw [← hc]
set_option maxRecDepth 100000 in
theorem circles_lifted (os : Os) (started : os.Started) (H : Type) (enc : TypeId × Value → H) :
    ReturnsInHanded {} Tryz.checked os 5 .any (Rows.lockCirclesSpec.pre6 enc Tryz.prog Tryz.f5 Rows.lockCirclesRow.domain false) (Rows.lockCirclesSpec.post enc Tryz.prog Tryz.f5 Rows.lockCirclesRow.apart Rows.lockCirclesRow.fresh Rows.lockCirclesRow.handsOn Rows.lockCirclesRow.again) := by
  refine returnsInHanded_of_change_sized (C := Tryz.checked) ownK started (by kernel_rfl) Tryz.func5
    (ChangeSpec.witness6 (enc := enc) (C := Tryz.checked) false ⟨#[], #[.agg #[.slice none 0 0, .slice none 0 0, .slice none 0 0], .agg #[.int .i64 0, .int .i64 0]], []⟩ 8 (by kernel_rfl) (by kernel_rfl) (by kernel_rfl) (by kernel_rfl)) ?_
  intro W base args ds gs before hval0 hW hcnd hsz0 _
  have hval : ∀ (j : Nat) t v, Tryz.f5.params[j]? = some t → args[j]? = some v → Value.okWide Tryz.prog W .any base t v := hval0
  have hsz : (DataW.weightsEach Tryz.prog (Tryz.f5.params.toList ++ Rows.lockCirclesSpec.plain.varTypes Tryz.prog) (ds ++ gs)).all (· ≤ reachBytes) = true := hsz0
  have hW' := hW
  obtain ⟨p, q, hA0, hV, rfl, hfz, hnd⟩ := hW
  have hA : DataW.TrodAll enc Tryz.prog W 0 (fun _ => true) true Tryz.f5.params.toList args.toList ds p := hA0
  rw [Tryz.params5] at hA hval hsz
  obtain ⟨v0, v1, d0, d1, p0, p1, rfl, rfl, rfl, h0, h1⟩ := trodAll_two hA
  obtain ⟨rfl, rfl⟩ := trodVars_none hV
  have hs0 : Sz Tryz.prog 26 d0 := fun n hn => by
    have := List.all_eq_true.1 hsz n (DataW.weights_mem_each (j := 0) rfl rfl n hn)
    exact of_decide_eq_true this
  obtain ⟨fl0, e0⟩ := h0
  obtain ⟨fl1, e1⟩ := h1
  obtain ⟨A0, n0, c0, A1, n1, c1, A2, n2, c2, l, hc0, hp⟩ := open_locks hs0 e0
  obtain ⟨a, b, hc1⟩ := open_arr2 e1
  have g0 := agg_of s26 (hval 0 26 v0 rfl rfl) hc0
  have g1 := arr_of u45 (hval 1 45 v1 rfl rfl) hc1
  subst g0
  subst g1
  have key := c5 (a := a) (b := b) (Q := fun v H' => v = .bool true ∧ Ext (hpOf W) H') hp (fun H' hx => ⟨rfl, hx⟩) W (fun b o h => h)
  refine Calls.mono key ?_
  rintro e W' ⟨v, H', rfl, ⟨rfl, hx⟩, hh, hf, _⟩
  refine ⟨_, rfl, post_look (f := Tryz.f5) cellsB_prog (by rw [Tryz.params5]; decide) hW' rfl rfl rfl (fun b sp hd => ?_) (fun b o h => hh b o (hx b o h)) hf.1 hf.2.2.1 ?_⟩
  · exact res_bool b sp hd true
  · exact ok_bools rfl true
set_option maxRecDepth 100000 in
theorem circles_holds : Rows.LockCirclesSaid :=
  OpenClaim.holds_of_wide 5 Tryz.f5 rfl rfl rfl rfl rfl rfl rfl ⟨rfl, rfl, rfl, rfl, rfl⟩ rfl rfl rfl rfl rfl (by kernel_rfl) Tryz.func5 (by kernel_rfl)
    (of_decide_eq_true (by kernel_rfl)) (by unfold Func.isWrapper; first | (rw [if_pos (by decide +kernel)]; kernel_rfl) | (rw [if_neg (by decide +kernel)]; exact ⟨rfl, rfl⟩))
    (fun os started H enc _ => circles_lifted os started H enc)
end Go.Proofs.YtkbancdmhcnhjaaGreat
