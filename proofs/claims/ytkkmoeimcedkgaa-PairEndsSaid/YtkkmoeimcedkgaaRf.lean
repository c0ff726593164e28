/- The row PairEnds, proved: the function returns true for all acts that come in, and what came in reads as it did. -/
import Derived.Test.YtkkmoeimcedkgaaRe
import Derived.Test.YtkkmoeimcedkgaaPt
import Derived.Test.YtkkmoeimcedkgaaRows
set_option linter.unusedVariables false
set_option linter.unusedSimpArgs false
namespace Go.Proofs.Ytkkmoeimcedkgaa
open Go.ChangeShapes Go.WideShapes Go.ChangeAt Go.RowKit
open Hw
set_option maxRecDepth 100000 in
theorem ends_lifted (os : Os) (started : os.Started) (H : Type) (enc : TypeId × Value → H) :
    ReturnsInHanded {} Try.checked os 6 .any (Rows.pairEndsSpec.pre6 enc Try.prog Try.f6 Rows.pairEndsRow.domain false) (Rows.pairEndsSpec.post enc Try.prog Try.f6 Rows.pairEndsRow.apart Rows.pairEndsRow.fresh Rows.pairEndsRow.handsOn Rows.pairEndsRow.again) := by
  refine returnsInHanded_of_change_sized (C := Try.checked) ownK started (by kernel_rfl) Try.func6
    (ChangeSpec.witness6 (enc := enc) (C := Try.checked) false ⟨#[], #[.slice none 0 0], []⟩ 8 (by kernel_rfl) (by kernel_rfl) (by kernel_rfl) (by kernel_rfl)) ?_
  intro W base args ds gs before hval0 hW hcnd hsz0 _
  have hval : ∀ (j : Nat) t v, Try.f6.params[j]? = some t → args[j]? = some v → Value.okWide Try.prog W .any base t v := hval0
  have hsz : (DataW.weightsEach Try.prog (Try.f6.params.toList ++ Rows.pairEndsSpec.plain.varTypes Try.prog) (ds ++ gs)).all (· ≤ reachBytes) = true := hsz0
  have hW' := hW
  obtain ⟨p, q, hA0, hV, rfl, hfz, hnd⟩ := hW
  have hA : DataW.TrodAll enc Try.prog W 0 (fun _ => true) true Try.f6.params.toList args.toList ds p := hA0
  rw [Try.params6] at hA hval hsz
  obtain ⟨v0, d0, rfl, rfl, h0⟩ := trodAll_one hA
  obtain ⟨rfl, rfl⟩ := trodVars_none hV
  have hs0 : Sz Try.prog 40 d0 := fun n hn => by
    have := List.all_eq_true.1 hsz n (DataW.weights_mem_each (j := 0) rfl rfl n hn)
    exact of_decide_eq_true this
  obtain ⟨fl0, e0⟩ := h0
  obtain ⟨A0, n0, c0, l, hc0, hp, _⟩ := open_acts hs0 e0
  have g0 := slice_of u40 (hval 0 40 v0 rfl rfl) hc0
  subst g0
  have key := c6 (c := c0) (Q := fun v H' => v = .bool true ∧ Ext (hpOf W) H') hp (fun H' hx => ⟨rfl, hx⟩) W (fun b o h => h)
  refine Calls.mono key ?_
  rintro e W' ⟨v, H', rfl, ⟨rfl, hx⟩, hh, hf, _⟩
  refine ⟨_, rfl, post_look (f := Try.f6) cellsB_prog (by rw [Try.params6]; decide) hW' rfl rfl rfl (fun b sp hd => ?_) (fun b o h => hh b o (hx b o h)) hf.1 hf.2.2.1 ?_⟩
  · exact res_bool b sp hd true
  · exact ok_bools rfl true
set_option maxRecDepth 100000 in
theorem ends_holds : Rows.PairEndsSaid :=
  OpenClaim.holds_of_wide 6 Try.f6 rfl rfl rfl rfl rfl rfl rfl ⟨rfl, rfl, rfl, rfl, rfl⟩ rfl rfl rfl rfl rfl (by kernel_rfl) Try.func6 (by kernel_rfl)
    (of_decide_eq_true (by kernel_rfl)) (by unfold Func.isWrapper; first | (rw [if_pos (by decide +kernel)]; kernel_rfl) | (rw [if_neg (by decide +kernel)]; exact ⟨rfl, rfl⟩))
    (fun os started H enc _ => ends_lifted os started H enc)
end Go.Proofs.Ytkkmoeimcedkgaa
