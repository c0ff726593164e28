/- Locks, the other half: the row LockEnds, proved: after Free of all transactions, one after the other, nothing is left. -/
import Derived.Test.YtkbancdmhcnhjaaSo
import Derived.Test.YtkbancdmhcnhjaaSm
set_option linter.unusedVariables false
set_option linter.unusedSimpArgs false
set_option maxRecDepth 100000
namespace Go.Proofs.Ytkbancdmhcnhjaa
open Go.ChangeShapes Go.WideShapes Go.ChangeAt Go.RowKit
open Hw
theorem ends_lifted (os : Os) (started : os.Started) (H : Type) (enc : TypeId × Value → H) :
    ReturnsInHanded {} Try.checked os 5 .any (Rows.lockEndsSpec.pre6 enc Try.prog Try.f5 Rows.lockEndsRow.domain false) (Rows.lockEndsSpec.post enc Try.prog Try.f5 Rows.lockEndsRow.apart Rows.lockEndsRow.fresh Rows.lockEndsRow.handsOn Rows.lockEndsRow.again) := by
  refine returnsInHanded_of_change_sized (C := Try.checked) ownK started (by kernel_rfl) Try.func5
    (ChangeSpec.witness6 (enc := enc) (C := Try.checked) false ⟨#[], #[.slice none 0 0], []⟩ 8 (by kernel_rfl) (by kernel_rfl) (by kernel_rfl) (by kernel_rfl)) ?_
  intro W base args ds gs before hval0 hW hcnd hsz0 _
  have hval : ∀ (j : Nat) t v, Try.f5.params[j]? = some t → args[j]? = some v → Value.okWide Try.prog W .any base t v := hval0
  have hsz : (DataW.weightsEach Try.prog (Try.f5.params.toList ++ Rows.lockEndsSpec.plain.varTypes Try.prog) (ds ++ gs)).all (· ≤ reachBytes) = true := hsz0
  have hW' := hW
  obtain ⟨p, q, hA0, hV, rfl, hfz, hnd⟩ := hW
  have hA : DataW.TrodAll enc Try.prog W 0 (fun _ => true) true Try.f5.params.toList args.toList ds p := hA0
  rw [Try.params5] at hA hval hsz
  obtain ⟨v0, d0, rfl, rfl, h0⟩ := trodAll_one hA
  obtain ⟨rfl, rfl⟩ := trodVars_none hV
  have hs0 : Sz Try.prog 22 d0 := fun n hn => by
    have := List.all_eq_true.1 hsz n (DataW.weights_mem_each (j := 0) rfl rfl n hn)
    exact of_decide_eq_true this
  obtain ⟨fl0, e0⟩ := h0
  obtain ⟨A, n, c, l, hc0, hp, hst⟩ := open_acts hs0 e0
  have g0 := slice_of u22 (hval 0 22 v0 rfl rfl) hc0
  subst g0
  have key := c5 (c := c) (Q := fun v H' => v = .bool true ∧ Ext (hpOf W) H') hp hst (fun H' hx => ⟨rfl, hx⟩) W (fun b o h => h)
  refine Calls.mono key ?_
  rintro e W' ⟨v, H', rfl, ⟨rfl, hx⟩, hh, hf, _⟩
  refine ⟨_, rfl, post_look (f := Try.f5) cellsB_prog (by rw [Try.params5]; decide) hW' rfl rfl rfl (fun b sp hd => ?_) (fun b o h => hh b o (hx b o h)) hf.1 hf.2.2.1 ?_⟩
  · exact res_bool b sp hd true
  · exact ok_bools rfl true
theorem ends_holds : Rows.LockEndsSaid :=
  OpenClaim.holds_of_wide 5 Try.f5 rfl rfl rfl rfl rfl rfl rfl ⟨rfl, rfl, rfl, rfl, rfl⟩ rfl rfl rfl rfl rfl (by kernel_rfl) Try.func5 (by kernel_rfl)
    (of_decide_eq_true (by kernel_rfl)) (by unfold Func.isWrapper; first | (rw [if_pos (by decide +kernel)]; kernel_rfl) | (rw [if_neg (by decide +kernel)]; exact ⟨rfl, rfl⟩))
    (fun os started H enc _ => ends_lifted os started H enc)
end Go.Proofs.Ytkbancdmhcnhjaa
