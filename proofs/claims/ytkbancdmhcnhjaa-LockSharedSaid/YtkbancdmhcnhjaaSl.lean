/- The row LockShared, proved: shared locks of a thing may be asked for in any order. -/
import Derived.Test.YtkbancdmhcnhjaaSk
set_option linter.unusedVariables false
set_option linter.unusedSimpArgs false
set_option maxRecDepth 100000
namespace Go.Proofs.Ytkbancdmhcnhjaa.Hw
open Go Go.Proofs
theorem u33 : Try.prog.underlying 33 = some (.slice 3) := by kernel_rfl
theorem y3 : 0 < Try.prog.bytesOf 3 := of_decide_eq_true (by kernel_rfl)
theorem str_of {P : Program} {W : World} {base : Nat} {t : TypeId} {v : Value} {s : ByteArray} (hs : P.underlying t = some .string) (h : Value.okWide P W .any base t v) (hc : v.cells.toList = [.string s]) : v = .string s := by
  simp only [Value.okWide, hs, Cell.okWide] at h
  cases v <;> simp_all [Cell.ok, Value.cells]
theorem open_nums {X : Type} {enc : TypeId × Value → X} {w : World} {base : Nat} {spare : Nat → Bool} {held : Bool} {fuel : Nat} {cs : List Value} {x : DataW X × List MemPlace} (hsz : Sz Try.prog 33 x.1) (h : DataW.trod enc Try.prog w base spare held fuel 33 cs = some x) : ∃ A n c l, cs = [.slice A n c] ∧ SlAt inC (hpOf w) A n l := by
  obtain ⟨A, n, c, f, rfl, hm, hc, hf⟩ := open_cells u33 (by rw [z3]; decide) y3 hsz h
  obtain ⟨l, h1, h2, _⟩ := flat_choose (g := inC) (n := n) (f := f) fun i hi => by
    obtain ⟨_, m, y, hys, hy⟩ := hf i hi
    obtain ⟨k, hk, _⟩ := DataW.trod_int u3 hy
    exact ⟨k, hk⟩
  refine ⟨A, n, c, l, rfl, ⟨h1.symm, by rw [← h2]; exact hc, ?_⟩⟩
  rw [h1]; unfold huge; unfold reachBytes at hm; omega
end Go.Proofs.Ytkbancdmhcnhjaa.Hw
namespace Go.Proofs.Ytkbancdmhcnhjaa
open Go.ChangeShapes Go.WideShapes Go.ChangeAt Go.RowKit
open Hw
theorem shared_lifted (os : Os) (started : os.Started) (H : Type) (enc : TypeId × Value → H) :
    ReturnsInHanded {} Try.checked os 6 .any (Rows.lockSharedSpec.pre6 enc Try.prog Try.f6 Rows.lockSharedRow.domain false) (Rows.lockSharedSpec.post enc Try.prog Try.f6 Rows.lockSharedRow.apart Rows.lockSharedRow.fresh Rows.lockSharedRow.handsOn Rows.lockSharedRow.again) := by
  refine returnsInHanded_of_change_sized (C := Try.checked) ownK started (by kernel_rfl) Try.func6
    (ChangeSpec.witness6 (enc := enc) (C := Try.checked) false ⟨#[], #[.string ByteArray.empty, .slice none 0 0], []⟩ 8 (by kernel_rfl) (by kernel_rfl) (by kernel_rfl) (by kernel_rfl)) ?_
  intro W base args ds gs before hval0 hW hcnd hsz0 _
  have hval : ∀ (j : Nat) t v, Try.f6.params[j]? = some t → args[j]? = some v → Value.okWide Try.prog W .any base t v := hval0
  have hsz : (DataW.weightsEach Try.prog (Try.f6.params.toList ++ Rows.lockSharedSpec.plain.varTypes Try.prog) (ds ++ gs)).all (· ≤ reachBytes) = true := hsz0
  have hW' := hW
  obtain ⟨p, q, hA0, hV, rfl, hfz, hnd⟩ := hW
  have hA : DataW.TrodAll enc Try.prog W 0 (fun _ => true) true Try.f6.params.toList args.toList ds p := hA0
  rw [Try.params6] at hA hval hsz
  obtain ⟨v0, v1, d0, d1, p0, p1, rfl, rfl, rfl, h0, h1⟩ := trodAll_two hA
  obtain ⟨rfl, rfl⟩ := trodVars_none hV
  have hs0 : Sz Try.prog 9 d0 := fun n hn => by
    have := List.all_eq_true.1 hsz n (DataW.weights_mem_each (j := 0) rfl rfl n hn)
    exact of_decide_eq_true this
  have hs1 : Sz Try.prog 33 d1 := fun n hn => by
    have := List.all_eq_true.1 hsz n (DataW.weights_mem_each (j := 1) rfl rfl n hn)
    exact of_decide_eq_true this
  obtain ⟨fl0, e0⟩ := h0
  obtain ⟨fl1, e1⟩ := h1
  obtain ⟨s, hc0, hb⟩ := open_str hs0 e0
  obtain ⟨A, n, c, l, hc1, hp⟩ := open_nums hs1 e1
  have g0 := str_of u9 (hval 0 9 v0 rfl rfl) hc0
  have g1 := slice_of u33 (hval 1 33 v1 rfl rfl) hc1
  subst g0
  subst g1
  have key := c6 (c := c) (thing := s) (Q := fun v H' => v = .bool true ∧ Ext (hpOf W) H') hp hb (fun H' hx => ⟨rfl, hx⟩) W (fun b o h => h)
  refine Calls.mono key ?_
  rintro e W' ⟨v, H', rfl, ⟨rfl, hx⟩, hh, hf, _⟩
  refine ⟨_, rfl, post_look (f := Try.f6) cellsB_prog (by rw [Try.params6]; decide) hW' rfl rfl rfl (fun b sp hd => ?_) (fun b o h => hh b o (hx b o h)) hf.1 hf.2.2.1 ?_⟩
  · exact res_bool b sp hd true
  · exact ok_bools rfl true
theorem shared_holds : Rows.LockSharedSaid :=
  OpenClaim.holds_of_wide 6 Try.f6 rfl rfl rfl rfl rfl rfl rfl ⟨rfl, rfl, rfl, rfl, rfl⟩ rfl rfl rfl rfl rfl (by kernel_rfl) Try.func6 (by kernel_rfl)
    (of_decide_eq_true (by kernel_rfl)) (by unfold Func.isWrapper; first | (rw [if_pos (by decide +kernel)]; kernel_rfl) | (rw [if_neg (by decide +kernel)]; exact ⟨rfl, rfl⟩))
    (fun os started H enc _ => shared_lifted os started H enc)
end Go.Proofs.Ytkbancdmhcnhjaa
