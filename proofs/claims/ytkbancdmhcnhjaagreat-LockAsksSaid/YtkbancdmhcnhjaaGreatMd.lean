/- The row LockAsks, proved. -/
import Derived.Test.YtkbancdmhcnhjaaGreatMb
import Derived.Test.YtkbancdmhcnhjaaGreatMc
import Derived.Test.YtkbancdmhcnhjaaGreatRows
set_option linter.unusedVariables false
set_option linter.unusedSimpArgs false
namespace Go.Proofs.YtkbancdmhcnhjaaGreat
open Go.ChangeShapes Go.WideShapes Go.ChangeAt Go.RowKit
open Hw
theorem Hw.int_of {P : Program} {W : World} {base : Nat} {t : TypeId} {k k' : IntKind} {v : Value} {n : Int} (hs : P.underlying t = some (.int k)) (h : Value.okWide P W .any base t v) (hc : v.cells.toList = [.int k' n]) : v = .int k' n := by
  simp only [Value.okWide, hs, Cell.okWide] at h
  cases v <;> simp_all [Cell.ok, Value.cells]
theorem Hw.str_of {P : Program} {W : World} {base : Nat} {t : TypeId} {v : Value} {s : ByteArray} (hs : P.underlying t = some .string) (h : Value.okWide P W .any base t v) (hc : v.cells.toList = [.string s]) : v = .string s := by
  simp only [Value.okWide, hs, Cell.okWide] at h
  cases v <;> simp_all [Cell.ok, Value.cells]
set_option maxRecDepth 100000 in
theorem asks_lifted (os : Os) (started : os.Started) (H : Type) (enc : TypeId × Value → H) :
    ReturnsInHanded {} Tryz.checked os 3 .any (Rows.lockAsksSpec.pre6 enc Tryz.prog Tryz.f3 Rows.lockAsksRow.domain false) (Rows.lockAsksSpec.post enc Tryz.prog Tryz.f3 Rows.lockAsksRow.apart Rows.lockAsksRow.fresh Rows.lockAsksRow.handsOn Rows.lockAsksRow.again) := by
  refine returnsInHanded_of_change_sized (C := Tryz.checked) ownK started (by kernel_rfl) Tryz.func3
    (ChangeSpec.witness6 (enc := enc) (C := Tryz.checked) false ⟨#[], #[.agg #[.slice none 0 0, .slice none 0 0, .slice none 0 0], .int .i64 0, .string ByteArray.empty], []⟩ 8 (by kernel_rfl) (by kernel_rfl) (by kernel_rfl) (by kernel_rfl)) ?_
  intro W base args ds gs before hval0 hW hcnd hsz0 _
  have hval : ∀ (j : Nat) t v, Tryz.f3.params[j]? = some t → args[j]? = some v → Value.okWide Tryz.prog W .any base t v := hval0
  have hsz : (DataW.weightsEach Tryz.prog (Tryz.f3.params.toList ++ Rows.lockAsksSpec.plain.varTypes Tryz.prog) (ds ++ gs)).all (· ≤ reachBytes) = true := hsz0
  have hW' := hW
  obtain ⟨p, q, hA0, hV, rfl, hfz, hnd⟩ := hW
  have hA : DataW.TrodAll enc Tryz.prog W 0 (fun _ => true) true Tryz.f3.params.toList args.toList ds p := hA0
  rw [Tryz.params3] at hA hval hsz
  obtain ⟨v0, v1, v2, d0, d1, d2, p0, p1, p2, rfl, rfl, rfl, h0, h1, h2⟩ := trodAll_three hA
  obtain ⟨rfl, rfl⟩ := trodVars_none hV
  have hs0 : Sz Tryz.prog 26 d0 := fun n hn => by
    have := List.all_eq_true.1 hsz n (DataW.weights_mem_each (j := 0) rfl rfl n hn)
    exact of_decide_eq_true this
  have hs2 : Sz Tryz.prog 9 d2 := fun n hn => by
    have := List.all_eq_true.1 hsz n (DataW.weights_mem_each (j := 2) rfl rfl n hn)
    exact of_decide_eq_true this
  obtain ⟨fl0, e0⟩ := h0
  obtain ⟨fl1, e1⟩ := h1
  obtain ⟨fl2, e2⟩ := h2
  obtain ⟨A0, n0, c0, A1, n1, c1, A2, n2, c2, l, hc0, hp⟩ := open_locks hs0 e0
  obtain ⟨t, hc1, _⟩ := DataW.trod_int u3 e1
  obtain ⟨s, hc2, _⟩ := open_str hs2 e2
  have g0 := agg_of s26 (hval 0 26 v0 rfl rfl) hc0
  have g1 := int_of u3 (hval 1 3 v1 rfl rfl) hc1
  have g2 := str_of u9 (hval 2 9 v2 rfl rfl) hc2
  subst g0
  subst g1
  subst g2
  have key := c3 (txn := t) (thing := s) (Q := fun v H' => v = .bool true ∧ Ext (hpOf W) H') hp (fun H' hx => ⟨rfl, hx⟩) W (fun b o h => h)
  refine Calls.mono key ?_
  rintro e W' ⟨v, H', rfl, ⟨rfl, hx⟩, hh, hf, _⟩
  refine ⟨_, rfl, post_look (f := Tryz.f3) cellsB_prog (by rw [Tryz.params3]; decide) hW' rfl rfl rfl (fun b sp hd => ?_) (fun b o h => hh b o (hx b o h)) hf.1 hf.2.2.1 ?_⟩
  · exact res_bool b sp hd true
  · exact ok_bools rfl true
set_option maxRecDepth 100000 in
theorem asks_holds : Rows.LockAsksSaid :=
  OpenClaim.holds_of_wide 3 Tryz.f3 rfl rfl rfl rfl rfl rfl rfl ⟨rfl, rfl, rfl, rfl, rfl⟩ rfl rfl rfl rfl rfl (by kernel_rfl) Tryz.func3 (by kernel_rfl)
    (of_decide_eq_true (by kernel_rfl)) (by unfold Func.isWrapper; first | (rw [if_pos (by decide +kernel)]; kernel_rfl) | (rw [if_neg (by decide +kernel)]; exact ⟨rfl, rfl⟩))
    (fun os started H enc _ => asks_lifted os started H enc)
end Go.Proofs.YtkbancdmhcnhjaaGreat
