/- The row PairDoes, proved: the function returns true for every pair and act that come in, and what came in reads as it did. -/
import Derived.Test.YtkkmoeimcedkgaaPt
import Derived.Test.YtkkmoeimcedkgaaRows
import Derived.ProofKit
set_option linter.unusedVariables false
set_option linter.unusedSimpArgs false
namespace Go.Proofs.Ytkkmoeimcedkgaa
open Go.ChangeShapes Go.WideShapes Go.ChangeAt Go.RowKit
namespace Hw
theorem ownK : ownKnob Try.prog.godebug = none := by kernel_rfl
theorem cellsB_prog : cellsB Try.prog = true := by kernel_rfl
def isStruct (d : Option TypeDesc) : Bool := match d with | some (.struct _) => true | _ => false
theorem s25 : isStruct (Try.prog.underlying 25) = true := by kernel_rfl
theorem s28 : isStruct (Try.prog.underlying 28) = true := by kernel_rfl
theorem i40 : (match Try.prog.underlying 40 with | some (.slice _) => true | _ => false) = true := by kernel_rfl
theorem agg_of {P : Program} {W : World} {base : Nat} {t : TypeId} {v : Value} {l : List Value} (hs : isStruct (P.underlying t) = true) (h : Value.okWide P W .any base t v) (hc : v.cells.toList = l) : v = .agg l.toArray := by
  cases hu : P.underlying t with
  | none => rw [hu] at hs; cases hs
  | some d =>
    cases d
    case struct fs =>
      obtain ⟨cs, rfl, _⟩ := okWide_struct hu h
      rw [← hc]; rfl
    all_goals (rw [hu] at hs; cases hs)
/-- A Boolean result's reading. -/
theorem res_bool {X : Type} {enc : TypeId × Value → X} {W : World} (b : Nat) (sp : Nat → Bool) (hd : Bool) (x : Bool) : DataW.TrodAll enc Try.prog W b sp hd [4] [.bool x] [.lit (.bool x)] [] :=
  trodAll_mk1 ⟨1, by simp only [DataW.trod, Value.cells, u4]⟩
theorem ok_bool {W : World} (x : Bool) : Value.okWide Try.prog W .any 0 4 (.bool x) := by
  unfold Value.okWide; rw [u4]; simp only [Cell.okWide, u4]; exact trivial
end Hw
open Hw
set_option maxRecDepth 100000 in
theorem does_lifted (os : Os) (started : os.Started) (H : Type) (enc : TypeId × Value → H) :
    ReturnsInHanded {} Try.checked os 3 .any (Rows.pairDoesSpec.pre6 enc Try.prog Try.f3 Rows.pairDoesRow.domain false) (Rows.pairDoesSpec.post enc Try.prog Try.f3 Rows.pairDoesRow.apart Rows.pairDoesRow.fresh Rows.pairDoesRow.handsOn Rows.pairDoesRow.again) := by
  refine returnsInHanded_of_change_sized (C := Try.checked) ownK started (by kernel_rfl) Try.func3
    (ChangeSpec.witness6 (enc := enc) (C := Try.checked) false ⟨#[], #[.agg #[.slice none 0 0, .slice none 0 0], .agg #[.int .i64 0, .int .i64 0, .int .i64 0]], []⟩ 8 (by kernel_rfl) (by kernel_rfl) (by kernel_rfl) (by kernel_rfl)) ?_
  intro W base args ds gs before hval0 hW hcnd hsz0 _
  have hval : ∀ (j : Nat) t v, Try.f3.params[j]? = some t → args[j]? = some v → Value.okWide Try.prog W .any base t v := hval0
  have hsz : (DataW.weightsEach Try.prog (Try.f3.params.toList ++ Rows.pairDoesSpec.plain.varTypes Try.prog) (ds ++ gs)).all (· ≤ reachBytes) = true := hsz0
  have hW' := hW
  obtain ⟨p, q, hA0, hV, rfl, hfz, hnd⟩ := hW
  have hA : DataW.TrodAll enc Try.prog W 0 (fun _ => true) true Try.f3.params.toList args.toList ds p := hA0
  rw [Try.params3] at hA hval hsz
  obtain ⟨v0, v1, d0, d1, p0, p1, rfl, rfl, rfl, h0, h1⟩ := trodAll_two hA
  obtain ⟨rfl, rfl⟩ := trodVars_none hV
  have hs0 : Sz Try.prog 25 d0 := fun n hn => by
    have := List.all_eq_true.1 hsz n (DataW.weights_mem_each (j := 0) rfl rfl n hn)
    exact of_decide_eq_true this
  have hs1 : Sz Try.prog 28 d1 := fun n hn => by
    have := List.all_eq_true.1 hsz n (DataW.weights_mem_each (j := 1) rfl rfl n hn)
    exact of_decide_eq_true this
  obtain ⟨fl0, e0⟩ := h0
  obtain ⟨fl1, e1⟩ := h1
  obtain ⟨A0, n0, c0, A1, n1, c1, l, ns, hc0, hp⟩ := open_pair hs0 e0
  obtain ⟨a, hc1⟩ := open_act hs1 e1
  have g0 := agg_of s25 (hval 0 25 v0 rfl rfl) hc0
  have g1 := agg_of s28 (hval 1 28 v1 rfl rfl) hc1
  subst g0
  subst g1
  have key := c3 (c0 := c0) (c1 := c1) (op := a.1) (sd := a.2.1) (nt := a.2.2) (Q := fun v H' => v = .bool true ∧ Ext (hpOf W) H') hp (fun H' hx => ⟨rfl, hx⟩) W (fun b o h => h)
  refine Calls.mono key ?_
  rintro e W' ⟨v, H', rfl, ⟨rfl, hx⟩, hh, hf, _⟩
  refine ⟨_, rfl, post_look (f := Try.f3) cellsB_prog (by rw [Try.params3]; decide) hW' rfl rfl rfl (fun b sp hd => ?_) (fun b o h => hh b o (hx b o h)) hf.1 hf.2.2.1 ?_⟩
  · exact res_bool b sp hd true
  · intro j t r h1 h2
    match j with
    | 0 =>
      cases (h1 : some 4 = some t)
      cases (h2 : some (Value.bool true) = some r)
      exact ok_bool true
    | j + 1 => cases h1
set_option maxRecDepth 100000 in
theorem does_holds : Rows.PairDoesSaid :=
  OpenClaim.holds_of_wide 3 Try.f3 rfl rfl rfl rfl rfl rfl rfl ⟨rfl, rfl, rfl, rfl, rfl⟩ rfl rfl rfl rfl rfl (by kernel_rfl) Try.func3 (by kernel_rfl)
    (of_decide_eq_true (by kernel_rfl)) (by unfold Func.isWrapper; first | (rw [if_pos (by decide +kernel)]; kernel_rfl) | (rw [if_neg (by decide +kernel)]; exact ⟨rfl, rfl⟩))
    (fun os started H enc _ => does_lifted os started H enc)
end Go.Proofs.Ytkkmoeimcedkgaa
