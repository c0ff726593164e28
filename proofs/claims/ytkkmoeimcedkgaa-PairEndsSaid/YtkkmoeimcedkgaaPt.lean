/- The pair: what comes in, opened. -/
import Derived.Test.YtkkmoeimcedkgaaPr
import Derived.Test.YtkkmoeimcedkgaaHwRow
import Derived.ProofKit
set_option linter.unusedVariables false
set_option linter.unusedSimpArgs false
namespace Go.Proofs.Ytkkmoeimcedkgaa.Hw
open Go Go.Proofs
theorem u22 : Try.prog.underlying 22 = some (.slice 53) := by kernel_rfl
theorem u23 : Try.prog.underlying 23 = some (.slice 66) := by kernel_rfl
theorem u40 : Try.prog.underlying 40 = some (.slice 28) := by kernel_rfl
theorem u51 : Try.prog.underlying 51 = some (.slice 50) := by kernel_rfl
theorem u50 : Try.prog.underlying 50 = some (.int .i64) := by kernel_rfl
theorem u4 : Try.prog.underlying 4 = some .bool := by kernel_rfl
theorem u3 : Try.prog.underlying 3 = some (.int .i64) := by kernel_rfl
theorem u64 : Try.prog.underlying 64 = some (.int .i64) := by kernel_rfl
theorem u26 : Try.prog.underlying 26 = some (.int .i64) := by kernel_rfl
theorem k25 : chk2 Try.prog 25 22 23 = true := by kernel_rfl
theorem k66 : chk2 Try.prog 66 3 64 = true := by kernel_rfl
theorem k53 : chk3 Try.prog 53 50 4 51 = true := by kernel_rfl
theorem k28 : chk3 Try.prog 28 26 3 3 = true := by kernel_rfl
theorem z53 : Try.prog.cellsOf 53 = 3 := by kernel_rfl
theorem z66 : Try.prog.cellsOf 66 = 2 := by kernel_rfl
theorem z50 : Try.prog.cellsOf 50 = 1 := by kernel_rfl
theorem z28 : Try.prog.cellsOf 28 = 3 := by kernel_rfl
theorem y53 : 0 < Try.prog.bytesOf 53 := of_decide_eq_true (by kernel_rfl)
theorem y66 : 0 < Try.prog.bytesOf 66 := of_decide_eq_true (by kernel_rfl)
theorem y50 : 0 < Try.prog.bytesOf 50 := of_decide_eq_true (by kernel_rfl)
theorem y28 : 0 < Try.prog.bytesOf 28 := of_decide_eq_true (by kernel_rfl)
section
variable {X : Type} {enc : TypeId × Value → X} {w : World} {base : Nat} {spare : Nat → Bool} {held : Bool} {fuel : Nat} {cs : List Value} {x : DataW X × List MemPlace}
theorem flat_choose {α : Type} {f : Nat → List Value} {g : α → List Value} : ∀ {n : Nat}, (∀ i, i < n → ∃ a, f i = g a) → ∃ l : List α, l.length = n ∧ (List.range n).flatMap f = l.flatMap g ∧ ∀ a ∈ l, ∃ i, i < n ∧ f i = g a
  | 0, _ => ⟨[], rfl, rfl, fun a ha => by cases ha⟩
  | n + 1, h => by
    obtain ⟨l, h1, h2, h3⟩ := flat_choose (n := n) (fun i hi => h i (by omega))
    obtain ⟨a, ha⟩ := h n (by omega)
    refine ⟨l ++ [a], by simp [h1], ?_, fun b hb => ?_⟩
    · rw [List.range_succ, List.flatMap_append, List.flatMap_append, h2]
      simp [ha]
    · rcases List.mem_append.1 hb with hb | hb
      · obtain ⟨i, hi, e⟩ := h3 b hb
        exact ⟨i, by omega, e⟩
      · rw [List.mem_singleton] at hb
        subst hb
        exact ⟨n, by omega, ha⟩
theorem ints_flat : ∀ {lg : List Int}, ints lg = lg.flatMap fun k : Int => [Value.int .i64 k]
  | [] => rfl
  | a :: r => by
    have := ints_flat (lg := r)
    unfold ints at this ⊢
    rw [List.map_cons, List.flatMap_cons, this]; rfl
theorem open_log (hsz : Sz Try.prog 51 x.1) (h : DataW.trod enc Try.prog w base spare held fuel 51 cs = some x) : ∃ A n c lg, cs = [.slice A n c] ∧ n = lg.length ∧ cellsAt (hpOf w) A (ints lg) ∧ lg.length < huge := by
  obtain ⟨A, n, c, f, rfl, hm, hc, hf⟩ := open_cells u51 (by rw [z50]; decide) y50 hsz h
  obtain ⟨lg, h1, h2, _⟩ := flat_choose (g := fun k : Int => [Value.int .i64 k]) (n := n) (f := f) fun i hi => by
    obtain ⟨_, m, y, hys, hy⟩ := hf i hi
    obtain ⟨k, hk, _⟩ := DataW.trod_int u50 hy
    exact ⟨k, hk⟩
  refine ⟨A, n, c, lg, rfl, h1.symm, ?_, ?_⟩
  · rw [h2] at hc
    rw [ints_flat]; exact hc
  · rw [h1]; unfold huge; unfold reachBytes at hm; omega
theorem open_notes (hsz : Sz Try.prog 23 x.1) (h : DataW.trod enc Try.prog w base spare held fuel 23 cs = some x) : ∃ A n c ns, cs = [.slice A n c] ∧ NotesAt (hpOf w) A n ns ∧ ns.length < huge := by
  obtain ⟨A, n, c, f, rfl, hm, hc, hf⟩ := open_cells u23 (by rw [z66]; decide) y66 hsz h
  obtain ⟨ns, h1, h2, _⟩ := flat_choose (g := noteC) (n := n) (f := f) fun i hi => by
    obtain ⟨_, m, y, hys, hy⟩ := hf i hi
    obtain ⟨v0, v1, m', y0, y1, e, _, e0, e1⟩ := opn2 k66 hys hy
    obtain ⟨a, ha, _⟩ := DataW.trod_int u3 e0
    obtain ⟨b, hb, _⟩ := DataW.trod_int u64 e1
    cases ha; cases hb
    exact ⟨(a, b), e⟩
  refine ⟨A, n, c, ns, rfl, ⟨h1.symm, by rw [← h2]; exact hc⟩, ?_⟩
  rw [h1]; unfold huge; unfold reachBytes at hm; omega
theorem open_sides (hsz : Sz Try.prog 22 x.1) (h : DataW.trod enc Try.prog w base spare held fuel 22 cs = some x) : ∃ A n c l, cs = [.slice A n c] ∧ SidesAt (hpOf w) A n l ∧ l.length < huge := by
  obtain ⟨A, n, c, f, rfl, hm, hc, hf⟩ := open_cells u22 (by rw [z53]; decide) y53 hsz h
  obtain ⟨l, h1, h2, h3⟩ := flat_choose (α := {r : RS // r.n = r.log.length ∧ cellsAt (hpOf w) r.A (ints r.log) ∧ r.log.length < huge}) (g := fun r => r.1.cells) (n := n) (f := f) fun i hi => by
    obtain ⟨_, m, y, hys, hy⟩ := hf i hi
    obtain ⟨v0, v1, v2, m', y0, y1, y2, e, ⟨_, _, hs2⟩, e0, e1, e2⟩ := opn3 k53 hys hy
    obtain ⟨a, ha, _⟩ := DataW.trod_int u50 e0
    obtain ⟨b, hb, _⟩ := DataW.trod_bool u4 e1
    obtain ⟨B, k, d, lg, hB, g1, g2, g3⟩ := open_log hs2 e2
    cases ha; cases hb; cases hB
    exact ⟨⟨⟨a, b, lg, B, k, d⟩, g1, g2, g3⟩, e⟩
  refine ⟨A, n, c, l.map (·.1), rfl, ⟨by simp [h1], ?_, fun r hr => ?_⟩, ?_⟩
  · rw [h2] at hc
    rw [List.flatMap_map]; exact hc
  · obtain ⟨q, _, rfl⟩ := List.mem_map.1 hr
    exact q.2
  · rw [List.length_map, h1]; unfold huge; unfold reachBytes at hm; omega
theorem open_pair (hsz : Sz Try.prog 25 x.1) (h : DataW.trod enc Try.prog w base spare held fuel 25 cs = some x) : ∃ A0 n0 c0 A1 n1 c1 l ns, cs = [.slice A0 n0 c0, .slice A1 n1 c1] ∧ PairAt (hpOf w) A0 n0 A1 n1 l ns := by
  obtain ⟨v0, v1, m, y0, y1, rfl, ⟨hs0, hs1⟩, e0, e1⟩ := opn2 k25 hsz h
  obtain ⟨A0, n0, c0, l, h0, g0, g0'⟩ := open_sides hs0 e0
  obtain ⟨A1, n1, c1, ns, h1, g1, g1'⟩ := open_notes hs1 e1
  cases h0; cases h1
  exact ⟨A0, n0, c0, A1, n1, c1, l, ns, rfl, g0, g1, g0', g1'⟩
theorem open_act (hsz : Sz Try.prog 28 x.1) (h : DataW.trod enc Try.prog w base spare held fuel 28 cs = some x) : ∃ a : Act3, cs = actC a := by
  obtain ⟨v0, v1, v2, m, y0, y1, y2, rfl, _, e0, e1, e2⟩ := opn3 k28 hsz h
  obtain ⟨a, ha, _⟩ := DataW.trod_int u26 e0
  obtain ⟨b, hb, _⟩ := DataW.trod_int u3 e1
  obtain ⟨c, hc, _⟩ := DataW.trod_int u3 e2
  cases ha; cases hb; cases hc
  exact ⟨(a, b, c), rfl⟩
theorem open_acts (hsz : Sz Try.prog 40 x.1) (h : DataW.trod enc Try.prog w base spare held fuel 40 cs = some x) : ∃ A n c l, cs = [.slice A n c] ∧ ActsAt (hpOf w) A n l ∧ l.length < huge := by
  obtain ⟨A, n, c, f, rfl, hm, hc, hf⟩ := open_cells u40 (by rw [z28]; decide) y28 hsz h
  obtain ⟨l, h1, h2, _⟩ := flat_choose (g := actC) (n := n) (f := f) fun i hi => by
    obtain ⟨_, m, y, hys, hy⟩ := hf i hi
    exact open_act hys hy
  refine ⟨A, n, c, l, rfl, ⟨h1.symm, by rw [← h2]; exact hc⟩, ?_⟩
  rw [h1]; unfold huge; unfold reachBytes at hm; omega
end
open Go.ChangeShapes Go.WideShapes Go.ChangeAt Go.RowKit
theorem ownK : ownKnob Try.prog.godebug = none := by kernel_rfl
theorem cellsB_prog : cellsB Try.prog = true := by kernel_rfl
def isStruct (d : Option TypeDesc) : Bool := match d with | some (.struct _) => true | _ => false
theorem s25 : isStruct (Try.prog.underlying 25) = true := by kernel_rfl
theorem s28 : isStruct (Try.prog.underlying 28) = true := by kernel_rfl
theorem agg_of {P : Program} {W : World} {base : Nat} {t : TypeId} {v : Value} {l : List Value} (hs : isStruct (P.underlying t) = true) (h : Value.okWide P W .any base t v) (hc : v.cells.toList = l) : v = .agg l.toArray := by
  cases hu : P.underlying t with
  | none => rw [hu] at hs; cases hs
  | some d =>
    cases d
    case struct fs =>
      obtain ⟨cs, rfl, _⟩ := okWide_struct hu h
      rw [← hc]; rfl
    all_goals (rw [hu] at hs; cases hs)
/-- A Boolean result's reading. -/
theorem res_bool {X : Type} {enc : TypeId × Value → X} {W : World} (b : Nat) (sp : Nat → Bool) (hd : Bool) (x : Bool) : DataW.TrodAll enc Try.prog W b sp hd [4] [.bool x] [.lit (.bool x)] [] :=
  trodAll_mk1 ⟨1, by simp only [DataW.trod, Value.cells, u4]⟩
theorem ok_bool {W : World} (x : Bool) : Value.okWide Try.prog W .any 0 4 (.bool x) := by
  unfold Value.okWide; rw [u4]; simp only [Cell.okWide, u4]; exact trivial
theorem slice_of {P : Program} {W : World} {base : Nat} {t e : TypeId} {v : Value} {A : Option Addr} {n c : Nat} (hs : P.underlying t = some (.slice e)) (h : Value.okWide P W .any base t v) (hc : v.cells.toList = [.slice A n c]) : v = .slice A n c := by
  simp only [Value.okWide, hs, Cell.okWide] at h
  cases v <;> simp_all [Cell.ok, Value.cells]
/-- What the row wants to hear of a result that is a Boolean. -/
theorem ok_bools {W : World} {f : Func} (hf : f.resultTypes = #[4]) (x : Bool) : ∀ (j : Nat) (t : TypeId) (r : Value), f.resultTypes[j]? = some t → ((Value.bool x).resultList f.resultTypes.size)[j]? = some r → Value.okWide Try.prog W .any 0 t r := by
  intro j t r h1 h2
  rw [hf] at h1 h2
  match j with
  | 0 =>
    cases (h1 : some 4 = some t)
    cases (h2 : some (Value.bool x) = some r)
    exact ok_bool x
  | j + 1 => cases h1
end Go.Proofs.Ytkkmoeimcedkgaa.Hw
