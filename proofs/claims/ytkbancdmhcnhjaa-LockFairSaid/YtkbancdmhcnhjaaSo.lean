/- Locks, the other half: acts that come in, opened. -/
import Derived.Test.YtkbancdmhcnhjaaSd
import Derived.Test.YtkbancdmhcnhjaaHwRow
import Derived.Test.YtkbancdmhcnhjaaRows
import Derived.ProofKit
set_option linter.unusedVariables false
set_option linter.unusedSimpArgs false
set_option maxRecDepth 100000
namespace Go.Proofs.Ytkbancdmhcnhjaa.Hw
open Go Go.Proofs
theorem u22 : Try.prog.underlying 22 = some (.slice 30) := by kernel_rfl
theorem u9 : Try.prog.underlying 9 = some .string := by kernel_rfl
theorem u4 : Try.prog.underlying 4 = some .bool := by kernel_rfl
theorem u3 : Try.prog.underlying 3 = some (.int .i64) := by kernel_rfl
theorem z30 : Try.prog.cellsOf 30 = 5 := by kernel_rfl
theorem z3 : Try.prog.cellsOf 3 = 1 := by kernel_rfl
theorem z4 : Try.prog.cellsOf 4 = 1 := by kernel_rfl
theorem z9 : Try.prog.cellsOf 9 = 1 := by kernel_rfl
theorem y30 : 0 < Try.prog.bytesOf 30 := of_decide_eq_true (by kernel_rfl)
def chkA (d : Option TypeDesc) : Bool := match d with
  | some (.struct fs) => (match fs.toList with
    | [f0, f1, f2, f3, f4] => Nat.beq f0.type 3 && Nat.beq f0.offset 0 && Nat.beq f1.type 3 && Nat.beq f1.offset 1 && Nat.beq f2.type 3 && Nat.beq f2.offset 2 && Nat.beq f3.type 9 && Nat.beq f3.offset 3 && Nat.beq f4.type 4 && Nat.beq f4.offset 4
    | _ => false)
  | _ => false
theorem k30 : chkA (Try.prog.underlying 30) = true := by kernel_rfl
section
variable {X : Type} {enc : TypeId × Value → X} {w : World} {base : Nat} {spare : Nat → Bool} {held : Bool} {fuel : Nat} {cs : List Value} {x : DataW X × List MemPlace}
theorem flat_choose {α : Type} {f : Nat → List Value} {g : α → List Value} : ∀ {n : Nat}, (∀ i, i < n → ∃ a, f i = g a) → ∃ l : List α, l.length = n ∧ (List.range n).flatMap f = l.flatMap g ∧ ∀ a ∈ l, ∃ i, i < n ∧ f i = g a
  | 0, _ => ⟨[], rfl, rfl, fun a ha => by cases ha⟩
  | n + 1, h => by
    obtain ⟨l, h1, h2, h3⟩ := flat_choose (n := n) (fun i hi => h i (by omega))
    obtain ⟨a, ha⟩ := h n (by omega)
    refine ⟨l ++ [a], by simp [h1], ?_, fun b hb => ?_⟩
    · rw [List.range_succ, List.flatMap_append, List.flatMap_append, h2]
      simp [ha]
    · rcases List.mem_append.1 hb with hb | hb
      · obtain ⟨i, hi, e⟩ := h3 b hb
        exact ⟨i, by omega, e⟩
      · rw [List.mem_singleton] at hb
        subst hb
        exact ⟨n, by omega, ha⟩
theorem open_str (hsz : Sz Try.prog 9 x.1) (h : DataW.trod enc Try.prog w base spare held fuel 9 cs = some x) : ∃ s : ByteArray, cs = [.string s] ∧ s.size < huge := by
  obtain ⟨s, rfl, hx, _⟩ := DataW.trod_string u9 h
  refine ⟨s, rfl, ?_⟩
  rw [hx] at hsz
  have := hsz s.data.toList.length (by unfold DataW.weights; exact List.mem_singleton.2 rfl)
  rw [← size_len] at this
  unfold reachBytes at this
  unfold huge; omega
theorem open_act (hsz : Sz Try.prog 30 x.1) (h : DataW.trod enc Try.prog w base spare held fuel 30 cs = some x) : ∃ a : Act, cs = atC a ∧ a.thing.size < huge := by
  have hk := k30
  cases hu : Try.prog.underlying 30 with
  | none => rw [hu] at hk; cases hk
  | some d =>
    rw [hu] at hk
    unfold chkA at hk
    split at hk
    · rename_i fs hfs
      cases hfs
      split at hk
      · rename_i f0 f1 f2 f3 f4 hl
        have : fs = #[f0, f1, f2, f3, f4] := Array.ext' hl
        subst this
        simp only [Bool.and_eq_true] at hk
        obtain ⟨⟨⟨⟨⟨⟨⟨⟨⟨a0, b0⟩, a1⟩, b1⟩, a2⟩, b2⟩, a3⟩, b3⟩, a4⟩, b4⟩ := hk
        have a0 := Nat.eq_of_beq_eq_true a0
        have a1 := Nat.eq_of_beq_eq_true a1
        have a2 := Nat.eq_of_beq_eq_true a2
        have a3 := Nat.eq_of_beq_eq_true a3
        have a4 := Nat.eq_of_beq_eq_true a4
        have b0 := Nat.eq_of_beq_eq_true b0
        have b1 := Nat.eq_of_beq_eq_true b1
        have b2 := Nat.eq_of_beq_eq_true b2
        have b3 := Nat.eq_of_beq_eq_true b3
        have b4 := Nat.eq_of_beq_eq_true b4
        obtain ⟨xs, n, _, hx, hlen, hxl, hf⟩ := DataW.trod_struct hu h
        rw [z30] at hlen
        match cs, hlen, xs, hxl with
        | [v0, v1, v2, v3, v4], _, [y0, y1, y2, y3, y4], _ =>
          have e0 := hf 0 f0 rfl
          have e1 := hf 1 f1 rfl
          have e2 := hf 2 f2 rfl
          have e3 := hf 3 f3 rfl
          have e4 := hf 4 f4 rfl
          rw [a0, b0, z3] at e0
          rw [a1, b1, z3] at e1
          rw [a2, b2, z3] at e2
          rw [a3, b3, z9] at e3
          rw [a4, b4, z4] at e4
          have hs3 : Sz Try.prog 9 y3.1 := by
            rw [hx] at hsz
            unfold Sz at hsz
            simp only [DataW.weights, hu, DataW.weightsEach, List.map_cons, List.map_nil, List.append_nil, List.mem_append, a3] at hsz
            exact fun n hn => hsz n (.inr (.inr (.inr (.inl hn))))
          obtain ⟨o0, h0, _⟩ := DataW.trod_int u3 e0
          obtain ⟨o1, h1, _⟩ := DataW.trod_int u3 e1
          obtain ⟨o2, h2, _⟩ := DataW.trod_int u3 e2
          obtain ⟨s3, h3, hs⟩ := open_str hs3 e3
          obtain ⟨o4, h4, _⟩ := DataW.trod_bool u4 e4
          simp at h0 h1 h2 h3 h4
          exact ⟨⟨o0, o1, o2, s3, o4⟩, by rw [h0, h1, h2, h3, h4]; rfl, hs⟩
      · cases hk
    · cases hk
theorem open_acts (hsz : Sz Try.prog 22 x.1) (h : DataW.trod enc Try.prog w base spare held fuel 22 cs = some x) : ∃ A n c l, cs = [.slice A n c] ∧ SlAt atC (hpOf w) A n l ∧ ∀ y ∈ l, y.thing.size < huge := by
  obtain ⟨A, n, c, f, rfl, hm, hc, hf⟩ := open_cells u22 (by rw [z30]; decide) y30 hsz h
  obtain ⟨l, h1, h2, h3⟩ := flat_choose (α := {r : Act // r.thing.size < huge}) (g := fun r => atC r.1) (n := n) (f := f) fun i hi => by
    obtain ⟨_, m, y, hys, hy⟩ := hf i hi
    obtain ⟨a, ha, hal⟩ := open_act hys hy
    exact ⟨⟨a, hal⟩, ha⟩
  refine ⟨A, n, c, l.map (·.1), rfl, ⟨by simp [h1], ?_, ?_⟩, fun r hr => ?_⟩
  · rw [h2] at hc
    rw [List.flatMap_map]; exact hc
  · rw [List.length_map, h1]; unfold huge; unfold reachBytes at hm; omega
  · obtain ⟨q, _, rfl⟩ := List.mem_map.1 hr
    exact q.2
end
open Go.ChangeShapes Go.WideShapes Go.ChangeAt Go.RowKit
theorem ownK : ownKnob Try.prog.godebug = none := by kernel_rfl
theorem cellsB_prog : cellsB Try.prog = true := by kernel_rfl
def isStruct (d : Option TypeDesc) : Bool := match d with | some (.struct _) => true | _ => false
theorem agg_of {P : Program} {W : World} {base : Nat} {t : TypeId} {v : Value} {l : List Value} (hs : isStruct (P.underlying t) = true) (h : Value.okWide P W .any base t v) (hc : v.cells.toList = l) : v = .agg l.toArray := by
  cases hu : P.underlying t with
  | none => rw [hu] at hs; cases hs
  | some d =>
    cases d
    case struct fs =>
      obtain ⟨cs, rfl, _⟩ := okWide_struct hu h
      rw [← hc]; rfl
    all_goals (rw [hu] at hs; cases hs)
/-- A Boolean result's reading. -/
theorem res_bool {X : Type} {enc : TypeId × Value → X} {W : World} (b : Nat) (sp : Nat → Bool) (hd : Bool) (x : Bool) : DataW.TrodAll enc Try.prog W b sp hd [4] [.bool x] [.lit (.bool x)] [] :=
  trodAll_mk1 ⟨1, by simp only [DataW.trod, Value.cells, u4]⟩
theorem ok_bool {W : World} (x : Bool) : Value.okWide Try.prog W .any 0 4 (.bool x) := by
  unfold Value.okWide; rw [u4]; simp only [Cell.okWide, u4]; exact trivial
theorem slice_of {P : Program} {W : World} {base : Nat} {t e : TypeId} {v : Value} {A : Option Addr} {n c : Nat} (hs : P.underlying t = some (.slice e)) (h : Value.okWide P W .any base t v) (hc : v.cells.toList = [.slice A n c]) : v = .slice A n c := by
  simp only [Value.okWide, hs, Cell.okWide] at h
  cases v <;> simp_all [Cell.ok, Value.cells]
/-- What the row wants to hear of a result that is a Boolean. -/
theorem ok_bools {W : World} {f : Func} (hf : f.resultTypes = #[4]) (x : Bool) : ∀ (j : Nat) (t : TypeId) (r : Value), f.resultTypes[j]? = some t → ((Value.bool x).resultList f.resultTypes.size)[j]? = some r → Value.okWide Try.prog W .any 0 t r := by
  intro j t r h1 h2
  rw [hf] at h1 h2
  match j with
  | 0 =>
    cases (h1 : some 4 = some t)
    cases (h2 : some (Value.bool x) = some r)
    exact ok_bool x
  | j + 1 => cases h1
end Go.Proofs.Ytkbancdmhcnhjaa.Hw
