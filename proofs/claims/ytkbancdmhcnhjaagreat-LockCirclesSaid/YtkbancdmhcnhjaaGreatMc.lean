/- Locks: what comes in, opened. -/
import Derived.Test.YtkbancdmhcnhjaaGreatLa
import Derived.Test.YtkbancdmhcnhjaaGreatLc
import Derived.Test.YtkbancdmhcnhjaaGreatHwRow
import Derived.ProofKit
import Derived.OpenShut
set_option linter.unusedVariables false
set_option linter.unusedSimpArgs false
set_option maxRecDepth 100000
namespace Go.Proofs.YtkbancdmhcnhjaaGreat.Hw
open Go Go.Proofs
theorem u22 : Tryz.prog.underlying 22 = some (.slice 55) := by kernel_rfl
theorem u23 : Tryz.prog.underlying 23 = some (.slice 62) := by kernel_rfl
theorem u24 : Tryz.prog.underlying 24 = some (.slice 45) := by kernel_rfl
theorem u45 : Tryz.prog.underlying 45 = some (.array 2 3) := by kernel_rfl
theorem u9 : Tryz.prog.underlying 9 = some .string := by kernel_rfl
theorem u4 : Tryz.prog.underlying 4 = some .bool := by kernel_rfl
theorem u3 : Tryz.prog.underlying 3 = some (.int .i64) := by kernel_rfl
theorem k26 : chk3 Tryz.prog 26 22 23 24 = true := by kernel_rfl
theorem k55 : chk3 Tryz.prog 55 9 3 4 = true := by kernel_rfl
theorem k62 : chk3 Tryz.prog 62 3 9 4 = true := by kernel_rfl
theorem z55 : Tryz.prog.cellsOf 55 = 3 := by kernel_rfl
theorem z62 : Tryz.prog.cellsOf 62 = 3 := by kernel_rfl
theorem z45 : Tryz.prog.cellsOf 45 = 2 := by kernel_rfl
theorem z3 : Tryz.prog.cellsOf 3 = 1 := by kernel_rfl
theorem y55 : 0 < Tryz.prog.bytesOf 55 := of_decide_eq_true (by kernel_rfl)
theorem y62 : 0 < Tryz.prog.bytesOf 62 := of_decide_eq_true (by kernel_rfl)
theorem y45 : 0 < Tryz.prog.bytesOf 45 := of_decide_eq_true (by kernel_rfl)
section
variable {X : Type} {enc : TypeId × Value → X} {w : World} {base : Nat} {spare : Nat → Bool} {held : Bool} {fuel : Nat} {cs : List Value} {x : DataW X × List MemPlace}
theorem flat_choose {α : Type} {f : Nat → List Value} {g : α → List Value} : ∀ {n : Nat}, (∀ i, i < n → ∃ a, f i = g a) → ∃ l : List α, l.length = n ∧ (List.range n).flatMap f = l.flatMap g ∧ ∀ a ∈ l, ∃ i, i < n ∧ f i = g a
  | 0, _ => ⟨[], rfl, rfl, fun a ha => by cases ha⟩
  | n + 1, h => by
    obtain ⟨l, h1, h2, h3⟩ := flat_choose (n := n) (fun i hi => h i (by omega))
    obtain ⟨a, ha⟩ := h n (by omega)
    refine ⟨l ++ [a], by simp [h1], ?_, fun b hb => ?_⟩
    · rw [List.range_succ, List.flatMap_append, List.flatMap_append, h2]
      simp [ha]
    · rcases List.mem_append.1 hb with hb | hb
      · obtain ⟨i, hi, e⟩ := h3 b hb
        exact ⟨i, by omega, e⟩
      · rw [List.mem_singleton] at hb
        subst hb
        exact ⟨n, by omega, ha⟩
theorem open_str (hsz : Sz Tryz.prog 9 x.1) (h : DataW.trod enc Tryz.prog w base spare held fuel 9 cs = some x) : ∃ s : ByteArray, cs = [.string s] ∧ s.size < huge := by
  obtain ⟨s, rfl, hx, _⟩ := DataW.trod_string u9 h
  refine ⟨s, rfl, ?_⟩
  rw [hx] at hsz
  have := hsz s.data.toList.length (by unfold DataW.weights; exact List.mem_singleton.2 rfl)
  rw [← size_len] at this
  unfold reachBytes at this
  unfold huge; omega
theorem open_arr2 (h : DataW.trod enc Tryz.prog w base spare held fuel 45 cs = some x) : ∃ a b : Int, cs = [.int .i64 a, .int .i64 b] := by
  obtain ⟨xs, m, _, ex, hlen, hl, hel⟩ := DataW.trod_array u45 h
  rw [z45] at hlen
  match cs, hlen, xs, hl with
  | [v0, v1], _, [y0, y1], _ =>
    have e0 := hel 0 (by omega)
    have e1 := hel 1 (by omega)
    rw [z3] at e0 e1
    obtain ⟨a, ha, _⟩ := DataW.trod_int u3 e0
    obtain ⟨b, hb, _⟩ := DataW.trod_int u3 e1
    simp at ha hb
    exact ⟨a, b, by rw [ha, hb]⟩
theorem open_cap {t e : TypeId} {A : Option Addr} {n c : Nat} (ht : Tryz.prog.underlying t = some (.slice e)) (h : DataW.trod enc Tryz.prog w base spare held fuel t [.slice A n c] = some x) : n ≤ c := by
  rcases Go.Deep.open_slice ht h with ⟨e, _⟩ | ⟨a, len, cap, m, n', D, Pl, e, hb, hl, _⟩
  · cases e; exact Nat.le_refl _
  · cases e; exact hl
theorem open_held (hsz : Sz Tryz.prog 22 x.1) (h : DataW.trod enc Tryz.prog w base spare held fuel 22 cs = some x) : ∃ A n c l, cs = [.slice A n c] ∧ SlAt lkC (hpOf w) A n l ∧ ∀ y ∈ l, y.thing.size < huge := by
  obtain ⟨A, n, c, f, rfl, hm, hc, hf⟩ := open_cells u22 (by rw [z55]; decide) y55 hsz h
  obtain ⟨l, h1, h2, h3⟩ := flat_choose (α := {r : Lk // r.thing.size < huge}) (g := fun r => lkC r.1) (n := n) (f := f) fun i hi => by
    obtain ⟨_, m, y, hys, hy⟩ := hf i hi
    obtain ⟨v0, v1, v2, m', y0, y1, y2, e, ⟨hs0, _, _⟩, e0, e1, e2⟩ := opn3 k55 hys hy
    obtain ⟨s, hs, hsl⟩ := open_str hs0 e0
    obtain ⟨a, ha, _⟩ := DataW.trod_int u3 e1
    obtain ⟨b, hb, _⟩ := DataW.trod_bool u4 e2
    cases hs; cases ha; cases hb
    exact ⟨⟨⟨s, a, b⟩, hsl⟩, e⟩
  refine ⟨A, n, c, l.map (·.1), rfl, ⟨by simp [h1], ?_, ?_⟩, fun r hr => ?_⟩
  · rw [h2] at hc
    rw [List.flatMap_map]; exact hc
  · rw [List.length_map, h1]; unfold huge; unfold reachBytes at hm; omega
  · obtain ⟨q, _, rfl⟩ := List.mem_map.1 hr
    exact q.2
theorem open_waits (hsz : Sz Tryz.prog 23 x.1) (h : DataW.trod enc Tryz.prog w base spare held fuel 23 cs = some x) : ∃ A n c l, cs = [.slice A n c] ∧ SlAt wtC (hpOf w) A n l ∧ ∀ y ∈ l, y.thing.size < huge := by
  obtain ⟨A, n, c, f, rfl, hm, hc, hf⟩ := open_cells u23 (by rw [z62]; decide) y62 hsz h
  obtain ⟨l, h1, h2, h3⟩ := flat_choose (α := {r : Wt // r.thing.size < huge}) (g := fun r => wtC r.1) (n := n) (f := f) fun i hi => by
    obtain ⟨_, m, y, hys, hy⟩ := hf i hi
    obtain ⟨v0, v1, v2, m', y0, y1, y2, e, ⟨_, hs1, _⟩, e0, e1, e2⟩ := opn3 k62 hys hy
    obtain ⟨a, ha, _⟩ := DataW.trod_int u3 e0
    obtain ⟨s, hs, hsl⟩ := open_str hs1 e1
    obtain ⟨b, hb, _⟩ := DataW.trod_bool u4 e2
    cases hs; cases ha; cases hb
    exact ⟨⟨⟨a, s, b⟩, hsl⟩, e⟩
  refine ⟨A, n, c, l.map (·.1), rfl, ⟨by simp [h1], ?_, ?_⟩, fun r hr => ?_⟩
  · rw [h2] at hc
    rw [List.flatMap_map]; exact hc
  · rw [List.length_map, h1]; unfold huge; unfold reachBytes at hm; omega
  · obtain ⟨q, _, rfl⟩ := List.mem_map.1 hr
    exact q.2
theorem open_inner (hsz : Sz Tryz.prog 24 x.1) (h : DataW.trod enc Tryz.prog w base spare held fuel 24 cs = some x) : ∃ A n c l, cs = [.slice A n c] ∧ SlAt prC (hpOf w) A n l := by
  obtain ⟨A, n, c, f, rfl, hm, hc, hf⟩ := open_cells u24 (by rw [z45]; decide) y45 hsz h
  obtain ⟨l, h1, h2, h3⟩ := flat_choose (g := prC) (n := n) (f := f) fun i hi => by
    obtain ⟨_, m, y, hys, hy⟩ := hf i hi
    obtain ⟨a, b, e⟩ := open_arr2 hy
    exact ⟨(a, b), e⟩
  refine ⟨A, n, c, l, rfl, ⟨h1.symm, by rw [← h2]; exact hc, ?_⟩⟩
  rw [h1]; unfold huge; unfold reachBytes at hm; omega
theorem open_locks (hsz : Sz Tryz.prog 26 x.1) (h : DataW.trod enc Tryz.prog w base spare held fuel 26 cs = some x) : ∃ A0 n0 c0 A1 n1 c1 A2 n2 c2 l, cs = [.slice A0 n0 c0, .slice A1 n1 c1, .slice A2 n2 c2] ∧ LocksAt (hpOf w) A0 n0 c0 A1 n1 c1 A2 n2 c2 l := by
  obtain ⟨v0, v1, v2, m, y0, y1, y2, rfl, ⟨hs0, hs1, hs2⟩, e0, e1, e2⟩ := opn3 k26 hsz h
  obtain ⟨A0, n0, c0, l0, h0, g0, r0⟩ := open_held hs0 e0
  obtain ⟨A1, n1, c1, l1, h1, g1, r1⟩ := open_waits hs1 e1
  obtain ⟨A2, n2, c2, l2, h2, g2⟩ := open_inner hs2 e2
  cases h0; cases h1; cases h2
  exact ⟨A0, n0, c0, A1, n1, c1, A2, n2, c2, ⟨l0, l1, l2⟩, rfl, g0, g1, g2, open_cap u22 e0, open_cap u23 e1, open_cap u24 e2, r0, r1⟩
end
open Go.ChangeShapes Go.WideShapes Go.ChangeAt Go.RowKit
theorem ownK : ownKnob Tryz.prog.godebug = none := by kernel_rfl
theorem cellsB_prog : cellsB Tryz.prog = true := by kernel_rfl
def isStruct (d : Option TypeDesc) : Bool := match d with | some (.struct _) => true | _ => false
theorem s26 : isStruct (Tryz.prog.underlying 26) = true := by kernel_rfl
theorem agg_of {P : Program} {W : World} {base : Nat} {t : TypeId} {v : Value} {l : List Value} (hs : isStruct (P.underlying t) = true) (h : Value.okWide P W .any base t v) (hc : v.cells.toList = l) : v = .agg l.toArray := by
  cases hu : P.underlying t with
  | none => rw [hu] at hs; cases hs
  | some d =>
    cases d
    case struct fs =>
      obtain ⟨cs, rfl, _⟩ := okWide_struct hu h
      rw [← hc]; rfl
    all_goals (rw [hu] at hs; cases hs)
/-- A Boolean result's reading. -/
theorem res_bool {X : Type} {enc : TypeId × Value → X} {W : World} (b : Nat) (sp : Nat → Bool) (hd : Bool) (x : Bool) : DataW.TrodAll enc Tryz.prog W b sp hd [4] [.bool x] [.lit (.bool x)] [] :=
  trodAll_mk1 ⟨1, by simp only [DataW.trod, Value.cells, u4]⟩
theorem ok_bool {W : World} (x : Bool) : Value.okWide Tryz.prog W .any 0 4 (.bool x) := by
  unfold Value.okWide; rw [u4]; simp only [Cell.okWide, u4]; exact trivial
theorem slice_of {P : Program} {W : World} {base : Nat} {t e : TypeId} {v : Value} {A : Option Addr} {n c : Nat} (hs : P.underlying t = some (.slice e)) (h : Value.okWide P W .any base t v) (hc : v.cells.toList = [.slice A n c]) : v = .slice A n c := by
  simp only [Value.okWide, hs, Cell.okWide] at h
  cases v <;> simp_all [Cell.ok, Value.cells]
/-- What the row wants to hear of a result that is a Boolean. -/
theorem ok_bools {W : World} {f : Func} (hf : f.resultTypes = #[4]) (x : Bool) : ∀ (j : Nat) (t : TypeId) (r : Value), f.resultTypes[j]? = some t → ((Value.bool x).resultList f.resultTypes.size)[j]? = some r → Value.okWide Tryz.prog W .any 0 t r := by
  intro j t r h1 h2
  rw [hf] at h1 h2
  match j with
  | 0 =>
    cases (h1 : some 4 = some t)
    cases (h2 : some (Value.bool x) = some r)
    exact ok_bool x
  | j + 1 => cases h1
end Go.Proofs.YtkbancdmhcnhjaaGreat.Hw
