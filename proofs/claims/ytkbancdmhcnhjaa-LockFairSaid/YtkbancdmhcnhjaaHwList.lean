/- The evaluator is sound for lists of operations. -/
import Derived.Test.YtkbancdmhcnhjaaHwStep
import Derived.Deep.LoopGhost
set_option linter.unusedVariables false
set_option linter.unusedSimpArgs false
namespace Go.Proofs.Ytkbancdmhcnhjaa.Hw
open Go

section
variable {c : Cx} {H0 : Hp} {w0 : World} {β : Nat → Nat} {e : Env} {V : VSt} {H : Hp} {a : Act} {w : World}
def CxOk (c : Cx) : Prop := (∀ t i, look t c.T = some i → TiOk c.P t i) ∧ ((∀ f ts, look f c.R = some ts → FnOk c.P f) ∧ ∀ g, elemN g c.overs = true → OverOk c.P g) ∧ c.P.follows .mixedOrders = true

/-- The machine is in a state of the evaluator's. -/
def St (c : Cx) (H0 : Hp) (w0 : World) (K : Env → VSt → Hp → Prop) (a : Act) (w : World) : Prop := ∃ β e V H, K e V H ∧ Sim c.n H0 w0 β e V H a w

theorem dstAt_eq {ops : List Oper} {j d : Nat} (h : dstAt ops j = some d) (tmps : Array Value) : yielded ops.toArray tmps j = (match tmps.getD d undef with | .bool b => some b | _ => none) := by
  unfold dstAt at h
  split at h
  · rename_i o ho
    have h1 : (ops.toArray)[j]? = some o := by simpa using ho
    simp only [yielded, h1, Option.bind_some, h, Array.getD_eq_getD_getElem?]
    cases tmps[d]? with
    | none => rfl
    | some v => cases v <;> rfl
  · cases h

theorem upd_self {α : Type} {t : Nat} {x : α} {e : Nat → Option α} (h : e t = some x) : upd t x e = e := by
  funext s
  by_cases hs : s = t
  · subst hs; rw [upd_same, h]
  · rw [upd_other hs]
/-- Is the operation wanted, it runs; else its slot holds nothing. -/
theorem wStep_cases {ops : List Oper} {o : Oper} {K : Env → VSt → Hp → Prop} (h : wStep c ops o K e V H) (E : EnvOk β e a) :
    (Region.wanted o (yielded ops.toArray a.tmps) = true ∧ wOp c o e V H fun x e V H => K (fin c.n o.dst x e) V H) ∨ (Region.wanted o (yielded ops.toArray a.tmps) = false ∧ K (fin c.n o.dst (some (.v undef)) e) V H) := by
  unfold wStep at h
  cases hg : o.guard with
  | none =>
    simp only [hg] at h
    exact .inl ⟨by simp [Region.wanted, hg], h⟩
  | some jw =>
    obtain ⟨j, want⟩ := jw
    simp only [hg] at h
    cases hd : dstAt ops j with
    | none => simp only [hd] at h
    | some d =>
      simp only [hd] at h
      have hy := dstAt_eq hd a.tmps
      split at h
      · rename_i b he
        rw [E d _ he] at hy
        have hy' : yielded ops.toArray a.tmps j = some b := hy
        have hw : Region.wanted o (yielded ops.toArray a.tmps) = (b == want) := by
          simp only [Region.wanted, hg, hy']
          cases b <;> cases want <;> rfl
        rw [hw]
        cases b <;> cases want <;> simp only [cnd, upd_self he] at h
        · exact .inl ⟨rfl, h⟩
        · exact .inr ⟨rfl, h⟩
        · exact .inr ⟨rfl, h⟩
        · exact .inl ⟨rfl, h⟩
      · rename_i ts he
        rw [E d _ he] at hy
        have hw : Region.wanted o (yielded ops.toArray a.tmps) = false := by
          simp only [Region.wanted, hg, hy]
          rfl
        exact .inr ⟨hw, h⟩
      · exact h.elim
theorem lenMap_run (hT : ∀ t i, look t c.T = some i → TiOk c.P t i) {o : Oper} {K : Value → Prop} (hl : lenMap c.T o = true) (h : lenMapF o.op e H K) (S : Sim c.n H0 w0 β e V H a w) :
    o.guard = none ∧ ∃ v, (execOp a.eval o).run c.P w = .ok (.value v) w ∧ K v := by
  obtain ⟨dst, op, ty, pos, af, g⟩ := o
  unfold lenMap at hl
  split at hl
  · rename_i args ts hop hg
    simp only at hop hg
    subst hop
    refine ⟨hg, ?_⟩
    split at hl
    · rename_i t hts
      split at hl
      · rename_i i hi
        split at hl
        · rename_i kt vt hkn
          obtain ⟨d, hd, hag, hk⟩ := (hT t i hi).desc
          rw [hkn] at hk
          cases (hk : d = .map kt vt)
          have hat : ts = #[t] := by apply Array.ext'; exact hts
          subst hat
          obtain ⟨vs, hvs, h⟩ := withVs_some S.env h
          have hm : args.map a.eval = vs.toArray := by apply Array.ext'; rw [Array.toList_map]; exact hvs
          split at h
          · rename_i r
            cases r with
            | none => exact ⟨.int .i64 (0 : Nat), by simp [execOp, resolve, hm, invoke, builtin, Builtin.len_, run_underlying hd, goInt], h⟩
            | some b =>
              obtain ⟨es, clock, hb, h⟩ := h
              exact ⟨.int .i64 es.size, by simp [execOp, resolve, hm, invoke, builtin, Builtin.len_, run_underlying hd, run_getMap (S.has b _ hb), goInt], h⟩
          · exact h.elim
        · cases hl
      · cases hl
    · cases hl
  · cases hl
theorem wOps_sound (hc : CxOk c) {ops : List Oper} {Q : Exit → Act → World → Prop} {K : Env → VSt → Hp → Prop} (hq : ∀ a w, St c H0 w0 K a w → Q .normal a w) : ∀ {l : List Oper} {β : Nat → Nat} {e : Env} {V : VSt} {H : Hp} {a : Act} {w : World},
    wOps c ops l K e V H → Sim c.n H0 w0 β e V H a w → wpList c.P ops.toArray Q l a w
  | [], β, e, V, H, a, w, h, S => hq a w ⟨β, e, V, H, h, S⟩
  | o :: r, β, e, V, H, a, w, h, S => by
    unfold wpList
    unfold wOps at h
    split at h
    · rename_i hl
      obtain ⟨hg, hx⟩ := lenMap_run hc.1 hl h S
      rw [if_pos (by simp [Region.wanted, hg])]
      obtain ⟨v, hr, hk⟩ := hx
      exact .inl (wp_value hr (wOps_sound hc hq hk (S.put o.dst rfl)))
    rcases wStep_cases h S.env with ⟨hw, h⟩ | ⟨hw, h⟩
    · rw [if_pos hw]
      exact .inl (wOp_sound hc.1 hc.2.1 S h fun β' av e' V' H' a' w' hk S' _ => wOps_sound hc hq hk S')
    · rw [if_neg (by rw [hw]; decide)]
      exact wOps_sound hc hq h (S.put o.dst rfl)

end
end Go.Proofs.Ytkbancdmhcnhjaa.Hw
