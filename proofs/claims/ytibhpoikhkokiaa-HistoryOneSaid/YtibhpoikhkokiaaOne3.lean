/- HwCode HwTab (joined by merge.py) -/
import Derived.Test.YtibhpoikhkokiaaOne2
import Derived.Deep.LoopGhost
import Derived.Test.YtibhpoikhkokiaaProg
import Derived.KernelRfl
/- The evaluator is sound for code: what it says of a function's body holds of a call. -/
set_option linter.unusedVariables false
set_option linter.unusedSimpArgs false
namespace Go.Proofs.Ytibhpoikhkokiaa.Hw
open Go

section
variable {c : Cx} {H0 : Hp} {w0 : World} {β : Nat → Nat} {e : Env} {V : VSt} {H : Hp} {a : Act} {w : World}
def Xt.toExit : Xt → Exit
  | .normal => .normal
  | .exit id => .exit id
  | .ret => .ret

theorem getSh_some {s : Sh} {v : Value} {K : s.T → Prop} (h : getSh s v K) : ∃ x, s.enc x = v ∧ K x := by
  unfold getSh at h
  split at h
  · split at h
    · rename_i hk
      cases sameK_eq hk
      exact ⟨_, rfl, h⟩
    · exact h.elim
  all_goals first
    | exact ⟨_, rfl, h⟩
    | exact h.elim
theorem getL_some : ∀ {l : List Sh} {vs : List Value} {K : ShT l → Prop}, getL l vs K → ∃ x, encL l x = vs ∧ K x
  | [], [], K, h => ⟨(), rfl, h⟩
  | s :: r, v :: vs, K, h => by
    obtain ⟨x, h1, h⟩ := getSh_some h
    obtain ⟨y, h2, h⟩ := getL_some h
    exact ⟨(x, y), by simp [encL, h1, h2], h⟩
theorem getVals_some : ∀ {l : List (Nat × Sh)} {K : ShT (valsT l) → Prop}, getVals l e K → ∃ x, (∀ (e1 : Env) t av, encVals l x e1 t = some av → e t = some av ∨ e1 t = some av) ∧ K x
  | [], K, h => ⟨(), fun e1 t av ht => .inr ht, h⟩
  | p :: r, K, h => by
    obtain ⟨v, hv, h⟩ := onV_some h
    obtain ⟨x, hx, h⟩ := getSh_some h
    obtain ⟨y, hy, h⟩ := getVals_some h
    refine ⟨(x, y), fun e1 t av ht => ?_, h⟩
    rcases upd_some ht with ⟨rfl, rfl⟩ | ⟨_, ht⟩
    · left; rw [hv]; exact congrArg (fun z => some (AV.v z)) hx.symm
    · exact hy e1 t av ht
theorem getBoxes_some : ∀ {l : List (Nat × List Sh)} {K : BoxT l → Prop}, getBoxes l V K → ∃ x, (∀ (V1 : VSt) k cs, encBoxes l x V1 k = some cs → V k = some cs ∨ V1 k = some cs) ∧ K x
  | [], K, h => ⟨(), fun V1 k cs hk => .inr hk, h⟩
  | p :: r, K, h => by
    unfold getBoxes at h
    split at h
    · rename_i cs hV
      obtain ⟨x, hx, h⟩ := getL_some h
      obtain ⟨y, hy, h⟩ := getBoxes_some h
      refine ⟨(x, y), fun V1 k cs' hk => ?_, h⟩
      rcases upd_some hk with ⟨h1, h2⟩ | ⟨_, hk⟩
      · left; rw [h1, hV, ← h2, hx]
      · exact hy V1 k cs' hk
    · exact h.elim
/-- Less is known. -/
theorem Sim.less (S : Sim c.n H0 w0 β e V H a w) {e1 : Env} {V1 : VSt} (he : ∀ t av, e1 t = some av → e t = some av) (hv : ∀ k x, V1 k = some x → V k = some x) : Sim c.n H0 w0 β e1 V1 H a w := by
  have hn : ∀ k, V1 k ≠ none → V k ≠ none := fun k hk => by
    cases h : V1 k with
    | none => exact absurd h hk
    | some x => rw [hv k x h]; simp
  exact { S with env := fun t av ht => S.env t av (he t av ht), box := fun k x hk => S.box k x (hv k x hk), inj := fun k k' hk hk' hb => S.inj k k' (hn k hk) (hn k' hk') hb }
theorem restr_some {α : Type} {l : List Nat} {e : Nat → Option α} {t : Nat} {x : α} (h : restr l e t = some x) : elemN t l = true ∧ e t = some x := by
  unfold restr at h
  cases he : elemN t l with
  | true => rw [he] at h; exact ⟨rfl, h⟩
  | false => rw [he] at h; cases h
theorem mapE_eq {α : Type} {e e' : Nat → Option α} : ∀ {l : List Nat}, mapE e' l = mapE e l → ∀ t, elemN t l = true → e' t = e t
  | [], _, t, h => by cases h
  | x :: r, h, t, ht => by
    simp only [mapE, List.cons.injEq] at h
    unfold elemN at ht
    cases hb : Nat.beq x t with
    | true => cases Nat.eq_of_beq_eq_true hb; exact h.1
    | false => rw [hb] at ht; exact mapE_eq h.2 t ht

theorem wp_loop_any {P : Program} {code : Code} {Q : Exit → Act → World → Prop} (R : Nat → Act → World → Prop) (h0 : ∃ n, R n a w)
    (round : ∀ n a w, R n a w → code.wp P (Exit.then (fun a' w' => ∃ m, m < n ∧ R m a' w') Q) a w) : (Code.loop code).wp P Q a w := by
  obtain ⟨n0, h0⟩ := h0
  exact wp_loop_ghost R n0 h0 round

theorem wv_sound (hc : CxOk c) : ∀ (code : Code) {Q : Xt → Env → VSt → Hp → Prop} {Qm : Exit → Act → World → Prop} (hq : ∀ x a w, St c H0 w0 (Q x) a w → Qm x.toExit a w) {β : Nat → Nat} {e : Env} {V : VSt} {H : Hp} {a : Act} {w : World},
    wv c code Q e V H → Sim c.n H0 w0 β e V H a w → code.wp c.P Qm a w := by
  intro code
  induction code with
  | skip => intro Q Qm hq β e V H a w h S; exact wp_skip (hq .normal a w ⟨β, e, V, H, h, S⟩)
  | label l => intro Q Qm hq β e V H a w h S; exact wp_label (hq .normal a w ⟨β, e, V, H, h, S⟩)
  | region id ops draw =>
    intro Q Qm hq β e V H a w h S
    cases draw with
    | false =>
      refine wp_region_list ?_
      exact wOps_sound hc (ops := ops.toList) (hq .normal) h S
    | true =>
      simp only [wv] at h
      split at h
      · split at h
        · rename_i p hp ho
          exact wOpsD_sound hc (ops := ops) ho (hq .normal) h S
        · exact h.elim
      · exact h.elim
  | seq x y ihx ihy =>
    intro Q Qm hq β e V H a w h S
    refine wp_seq (ihx (Qm := Exit.then (y.wp c.P Qm) Qm) ?_ h S)
    rintro x1 a1 w1 ⟨β1, e1, V1, H1, hk, S1⟩
    cases x1 with
    | normal => exact ihy hq hk S1
    | exit id => exact hq (.exit id) a1 w1 ⟨β1, e1, V1, H1, hk, S1⟩
    | ret => exact hq .ret a1 w1 ⟨β1, e1, V1, H1, hk, S1⟩
  | cond x y z ihy ihz =>
    intro Q Qm hq β e V H a w h S
    obtain ⟨v, hv, h⟩ := onV_some h
    split at h
    · rename_i t
      have he := ev_evalV S.env hv
      cases t with
      | true => exact wp_cond he (by simpa using ihy hq h S)
      | false => exact wp_cond he (by simpa using ihz hq h S)
    · exact h.elim
  | block id x ih =>
    intro Q Qm hq β e V H a w h S
    refine wp_block (ih (Qm := Exit.inBlock id Qm) ?_ h S)
    rintro x1 a1 w1 ⟨β1, e1, V1, H1, hk, S1⟩
    cases x1 with
    | normal => exact hq .normal a1 w1 ⟨β1, e1, V1, H1, hk, S1⟩
    | exit i =>
      simp only at hk
      cases hb : Nat.beq i id with
      | true =>
        rw [hb] at hk
        cases Nat.eq_of_beq_eq_true hb
        simp only [Xt.toExit, Exit.inBlock, if_true]
        exact hq .normal a1 w1 ⟨β1, e1, V1, H1, hk, S1⟩
      | false =>
        rw [hb] at hk
        have hne : i ≠ id := fun hh => by subst hh; simp at hb
        simp only [Xt.toExit, Exit.inBlock, hne, if_false]
        exact hq (.exit i) a1 w1 ⟨β1, e1, V1, H1, hk, S1⟩
    | ret => exact hq .ret a1 w1 ⟨β1, e1, V1, H1, hk, S1⟩
  | loop x ih =>
    intro Q Qm hq β e V H a w h S
    simp only [wv] at h
    split at h
    · rename_i k hkey
      split at h
      · rename_i d hd
        obtain ⟨x0, hx0, h⟩ := getVals_some h
        obtain ⟨y0, hy0, h⟩ := getBoxes_some h
        obtain ⟨J, ⟨n0, hJ⟩, hround⟩ := h
        refine wp_loop_any (fun n a w => ∃ s H' β', J n s H' ∧ Sim c.n H0 w0 β' (encVals d.vals s.1 (restr d.keep e)) (encBoxes d.boxes s.2 (restr d.kb V)) H' a w) ⟨n0, (x0, y0), H, β, hJ, S.less ?_ ?_⟩ ?_
        · intro t av ht
          rcases hx0 _ t av ht with h1 | h1
          · exact h1
          · exact (restr_some h1).2
        · intro k' cs hk'
          rcases hy0 _ k' cs hk' with h1 | h1
          · exact h1
          · exact (restr_some h1).2
        · rintro n a1 w1 ⟨s, H', β', hJ1, S1⟩
          refine ih (Qm := Exit.then (fun a' w' => ∃ m, m < n ∧ ∃ s H' β', J m s H' ∧ Sim c.n H0 w0 β' (encVals d.vals s.1 (restr d.keep e)) (encBoxes d.boxes s.2 (restr d.kb V)) H' a' w') Qm) ?_ (hround n s H' hJ1) S1
          rintro x1 a2 w2 ⟨β2, e2, V2, H2, hk, S2⟩
          cases x1 with
          | normal =>
            obtain ⟨x', hx', hk⟩ := getVals_some hk
            obtain ⟨y', hy', hk⟩ := getBoxes_some hk
            obtain ⟨heq, m, hm, hJ2⟩ := hk
            simp only [Prod.mk.injEq] at heq
            refine ⟨m, hm, (x', y'), H2, β2, hJ2, S2.less ?_ ?_⟩
            · intro t av ht
              rcases hx' _ t av ht with h1 | h1
              · exact h1
              · obtain ⟨h2, h3⟩ := restr_some h1
                rw [mapE_eq heq.1 t h2]; exact h3
            · intro k' cs hk'
              rcases hy' _ k' cs hk' with h1 | h1
              · exact h1
              · obtain ⟨h2, h3⟩ := restr_some h1
                rw [mapE_eq heq.2 k' h2]; exact h3
          | exit i => exact hq (.exit i) a2 w2 ⟨β2, e2, V2, H2, hk, S2⟩
          | ret => exact hq .ret a2 w2 ⟨β2, e2, V2, H2, hk, S2⟩
      · exact h.elim
    · exact h.elim
  | exit id => intro Q Qm hq β e V H a w h S; exact wp_exit (hq (.exit id) a w ⟨β, e, V, H, h, S⟩)
  | ret => intro Q Qm hq β e V H a w h S; exact wp_ret (hq .ret a w ⟨β, e, V, H, h, S⟩)
  | _ => intro Q Qm hq β e V H a w h S; exact h.elim

def resOne (tmps : Array Value) : ResultVar → Sem Value
  | .tmp t => pure (tmps.getD t undef)
  | .cell a t => do loadVar t (← asAddr (tmps.getD a undef))
theorem resF_run (hc : CxOk c) (S : Sim c.n H0 w0 β e V H a w) : ∀ {rs : List ResultVar} {K : List Value → Prop}, resF rs c.T e V K → ∃ vs, (rs.mapM (resOne a.tmps)).run c.P w = .ok vs w ∧ K vs
  | [], K, h => ⟨[], by simp, h⟩
  | .tmp t :: r, K, h => by
    obtain ⟨v, hv, h⟩ := onV_some h
    obtain ⟨vs, hr, h⟩ := resF_run hc S h
    refine ⟨v :: vs, ?_, h⟩
    have h1 := S.env t _ hv
    simp only [List.mapM_cons, resOne, Sem.run_bind, Sem.run_pure, Result.andThen_ok, hr, h1]
    rfl
  | .cell t ty :: r, K, h => by
    obtain ⟨i, hi, h⟩ := onTI_some h
    obtain ⟨av, hav, h⟩ := onAV_some h
    split at h
    · rename_i k
      split at h
      · rename_i x hV
        split at h
        · rename_i hl
          have hl' := Nat.eq_of_beq_eq_true hl
          obtain ⟨v, hv, h⟩ := mkV_some h
          obtain ⟨vs, hr, h⟩ := resF_run hc S h
          refine ⟨v :: vs, ?_, h⟩
          obtain ⟨⟨ty', h1⟩, h2, h3⟩ := S.box k x hV
          have hrun := run_loadVar_ok (P := c.P) (w := w) (hc.1 ty i hi) (b := β k) (o := 0) (vs := x.2) hl' (fun j u hj => by rw [Nat.zero_add, cl_of w h1]; exact hj) hv
          have h4 := S.env t _ hav
          simp only [List.mapM_cons, resOne, Sem.run_bind, h4, AV.conc, asAddr, Sem.run_pure, Result.andThen_ok, hrun, hr]
        · exact h.elim
      · exact h.elim
    · exact h.elim
theorem results_run {fn : Func} {tmps : Array Value} {P : Program} {w : World} {vs : List Value} (h : (fn.results.toList.mapM (resOne tmps)).run P w = .ok vs w) : ∃ v, (results fn tmps).run P w = .ok v w ∧ ∀ K : Value → Prop, resV vs K → K v := by
  have hm : (fn.results.mapM (resOne tmps)).run P w = .ok vs.toArray w := by
    rw [Array.mapM_eq_mapM_toList, Sem.run_map, h]
    rfl
  have he : results fn tmps = (do
      let vs ← fn.results.mapM (resOne tmps)
      pure (if h : vs.size = 1 then vs[0] else .tuple vs)) := by
    unfold results
    have h0 : (resOne tmps) = (fun x => match x with | .tmp t => pure (tmps.getD t undef) | .cell a t => (do loadVar t (← asAddr (tmps.getD a undef)) : Sem Value)) := by
      funext x
      cases x <;> rfl
    rw [h0]
    rfl
  refine ⟨if h : vs.toArray.size = 1 then vs.toArray[0] else .tuple vs.toArray, ?_, fun K hk => ?_⟩
  · rw [he, Sem.run_bind, hm]
    try rfl
  · match vs, hk with
    | [], hk => exact hk
    | [v], hk => exact hk
    | v :: u :: r, hk =>
      rw [dif_neg (by simp)]
      exact hk

theorem hcalls_of (hc : CxOk c) {f : FuncId} {fn : Func} (hf : c.P.funcs[f]? = some fn) {args : List Value} {H : Hp} {Q : Value → Hp → Prop} (h : wFun c fn args H Q) : HCalls c.P f args H Q := by
  intro w hw
  unfold wFun at h
  split at h
  · rename_i code hcode
    split at h
    · rename_i hn hle
      have hn' := Nat.eq_of_beq_eq_true hn
      have hle' := Nat.le_of_ble_eq_true hle
      refine calls_of_wp hf hcode ?_
      have S : Sim c.n H w (fun _ => 0) (env0 args) (fun _ => none) H { tmps := args.toArray ++ Array.replicate (fn.ntmps - args.toArray.size) undef, defers := [] } w := by
        refine ⟨by simp; omega, ?_, fun k x hk => (by cases hk), fun k k' hk => absurd rfl hk, hw, rfl, ⟨rfl, rfl, rfl, Nat.le_refl _, fun _ _ _ => rfl⟩, fun b hb => .inl hb⟩
        intro t av ht
        unfold env0 at ht
        split at ht
        · rename_i v hv
          cases ht
          have hlt : t < args.length := (List.getElem?_eq_some_iff.1 hv).1
          rw [Array.getD_eq_getD_getElem?]
          have h1 : (args.toArray ++ Array.replicate (fn.ntmps - args.toArray.size) undef)[t]? = some v := by
            rw [Array.getElem?_append_left (by simpa using hlt)]
            simpa using hv
          rw [h1]
          rfl
        · cases ht
      refine wv_sound hc code (Qm := bodyPost c.P fn _) ?_ h S
      rintro x a1 w1 ⟨β1, e1, V1, H1, hk, S1⟩
      cases x with
      | normal =>
        obtain ⟨vs, hr, hk⟩ := resF_run hc S1 hk
        obtain ⟨v, h1, h2⟩ := results_run hr
        exact ⟨S1.defers, v, h1, v, H1, rfl, h2 (fun v => Q v H1) hk, S1.has, S1.fr, S1.new⟩
      | ret =>
        obtain ⟨vs, hr, hk⟩ := resF_run hc S1 hk
        obtain ⟨v, h1, h2⟩ := results_run hr
        exact ⟨S1.defers, v, h1, v, H1, rfl, h2 (fun v => Q v H1) hk, S1.has, S1.fr, S1.new⟩
      | exit id => exact hk.elim
    · exact h.elim
  · exact h.elim
/-- What a call makes true may be weakened. -/
theorem HCalls.mono {P : Program} {f : FuncId} {args : List Value} {H : Hp} {Q Q' : Value → Hp → Prop} (h : HCalls P f args H Q) (hq : ∀ v H', Q v H' → Q' v H') : HCalls P f args H Q' := fun w hw =>
  Calls.mono (h w hw) fun _ _ ⟨v, H', h1, h2, h3⟩ => ⟨v, H', h1, hq v H' h2, h3⟩
end

/-! The tables of a translation are held against it by a reckoning. -/
def eqZ : Value → Value → Bool
  | .int k a, .int k' b => sameK k k' && (a == b)
  | .bool a, .bool b => a == b
  | .string a, .string b => a.data.toList.isEmpty && b.data.toList.isEmpty
  | .slice none 0 0, .slice none 0 0 => true
  | .pointer none, .pointer none => true
  | .map none, .map none => true
  | .nilFunc, .nilFunc => true
  | .nilIface, .nilIface => true
  | _, _ => false
def eqZs : List Value → List Value → Bool
  | [], [] => true
  | a :: x, b :: y => eqZ a b && eqZs x y
  | _, _ => false
def chkZ (z : Value) (i : TI) : Bool := match i.agg, z with
  | true, .agg cs => eqZs cs.toList i.zs
  | false, z => (match i.zs with | [y] => eqZ z y && one1 y | _ => false)
  | true, _ => false
def chkF (P : Program) : List Field → List (Nat × Nat × Bool) → Bool
  | [], [] => true
  | f :: r, x :: s => Nat.beq f.offset x.1 && (match P.info? f.type, P.underlying f.type with | some j, some d => Nat.beq j.size x.2.1 && (isAggD d == x.2.2) | _, _ => false) && chkF P r s
  | _, _ => false
def chkK (P : Program) (d : TypeDesc) (zs : List Value) : Kn → Bool
  | .scalar => (match zs, d with | [.bool _], .bool => true | [.bool _], _ => false | [.int k _], .int k' => sameK k k' | [.int _ _], _ => false | [.pointer _], .pointer _ => true | [.pointer _], _ => false | _, _ => true)
  | .slice el esz eby => (match d with
    | .slice e => Nat.beq e el && (match P.info? el with | some j => Nat.beq j.size esz && Nat.beq j.bytes eby && (match j.zero with | some z => Nat.beq z.cells.size esz | none => false) | none => false)
    | _ => false)
  | .array len esz eagg => (match d with
    | .array n e => Nat.beq n len && (match P.info? e, P.underlying e with | some j, some du => Nat.beq j.size esz && (isAggD du == eagg) | _, _ => false)
    | _ => false)
  | .struct fs => (match d with | .struct flds => chkF P flds.toList fs | _ => false)
  | .string => (match d with | .string => true | _ => false)
  | .map k v => (match d with | .map k' v' => Nat.beq k' k && Nat.beq v' v | _ => false)
def chk1 (P : Program) (t : Nat) (i : TI) : Bool := match P.info? t, P.underlying t with
  | some j, some d => (match j.zero with | some z => chkZ z i | none => false) && Nat.beq j.size i.zs.length && allOne i.zs && (isAggD d == i.agg) && chkK P d i.zs i.kn && (match i.eqs with | true => eqOk P t i.zs | false => true)
  | _, _ => false
def chkT (P : Program) : List (Nat × TI) → Bool
  | [] => true
  | p :: r => chk1 P p.1 p.2 && chkT P r
def chkR (P : Program) : List (Nat × List Nat) → Bool
  | [] => true
  | p :: r => (match P.funcs[p.1]? with | some fn => !(fn.name == "runtime.NumGoroutine") && !fn.body.isNone | none => false) && chkR P r

theorem eqZ_eq {a b : Value} (h : eqZ a b = true) : a = b := by
  unfold eqZ at h
  split at h
  · simp only [Bool.and_eq_true, beq_iff_eq] at h
    rw [sameK_eq h.1, h.2]
  · rw [beq_iff_eq] at h; rw [h]
  · rename_i a b
    simp only [Bool.and_eq_true, List.isEmpty_iff] at h
    have h1 : a = b := by
      have h2 : a.data = b.data := Array.ext' (h.1.trans h.2.symm)
      cases a; cases b; simp only at h2; rw [h2]
    rw [h1]
  all_goals first
    | rfl
    | cases h
theorem eqZs_eq : ∀ {x y : List Value}, eqZs x y = true → x = y
  | [], [], _ => rfl
  | a :: x, b :: y, h => by
    simp only [eqZs, Bool.and_eq_true] at h
    rw [eqZ_eq h.1, eqZs_eq h.2]
  | [], _ :: _, h => by cases h
  | _ :: _, [], h => by cases h
theorem chkF_ok {P : Program} : ∀ {l : List Field} {fs : List (Nat × Nat × Bool)}, chkF P l fs = true → fieldsOk P l fs
  | [], [], _ => trivial
  | f :: r, x :: s, h => by
    simp only [chkF, Bool.and_eq_true] at h
    obtain ⟨⟨h1, h2⟩, h3⟩ := h
    refine ⟨⟨Nat.eq_of_beq_eq_true h1, ?_⟩, chkF_ok h3⟩
    split at h2
    · rename_i j d hj hd
      simp only [Bool.and_eq_true, beq_iff_eq] at h2
      exact ⟨j, d, hj, Nat.eq_of_beq_eq_true h2.1, hd, h2.2⟩
    · cases h2
  | [], _ :: _, h => by cases h
  | _ :: _, [], h => by cases h
theorem chkK_ok {P : Program} {d : TypeDesc} {zs : List Value} {k : Kn} (h : chkK P d zs k = true) : knOk P d zs k := by
  cases k with
  | scalar =>
    cases zs with
    | nil => trivial
    | cons z r =>
      cases r with
      | cons _ _ => cases z <;> trivial
      | nil =>
        cases z with
        | bool x => cases d <;> first | rfl | cases h
        | int k x =>
          cases d with
          | int k' =>
            have h' : sameK k k' = true := h
            rw [sameK_eq h']
            rfl
          | _ => cases h
        | pointer x =>
          cases d with
          | pointer e => exact ⟨e, rfl⟩
          | _ => cases h
        | _ => trivial
  | slice el esz eby =>
    simp only [chkK] at h
    split at h
    · rename_i e
      simp only [Bool.and_eq_true] at h
      obtain ⟨h1, h2⟩ := h
      cases Nat.eq_of_beq_eq_true h1
      split at h2
      · rename_i j hj
        simp only [Bool.and_eq_true] at h2
        obtain ⟨⟨a1, a2⟩, a3⟩ := h2
        split at a3
        · rename_i z hz
          exact ⟨rfl, j, z, hj, Nat.eq_of_beq_eq_true a1, Nat.eq_of_beq_eq_true a2, hz, Nat.eq_of_beq_eq_true a3⟩
        · cases a3
      · cases h2
    · cases h
  | array len esz eagg =>
    simp only [chkK] at h
    split at h
    · rename_i n e
      simp only [Bool.and_eq_true] at h
      obtain ⟨h1, h2⟩ := h
      cases Nat.eq_of_beq_eq_true h1
      split at h2
      · rename_i j du hj hdu
        simp only [Bool.and_eq_true, beq_iff_eq] at h2
        exact ⟨e, j, du, rfl, hj, Nat.eq_of_beq_eq_true h2.1, hdu, h2.2⟩
      · cases h2
    · cases h
  | struct fs =>
    simp only [chkK] at h
    split at h
    · exact ⟨_, rfl, chkF_ok h⟩
    · cases h
  | string =>
    simp only [chkK] at h
    split at h
    · rfl
    · cases h
  | map k v =>
    simp only [chkK] at h
    split at h
    · simp only [Bool.and_eq_true] at h
      cases Nat.eq_of_beq_eq_true h.1
      cases Nat.eq_of_beq_eq_true h.2
      rfl
    · cases h
theorem chk1_ok {P : Program} {t : Nat} {i : TI} (h : chk1 P t i = true) : TiOk P t i := by
  unfold chk1 at h
  split at h
  · rename_i j d hj hd
    simp only [Bool.and_eq_true, beq_iff_eq] at h
    obtain ⟨⟨⟨⟨⟨h1, h2⟩, h3⟩, h4⟩, h5⟩, h6⟩ := h
    split at h1
    · rename_i z hz
      have hzz : z = (match i.agg with | true => .agg i.zs.toArray | false => i.zs.headD undef) ∧ (i.agg = false → ∃ v, i.zs = [v] ∧ one1 v = true) := by
        unfold chkZ at h1
        split at h1
        · rename_i cs hag
          rw [← eqZs_eq h1]
          exact ⟨by rw [hag], fun hh => by rw [hag] at hh; cases hh⟩
        · rename_i hag
          split at h1
          · rename_i y hy
            simp only [Bool.and_eq_true] at h1
            rw [eqZ_eq h1.1]
            exact ⟨by rw [hag, hy]; rfl, fun _ => ⟨y, hy, h1.2⟩⟩
          · cases h1
        · cases h1
      exact ⟨⟨j, hj, hz.trans (congrArg some hzz.1), Nat.eq_of_beq_eq_true h2⟩, hzz.2, h3, ⟨d, hd, h4, chkK_ok h5⟩, fun hq => by rw [hq] at h6; exact h6⟩
    · cases h1
  · cases h
theorem chkT_ok {P : Program} : ∀ {T : List (Nat × TI)}, chkT P T = true → ∀ t i, look t T = some i → TiOk P t i
  | [], _, t, i, hl => by cases hl
  | p :: r, h, t, i, hl => by
    simp only [chkT, Bool.and_eq_true] at h
    unfold look at hl
    cases hb : Nat.beq p.1 t with
    | true =>
      rw [hb] at hl
      cases hl
      cases Nat.eq_of_beq_eq_true hb
      exact chk1_ok h.1
    | false => rw [hb] at hl; exact chkT_ok h.2 t i hl
theorem chkR_ok {P : Program} : ∀ {R : List (Nat × List Nat)}, chkR P R = true → ∀ f ts, look f R = some ts → FnOk P f
  | [], _, t, i, hl => by cases hl
  | p :: r, h, t, i, hl => by
    simp only [chkR, Bool.and_eq_true] at h
    unfold look at hl
    cases hb : Nat.beq p.1 t with
    | true =>
      cases Nat.eq_of_beq_eq_true hb
      have h1 := h.1
      split at h1
      · rename_i fn hfn
        simp only [Bool.and_eq_true, Bool.not_eq_true'] at h1
        exact ⟨fn, hfn, h1.1, h1.2⟩
      · cases h1
    | false => rw [hb] at hl; exact chkR_ok h.2 t i hl
end Go.Proofs.Ytibhpoikhkokiaa.Hw

/- The types and functions of this translation, for the evaluator. Written by a program of this session. -/
set_option linter.unusedVariables false
set_option maxRecDepth 100000
namespace Go.Proofs.Ytibhpoikhkokiaa.Hw
open Go Go.Proofs
def tT : List (Nat × TI) := [
  (3, ⟨false, [(.int .i64 0)], .scalar, false⟩),
  (4, ⟨false, [(.bool false)], .scalar, false⟩),
  (5, ⟨false, [(.int .u8 0)], .scalar, false⟩),
  (9, ⟨false, [(.string ByteArray.empty)], .string, false⟩),
  (22, ⟨false, [(.slice none 0 0)], .slice 26 1 24, false⟩),
  (24, ⟨false, [(.slice none 0 0)], .slice 29 5 40, false⟩),
  (25, ⟨false, [(.slice none 0 0)], .slice 3 1 8, false⟩),
  (26, ⟨false, [(.slice none 0 0)], .slice 32 2 2, false⟩),
  (27, ⟨false, [(.int .i64 0)], .scalar, false⟩),
  (29, ⟨true, [(.int .i64 0), (.int .i64 0), (.int .i64 0), (.int .i64 0), (.int .i64 0)], .struct [(0, 1, false), (1, 1, false), (2, 1, false), (3, 1, false), (4, 1, false)], true⟩),
  (32, ⟨true, [(.int .u8 0), (.bool false)], .struct [(0, 1, false), (1, 1, false)], false⟩),
  (35, ⟨false, [(.int .i64 0)], .scalar, false⟩),
  (40, ⟨false, [(.slice none 0 0)], .slice 9 1 16, false⟩),
  (44, ⟨false, [(.slice none 0 0)], .slice 48 4 32, false⟩),
  (48, ⟨true, [(.int .i64 0), (.int .i64 0), (.int .i64 0), (.int .i64 0)], .struct [(0, 1, false), (1, 1, false), (2, 1, false), (3, 1, false)], true⟩),
  (56, ⟨false, [(.pointer none)], .scalar, false⟩),
  (61, ⟨false, [(.map none)], .map 3 4, false⟩),
  (62, ⟨false, [(.map none)], .map 3 3, false⟩),
  (63, ⟨false, [(.map none)], .map 3 25, false⟩),
  (64, ⟨false, [(.map none)], .map 89 3, false⟩),
  (66, ⟨true, [(.slice none 0 0), (.map none), (.map none), (.map none), (.map none)], .struct [(0, 1, false), (1, 1, false), (2, 1, false), (3, 1, false), (4, 1, false)], false⟩),
  (69, ⟨false, [.nilFunc], .scalar, false⟩),
  (72, ⟨false, [.nilFunc], .scalar, false⟩),
  (74, ⟨false, [(.map none)], .map 3 25, false⟩),
  (76, ⟨false, [.nilFunc], .scalar, false⟩),
  (78, ⟨false, [(.pointer none)], .scalar, false⟩),
  (79, ⟨false, [(.map none)], .map 3 100, false⟩),
  (80, ⟨false, [(.map none)], .map 89 4, false⟩),
  (82, ⟨true, [(.map none), (.map none), (.map none)], .struct [(0, 1, false), (1, 1, false), (2, 1, false)], false⟩),
  (84, ⟨false, [.nilFunc], .scalar, false⟩),
  (88, ⟨false, [(.map none)], .map 3 61, false⟩),
  (89, ⟨true, [(.int .i64 0), (.int .i64 0)], .array 2 1 false, true⟩),
  (93, ⟨false, [.nilFunc], .scalar, false⟩),
  (100, ⟨false, [(.pointer none)], .scalar, false⟩),
  (102, ⟨true, [(.bool false), (.bool false), (.int .i64 0)], .struct [(0, 1, false), (1, 1, false), (2, 1, false)], false⟩),
  (105, ⟨false, [.nilFunc], .scalar, false⟩),
  (110, ⟨false, [(.int .u64 0)], .scalar, false⟩),
  (117, ⟨false, [(.int .i64 0)], .scalar, false⟩),
  (124, ⟨false, [(.int .u32 0)], .scalar, false⟩),
  (126, ⟨false, [(.int .u64 0)], .scalar, false⟩),
  (132, ⟨false, [(.int .u64 0)], .scalar, false⟩),
  (136, ⟨false, [(.pointer none)], .scalar, false⟩),
  (140, ⟨false, [(.pointer none)], .scalar, false⟩)]
def tR : List (Nat × List Nat) := [(3, [4]), (4, [4]), (5, [29]), (6, [29]), (7, [29]), (8, [29]), (9, [25, 4, 35]), (10, [4, 35]), (11, [4, 35]), (12, [40, 35]), (13, [4]), (14, [44, 35]), (15, [25, 35]), (16, [4, 35]), (17, [24, 35]), (18, [4]), (19, [56]), (20, [4, 4]), (21, [44]), (22, [25]), (23, [69]), (24, [4]), (25, [4]), (26, [4]), (27, [74]), (28, [4]), (29, [4]), (30, [4]), (31, [4]), (32, [4]), (33, [4]), (34, [4]), (35, [4]), (36, [4]), (37, [69]), (38, [25]), (39, [4]), (40, [4]), (41, [4]), (42, [4]), (43, []), (44, [3]), (45, []), (46, [3]), (47, [44]), (48, [25]), (49, []), (50, []), (51, [3]), (52, [4]), (53, [61]), (54, [4]), (55, [4]), (56, [3]), (57, [4]), (58, []), (59, [4]), (60, []), (61, [4]), (62, [3]), (63, []), (64, [3]), (65, [3]), (66, [3]), (68, []), (69, [3]), (70, [4]), (71, []), (72, []), (73, []), (74, [3, 117]), (75, []), (76, [4]), (77, [3]), (78, [3, 4]), (79, [3]), (80, [3]), (81, [4]), (82, []), (83, []), (84, []), (85, [3, 117]), (86, []), (87, [4]), (88, [4]), (89, [3]), (90, [3, 4]), (91, [3]), (92, [4]), (93, []), (94, [110]), (95, [126]), (96, [3]), (97, [3]), (98, []), (99, [3]), (100, [3]), (101, [4]), (102, [3, 3]), (103, [3, 3])]
def tO : List Nat := []
theorem tO_ok : ∀ g, elemN g tO = true → OverOk Try.prog g := fun g h => by
  cases h
theorem tT_ok : chkT Try.prog tT = true := by kernel_rfl
theorem tR_ok : chkR Try.prog tR = true := by kernel_rfl
theorem mixed : Try.prog.follows .mixedOrders = true := by kernel_rfl
noncomputable def cx (n : Nat) (virt : List (Nat × Bool)) (loops : List (Nat × LD)) (perms : List (Nat × OT)) (nexts : List (Nat × (Value × Value))) : Cx := ⟨Try.prog, tT, tR, n, virt, loops, perms, nexts, tO⟩
theorem cxOk (n : Nat) (virt : List (Nat × Bool)) (loops : List (Nat × LD)) (perms : List (Nat × OT)) (nexts : List (Nat × (Value × Value))) : CxOk (cx n virt loops perms nexts) := ⟨chkT_ok tT_ok, ⟨chkR_ok tR_ok, tO_ok⟩, mixed⟩
end Go.Proofs.Ytibhpoikhkokiaa.Hw

