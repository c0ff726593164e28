/- HwCode HwTab HwFa (joined by merge.py) -/
import Derived.Test.YtibhpoikhkokiaaGreatFts2
import Derived.Deep.LoopGhost
import Derived.Test.YtibhpoikhkokiaaGreatProg
import Derived.KernelRfl
/- The evaluator is sound for code: what it says of a function's body holds of a call. -/
set_option linter.unusedVariables false
set_option linter.unusedSimpArgs false
namespace Go.Proofs.YtibhpoikhkokiaaGreat.Hw
open Go

section
variable {c : Cx} {H0 : Hp} {w0 : World} {β : Nat → Nat} {e : Env} {V : VSt} {H : Hp} {a : Act} {w : World}
def Xt.toExit : Xt → Exit
  | .normal => .normal
  | .exit id => .exit id
  | .ret => .ret

theorem getSh_some {s : Sh} {v : Value} {K : s.T → Prop} (h : getSh s v K) : ∃ x, s.enc x = v ∧ K x := by
  unfold getSh at h
  split at h
  · split at h
    · rename_i hk
      cases sameK_eq hk
      exact ⟨_, rfl, h⟩
    · exact h.elim
  all_goals first
    | exact ⟨_, rfl, h⟩
    | exact h.elim
theorem getL_some : ∀ {l : List Sh} {vs : List Value} {K : ShT l → Prop}, getL l vs K → ∃ x, encL l x = vs ∧ K x
  | [], [], K, h => ⟨(), rfl, h⟩
  | s :: r, v :: vs, K, h => by
    obtain ⟨x, h1, h⟩ := getSh_some h
    obtain ⟨y, h2, h⟩ := getL_some h
    exact ⟨(x, y), by simp [encL, h1, h2], h⟩
theorem getVals_some : ∀ {l : List (Nat × Sh)} {K : ShT (valsT l) → Prop}, getVals l e K → ∃ x, (∀ (e1 : Env) t av, encVals l x e1 t = some av → e t = some av ∨ e1 t = some av) ∧ K x
  | [], K, h => ⟨(), fun e1 t av ht => .inr ht, h⟩
  | p :: r, K, h => by
    obtain ⟨v, hv, h⟩ := onV_some h
    obtain ⟨x, hx, h⟩ := getSh_some h
    obtain ⟨y, hy, h⟩ := getVals_some h
    refine ⟨(x, y), fun e1 t av ht => ?_, h⟩
    rcases upd_some ht with ⟨rfl, rfl⟩ | ⟨_, ht⟩
    · left; rw [hv]; exact congrArg (fun z => some (AV.v z)) hx.symm
    · exact hy e1 t av ht
theorem getBoxes_some : ∀ {l : List (Nat × List Sh)} {K : BoxT l → Prop}, getBoxes l V K → ∃ x, (∀ (V1 : VSt) k cs, encBoxes l x V1 k = some cs → V k = some cs ∨ V1 k = some cs) ∧ K x
  | [], K, h => ⟨(), fun V1 k cs hk => .inr hk, h⟩
  | p :: r, K, h => by
    unfold getBoxes at h
    split at h
    · rename_i cs hV
      obtain ⟨x, hx, h⟩ := getL_some h
      obtain ⟨y, hy, h⟩ := getBoxes_some h
      refine ⟨(x, y), fun V1 k cs' hk => ?_, h⟩
      rcases upd_some hk with ⟨h1, h2⟩ | ⟨_, hk⟩
      · left; rw [h1, hV, ← h2, hx]
      · exact hy V1 k cs' hk
    · exact h.elim
/-- Less is known. -/
theorem Sim.less (S : Sim c.n H0 w0 β e V H a w) {e1 : Env} {V1 : VSt} (he : ∀ t av, e1 t = some av → e t = some av) (hv : ∀ k x, V1 k = some x → V k = some x) : Sim c.n H0 w0 β e1 V1 H a w := by
  have hn : ∀ k, V1 k ≠ none → V k ≠ none := fun k hk => by
    cases h : V1 k with
    | none => exact absurd h hk
    | some x => rw [hv k x h]; simp
  exact { S with env := fun t av ht => S.env t av (he t av ht), box := fun k x hk => S.box k x (hv k x hk), inj := fun k k' hk hk' hb => S.inj k k' (hn k hk) (hn k' hk') hb }
theorem restr_some {α : Type} {l : List Nat} {e : Nat → Option α} {t : Nat} {x : α} (h : restr l e t = some x) : elemN t l = true ∧ e t = some x := by
  unfold restr at h
  cases he : elemN t l with
  | true => rw [he] at h; exact ⟨rfl, h⟩
  | false => rw [he] at h; cases h
theorem mapE_eq {α : Type} {e e' : Nat → Option α} : ∀ {l : List Nat}, mapE e' l = mapE e l → ∀ t, elemN t l = true → e' t = e t
  | [], _, t, h => by cases h
  | x :: r, h, t, ht => by
    simp only [mapE, List.cons.injEq] at h
    unfold elemN at ht
    cases hb : Nat.beq x t with
    | true => cases Nat.eq_of_beq_eq_true hb; exact h.1
    | false => rw [hb] at ht; exact mapE_eq h.2 t ht

theorem wp_loop_any {P : Program} {code : Code} {Q : Exit → Act → World → Prop} (R : Nat → Act → World → Prop) (h0 : ∃ n, R n a w)
    (round : ∀ n a w, R n a w → code.wp P (Exit.then (fun a' w' => ∃ m, m < n ∧ R m a' w') Q) a w) : (Code.loop code).wp P Q a w := by
  obtain ⟨n0, h0⟩ := h0
  exact wp_loop_ghost R n0 h0 round

theorem wv_sound (hc : CxOk c) : ∀ (code : Code) {Q : Xt → Env → VSt → Hp → Prop} {Qm : Exit → Act → World → Prop} (hq : ∀ x a w, St c H0 w0 (Q x) a w → Qm x.toExit a w) {β : Nat → Nat} {e : Env} {V : VSt} {H : Hp} {a : Act} {w : World},
    wv c code Q e V H → Sim c.n H0 w0 β e V H a w → code.wp c.P Qm a w := by
  intro code
  induction code with
  | skip => intro Q Qm hq β e V H a w h S; exact wp_skip (hq .normal a w ⟨β, e, V, H, h, S⟩)
  | label l => intro Q Qm hq β e V H a w h S; exact wp_label (hq .normal a w ⟨β, e, V, H, h, S⟩)
  | region id ops draw =>
    intro Q Qm hq β e V H a w h S
    cases draw with
    | false =>
      refine wp_region_list ?_
      exact wOps_sound hc (ops := ops.toList) (hq .normal) h S
    | true =>
      simp only [wv] at h
      split at h
      · split at h
        · rename_i p hp ho
          exact wOpsD_sound hc (ops := ops) ho (hq .normal) h S
        · exact h.elim
      · exact h.elim
  | seq x y ihx ihy =>
    intro Q Qm hq β e V H a w h S
    refine wp_seq (ihx (Qm := Exit.then (y.wp c.P Qm) Qm) ?_ h S)
    rintro x1 a1 w1 ⟨β1, e1, V1, H1, hk, S1⟩
    cases x1 with
    | normal => exact ihy hq hk S1
    | exit id => exact hq (.exit id) a1 w1 ⟨β1, e1, V1, H1, hk, S1⟩
    | ret => exact hq .ret a1 w1 ⟨β1, e1, V1, H1, hk, S1⟩
  | cond x y z ihy ihz =>
    intro Q Qm hq β e V H a w h S
    obtain ⟨v, hv, h⟩ := onV_some h
    split at h
    · rename_i t
      have he := ev_evalV S.env hv
      cases t with
      | true => exact wp_cond he (by simpa using ihy hq h S)
      | false => exact wp_cond he (by simpa using ihz hq h S)
    · exact h.elim
  | block id x ih =>
    intro Q Qm hq β e V H a w h S
    refine wp_block (ih (Qm := Exit.inBlock id Qm) ?_ h S)
    rintro x1 a1 w1 ⟨β1, e1, V1, H1, hk, S1⟩
    cases x1 with
    | normal => exact hq .normal a1 w1 ⟨β1, e1, V1, H1, hk, S1⟩
    | exit i =>
      simp only at hk
      cases hb : Nat.beq i id with
      | true =>
        rw [hb] at hk
        cases Nat.eq_of_beq_eq_true hb
        simp only [Xt.toExit, Exit.inBlock, if_true]
        exact hq .normal a1 w1 ⟨β1, e1, V1, H1, hk, S1⟩
      | false =>
        rw [hb] at hk
        have hne : i ≠ id := fun hh => by subst hh; simp at hb
        simp only [Xt.toExit, Exit.inBlock, hne, if_false]
        exact hq (.exit i) a1 w1 ⟨β1, e1, V1, H1, hk, S1⟩
    | ret => exact hq .ret a1 w1 ⟨β1, e1, V1, H1, hk, S1⟩
  | loop x ih =>
    intro Q Qm hq β e V H a w h S
    simp only [wv] at h
    split at h
    · rename_i k hkey
      split at h
      · rename_i d hd
        obtain ⟨x0, hx0, h⟩ := getVals_some h
        obtain ⟨y0, hy0, h⟩ := getBoxes_some h
        obtain ⟨J, ⟨n0, hJ⟩, hround⟩ := h
        refine wp_loop_any (fun n a w => ∃ s H' β', J n s H' ∧ Sim c.n H0 w0 β' (encVals d.vals s.1 (restr d.keep e)) (encBoxes d.boxes s.2 (restr d.kb V)) H' a w) ⟨n0, (x0, y0), H, β, hJ, S.less ?_ ?_⟩ ?_
        · intro t av ht
          rcases hx0 _ t av ht with h1 | h1
          · exact h1
          · exact (restr_some h1).2
        · intro k' cs hk'
          rcases hy0 _ k' cs hk' with h1 | h1
          · exact h1
          · exact (restr_some h1).2
        · rintro n a1 w1 ⟨s, H', β', hJ1, S1⟩
          refine ih (Qm := Exit.then (fun a' w' => ∃ m, m < n ∧ ∃ s H' β', J m s H' ∧ Sim c.n H0 w0 β' (encVals d.vals s.1 (restr d.keep e)) (encBoxes d.boxes s.2 (restr d.kb V)) H' a' w') Qm) ?_ (hround n s H' hJ1) S1
          rintro x1 a2 w2 ⟨β2, e2, V2, H2, hk, S2⟩
          cases x1 with
          | normal =>
            obtain ⟨x', hx', hk⟩ := getVals_some hk
            obtain ⟨y', hy', hk⟩ := getBoxes_some hk
            obtain ⟨heq, m, hm, hJ2⟩ := hk
            simp only [Prod.mk.injEq] at heq
            refine ⟨m, hm, (x', y'), H2, β2, hJ2, S2.less ?_ ?_⟩
            · intro t av ht
              rcases hx' _ t av ht with h1 | h1
              · exact h1
              · obtain ⟨h2, h3⟩ := restr_some h1
                rw [mapE_eq heq.1 t h2]; exact h3
            · intro k' cs hk'
              rcases hy' _ k' cs hk' with h1 | h1
              · exact h1
              · obtain ⟨h2, h3⟩ := restr_some h1
                rw [mapE_eq heq.2 k' h2]; exact h3
          | exit i => exact hq (.exit i) a2 w2 ⟨β2, e2, V2, H2, hk, S2⟩
          | ret => exact hq .ret a2 w2 ⟨β2, e2, V2, H2, hk, S2⟩
      · exact h.elim
    · exact h.elim
  | exit id => intro Q Qm hq β e V H a w h S; exact wp_exit (hq (.exit id) a w ⟨β, e, V, H, h, S⟩)
  | ret => intro Q Qm hq β e V H a w h S; exact wp_ret (hq .ret a w ⟨β, e, V, H, h, S⟩)
  | _ => intro Q Qm hq β e V H a w h S; exact h.elim

def resOne (tmps : Array Value) : ResultVar → Sem Value
  | .tmp t => pure (tmps.getD t undef)
  | .cell a t => do loadVar t (← asAddr (tmps.getD a undef))
theorem resF_run (hc : CxOk c) (S : Sim c.n H0 w0 β e V H a w) : ∀ {rs : List ResultVar} {K : List Value → Prop}, resF rs c.T e V K → ∃ vs, (rs.mapM (resOne a.tmps)).run c.P w = .ok vs w ∧ K vs
  | [], K, h => ⟨[], by simp, h⟩
  | .tmp t :: r, K, h => by
    obtain ⟨v, hv, h⟩ := onV_some h
    obtain ⟨vs, hr, h⟩ := resF_run hc S h
    refine ⟨v :: vs, ?_, h⟩
    have h1 := S.env t _ hv
    simp only [List.mapM_cons, resOne, Sem.run_bind, Sem.run_pure, Result.andThen_ok, hr, h1]
    rfl
  | .cell t ty :: r, K, h => by
    obtain ⟨i, hi, h⟩ := onTI_some h
    obtain ⟨av, hav, h⟩ := onAV_some h
    split at h
    · rename_i k
      split at h
      · rename_i x hV
        split at h
        · rename_i hl
          have hl' := Nat.eq_of_beq_eq_true hl
          obtain ⟨v, hv, h⟩ := mkV_some h
          obtain ⟨vs, hr, h⟩ := resF_run hc S h
          refine ⟨v :: vs, ?_, h⟩
          obtain ⟨⟨ty', h1⟩, h2, h3⟩ := S.box k x hV
          have hrun := run_loadVar_ok (P := c.P) (w := w) (hc.1 ty i hi) (b := β k) (o := 0) (vs := x.2) hl' (fun j u hj => by rw [Nat.zero_add, cl_of w h1]; exact hj) hv
          have h4 := S.env t _ hav
          simp only [List.mapM_cons, resOne, Sem.run_bind, h4, AV.conc, asAddr, Sem.run_pure, Result.andThen_ok, hrun, hr]
        · exact h.elim
      · exact h.elim
    · exact h.elim
theorem results_run {fn : Func} {tmps : Array Value} {P : Program} {w : World} {vs : List Value} (h : (fn.results.toList.mapM (resOne tmps)).run P w = .ok vs w) : ∃ v, (results fn tmps).run P w = .ok v w ∧ ∀ K : Value → Prop, resV vs K → K v := by
  have hm : (fn.results.mapM (resOne tmps)).run P w = .ok vs.toArray w := by
    rw [Array.mapM_eq_mapM_toList, Sem.run_map, h]
    rfl
  have he : results fn tmps = (do
      let vs ← fn.results.mapM (resOne tmps)
      pure (if h : vs.size = 1 then vs[0] else .tuple vs)) := by
    unfold results
    have h0 : (resOne tmps) = (fun x => match x with | .tmp t => pure (tmps.getD t undef) | .cell a t => (do loadVar t (← asAddr (tmps.getD a undef)) : Sem Value)) := by
      funext x
      cases x <;> rfl
    rw [h0]
    rfl
  refine ⟨if h : vs.toArray.size = 1 then vs.toArray[0] else .tuple vs.toArray, ?_, fun K hk => ?_⟩
  · rw [he, Sem.run_bind, hm]
    try rfl
  · match vs, hk with
    | [], hk => exact hk
    | [v], hk => exact hk
    | v :: u :: r, hk =>
      rw [dif_neg (by simp)]
      exact hk

theorem hcalls_of (hc : CxOk c) {f : FuncId} {fn : Func} (hf : c.P.funcs[f]? = some fn) {args : List Value} {H : Hp} {Q : Value → Hp → Prop} (h : wFun c fn args H Q) : HCalls c.P f args H Q := by
  intro w hw
  unfold wFun at h
  split at h
  · rename_i code hcode
    split at h
    · rename_i hn hle
      have hn' := Nat.eq_of_beq_eq_true hn
      have hle' := Nat.le_of_ble_eq_true hle
      refine calls_of_wp hf hcode ?_
      have S : Sim c.n H w (fun _ => 0) (env0 args) (fun _ => none) H { tmps := args.toArray ++ Array.replicate (fn.ntmps - args.toArray.size) undef, defers := [] } w := by
        refine ⟨by simp; omega, ?_, fun k x hk => (by cases hk), fun k k' hk => absurd rfl hk, hw, rfl, ⟨rfl, rfl, rfl, Nat.le_refl _, fun _ _ _ => rfl⟩, fun b hb => .inl hb⟩
        intro t av ht
        unfold env0 at ht
        split at ht
        · rename_i v hv
          cases ht
          have hlt : t < args.length := (List.getElem?_eq_some_iff.1 hv).1
          rw [Array.getD_eq_getD_getElem?]
          have h1 : (args.toArray ++ Array.replicate (fn.ntmps - args.toArray.size) undef)[t]? = some v := by
            rw [Array.getElem?_append_left (by simpa using hlt)]
            simpa using hv
          rw [h1]
          rfl
        · cases ht
      refine wv_sound hc code (Qm := bodyPost c.P fn _) ?_ h S
      rintro x a1 w1 ⟨β1, e1, V1, H1, hk, S1⟩
      cases x with
      | normal =>
        obtain ⟨vs, hr, hk⟩ := resF_run hc S1 hk
        obtain ⟨v, h1, h2⟩ := results_run hr
        exact ⟨S1.defers, v, h1, v, H1, rfl, h2 (fun v => Q v H1) hk, S1.has, S1.fr, S1.new⟩
      | ret =>
        obtain ⟨vs, hr, hk⟩ := resF_run hc S1 hk
        obtain ⟨v, h1, h2⟩ := results_run hr
        exact ⟨S1.defers, v, h1, v, H1, rfl, h2 (fun v => Q v H1) hk, S1.has, S1.fr, S1.new⟩
      | exit id => exact hk.elim
    · exact h.elim
  · exact h.elim
/-- What a call makes true may be weakened. -/
theorem HCalls.mono {P : Program} {f : FuncId} {args : List Value} {H : Hp} {Q Q' : Value → Hp → Prop} (h : HCalls P f args H Q) (hq : ∀ v H', Q v H' → Q' v H') : HCalls P f args H Q' := fun w hw =>
  Calls.mono (h w hw) fun _ _ ⟨v, H', h1, h2, h3⟩ => ⟨v, H', h1, hq v H' h2, h3⟩
end

/-! The tables of a translation are held against it by a reckoning. -/
def eqZ : Value → Value → Bool
  | .int k a, .int k' b => sameK k k' && (a == b)
  | .bool a, .bool b => a == b
  | .string a, .string b => a.data.toList.isEmpty && b.data.toList.isEmpty
  | .slice none 0 0, .slice none 0 0 => true
  | .pointer none, .pointer none => true
  | .map none, .map none => true
  | .nilFunc, .nilFunc => true
  | .nilIface, .nilIface => true
  | _, _ => false
def eqZs : List Value → List Value → Bool
  | [], [] => true
  | a :: x, b :: y => eqZ a b && eqZs x y
  | _, _ => false
def chkZ (z : Value) (i : TI) : Bool := match i.agg, z with
  | true, .agg cs => eqZs cs.toList i.zs
  | false, z => (match i.zs with | [y] => eqZ z y && one1 y | _ => false)
  | true, _ => false
def chkF (P : Program) : List Field → List (Nat × Nat × Bool) → Bool
  | [], [] => true
  | f :: r, x :: s => Nat.beq f.offset x.1 && (match P.info? f.type, P.underlying f.type with | some j, some d => Nat.beq j.size x.2.1 && (isAggD d == x.2.2) | _, _ => false) && chkF P r s
  | _, _ => false
def chkK (P : Program) (d : TypeDesc) (zs : List Value) : Kn → Bool
  | .scalar => (match zs, d with | [.bool _], .bool => true | [.bool _], _ => false | [.int k _], .int k' => sameK k k' | [.int _ _], _ => false | [.pointer _], .pointer _ => true | [.pointer _], _ => false | _, _ => true)
  | .slice el esz eby => (match d with
    | .slice e => Nat.beq e el && (match P.info? el with | some j => Nat.beq j.size esz && Nat.beq j.bytes eby && (match j.zero with | some z => Nat.beq z.cells.size esz | none => false) | none => false)
    | _ => false)
  | .array len esz eagg => (match d with
    | .array n e => Nat.beq n len && (match P.info? e, P.underlying e with | some j, some du => Nat.beq j.size esz && (isAggD du == eagg) | _, _ => false)
    | _ => false)
  | .struct fs => (match d with | .struct flds => chkF P flds.toList fs | _ => false)
  | .string => (match d with | .string => true | _ => false)
  | .map k v => (match d with | .map k' v' => Nat.beq k' k && Nat.beq v' v | _ => false)
def chk1 (P : Program) (t : Nat) (i : TI) : Bool := match P.info? t, P.underlying t with
  | some j, some d => (match j.zero with | some z => chkZ z i | none => false) && Nat.beq j.size i.zs.length && allOne i.zs && (isAggD d == i.agg) && chkK P d i.zs i.kn && (match i.eqs with | true => eqOk P t i.zs | false => true)
  | _, _ => false
def chkT (P : Program) : List (Nat × TI) → Bool
  | [] => true
  | p :: r => chk1 P p.1 p.2 && chkT P r
def chkR (P : Program) : List (Nat × List Nat) → Bool
  | [] => true
  | p :: r => (match P.funcs[p.1]? with | some fn => !(fn.name == "runtime.NumGoroutine") && !fn.body.isNone | none => false) && chkR P r

theorem eqZ_eq {a b : Value} (h : eqZ a b = true) : a = b := by
  unfold eqZ at h
  split at h
  · simp only [Bool.and_eq_true, beq_iff_eq] at h
    rw [sameK_eq h.1, h.2]
  · rw [beq_iff_eq] at h; rw [h]
  · rename_i a b
    simp only [Bool.and_eq_true, List.isEmpty_iff] at h
    have h1 : a = b := by
      have h2 : a.data = b.data := Array.ext' (h.1.trans h.2.symm)
      cases a; cases b; simp only at h2; rw [h2]
    rw [h1]
  all_goals first
    | rfl
    | cases h
theorem eqZs_eq : ∀ {x y : List Value}, eqZs x y = true → x = y
  | [], [], _ => rfl
  | a :: x, b :: y, h => by
    simp only [eqZs, Bool.and_eq_true] at h
    rw [eqZ_eq h.1, eqZs_eq h.2]
  | [], _ :: _, h => by cases h
  | _ :: _, [], h => by cases h
theorem chkF_ok {P : Program} : ∀ {l : List Field} {fs : List (Nat × Nat × Bool)}, chkF P l fs = true → fieldsOk P l fs
  | [], [], _ => trivial
  | f :: r, x :: s, h => by
    simp only [chkF, Bool.and_eq_true] at h
    obtain ⟨⟨h1, h2⟩, h3⟩ := h
    refine ⟨⟨Nat.eq_of_beq_eq_true h1, ?_⟩, chkF_ok h3⟩
    split at h2
    · rename_i j d hj hd
      simp only [Bool.and_eq_true, beq_iff_eq] at h2
      exact ⟨j, d, hj, Nat.eq_of_beq_eq_true h2.1, hd, h2.2⟩
    · cases h2
  | [], _ :: _, h => by cases h
  | _ :: _, [], h => by cases h
theorem chkK_ok {P : Program} {d : TypeDesc} {zs : List Value} {k : Kn} (h : chkK P d zs k = true) : knOk P d zs k := by
  cases k with
  | scalar =>
    cases zs with
    | nil => trivial
    | cons z r =>
      cases r with
      | cons _ _ => cases z <;> trivial
      | nil =>
        cases z with
        | bool x => cases d <;> first | rfl | cases h
        | int k x =>
          cases d with
          | int k' =>
            have h' : sameK k k' = true := h
            rw [sameK_eq h']
            rfl
          | _ => cases h
        | pointer x =>
          cases d with
          | pointer e => exact ⟨e, rfl⟩
          | _ => cases h
        | _ => trivial
  | slice el esz eby =>
    simp only [chkK] at h
    split at h
    · rename_i e
      simp only [Bool.and_eq_true] at h
      obtain ⟨h1, h2⟩ := h
      cases Nat.eq_of_beq_eq_true h1
      split at h2
      · rename_i j hj
        simp only [Bool.and_eq_true] at h2
        obtain ⟨⟨a1, a2⟩, a3⟩ := h2
        split at a3
        · rename_i z hz
          exact ⟨rfl, j, z, hj, Nat.eq_of_beq_eq_true a1, Nat.eq_of_beq_eq_true a2, hz, Nat.eq_of_beq_eq_true a3⟩
        · cases a3
      · cases h2
    · cases h
  | array len esz eagg =>
    simp only [chkK] at h
    split at h
    · rename_i n e
      simp only [Bool.and_eq_true] at h
      obtain ⟨h1, h2⟩ := h
      cases Nat.eq_of_beq_eq_true h1
      split at h2
      · rename_i j du hj hdu
        simp only [Bool.and_eq_true, beq_iff_eq] at h2
        exact ⟨e, j, du, rfl, hj, Nat.eq_of_beq_eq_true h2.1, hdu, h2.2⟩
      · cases h2
    · cases h
  | struct fs =>
    simp only [chkK] at h
    split at h
    · exact ⟨_, rfl, chkF_ok h⟩
    · cases h
  | string =>
    simp only [chkK] at h
    split at h
    · rfl
    · cases h
  | map k v =>
    simp only [chkK] at h
    split at h
    · simp only [Bool.and_eq_true] at h
      cases Nat.eq_of_beq_eq_true h.1
      cases Nat.eq_of_beq_eq_true h.2
      rfl
    · cases h
theorem chk1_ok {P : Program} {t : Nat} {i : TI} (h : chk1 P t i = true) : TiOk P t i := by
  unfold chk1 at h
  split at h
  · rename_i j d hj hd
    simp only [Bool.and_eq_true, beq_iff_eq] at h
    obtain ⟨⟨⟨⟨⟨h1, h2⟩, h3⟩, h4⟩, h5⟩, h6⟩ := h
    split at h1
    · rename_i z hz
      have hzz : z = (match i.agg with | true => .agg i.zs.toArray | false => i.zs.headD undef) ∧ (i.agg = false → ∃ v, i.zs = [v] ∧ one1 v = true) := by
        unfold chkZ at h1
        split at h1
        · rename_i cs hag
          rw [← eqZs_eq h1]
          exact ⟨by rw [hag], fun hh => by rw [hag] at hh; cases hh⟩
        · rename_i hag
          split at h1
          · rename_i y hy
            simp only [Bool.and_eq_true] at h1
            rw [eqZ_eq h1.1]
            exact ⟨by rw [hag, hy]; rfl, fun _ => ⟨y, hy, h1.2⟩⟩
          · cases h1
        · cases h1
      exact ⟨⟨j, hj, hz.trans (congrArg some hzz.1), Nat.eq_of_beq_eq_true h2⟩, hzz.2, h3, ⟨d, hd, h4, chkK_ok h5⟩, fun hq => by rw [hq] at h6; exact h6⟩
    · cases h1
  · cases h
theorem chkT_ok {P : Program} : ∀ {T : List (Nat × TI)}, chkT P T = true → ∀ t i, look t T = some i → TiOk P t i
  | [], _, t, i, hl => by cases hl
  | p :: r, h, t, i, hl => by
    simp only [chkT, Bool.and_eq_true] at h
    unfold look at hl
    cases hb : Nat.beq p.1 t with
    | true =>
      rw [hb] at hl
      cases hl
      cases Nat.eq_of_beq_eq_true hb
      exact chk1_ok h.1
    | false => rw [hb] at hl; exact chkT_ok h.2 t i hl
theorem chkR_ok {P : Program} : ∀ {R : List (Nat × List Nat)}, chkR P R = true → ∀ f ts, look f R = some ts → FnOk P f
  | [], _, t, i, hl => by cases hl
  | p :: r, h, t, i, hl => by
    simp only [chkR, Bool.and_eq_true] at h
    unfold look at hl
    cases hb : Nat.beq p.1 t with
    | true =>
      cases Nat.eq_of_beq_eq_true hb
      have h1 := h.1
      split at h1
      · rename_i fn hfn
        simp only [Bool.and_eq_true, Bool.not_eq_true'] at h1
        exact ⟨fn, hfn, h1.1, h1.2⟩
      · cases h1
    | false => rw [hb] at hl; exact chkR_ok h.2 t i hl
end Go.Proofs.YtibhpoikhkokiaaGreat.Hw

/- The types and functions of this translation, for the evaluator. Written by a program of this session. -/
set_option linter.unusedVariables false
set_option maxRecDepth 100000
namespace Go.Proofs.YtibhpoikhkokiaaGreat.Hw
open Go Go.Proofs
def tT : List (Nat × TI) := [
  (3, ⟨false, [(.int .i64 0)], .scalar, false⟩),
  (4, ⟨false, [(.bool false)], .scalar, false⟩),
  (5, ⟨false, [(.int .u8 0)], .scalar, false⟩),
  (9, ⟨false, [(.string ByteArray.empty)], .string, false⟩),
  (22, ⟨false, [(.slice none 0 0)], .slice 35 5 40, false⟩),
  (23, ⟨false, [(.slice none 0 0)], .slice 3 1 8, false⟩),
  (26, ⟨false, [(.int .i64 0)], .scalar, false⟩),
  (29, ⟨false, [(.slice none 0 0)], .slice 9 1 16, false⟩),
  (33, ⟨false, [(.int .i64 0)], .scalar, false⟩),
  (35, ⟨true, [(.int .i64 0), (.int .i64 0), (.int .i64 0), (.int .i64 0), (.int .i64 0)], .struct [(0, 1, false), (1, 1, false), (2, 1, false), (3, 1, false), (4, 1, false)], true⟩),
  (39, ⟨false, [(.slice none 0 0)], .slice 52 4 32, false⟩),
  (52, ⟨true, [(.int .i64 0), (.int .i64 0), (.int .i64 0), (.int .i64 0)], .struct [(0, 1, false), (1, 1, false), (2, 1, false), (3, 1, false)], true⟩),
  (56, ⟨false, [(.pointer none)], .scalar, false⟩),
  (58, ⟨false, [(.map none)], .map 3 3, false⟩),
  (59, ⟨false, [(.map none)], .map 3 23, false⟩),
  (60, ⟨false, [(.map none)], .map 99 3, false⟩),
  (62, ⟨true, [(.slice none 0 0), (.map none), (.map none), (.map none), (.map none)], .struct [(0, 1, false), (1, 1, false), (2, 1, false), (3, 1, false), (4, 1, false)], false⟩),
  (63, ⟨false, [.nilFunc], .scalar, false⟩),
  (69, ⟨false, [(.map none)], .map 3 23, false⟩),
  (72, ⟨false, [(.pointer none)], .scalar, false⟩),
  (73, ⟨false, [(.map none)], .map 3 111, false⟩),
  (74, ⟨false, [(.map none)], .map 99 4, false⟩),
  (76, ⟨true, [(.map none), (.map none), (.map none)], .struct [(0, 1, false), (1, 1, false), (2, 1, false)], false⟩),
  (78, ⟨false, [.nilFunc], .scalar, false⟩),
  (79, ⟨false, [(.pointer none)], .scalar, false⟩),
  (81, ⟨false, [(.slice none 0 0)], .slice 84 4 40, false⟩),
  (84, ⟨true, [(.bool false), (.bool false), (.int .i64 0), (.slice none 0 0)], .struct [(0, 1, false), (1, 1, false), (2, 1, false), (3, 1, false)], false⟩),
  (88, ⟨false, [.nilFunc], .scalar, false⟩),
  (94, ⟨false, [(.map none)], .map 3 4, false⟩),
  (97, ⟨false, [.nilFunc], .scalar, false⟩),
  (98, ⟨false, [(.map none)], .map 3 94, false⟩),
  (99, ⟨true, [(.int .i64 0), (.int .i64 0)], .array 2 1 false, true⟩),
  (105, ⟨false, [.nilFunc], .scalar, false⟩),
  (111, ⟨false, [(.pointer none)], .scalar, false⟩),
  (113, ⟨true, [(.bool false), (.bool false), (.int .i64 0)], .struct [(0, 1, false), (1, 1, false), (2, 1, false)], false⟩),
  (116, ⟨false, [.nilFunc], .scalar, false⟩),
  (118, ⟨true, [(.slice none 0 0), (.slice none 0 0)], .struct [(0, 1, false), (1, 1, false)], false⟩),
  (122, ⟨false, [(.slice none 0 0)], .slice 23 1 24, false⟩),
  (127, ⟨false, [(.int .u64 0)], .scalar, false⟩),
  (134, ⟨false, [(.int .i64 0)], .scalar, false⟩),
  (141, ⟨false, [(.int .u32 0)], .scalar, false⟩),
  (143, ⟨false, [(.int .u64 0)], .scalar, false⟩),
  (149, ⟨false, [(.int .u64 0)], .scalar, false⟩),
  (153, ⟨false, [(.pointer none)], .scalar, false⟩),
  (157, ⟨false, [(.pointer none)], .scalar, false⟩)]
def tR : List (Nat × List Nat) := [(3, [4]), (4, [4]), (5, [4]), (6, [4]), (7, [4]), (8, [4]), (9, [4]), (10, [4]), (11, [4]), (12, [4, 26]), (13, [29, 26]), (14, [4]), (15, [4]), (16, [4, 26]), (17, [4, 26]), (18, [39, 26]), (19, [39, 26]), (20, [4]), (21, [4]), (22, [29, 26]), (23, [23, 26]), (24, [23, 26]), (25, [4]), (26, [4, 26]), (27, [4, 26]), (28, [4, 26]), (29, [23, 4, 26]), (30, [23, 4, 26]), (31, [22, 26]), (32, [22, 26]), (33, [4]), (34, [35]), (35, [35]), (36, [35]), (37, [35]), (38, [56]), (39, [4]), (40, [4]), (41, [4]), (42, [39]), (43, [4]), (44, [4, 4]), (45, [69]), (46, [4]), (47, [4]), (48, [4]), (49, [4]), (50, [4]), (51, [4]), (52, [4]), (53, [4]), (54, [79]), (55, [39]), (56, [4]), (57, [4]), (58, [4]), (59, [4]), (60, [4]), (61, [4]), (62, [23]), (63, [88]), (64, [23]), (65, [23]), (66, [23]), (67, [4]), (68, [88]), (69, [4]), (70, [4]), (71, [4]), (72, [3]), (73, []), (74, [4]), (75, [3]), (76, []), (77, [3]), (78, [39]), (79, []), (80, [4]), (81, [94]), (82, [4]), (83, [4]), (84, [3]), (85, [4]), (86, []), (87, [4]), (88, [23]), (89, [39]), (90, [4]), (91, [4]), (92, [23]), (93, []), (94, [23]), (95, [4]), (96, [4]), (97, []), (98, [3]), (99, [4]), (100, []), (101, [3]), (102, [3]), (103, [3]), (104, []), (105, [3]), (106, [4]), (108, [4]), (109, [4]), (110, [4]), (111, [3]), (112, [4]), (113, []), (114, []), (115, []), (116, [3, 134]), (117, []), (118, [4]), (119, [3]), (120, [3, 4]), (121, [3]), (122, [3]), (123, [4]), (124, []), (125, []), (126, []), (127, [3, 134]), (128, []), (129, [4]), (130, [4]), (131, [3]), (132, [3, 4]), (133, [4]), (134, [3]), (135, [4]), (136, []), (137, [127]), (138, [143]), (139, [3]), (140, [3])]
def tO : List Nat := []
theorem tO_ok : ∀ g, elemN g tO = true → OverOk Tryz.prog g := fun g h => by
  cases h
theorem tT_ok : chkT Tryz.prog tT = true := by kernel_rfl
theorem tR_ok : chkR Tryz.prog tR = true := by kernel_rfl
theorem mixed : Tryz.prog.follows .mixedOrders = true := by kernel_rfl
noncomputable def cx (n : Nat) (virt : List (Nat × Bool)) (loops : List (Nat × LD)) (perms : List (Nat × OT)) (nexts : List (Nat × (Value × Value))) : Cx := ⟨Tryz.prog, tT, tR, n, virt, loops, perms, nexts, tO⟩
theorem cxOk (n : Nat) (virt : List (Nat × Bool)) (loops : List (Nat × LD)) (perms : List (Nat × OT)) (nexts : List (Nat × (Value × Value))) : CxOk (cx n virt loops perms nexts) := ⟨chkT_ok tT_ok, ⟨chkR_ok tR_ok, tO_ok⟩, mixed⟩
end Go.Proofs.YtibhpoikhkokiaaGreat.Hw


/- What functions of the program come to, by the evaluator: printed by a program of this session (gen.py) and checked here. -/
set_option linter.unusedVariables false
set_option maxRecDepth 100000
namespace Go.Proofs.YtibhpoikhkokiaaGreat.Hw
open Go Go.Proofs

/-- justiciar justiciarlaw29.HistoryFitting -/
def f3 (pl_A : Option Addr) (pl_n pl_c : Nat) (psome_A : Option Addr) (psome_n psome_c : Nat) (H : Hp) (Q : Value → Hp → Prop) : Prop :=
  jn (fun (j4 : Bool) (H5 : Hp) => cnd j4 (HCalls Tryz.prog 11 [] H5 fun v7 H8 => ∃ x9 : Bool, v7 = .bool x9 ∧ Q (.bool x9) H8) (HCalls Tryz.prog 12 [.slice pl_A pl_n pl_c, .slice psome_A psome_n psome_c] H5 fun v10 H11 =>
    ∃ x12 : Bool, ∃ x13 : Int, v10 = .tuple #[.bool x12, .int .i64 x13] ∧ jn (fun (j14 : Bool) => cnd j14 (HCalls Tryz.prog 11 [] H11 fun v16 H17 => ∃ x18 : Bool, v16 = .bool x18 ∧ Q (.bool x18) H17) (HCalls Tryz.prog 13
    [.slice pl_A pl_n pl_c] H11 fun v19 H20 => ∃ (A21 : Option Addr) (n21 c21 : Nat), ∃ x22 : Int, v19 = .tuple #[.slice A21 n21 c21, .int .i64 x22] ∧ LoopF (σ := (Int × Unit) × Unit) ((0, ()), ()) H20 fun s23 H24 next25
    => cnd (decide ((s23.1.1 : Int) < ((n21 : Nat) : Int))) (0 ≤ (s23.1.1 : Int) ∧ (s23.1.1 : Int) < ((n21 : Nat) : Int) ∧ onPtr A21 fun b26 o26 => ∃ s27 : ByteArray, cl H24 b26 (o26 + (s23.1.1 : Int).toNat * 1) = some
    (.string s27) ∧ jn (fun (j28 : Bool) => cnd j28 (Q (.bool false) H24) (KeepX [some (.v (.int .i64 x22)), some (.v (.slice A21 n21 c21)), some (.v (.int .i64 ((n21 : Nat) : Int)))] [] ∧ next25 ((IntKind.i64.wrap
    (s23.1.1 + 1), ()), ()) H24)) fun J29 => cnd (!(s27.toList == ({ data := #[99, 105, 114, 99, 108, 101, 32, 114, 119] } : ByteArray).toList)) (J29 (!(s27.toList == ({ data := #[99, 105, 114, 99, 108, 101, 115, 32, 114,
    119] } : ByteArray).toList))) (J29 false)) (jn (fun (j33 : Bool) (H34 : Hp) => Q (.bool j33) H34) fun J35 => cnd ((x22 : Int) == 0) (HCalls Tryz.prog 11 [] H24 fun v30 H31 => ∃ x32 : Bool, v30 = .bool x32 ∧ J35 x32
    H31) (J35 false H24)))) fun J15 => cnd ((x13 : Int) != 0) (J15 true) (J15 (!x12)))) fun J6 => HCalls Tryz.prog 10 [.slice pl_A pl_n pl_c] H fun v1 H2 => ∃ x3 : Bool, v1 = .bool x3 ∧ cnd x3 (J6 true H2) (J6 (decide
    ((((psome_n : Nat) : Int) : Int) > 300)) H2)
/-- justiciar justiciarlaw29.HistoryNames -/
def f4 (pl_A : Option Addr) (pl_n pl_c : Nat) (pby : Int) (H : Hp) (Q : Value → Hp → Prop) : Prop :=
  jn (fun (j7 : Bool) (H8 : Hp) => cnd j7 (HCalls Tryz.prog 11 [] H8 fun v10 H11 => ∃ x12 : Bool, v10 = .bool x12 ∧ Q (.bool x12) H11) ((200 : Int) ≠ 0 ∧ LoopF (σ := ((Option Addr × Nat × Nat) × (Int × Unit)) × Unit)
    (((none, 0, 0), (0, ())), ()) H8 fun s13 H14 next15 => cnd (decide ((s13.1.2.1 : Int) < ((pl_n : Nat) : Int))) (0 ≤ (s13.1.2.1 : Int) ∧ (s13.1.2.1 : Int) < ((pl_n : Nat) : Int) ∧ onPtr pl_A fun b16 o16 => ∃ x17 : Int,
    cl H14 b16 (o16 + (s13.1.2.1 : Int).toNat * 5) = some (.int .i64 x17) ∧ ∃ x18 : Int, cl H14 b16 ((o16 + (s13.1.2.1 : Int).toNat * 5) + 1) = some (.int .i64 x18) ∧ ∃ x19 : Int, cl H14 b16 (((o16 + (s13.1.2.1 :
    Int).toNat * 5) + 1) + 1) = some (.int .i64 x19) ∧ ∃ x20 : Int, cl H14 b16 ((((o16 + (s13.1.2.1 : Int).toNat * 5) + 1) + 1) + 1) = some (.int .i64 x20) ∧ ∃ x21 : Int, cl H14 b16 (((((o16 + (s13.1.2.1 : Int).toNat * 5)
    + 1) + 1) + 1) + 1) = some (.int .i64 x21) ∧ (200 : Int) ≠ 0 ∧ jn (fun (j22 : Int) => newF H14 35 [.int .i64 x17, .int .i64 (IntKind.i64.wrap ((Int.tmod (IntKind.i64.wrap ((IntKind.i64.wrap (x18 - 1)) + (Int.tmod
    (IntKind.i64.wrap pby) 200))) 200) + 1)), .int .i64 x19, .int .i64 j22, .int .i64 x21] fun g24 H25 => appendF H25 35 5 40 s13.1.1.1 s13.1.1.2.1 s13.1.1.2.2 (some ⟨g24, 0, none⟩) 1 fun A26 n26 c26 H27 => KeepX [some
    (.v (.slice pl_A pl_n pl_c)), some (.v (.int .i64 (Int.tmod (IntKind.i64.wrap pby) 200))), some (.v (.slice pl_A pl_n pl_c)), some (.v (.int .i64 ((pl_n : Nat) : Int)))] [] ∧ next15 (((A26, n26, c26),
    (IntKind.i64.wrap (s13.1.2.1 + 1), ())), ()) H27) fun J23 => cnd (decide ((x20 : Int) > 0)) ((200 : Int) ≠ 0 ∧ J23 (IntKind.i64.wrap ((Int.tmod (IntKind.i64.wrap ((IntKind.i64.wrap (x20 - 1)) + (Int.tmod
    (IntKind.i64.wrap pby) 200))) 200) + 1))) (J23 x20)) (HCalls Tryz.prog 13 [.slice pl_A pl_n pl_c] H14 fun v28 H29 => ∃ (A30 : Option Addr) (n30 c30 : Nat), ∃ x31 : Int, v28 = .tuple #[.slice A30 n30 c30, .int .i64
    x31] ∧ HCalls Tryz.prog 13 [.slice s13.1.1.1 s13.1.1.2.1 s13.1.1.2.2] H29 fun v32 H33 => ∃ (A34 : Option Addr) (n34 c34 : Nat), ∃ x35 : Int, v32 = .tuple #[.slice A34 n34 c34, .int .i64 x35] ∧ jn (fun (j39 : Bool)
    (H40 : Hp) => cnd j39 (Q (.bool false) H40) (HCalls Tryz.prog 16 [.slice pl_A pl_n pl_c] H40 fun v42 H43 => ∃ x44 : Bool, ∃ x45 : Int, v42 = .tuple #[.bool x44, .int .i64 x45] ∧ HCalls Tryz.prog 16 [.slice s13.1.1.1
    s13.1.1.2.1 s13.1.1.2.2] H43 fun v46 H47 => ∃ x48 : Bool, ∃ x49 : Int, v46 = .tuple #[.bool x48, .int .i64 x49] ∧ jn (fun (j50 : Bool) => cnd j50 (Q (.bool false) H47) (HCalls Tryz.prog 17 [.slice pl_A pl_n pl_c] H47
    fun v52 H53 => ∃ x54 : Bool, ∃ x55 : Int, v52 = .tuple #[.bool x54, .int .i64 x55] ∧ HCalls Tryz.prog 17 [.slice s13.1.1.1 s13.1.1.2.1 s13.1.1.2.2] H53 fun v56 H57 => ∃ x58 : Bool, ∃ x59 : Int, v56 = .tuple #[.bool
    x58, .int .i64 x59] ∧ jn (fun (j63 : Bool) (H64 : Hp) => Q (.bool j63) H64) fun J65 => cnd (x54 == x58) (cnd ((x55 : Int) == x59) (HCalls Tryz.prog 11 [] H57 fun v60 H61 => ∃ x62 : Bool, v60 = .bool x62 ∧ J65 x62 H61)
    (J65 false H57)) (J65 false H57))) fun J51 => cnd (!(x44 == x48)) (J51 true) (J51 ((x45 : Int) != x49)))) fun J41 => HCalls Tryz.prog 15 [.slice A30 n30 c30, .slice A34 n34 c34] H33 fun v36 H37 => ∃ x38 : Bool, v36 =
    .bool x38 ∧ cnd (!x38) (J41 true H37) (J41 ((x31 : Int) != x35) H37)))) fun J9 => HCalls Tryz.prog 10 [.slice pl_A pl_n pl_c] H fun v1 H2 => ∃ x3 : Bool, v1 = .bool x3 ∧ cnd x3 (J9 true H2) (HCalls Tryz.prog 14
    [.slice pl_A pl_n pl_c] H2 fun v4 H5 => ∃ x6 : Bool, v4 = .bool x6 ∧ J9 (!x6) H5)
/-- justiciar justiciarlaw29.long -/
def f10 (pl_A : Option Addr) (pl_n pl_c : Nat) (H : Hp) (Q : Value → Hp → Prop) : Prop :=
  Q (.bool (decide ((((pl_n : Nat) : Int) : Int) > 120))) H
noncomputable def fcx10 : Cx := cx 6 [] [] [] []
theorem f10.eq (pl_A : Option Addr) (pl_n pl_c : Nat) (H : Hp) (Q : Value → Hp → Prop) : f10 pl_A pl_n pl_c H Q = wFun fcx10 Tryz.f10 [.slice pl_A pl_n pl_c] H Q := by kernel_rfl
theorem f10.ok (pl_A : Option Addr) (pl_n pl_c : Nat) {H : Hp} {Q : Value → Hp → Prop} (h : f10 pl_A pl_n pl_c H Q) : HCalls Tryz.prog 10 [.slice pl_A pl_n pl_c] H Q := hcalls_of (cxOk 6 [] [] [] []) Tryz.func10 (Eq.mp (f10.eq pl_A pl_n pl_c H Q) h)

/-- justiciar justiciarlaw29.awake -/
def f11  (H : Hp) (Q : Value → Hp → Prop) : Prop :=
  HCalls Tryz.prog 34 [.int .i64 1] H fun v1 H2 => ∃ x3 : Int, ∃ x4 : Int, ∃ x5 : Int, ∃ x6 : Int, ∃ x7 : Int, v1 = .agg #[.int .i64 x3, .int .i64 x4, .int .i64 x5, .int .i64 x6, .int .i64 x7] ∧ HCalls Tryz.prog 34 [.int
    .i64 2] H2 fun v8 H9 => ∃ x10 : Int, ∃ x11 : Int, ∃ x12 : Int, ∃ x13 : Int, ∃ x14 : Int, v8 = .agg #[.int .i64 x10, .int .i64 x11, .int .i64 x12, .int .i64 x13, .int .i64 x14] ∧ HCalls Tryz.prog 35 [.int .i64 1, .int
    .i64 1, .int .i64 0, .int .i64 1] H9 fun v15 H16 => ∃ x17 : Int, ∃ x18 : Int, ∃ x19 : Int, ∃ x20 : Int, ∃ x21 : Int, v15 = .agg #[.int .i64 x17, .int .i64 x18, .int .i64 x19, .int .i64 x20, .int .i64 x21] ∧ HCalls
    Tryz.prog 35 [.int .i64 2, .int .i64 1, .int .i64 0, .int .i64 1] H16 fun v22 H23 => ∃ x24 : Int, ∃ x25 : Int, ∃ x26 : Int, ∃ x27 : Int, ∃ x28 : Int, v22 = .agg #[.int .i64 x24, .int .i64 x25, .int .i64 x26, .int .i64
    x27, .int .i64 x28] ∧ HCalls Tryz.prog 36 [.int .i64 1, .int .i64 1, .int .i64 2] H23 fun v29 H30 => ∃ x31 : Int, ∃ x32 : Int, ∃ x33 : Int, ∃ x34 : Int, ∃ x35 : Int, v29 = .agg #[.int .i64 x31, .int .i64 x32, .int
    .i64 x33, .int .i64 x34, .int .i64 x35] ∧ HCalls Tryz.prog 37 [.int .i64 1] H30 fun v36 H37 => ∃ x38 : Int, ∃ x39 : Int, ∃ x40 : Int, ∃ x41 : Int, ∃ x42 : Int, v36 = .agg #[.int .i64 x38, .int .i64 x39, .int .i64 x40,
    .int .i64 x41, .int .i64 x42] ∧ HCalls Tryz.prog 36 [.int .i64 2, .int .i64 1, .int .i64 2] H37 fun v43 H44 => ∃ x45 : Int, ∃ x46 : Int, ∃ x47 : Int, ∃ x48 : Int, ∃ x49 : Int, v43 = .agg #[.int .i64 x45, .int .i64
    x46, .int .i64 x47, .int .i64 x48, .int .i64 x49] ∧ HCalls Tryz.prog 37 [.int .i64 2] H44 fun v50 H51 => ∃ x52 : Int, ∃ x53 : Int, ∃ x54 : Int, ∃ x55 : Int, ∃ x56 : Int, v50 = .agg #[.int .i64 x52, .int .i64 x53, .int
    .i64 x54, .int .i64 x55, .int .i64 x56] ∧ newF H51 35 [.int .i64 x3, .int .i64 x4, .int .i64 x5, .int .i64 x6, .int .i64 x7, .int .i64 x10, .int .i64 x11, .int .i64 x12, .int .i64 x13, .int .i64 x14, .int .i64 x17,
    .int .i64 x18, .int .i64 x19, .int .i64 x20, .int .i64 x21, .int .i64 x24, .int .i64 x25, .int .i64 x26, .int .i64 x27, .int .i64 x28, .int .i64 x31, .int .i64 x32, .int .i64 x33, .int .i64 x34, .int .i64 x35, .int
    .i64 x38, .int .i64 x39, .int .i64 x40, .int .i64 x41, .int .i64 x42, .int .i64 x45, .int .i64 x46, .int .i64 x47, .int .i64 x48, .int .i64 x49, .int .i64 x52, .int .i64 x53, .int .i64 x54, .int .i64 x55, .int .i64
    x56] fun g57 H58 => HCalls Tryz.prog 13 [.slice (some ⟨g57, 0, none⟩) 8 8] H58 fun v59 H60 => ∃ (A61 : Option Addr) (n61 c61 : Nat), ∃ x62 : Int, v59 = .tuple #[.slice A61 n61 c61, .int .i64 x62] ∧ HCalls Tryz.prog 17
    [.slice (some ⟨g57, 0, none⟩) 8 8] H60 fun v63 H64 => ∃ x65 : Bool, ∃ x66 : Int, v63 = .tuple #[.bool x65, .int .i64 x66] ∧ HCalls Tryz.prog 16 [.slice (some ⟨g57, 0, none⟩) 8 8] H64 fun v67 H68 => ∃ x69 : Bool, ∃ x70
    : Int, v67 = .tuple #[.bool x69, .int .i64 x70] ∧ HCalls Tryz.prog 18 [.slice (some ⟨g57, 0, none⟩) 8 8] H68 fun v71 H72 => ∃ (A73 : Option Addr) (n73 c73 : Nat), ∃ x74 : Int, v71 = .tuple #[.slice A73 n73 c73, .int
    .i64 x74] ∧ HCalls Tryz.prog 29 [.slice (some ⟨g57, 0, none⟩) 8 8] H72 fun v75 H76 => ∃ (A77 : Option Addr) (n77 c77 : Nat), ∃ x78 : Bool, ∃ x79 : Int, v75 = .tuple #[.slice A77 n77 c77, .bool x78, .int .i64 x79] ∧
    HCalls Tryz.prog 23 [.slice (some ⟨g57, 0, none⟩) 8 8] H76 fun v80 H81 => ∃ (A82 : Option Addr) (n82 c82 : Nat), ∃ x83 : Int, v80 = .tuple #[.slice A82 n82 c82, .int .i64 x83] ∧ HCalls Tryz.prog 34 [.int .i64 2] H81
    fun v84 H85 => ∃ x86 : Int, ∃ x87 : Int, ∃ x88 : Int, ∃ x89 : Int, ∃ x90 : Int, v84 = .agg #[.int .i64 x86, .int .i64 x87, .int .i64 x88, .int .i64 x89, .int .i64 x90] ∧ HCalls Tryz.prog 35 [.int .i64 2, .int .i64 1,
    .int .i64 0, .int .i64 1] H85 fun v91 H92 => ∃ x93 : Int, ∃ x94 : Int, ∃ x95 : Int, ∃ x96 : Int, ∃ x97 : Int, v91 = .agg #[.int .i64 x93, .int .i64 x94, .int .i64 x95, .int .i64 x96, .int .i64 x97] ∧ HCalls Tryz.prog
    36 [.int .i64 2, .int .i64 1, .int .i64 1] H92 fun v98 H99 => ∃ x100 : Int, ∃ x101 : Int, ∃ x102 : Int, ∃ x103 : Int, ∃ x104 : Int, v98 = .agg #[.int .i64 x100, .int .i64 x101, .int .i64 x102, .int .i64 x103, .int
    .i64 x104] ∧ HCalls Tryz.prog 37 [.int .i64 2] H99 fun v105 H106 => ∃ x107 : Int, ∃ x108 : Int, ∃ x109 : Int, ∃ x110 : Int, ∃ x111 : Int, v105 = .agg #[.int .i64 x107, .int .i64 x108, .int .i64 x109, .int .i64 x110,
    .int .i64 x111] ∧ HCalls Tryz.prog 34 [.int .i64 1] H106 fun v112 H113 => ∃ x114 : Int, ∃ x115 : Int, ∃ x116 : Int, ∃ x117 : Int, ∃ x118 : Int, v112 = .agg #[.int .i64 x114, .int .i64 x115, .int .i64 x116, .int .i64
    x117, .int .i64 x118] ∧ HCalls Tryz.prog 35 [.int .i64 1, .int .i64 1, .int .i64 2, .int .i64 1] H113 fun v119 H120 => ∃ x121 : Int, ∃ x122 : Int, ∃ x123 : Int, ∃ x124 : Int, ∃ x125 : Int, v119 = .agg #[.int .i64
    x121, .int .i64 x122, .int .i64 x123, .int .i64 x124, .int .i64 x125] ∧ HCalls Tryz.prog 37 [.int .i64 1] H120 fun v126 H127 => ∃ x128 : Int, ∃ x129 : Int, ∃ x130 : Int, ∃ x131 : Int, ∃ x132 : Int, v126 = .agg #[.int
    .i64 x128, .int .i64 x129, .int .i64 x130, .int .i64 x131, .int .i64 x132] ∧ newF H127 35 [.int .i64 x86, .int .i64 x87, .int .i64 x88, .int .i64 x89, .int .i64 x90, .int .i64 x93, .int .i64 x94, .int .i64 x95, .int
    .i64 x96, .int .i64 x97, .int .i64 x100, .int .i64 x101, .int .i64 x102, .int .i64 x103, .int .i64 x104, .int .i64 x107, .int .i64 x108, .int .i64 x109, .int .i64 x110, .int .i64 x111, .int .i64 x114, .int .i64 x115,
    .int .i64 x116, .int .i64 x117, .int .i64 x118, .int .i64 x121, .int .i64 x122, .int .i64 x123, .int .i64 x124, .int .i64 x125, .int .i64 x128, .int .i64 x129, .int .i64 x130, .int .i64 x131, .int .i64 x132] fun g133
    H134 => HCalls Tryz.prog 29 [.slice (some ⟨g133, 0, none⟩) 7 7] H134 fun v135 H136 => ∃ (A137 : Option Addr) (n137 c137 : Nat), ∃ x138 : Bool, ∃ x139 : Int, v135 = .tuple #[.slice A137 n137 c137, .bool x138, .int .i64
    x139] ∧ newF H136 3 [.int .i64 1, .int .i64 2] fun g140 H141 => HCalls Tryz.prog 12 [.slice (some ⟨g133, 0, none⟩) 7 7, .slice (some ⟨g140, 0, none⟩) 2 2] H141 fun v142 H143 => ∃ x144 : Bool, ∃ x145 : Int, v142 =
    .tuple #[.bool x144, .int .i64 x145] ∧ newF H143 3 [.int .i64 1] fun g146 H147 => HCalls Tryz.prog 31 [.slice (some ⟨g133, 0, none⟩) 7 7, .slice (some ⟨g146, 0, none⟩) 1 1] H147 fun v148 H149 => ∃ (A150 : Option Addr)
    (n150 c150 : Nat), ∃ x151 : Int, v148 = .tuple #[.slice A150 n150 c150, .int .i64 x151] ∧ HCalls Tryz.prog 34 [.int .i64 0] H149 fun v152 H153 => ∃ x154 : Int, ∃ x155 : Int, ∃ x156 : Int, ∃ x157 : Int, ∃ x158 : Int,
    v152 = .agg #[.int .i64 x154, .int .i64 x155, .int .i64 x156, .int .i64 x157, .int .i64 x158] ∧ newF H153 35 [.int .i64 x154, .int .i64 x155, .int .i64 x156, .int .i64 x157, .int .i64 x158] fun g159 H160 => HCalls
    Tryz.prog 18 [.slice (some ⟨g159, 0, none⟩) 1 1] H160 fun v161 H162 => ∃ (A163 : Option Addr) (n163 c163 : Nat), ∃ x164 : Int, v161 = .tuple #[.slice A163 n163 c163, .int .i64 x164] ∧ jn (fun (j165 : Bool) => cnd j165
    (Q (.bool false) H162) (jn (fun (j194 : Bool) (H195 : Hp) => Q (.bool j194) H195) fun J196 => 0 ≤ (0 : Int) ∧ (0 : Int) < ((n61 : Nat) : Int) ∧ onPtr A61 fun b167 o167 => ∃ s168 : ByteArray, cl H162 b167 (o167 + (0 :
    Int).toNat * 1) = some (.string s168) ∧ cnd (s168.toList == ({ data := #[99, 105, 114, 99, 108, 101, 32, 114, 119] } : ByteArray).toList) (cnd ((x62 : Int) == 0) (cnd (!x65) (cnd ((x66 : Int) == 0) (cnd x69 (cnd ((x70
    : Int) == 0) (0 ≤ (0 : Int) ∧ (0 : Int) < ((n73 : Nat) : Int) ∧ onPtr A73 fun b169 o169 => ∃ x170 : Int, cl H162 b169 (o169 + (0 : Int).toNat * 4) = some (.int .i64 x170) ∧ ∃ x171 : Int, cl H162 b169 ((o169 + (0 :
    Int).toNat * 4) + 1) = some (.int .i64 x171) ∧ ∃ x172 : Int, cl H162 b169 (((o169 + (0 : Int).toNat * 4) + 1) + 1) = some (.int .i64 x172) ∧ ∃ x173 : Int, cl H162 b169 ((((o169 + (0 : Int).toNat * 4) + 1) + 1) + 1) =
    some (.int .i64 x173) ∧ cnd (((x170 : Int) == 1) && (((x171 : Int) == 2) && (((x172 : Int) == 1) && (((x173 : Int) == 1) && true)))) (0 ≤ (1 : Int) ∧ (1 : Int) < ((n73 : Nat) : Int) ∧ onPtr A73 fun b174 o174 => ∃ x175
    : Int, cl H162 b174 (o174 + (1 : Int).toNat * 4) = some (.int .i64 x175) ∧ ∃ x176 : Int, cl H162 b174 ((o174 + (1 : Int).toNat * 4) + 1) = some (.int .i64 x176) ∧ ∃ x177 : Int, cl H162 b174 (((o174 + (1 : Int).toNat *
    4) + 1) + 1) = some (.int .i64 x177) ∧ ∃ x178 : Int, cl H162 b174 ((((o174 + (1 : Int).toNat * 4) + 1) + 1) + 1) = some (.int .i64 x178) ∧ cnd (((x175 : Int) == 2) && (((x176 : Int) == 1) && (((x177 : Int) == 3) &&
    (((x178 : Int) == 1) && true)))) (cnd ((x74 : Int) == 0) (cnd (!x78) (cnd ((x79 : Int) == 0) (newF H162 3 [.int .i64 1, .int .i64 2] fun g179 H180 => HCalls Tryz.prog 25 [.slice A82 n82 c82, .slice (some ⟨g179, 0,
    none⟩) 2 2] H180 fun v181 H182 => ∃ x183 : Bool, v181 = .bool x183 ∧ cnd x183 (cnd ((x83 : Int) == 0) (cnd x138 (newF H182 3 [.int .i64 2, .int .i64 1] fun g184 H185 => HCalls Tryz.prog 25 [.slice A137 n137 c137,
    .slice (some ⟨g184, 0, none⟩) 2 2] H185 fun v186 H187 => ∃ x188 : Bool, v186 = .bool x188 ∧ cnd x188 (cnd ((x139 : Int) == 0) (cnd x144 (cnd ((x145 : Int) == 0) (0 ≤ (1 : Int) ∧ (1 : Int) < ((n150 : Nat) : Int) ∧
    onPtr A150 fun b189 o189 => ∃ x190 : Int, cl H187 b189 ((o189 + (1 : Int).toNat * 5) + 3) = some (.int .i64 x190) ∧ cnd ((x190 : Int) == 0) (cnd ((x151 : Int) == 0) (cnd ((x164 : Int) == 2) (HCalls Tryz.prog 14
    [.slice (some ⟨g57, 0, none⟩) 8 8] H187 fun v191 H192 => ∃ x193 : Bool, v191 = .bool x193 ∧ J196 x193 H192) (J196 false H187)) (J196 false H187)) (J196 false H187)) (J196 false H187)) (J196 false H187)) (J196 false
    H187)) (J196 false H187)) (J196 false H182)) (J196 false H182)) (J196 false H182)) (J196 false H162)) (J196 false H162)) (J196 false H162)) (J196 false H162)) (J196 false H162)) (J196 false H162)) (J196 false H162))
    (J196 false H162)) (J196 false H162)) (J196 false H162)) (J196 false H162))) fun J166 => cnd ((((n61 : Nat) : Int) : Int) != 1) (J166 true) (cnd ((((n73 : Nat) : Int) : Int) != 2) (J166 true) (J166 ((((n150 : Nat) :
    Int) : Int) != 3)))
noncomputable def fcx11 : Cx := cx 206 [] [] [] []
theorem f11.eq  (H : Hp) (Q : Value → Hp → Prop) : f11  H Q = wFun fcx11 Tryz.f11 [] H Q := by kernel_rfl
theorem f11.ok  {H : Hp} {Q : Value → Hp → Prop} (h : f11  H Q) : HCalls Tryz.prog 11 [] H Q := hcalls_of (cxOk 206 [] [] [] []) Tryz.func11 (Eq.mp (f11.eq  H Q) h)

/-- justiciar history.Fits -/
def f12 (pl_A : Option Addr) (pl_n pl_c : Nat) (pserial_A : Option Addr) (pserial_n pserial_c : Nat) (H : Hp) (Q : Value → Hp → Prop) : Prop :=
  HCalls Tryz.prog 14 [.slice pl_A pl_n pl_c] H fun v1 H2 => ∃ x3 : Bool, v1 = .bool x3 ∧ cnd (!x3) (Q (.tuple #[.bool false, .int .i64 2]) H2) (HCalls Tryz.prog 38 [.slice pl_A pl_n pl_c] H2 fun v4 H5 => ∃ p6 : Option
    Addr, v4 = .pointer p6 ∧ onPtr p6 fun b7 o7 => ∃ r8 : Option Nat, cl H5 b7 (o7 + 1) = some (.map r8) ∧ rangeF H5 r8 fun i9 H10 => LoopF (σ := Unit × Unit) ((), ()) H10 fun s11 H12 next13 => jn (fun (j19 : Bool) (H20 :
    Hp) => cnd j19 (entryF H20 i9 0 fun k22 v23 => ∃ x24 : Int, k22 = .int .i64 x24 ∧ ∃ x25 : Int, v23 = .int .i64 x25 ∧ jn (fun (jf29 : Nat) (H30 : Hp) => FnOk Tryz.prog jf29 ∧ HCalls Tryz.prog jf29 ((#[.pointer p6] :
    Array Value).toList ++ [.int .i64 x24] ++ (#[] : Array Value).toList) H30 fun v32 H33 => ∃ x34 : Bool, v32 = .bool x34 ∧ cnd (!x34) (Q (.tuple #[.bool false, .int .i64 0]) H33) (KeepX [some (.v (.slice pserial_A
    pserial_n pserial_c)), some (.v (.pointer p6)), some (.v (.pointer (some ⟨i9, 0, none⟩)))] [] ∧ next13 ((), ()) H33)) fun J31 => HCalls Tryz.prog 40 [.slice pserial_A pserial_n pserial_c, .int .i64 x24] H20 fun v26
    H27 => ∃ x28 : Bool, v26 = .bool x28 ∧ cnd x28 (J31 41 H27) (J31 39 H27)) (Q (.tuple #[.bool true, .int .i64 0]) H20)) fun J21 => nextF H12 i9 0 (J21 false H12) fun k14 v15 H16 => ∃ x17 : Int, k14 = .int .i64 x17 ∧ ∃
    x18 : Int, v15 = .int .i64 x18 ∧ J21 true H16)
noncomputable def fcx12 : Cx := cx 34 [] [(5, ⟨[1, 6, 18], [], [], []⟩)] [] [(19, ((.int .i64 0), (.int .i64 0))), (21, ((.int .i64 0), (.int .i64 0)))]
theorem f12.eq (pl_A : Option Addr) (pl_n pl_c : Nat) (pserial_A : Option Addr) (pserial_n pserial_c : Nat) (H : Hp) (Q : Value → Hp → Prop) : f12 pl_A pl_n pl_c pserial_A pserial_n pserial_c H Q = wFun fcx12 Tryz.f12 [.slice pl_A pl_n pl_c, .slice pserial_A pserial_n pserial_c] H Q := by kernel_rfl
theorem f12.ok (pl_A : Option Addr) (pl_n pl_c : Nat) (pserial_A : Option Addr) (pserial_n pserial_c : Nat) {H : Hp} {Q : Value → Hp → Prop} (h : f12 pl_A pl_n pl_c pserial_A pserial_n pserial_c H Q) : HCalls Tryz.prog 12 [.slice pl_A pl_n pl_c, .slice pserial_A pserial_n pserial_c] H Q := hcalls_of (cxOk 34 [] [(5, ⟨[1, 6, 18], [], [], []⟩)] [] [(19, ((.int .i64 0), (.int .i64 0))), (21, ((.int .i64 0), (.int .i64 0)))]) Tryz.func12 (Eq.mp (f12.eq pl_A pl_n pl_c pserial_A pserial_n pserial_c H Q) h)

/-- justiciar history.Faults -/
def f13 (pl_A : Option Addr) (pl_n pl_c : Nat) (H : Hp) (Q : Value → Hp → Prop) : Prop :=
  HCalls Tryz.prog 14 [.slice pl_A pl_n pl_c] H fun v1 H2 => ∃ x3 : Bool, v1 = .bool x3 ∧ cnd (!x3) (Q (.tuple #[.slice none 0 0, .int .i64 2]) H2) (HCalls Tryz.prog 38 [.slice pl_A pl_n pl_c] H2 fun v4 H5 => ∃ p6 : Option
    Addr, v4 = .pointer p6 ∧ HCalls Tryz.prog 42 [.pointer p6] H5 fun v7 H8 => ∃ (A9 : Option Addr) (n9 c9 : Nat), v7 = .slice A9 n9 c9 ∧ newF H8 29 [.slice none 0 0] fun g10 H11 => HCalls Tryz.prog 44 [.pointer p6] H11
    fun v12 H13 => ∃ x14 : Bool, ∃ x15 : Bool, v12 = .tuple #[.bool x14, .bool x15] ∧ FnOk Tryz.prog 43 ∧ HCalls Tryz.prog 43 [.bool x14, .string ({ data := #[97, 98, 111, 114, 116, 101, 100, 32, 114, 101, 97, 100] } :
    ByteArray), .pointer (some ⟨g10, 0, none⟩)] H13 fun v16 H17 => ∃ x18 : Bool, v16 = .bool x18 ∧ FnOk Tryz.prog 43 ∧ HCalls Tryz.prog 43 [.bool x15, .string ({ data := #[114, 101, 97, 100, 32, 98, 101, 116, 119, 101,
    101, 110] } : ByteArray), .pointer (some ⟨g10, 0, none⟩)] H17 fun v19 H20 => ∃ x21 : Bool, v19 = .bool x21 ∧ HCalls Tryz.prog 45 [.slice A9 n9 c9, .func (.func 46) #[] #[]] H20 fun v22 H23 => ∃ r24 : Option Nat, v22 =
    .map r24 ∧ HCalls Tryz.prog 45 [.slice A9 n9 c9, .func (.func 47) #[] #[]] H23 fun v25 H26 => ∃ r27 : Option Nat, v25 = .map r27 ∧ HCalls Tryz.prog 45 [.slice A9 n9 c9, .func (.func 48) #[] #[]] H26 fun v28 H29 => ∃
    r30 : Option Nat, v28 = .map r30 ∧ HCalls Tryz.prog 49 [.slice A9 n9 c9, .int .i64 1, .map r24] H29 fun v31 H32 => ∃ x33 : Bool, v31 = .bool x33 ∧ FnOk Tryz.prog 43 ∧ HCalls Tryz.prog 43 [.bool x33, .string ({ data :=
    #[99, 105, 114, 99, 108, 101, 32, 119, 119] } : ByteArray), .pointer (some ⟨g10, 0, none⟩)] H32 fun v34 H35 => ∃ x36 : Bool, v34 = .bool x36 ∧ HCalls Tryz.prog 49 [.slice A9 n9 c9, .int .i64 2, .map r27] H35 fun v37
    H38 => ∃ x39 : Bool, v37 = .bool x39 ∧ FnOk Tryz.prog 43 ∧ HCalls Tryz.prog 43 [.bool x39, .string ({ data := #[99, 105, 114, 99, 108, 101, 32, 119, 114] } : ByteArray), .pointer (some ⟨g10, 0, none⟩)] H38 fun v40 H41
    => ∃ x42 : Bool, v40 = .bool x42 ∧ HCalls Tryz.prog 49 [.slice A9 n9 c9, .int .i64 3, .map r27] H41 fun v43 H44 => ∃ x45 : Bool, v43 = .bool x45 ∧ FnOk Tryz.prog 43 ∧ HCalls Tryz.prog 43 [.bool x45, .string ({ data :=
    #[99, 105, 114, 99, 108, 101, 32, 114, 119] } : ByteArray), .pointer (some ⟨g10, 0, none⟩)] H44 fun v46 H47 => ∃ x48 : Bool, v46 = .bool x48 ∧ jn (fun (H64 : Hp) => ∃ (A66 : Option Addr) (n66 c66 : Nat), cl H64 g10 0
    = some (.slice A66 n66 c66) ∧ Q (.tuple #[.slice A66 n66 c66, .int .i64 0]) H64) fun J65 => cnd (!x36) (cnd (!x42) (cnd (!x48) (HCalls Tryz.prog 50 [.map r30] H47 fun v49 H50 => ∃ x51 : Bool, v49 = .bool x51 ∧ FnOk
    Tryz.prog 43 ∧ HCalls Tryz.prog 43 [.bool x51, .string ({ data := #[99, 105, 114, 99, 108, 101, 115, 32, 114, 119] } : ByteArray), .pointer (some ⟨g10, 0, none⟩)] H50 fun v52 H53 => ∃ x54 : Bool, v52 = .bool x54 ∧ J65
    H53) (FnOk Tryz.prog 43 ∧ HCalls Tryz.prog 43 [.bool false, .string ({ data := #[99, 105, 114, 99, 108, 101, 115, 32, 114, 119] } : ByteArray), .pointer (some ⟨g10, 0, none⟩)] H47 fun v55 H56 => ∃ x57 : Bool, v55 =
    .bool x57 ∧ J65 H56)) (FnOk Tryz.prog 43 ∧ HCalls Tryz.prog 43 [.bool false, .string ({ data := #[99, 105, 114, 99, 108, 101, 115, 32, 114, 119] } : ByteArray), .pointer (some ⟨g10, 0, none⟩)] H47 fun v58 H59 => ∃ x60
    : Bool, v58 = .bool x60 ∧ J65 H59)) (FnOk Tryz.prog 43 ∧ HCalls Tryz.prog 43 [.bool false, .string ({ data := #[99, 105, 114, 99, 108, 101, 115, 32, 114, 119] } : ByteArray), .pointer (some ⟨g10, 0, none⟩)] H47 fun
    v61 H62 => ∃ x63 : Bool, v61 = .bool x63 ∧ J65 H62))
noncomputable def fcx13 : Cx := cx 73 [] [] [] []
theorem f13.eq (pl_A : Option Addr) (pl_n pl_c : Nat) (H : Hp) (Q : Value → Hp → Prop) : f13 pl_A pl_n pl_c H Q = wFun fcx13 Tryz.f13 [.slice pl_A pl_n pl_c] H Q := by kernel_rfl
theorem f13.ok (pl_A : Option Addr) (pl_n pl_c : Nat) {H : Hp} {Q : Value → Hp → Prop} (h : f13 pl_A pl_n pl_c H Q) : HCalls Tryz.prog 13 [.slice pl_A pl_n pl_c] H Q := hcalls_of (cxOk 73 [] [] [] []) Tryz.func13 (Eq.mp (f13.eq pl_A pl_n pl_c H Q) h)

/-- justiciar history.Valid -/
def f14 (pl_A : Option Addr) (pl_n pl_c : Nat) (H : Hp) (Q : Value → Hp → Prop) : Prop :=
  newMapF H fun m1 H2 => newMapF H2 fun m3 H4 => newMapF H4 fun m5 H6 => newF H6 76 [.map (some m1), .map (some m3), .map (some m5)] fun g7 H8 => newF H8 72 [.pointer none] fun g9 H10 => storeF H10 g9 0 [.pointer (some ⟨g7,
    0, none⟩)] fun H11 => jn (fun (j15 : Bool) (H16 : Hp) => Q (.bool j15) H16) fun J17 => cnd (decide ((((pl_n : Nat) : Int) : Int) ≤ 2000)) (HCalls Tryz.prog 51 [.slice pl_A pl_n pl_c, .func (.func 52) #[] #[.pointer
    (some ⟨g9, 0, none⟩)]] H11 fun v12 H13 => ∃ x14 : Bool, v12 = .bool x14 ∧ J17 (!x14) H13) (J17 false H11)
noncomputable def fcx14 : Cx := cx 18 [] [] [] []
theorem f14.eq (pl_A : Option Addr) (pl_n pl_c : Nat) (H : Hp) (Q : Value → Hp → Prop) : f14 pl_A pl_n pl_c H Q = wFun fcx14 Tryz.f14 [.slice pl_A pl_n pl_c] H Q := by kernel_rfl
theorem f14.ok (pl_A : Option Addr) (pl_n pl_c : Nat) {H : Hp} {Q : Value → Hp → Prop} (h : f14 pl_A pl_n pl_c H Q) : HCalls Tryz.prog 14 [.slice pl_A pl_n pl_c] H Q := hcalls_of (cxOk 18 [] [] [] []) Tryz.func14 (Eq.mp (f14.eq pl_A pl_n pl_c H Q) h)

/-- justiciar justiciarlaw29.same -/
def f15 (pa_A : Option Addr) (pa_n pa_c : Nat) (pb_A : Option Addr) (pb_n pb_c : Nat) (H : Hp) (Q : Value → Hp → Prop) : Prop :=
  cnd ((((pa_n : Nat) : Int) : Int) != ((pb_n : Nat) : Int)) (Q (.bool false) H) (LoopF (σ := (Int × Unit) × Unit) ((0, ()), ()) H fun s1 H2 next3 => cnd (decide ((s1.1.1 : Int) < ((pa_n : Nat) : Int))) (0 ≤ (s1.1.1 : Int)
    ∧ (s1.1.1 : Int) < ((pa_n : Nat) : Int) ∧ onPtr pa_A fun b4 o4 => ∃ s5 : ByteArray, cl H2 b4 (o4 + (s1.1.1 : Int).toNat * 1) = some (.string s5) ∧ 0 ≤ (s1.1.1 : Int) ∧ (s1.1.1 : Int) < ((pb_n : Nat) : Int) ∧ onPtr
    pb_A fun b6 o6 => ∃ s7 : ByteArray, cl H2 b6 (o6 + (s1.1.1 : Int).toNat * 1) = some (.string s7) ∧ cnd (!(s5.toList == s7.toList)) (Q (.bool false) H2) (KeepX [some (.v (.slice pa_A pa_n pa_c)), some (.v (.slice pb_A
    pb_n pb_c)), some (.v (.int .i64 ((pa_n : Nat) : Int)))] [] ∧ next3 ((IntKind.i64.wrap (s1.1.1 + 1), ()), ()) H2)) (Q (.bool true) H2))
/-- justiciar history.Committed -/
def f16 (pl_A : Option Addr) (pl_n pl_c : Nat) (H : Hp) (Q : Value → Hp → Prop) : Prop :=
  HCalls Tryz.prog 12 [.slice pl_A pl_n pl_c, .slice none 0 0] H fun v1 H2 => ∃ x3 : Bool, ∃ x4 : Int, v1 = .tuple #[.bool x3, .int .i64 x4] ∧ Q (.tuple #[.bool x3, .int .i64 x4]) H2
noncomputable def fcx16 : Cx := cx 8 [] [] [] []
theorem f16.eq (pl_A : Option Addr) (pl_n pl_c : Nat) (H : Hp) (Q : Value → Hp → Prop) : f16 pl_A pl_n pl_c H Q = wFun fcx16 Tryz.f16 [.slice pl_A pl_n pl_c] H Q := by kernel_rfl
theorem f16.ok (pl_A : Option Addr) (pl_n pl_c : Nat) {H : Hp} {Q : Value → Hp → Prop} (h : f16 pl_A pl_n pl_c H Q) : HCalls Tryz.prog 16 [.slice pl_A pl_n pl_c] H Q := hcalls_of (cxOk 8 [] [] [] []) Tryz.func16 (Eq.mp (f16.eq pl_A pl_n pl_c H Q) h)

/-- justiciar history.Serial -/
def f17 (pl_A : Option Addr) (pl_n pl_c : Nat) (H : Hp) (Q : Value → Hp → Prop) : Prop :=
  LoopF (σ := ((Option Addr × Nat × Nat) × (Int × Unit)) × Unit) (((none, 0, 0), (1, ())), ()) H fun s1 H2 next3 => cnd (decide ((s1.1.2.1 : Int) ≤ 200)) (newF H2 3 [.int .i64 s1.1.2.1] fun g4 H5 => appendF H5 3 1 8
    s1.1.1.1 s1.1.1.2.1 s1.1.1.2.2 (some ⟨g4, 0, none⟩) 1 fun A6 n6 c6 H7 => KeepX [some (.v (.slice pl_A pl_n pl_c))] [] ∧ next3 (((A6, n6, c6), (IntKind.i64.wrap (s1.1.2.1 + 1), ())), ()) H7) (HCalls Tryz.prog 12
    [.slice pl_A pl_n pl_c, .slice s1.1.1.1 s1.1.1.2.1 s1.1.1.2.2] H2 fun v8 H9 => ∃ x10 : Bool, ∃ x11 : Int, v8 = .tuple #[.bool x10, .int .i64 x11] ∧ Q (.tuple #[.bool x10, .int .i64 x11]) H9)
noncomputable def fcx17 : Cx := cx 19 [] [(3, ⟨[0], [], [(4, .slice), (5, .int .i64)], []⟩)] [] []
theorem f17.eq (pl_A : Option Addr) (pl_n pl_c : Nat) (H : Hp) (Q : Value → Hp → Prop) : f17 pl_A pl_n pl_c H Q = wFun fcx17 Tryz.f17 [.slice pl_A pl_n pl_c] H Q := by kernel_rfl
theorem f17.ok (pl_A : Option Addr) (pl_n pl_c : Nat) {H : Hp} {Q : Value → Hp → Prop} (h : f17 pl_A pl_n pl_c H Q) : HCalls Tryz.prog 17 [.slice pl_A pl_n pl_c] H Q := hcalls_of (cxOk 19 [] [(3, ⟨[0], [], [(4, .slice), (5, .int .i64)], []⟩)] [] []) Tryz.func17 (Eq.mp (f17.eq pl_A pl_n pl_c H Q) h)

/-- justiciar history.Arcs -/
def f18 (pl_A : Option Addr) (pl_n pl_c : Nat) (H : Hp) (Q : Value → Hp → Prop) : Prop :=
  HCalls Tryz.prog 14 [.slice pl_A pl_n pl_c] H fun v1 H2 => ∃ x3 : Bool, v1 = .bool x3 ∧ cnd (!x3) (Q (.tuple #[.slice none 0 0, .int .i64 2]) H2) (HCalls Tryz.prog 38 [.slice pl_A pl_n pl_c] H2 fun v4 H5 => ∃ p6 : Option
    Addr, v4 = .pointer p6 ∧ HCalls Tryz.prog 42 [.pointer p6] H5 fun v7 H8 => ∃ (A9 : Option Addr) (n9 c9 : Nat), v7 = .slice A9 n9 c9 ∧ Q (.tuple #[.slice A9 n9 c9, .int .i64 0]) H8)
noncomputable def fcx18 : Cx := cx 10 [] [] [] []
theorem f18.eq (pl_A : Option Addr) (pl_n pl_c : Nat) (H : Hp) (Q : Value → Hp → Prop) : f18 pl_A pl_n pl_c H Q = wFun fcx18 Tryz.f18 [.slice pl_A pl_n pl_c] H Q := by kernel_rfl
theorem f18.ok (pl_A : Option Addr) (pl_n pl_c : Nat) {H : Hp} {Q : Value → Hp → Prop} (h : f18 pl_A pl_n pl_c H Q) : HCalls Tryz.prog 18 [.slice pl_A pl_n pl_c] H Q := hcalls_of (cxOk 10 [] [] [] []) Tryz.func18 (Eq.mp (f18.eq pl_A pl_n pl_c H Q) h)

/-- justiciar history.Anomaly -/
def f23 (pl_A : Option Addr) (pl_n pl_c : Nat) (H : Hp) (Q : Value → Hp → Prop) : Prop :=
  HCalls Tryz.prog 14 [.slice pl_A pl_n pl_c] H fun v1 H2 => ∃ x3 : Bool, v1 = .bool x3 ∧ cnd (!x3) (Q (.tuple #[.slice none 0 0, .int .i64 2]) H2) (HCalls Tryz.prog 38 [.slice pl_A pl_n pl_c] H2 fun v4 H5 => ∃ p6 : Option
    Addr, v4 = .pointer p6 ∧ HCalls Tryz.prog 42 [.pointer p6] H5 fun v7 H8 => ∃ (A9 : Option Addr) (n9 c9 : Nat), v7 = .slice A9 n9 c9 ∧ HCalls Tryz.prog 45 [.slice A9 n9 c9, .func (.func 61) #[] #[]] H8 fun v10 H11 => ∃
    r12 : Option Nat, v10 = .map r12 ∧ HCalls Tryz.prog 63 [.map r12] H11 fun v13 H14 => ∃ (f15 : FuncId) (a15 b15 : Array Value), v13 = .func (.func f15) a15 b15 ∧ HCalls Tryz.prog 62 [.func (.func f15) a15 b15] H14 fun
    v16 H17 => ∃ (A18 : Option Addr) (n18 c18 : Nat), v16 = .slice A18 n18 c18 ∧ LoopF (σ := ((Option Addr × Nat × Nat) × (Int × Unit)) × Unit) (((none, 0, 0), (0, ())), ()) H17 fun s19 H20 next21 => cnd (decide
    ((s19.1.2.1 : Int) < ((n18 : Nat) : Int))) (jn (fun (jA29 : Option Addr) (jn30 : Nat) (jc31 : Nat) (H32 : Hp) => KeepX [some (.v (.map r12)), some (.v (.slice A18 n18 c18)), some (.v (.int .i64 ((n18 : Nat) : Int)))]
    [] ∧ next21 (((jA29, jn30, jc31), (IntKind.i64.wrap (s19.1.2.1 + 1), ())), ()) H32) fun J33 => 0 ≤ (s19.1.2.1 : Int) ∧ (s19.1.2.1 : Int) < ((n18 : Nat) : Int) ∧ onPtr A18 fun b22 o22 => ∃ x23 : Int, cl H20 b22 (o22 +
    (s19.1.2.1 : Int).toNat * 1) = some (.int .i64 x23) ∧ HCalls Tryz.prog 64 [.map r12, .int .i64 x23] H20 fun v24 H25 => ∃ (A26 : Option Addr) (n26 c26 : Nat), v24 = .slice A26 n26 c26 ∧ jn (fun (j27 : Bool) => cnd j27
    (J33 A26 n26 c26 H25) (J33 s19.1.1.1 s19.1.1.2.1 s19.1.1.2.2 H25)) fun J28 => cnd (!A26.isNone) (cnd s19.1.1.1.isNone (J28 true) (J28 (decide ((((n26 : Nat) : Int) : Int) < ((s19.1.1.2.1 : Nat) : Int))))) (J28 false))
    (cnd s19.1.1.1.isNone (Q (.tuple #[.slice none 0 0, .int .i64 4]) H20) (Q (.tuple #[.slice s19.1.1.1 s19.1.1.2.1 s19.1.1.2.2, .int .i64 0]) H20)))
noncomputable def fcx23 : Cx := cx 45 [] [(6, ⟨[4, 18, 19], [], [(5, .slice), (20, .int .i64)], []⟩)] [] []
theorem f23.eq (pl_A : Option Addr) (pl_n pl_c : Nat) (H : Hp) (Q : Value → Hp → Prop) : f23 pl_A pl_n pl_c H Q = wFun fcx23 Tryz.f23 [.slice pl_A pl_n pl_c] H Q := by kernel_rfl
theorem f23.ok (pl_A : Option Addr) (pl_n pl_c : Nat) {H : Hp} {Q : Value → Hp → Prop} (h : f23 pl_A pl_n pl_c H Q) : HCalls Tryz.prog 23 [.slice pl_A pl_n pl_c] H Q := hcalls_of (cxOk 45 [] [(6, ⟨[4, 18, 19], [], [(5, .slice), (20, .int .i64)], []⟩)] [] []) Tryz.func23 (Eq.mp (f23.eq pl_A pl_n pl_c H Q) h)

/-- justiciar history.Order -/
def f29 (pl_A : Option Addr) (pl_n pl_c : Nat) (H : Hp) (Q : Value → Hp → Prop) : Prop :=
  HCalls Tryz.prog 14 [.slice pl_A pl_n pl_c] H fun v1 H2 => ∃ x3 : Bool, v1 = .bool x3 ∧ cnd (!x3) (Q (.tuple #[.slice none 0 0, .bool false, .int .i64 2]) H2) (HCalls Tryz.prog 38 [.slice pl_A pl_n pl_c] H2 fun v4 H5 => ∃
    p6 : Option Addr, v4 = .pointer p6 ∧ HCalls Tryz.prog 44 [.pointer p6] H5 fun v7 H8 => ∃ x9 : Bool, ∃ x10 : Bool, v7 = .tuple #[.bool x9, .bool x10] ∧ jn (fun (j11 : Bool) => cnd j11 (Q (.tuple #[.slice none 0 0,
    .bool false, .int .i64 0]) H8) (HCalls Tryz.prog 42 [.pointer p6] H8 fun v13 H14 => ∃ (A15 : Option Addr) (n15 c15 : Nat), v13 = .slice A15 n15 c15 ∧ newMapF H14 fun m16 H17 => newF H17 94 [.map none] fun g18 H19 =>
    storeF H19 g18 0 [.map (some m16)] fun H20 => onPtr p6 fun b21 o21 => ∃ r22 : Option Nat, cl H20 b21 (o21 + 1) = some (.map r22) ∧ rangeF H20 r22 fun i23 H24 => LoopF (σ := Unit × Unit) ((), ()) H24 fun s25 H26 next27
    => jn (fun (j33 : Bool) (H34 : Hp) => cnd j33 (entryF H34 i23 0 fun k36 v37 => ∃ x38 : Int, k36 = .int .i64 x38 ∧ ∃ x39 : Int, v37 = .int .i64 x39 ∧ ∃ r40 : Option Nat, cl H34 g18 0 = some (.map r40) ∧ putF H34 .i64
    r40 x38 (.bool true) fun H41 => KeepX [some (.v (.slice A15 n15 c15)), some (.v (.pointer (some ⟨g18, 0, none⟩))), some (.v (.pointer (some ⟨i23, 0, none⟩)))] [] ∧ next27 ((), ()) H41) (LoopF (σ := ((Option Addr × Nat
    × Nat) × Unit) × Unit) (((none, 0, 0), ()), ()) H34 fun s42 H43 next44 => ∃ r45 : Option Nat, cl H43 g18 0 = some (.map r45) ∧ sizeF H43 r45 fun n46 => cnd (decide ((((n46 : Nat) : Int) : Int) > 0)) (jn (fun (j66 :
    Int) (H67 : Hp) => cnd ((j66 : Int) == 0) (Q (.tuple #[.slice none 0 0, .bool false, .int .i64 0]) H67) (∃ r69 : Option Nat, cl H67 g18 0 = some (.map r69) ∧ delF H67 .i64 r69 j66 fun H70 => newF H70 3 [.int .i64 j66]
    fun g71 H72 => appendF H72 3 1 8 s42.1.1.1 s42.1.1.2.1 s42.1.1.2.2 (some ⟨g71, 0, none⟩) 1 fun A73 n73 c73 H74 => KeepX [some (.v (.slice A15 n15 c15)), some (.v (.pointer (some ⟨g18, 0, none⟩)))] [] ∧ next44 (((A73,
    n73, c73), ()), ()) H74)) fun J68 => ∃ r47 : Option Nat, cl H43 g18 0 = some (.map r47) ∧ HCalls Tryz.prog 68 [.map r47] H43 fun v48 H49 => ∃ (f50 : FuncId) (a50 b50 : Array Value), v48 = .func (.func f50) a50 b50 ∧
    HCalls Tryz.prog 62 [.func (.func f50) a50 b50] H49 fun v51 H52 => ∃ (A53 : Option Addr) (n53 c53 : Nat), v51 = .slice A53 n53 c53 ∧ LoopF (σ := (Int × (Int × Unit)) × Unit) ((0, (0, ())), ()) H52 fun s54 H55 next56
    => cnd (decide ((s54.1.2.1 : Int) < ((n53 : Nat) : Int))) (0 ≤ (s54.1.2.1 : Int) ∧ (s54.1.2.1 : Int) < ((n53 : Nat) : Int) ∧ onPtr A53 fun b57 o57 => ∃ x58 : Int, cl H55 b57 (o57 + (s54.1.2.1 : Int).toNat * 1) = some
    (.int .i64 x58) ∧ newF H55 3 [.int .i64 0] fun g59 H60 => storeF H60 g59 0 [.int .i64 x58] fun H61 => HCalls Tryz.prog 69 [.slice A15 n15 c15, .func (.func 70) #[] #[.pointer (some ⟨g59, 0, none⟩), .pointer (some
    ⟨g18, 0, none⟩)]] H61 fun v62 H63 => ∃ x64 : Bool, v62 = .bool x64 ∧ cnd (!x64) (∃ x65 : Int, cl H63 g59 0 = some (.int .i64 x65) ∧ J68 x65 H63) (KeepX [some (.v (.slice A15 n15 c15)), some (.v (.pointer (some ⟨g18,
    0, none⟩))), some (.v (.slice s42.1.1.1 s42.1.1.2.1 s42.1.1.2.2)), some (.v (.slice A53 n53 c53)), some (.v (.int .i64 ((n53 : Nat) : Int)))] [] ∧ next56 ((s54.1.1, (IntKind.i64.wrap (s54.1.2.1 + 1), ())), ()) H63))
    (J68 s54.1.1 H55)) (Q (.tuple #[.slice s42.1.1.1 s42.1.1.2.1 s42.1.1.2.2, .bool true, .int .i64 0]) H43))) fun J35 => nextF H26 i23 0 (J35 false H26) fun k28 v29 H30 => ∃ x31 : Int, k28 = .int .i64 x31 ∧ ∃ x32 : Int,
    v29 = .int .i64 x32 ∧ J35 true H30)) fun J12 => cnd x9 (J12 true) (J12 x10))
noncomputable def fcx29 : Cx := cx 69 [] [(10, ⟨[8, 9, 36], [], [], []⟩), (14, ⟨[8, 9], [], [(11, .slice)], []⟩), (17, ⟨[8, 9, 11, 48, 49], [], [(12, .int .i64), (50, .int .i64)], []⟩)] [] [(37, ((.int .i64 0), (.int .i64 0))), (39, ((.int .i64 0), (.int .i64 0)))]
theorem f29.eq (pl_A : Option Addr) (pl_n pl_c : Nat) (H : Hp) (Q : Value → Hp → Prop) : f29 pl_A pl_n pl_c H Q = wFun fcx29 Tryz.f29 [.slice pl_A pl_n pl_c] H Q := by kernel_rfl
theorem f29.ok (pl_A : Option Addr) (pl_n pl_c : Nat) {H : Hp} {Q : Value → Hp → Prop} (h : f29 pl_A pl_n pl_c H Q) : HCalls Tryz.prog 29 [.slice pl_A pl_n pl_c] H Q := hcalls_of (cxOk 69 [] [(10, ⟨[8, 9, 36], [], [], []⟩), (14, ⟨[8, 9], [], [(11, .slice)], []⟩), (17, ⟨[8, 9, 11, 48, 49], [], [(12, .int .i64), (50, .int .i64)], []⟩)] [] [(37, ((.int .i64 0), (.int .i64 0))), (39, ((.int .i64 0), (.int .i64 0)))]) Tryz.func29 (Eq.mp (f29.eq pl_A pl_n pl_c H Q) h)

/-- justiciar history.Only -/
def f31 (pl_A : Option Addr) (pl_n pl_c : Nat) (ptxns_A : Option Addr) (ptxns_n ptxns_c : Nat) (H : Hp) (Q : Value → Hp → Prop) : Prop :=
  HCalls Tryz.prog 14 [.slice pl_A pl_n pl_c] H fun v1 H2 => ∃ x3 : Bool, v1 = .bool x3 ∧ cnd (!x3) (Q (.tuple #[.slice none 0 0, .int .i64 2]) H2) (LoopF (σ := ((Option Addr × Nat × Nat) × (Int × Unit)) × Unit) (((none, 0,
    0), (0, ())), ()) H2 fun s4 H5 next6 => cnd (decide ((s4.1.2.1 : Int) < ((pl_n : Nat) : Int))) (jn (fun (jA29 : Option Addr) (jn30 : Nat) (jc31 : Nat) (H32 : Hp) => KeepX [some (.v (.slice ptxns_A ptxns_n ptxns_c)),
    some (.v (.slice pl_A pl_n pl_c)), some (.v (.int .i64 ((pl_n : Nat) : Int)))] [] ∧ next6 (((jA29, jn30, jc31), (IntKind.i64.wrap (s4.1.2.1 + 1), ())), ()) H32) fun J33 => 0 ≤ (s4.1.2.1 : Int) ∧ (s4.1.2.1 : Int) <
    ((pl_n : Nat) : Int) ∧ onPtr pl_A fun b7 o7 => ∃ x8 : Int, cl H5 b7 (o7 + (s4.1.2.1 : Int).toNat * 5) = some (.int .i64 x8) ∧ ∃ x9 : Int, cl H5 b7 ((o7 + (s4.1.2.1 : Int).toNat * 5) + 1) = some (.int .i64 x9) ∧ ∃ x10
    : Int, cl H5 b7 (((o7 + (s4.1.2.1 : Int).toNat * 5) + 1) + 1) = some (.int .i64 x10) ∧ ∃ x11 : Int, cl H5 b7 ((((o7 + (s4.1.2.1 : Int).toNat * 5) + 1) + 1) + 1) = some (.int .i64 x11) ∧ ∃ x12 : Int, cl H5 b7 (((((o7 +
    (s4.1.2.1 : Int).toNat * 5) + 1) + 1) + 1) + 1) = some (.int .i64 x12) ∧ HCalls Tryz.prog 40 [.slice ptxns_A ptxns_n ptxns_c, .int .i64 x9] H5 fun v13 H14 => ∃ x15 : Bool, v13 = .bool x15 ∧ cnd (!x15) (J33 s4.1.1.1
    s4.1.1.2.1 s4.1.1.2.2 H14) (jn (fun (j22 : Int) (H23 : Hp) => newF H23 35 [.int .i64 x8, .int .i64 x9, .int .i64 x10, .int .i64 j22, .int .i64 x12] fun g25 H26 => appendF H26 35 5 40 s4.1.1.1 s4.1.1.2.1 s4.1.1.2.2
    (some ⟨g25, 0, none⟩) 1 fun A27 n27 c27 H28 => J33 A27 n27 c27 H28) fun J24 => jn (fun (j19 : Bool) (H20 : Hp) => cnd j19 (J24 0 H20) (J24 x11 H20)) fun J21 => cnd ((x11 : Int) != 0) (HCalls Tryz.prog 40 [.slice
    ptxns_A ptxns_n ptxns_c, .int .i64 x11] H14 fun v16 H17 => ∃ x18 : Bool, v16 = .bool x18 ∧ J21 (!x18) H17) (J21 false H14))) (Q (.tuple #[.slice s4.1.1.1 s4.1.1.2.1 s4.1.1.2.2, .int .i64 0]) H5))
noncomputable def fcx31 : Cx := cx 40 [(8, true)] [(5, ⟨[1, 12, 13], [], [(6, .slice), (14, .int .i64)], []⟩)] [] []
theorem f31.eq (pl_A : Option Addr) (pl_n pl_c : Nat) (ptxns_A : Option Addr) (ptxns_n ptxns_c : Nat) (H : Hp) (Q : Value → Hp → Prop) : f31 pl_A pl_n pl_c ptxns_A ptxns_n ptxns_c H Q = wFun fcx31 Tryz.f31 [.slice pl_A pl_n pl_c, .slice ptxns_A ptxns_n ptxns_c] H Q := by kernel_rfl
theorem f31.ok (pl_A : Option Addr) (pl_n pl_c : Nat) (ptxns_A : Option Addr) (ptxns_n ptxns_c : Nat) {H : Hp} {Q : Value → Hp → Prop} (h : f31 pl_A pl_n pl_c ptxns_A ptxns_n ptxns_c H Q) : HCalls Tryz.prog 31 [.slice pl_A pl_n pl_c, .slice ptxns_A ptxns_n ptxns_c] H Q := hcalls_of (cxOk 40 [(8, true)] [(5, ⟨[1, 12, 13], [], [(6, .slice), (14, .int .i64)], []⟩)] [] []) Tryz.func31 (Eq.mp (f31.eq pl_A pl_n pl_c ptxns_A ptxns_n ptxns_c H Q) h)

/-- justiciar justiciarlaw29.begin -/
def f34 (pn : Int) (H : Hp) (Q : Value → Hp → Prop) : Prop :=
  Q (.agg #[.int .i64 1, .int .i64 pn, .int .i64 0, .int .i64 0, .int .i64 0]) H
noncomputable def fcx34 : Cx := cx 5 [(2, true)] [] [] []
theorem f34.eq (pn : Int) (H : Hp) (Q : Value → Hp → Prop) : f34 pn H Q = wFun fcx34 Tryz.f34 [.int .i64 pn] H Q := by kernel_rfl
theorem f34.ok (pn : Int) {H : Hp} {Q : Value → Hp → Prop} (h : f34 pn H Q) : HCalls Tryz.prog 34 [.int .i64 pn] H Q := hcalls_of (cxOk 5 [(2, true)] [] [] []) Tryz.func34 (Eq.mp (f34.eq pn H Q) h)

/-- justiciar justiciarlaw29.read -/
def f35 (pn : Int) (pitem : Int) (pfrm : Int) (pstmt : Int) (H : Hp) (Q : Value → Hp → Prop) : Prop :=
  Q (.agg #[.int .i64 2, .int .i64 pn, .int .i64 pitem, .int .i64 pfrm, .int .i64 pstmt]) H
noncomputable def fcx35 : Cx := cx 14 [(8, true)] [] [] []
theorem f35.eq (pn : Int) (pitem : Int) (pfrm : Int) (pstmt : Int) (H : Hp) (Q : Value → Hp → Prop) : f35 pn pitem pfrm pstmt H Q = wFun fcx35 Tryz.f35 [.int .i64 pn, .int .i64 pitem, .int .i64 pfrm, .int .i64 pstmt] H Q := by kernel_rfl
theorem f35.ok (pn : Int) (pitem : Int) (pfrm : Int) (pstmt : Int) {H : Hp} {Q : Value → Hp → Prop} (h : f35 pn pitem pfrm pstmt H Q) : HCalls Tryz.prog 35 [.int .i64 pn, .int .i64 pitem, .int .i64 pfrm, .int .i64 pstmt] H Q := hcalls_of (cxOk 14 [(8, true)] [] [] []) Tryz.func35 (Eq.mp (f35.eq pn pitem pfrm pstmt H Q) h)

/-- justiciar justiciarlaw29.write -/
def f36 (pn : Int) (pitem : Int) (pstmt : Int) (H : Hp) (Q : Value → Hp → Prop) : Prop :=
  Q (.agg #[.int .i64 3, .int .i64 pn, .int .i64 pitem, .int .i64 0, .int .i64 pstmt]) H
noncomputable def fcx36 : Cx := cx 11 [(6, true)] [] [] []
theorem f36.eq (pn : Int) (pitem : Int) (pstmt : Int) (H : Hp) (Q : Value → Hp → Prop) : f36 pn pitem pstmt H Q = wFun fcx36 Tryz.f36 [.int .i64 pn, .int .i64 pitem, .int .i64 pstmt] H Q := by kernel_rfl
theorem f36.ok (pn : Int) (pitem : Int) (pstmt : Int) {H : Hp} {Q : Value → Hp → Prop} (h : f36 pn pitem pstmt H Q) : HCalls Tryz.prog 36 [.int .i64 pn, .int .i64 pitem, .int .i64 pstmt] H Q := hcalls_of (cxOk 11 [(6, true)] [] [] []) Tryz.func36 (Eq.mp (f36.eq pn pitem pstmt H Q) h)

/-- justiciar justiciarlaw29.commit -/
def f37 (pn : Int) (H : Hp) (Q : Value → Hp → Prop) : Prop :=
  Q (.agg #[.int .i64 4, .int .i64 pn, .int .i64 0, .int .i64 0, .int .i64 0]) H
noncomputable def fcx37 : Cx := cx 5 [(2, true)] [] [] []
theorem f37.eq (pn : Int) (H : Hp) (Q : Value → Hp → Prop) : f37 pn H Q = wFun fcx37 Tryz.f37 [.int .i64 pn] H Q := by kernel_rfl
theorem f37.ok (pn : Int) {H : Hp} {Q : Value → Hp → Prop} (h : f37 pn H Q) : HCalls Tryz.prog 37 [.int .i64 pn] H Q := hcalls_of (cxOk 5 [(2, true)] [] [] []) Tryz.func37 (Eq.mp (f37.eq pn H Q) h)

/-- justiciar history.of -/
def f38 (pl_A : Option Addr) (pl_n pl_c : Nat) (H : Hp) (Q : Value → Hp → Prop) : Prop :=
  newMapF H fun m1 H2 => newMapF H2 fun m3 H4 => newMapF H4 fun m5 H6 => newMapF H6 fun m7 H8 => newF H8 62 [.slice pl_A pl_n pl_c, .map (some m1), .map (some m3), .map (some m5), .map (some m7)] fun g9 H10 => newMapF H10
    fun m11 H12 => LoopF (σ := (Int × Unit) × Unit) ((0, ()), ()) H12 fun s13 H14 next15 => cnd (decide ((s13.1.1 : Int) < ((pl_n : Nat) : Int))) (jn (fun (H75 : Hp) => KeepX [some (.v (.pointer (some ⟨g9, 0, none⟩))),
    some (.v (.map (some m11))), some (.v (.slice pl_A pl_n pl_c)), some (.v (.int .i64 ((pl_n : Nat) : Int)))] [] ∧ next15 ((IntKind.i64.wrap (s13.1.1 + 1), ()), ()) H75) fun J76 => 0 ≤ (s13.1.1 : Int) ∧ (s13.1.1 : Int)
    < ((pl_n : Nat) : Int) ∧ onPtr pl_A fun b16 o16 => ∃ x17 : Int, cl H14 b16 (o16 + (s13.1.1 : Int).toNat * 5) = some (.int .i64 x17) ∧ ∃ x18 : Int, cl H14 b16 ((o16 + (s13.1.1 : Int).toNat * 5) + 1) = some (.int .i64
    x18) ∧ ∃ x19 : Int, cl H14 b16 (((o16 + (s13.1.1 : Int).toNat * 5) + 1) + 1) = some (.int .i64 x19) ∧ ∃ x20 : Int, cl H14 b16 ((((o16 + (s13.1.1 : Int).toNat * 5) + 1) + 1) + 1) = some (.int .i64 x20) ∧ ∃ x21 : Int,
    cl H14 b16 (((((o16 + (s13.1.1 : Int).toNat * 5) + 1) + 1) + 1) + 1) = some (.int .i64 x21) ∧ cnd ((x17 : Int) == 1) (∃ r22 : Option Nat, cl H14 g9 (0 + 2) = some (.map r22) ∧ putF H14 .i64 r22 x18 (.int .i64 s13.1.1)
    fun H23 => newMapF H23 fun m24 H25 => putF H25 .i64 (some m11) x18 (.map (some m24)) fun H26 => J76 H26) (cnd ((x17 : Int) == 3) (lookF H14 .i64 (some m11) x18 (.map none) fun v27 b28 => ∃ r29 : Option Nat, v27 = .map
    r29 ∧ putF H14 .i64 r29 x19 (.bool true) fun H30 => ∃ r31 : Option Nat, cl H30 g9 (0 + 4) = some (.map r31) ∧ putF2 H30 r31 x18 x19 (.int .i64 s13.1.1) fun H32 => J76 H32) (cnd ((x17 : Int) == 4) (∃ r33 : Option Nat,
    cl H14 g9 (0 + 1) = some (.map r33) ∧ putF H14 .i64 r33 x18 (.int .i64 s13.1.1) fun H34 => lookF H34 .i64 (some m11) x18 (.map none) fun v35 b36 => ∃ r37 : Option Nat, v35 = .map r37 ∧ rangeF H34 r37 fun i38 H39 =>
    LoopF (σ := Unit × Unit) ((), ()) H39 fun s40 H41 next42 => jn (fun (H73 : Hp) => KeepX [some (.v (.pointer (some ⟨g9, 0, none⟩))), some (.v (.map (some m11))), some (.loc 6 0), some (.v (.slice pl_A pl_n pl_c)), some
    (.v (.int .i64 ((pl_n : Nat) : Int))), some (.v (.int .i64 s13.1.1)), some (.v (.pointer (some ⟨i38, 0, none⟩)))] [some (true, [.int .i64 x17, .int .i64 x18, .int .i64 x19, .int .i64 x20, .int .i64 x21])] ∧ next42
    ((), ()) H73) fun J74 => jn (fun (j48 : Bool) (H49 : Hp) => cnd j48 (entryF H49 i38 0 fun k51 v52 => ∃ x53 : Int, k51 = .int .i64 x53 ∧ ∃ x54 : Bool, v52 = .bool x54 ∧ ∃ r55 : Option Nat, cl H49 g9 (0 + 3) = some
    (.map r55) ∧ ∃ r56 : Option Nat, cl H49 g9 (0 + 3) = some (.map r56) ∧ (lookF H49 .i64 r56 x53 (.slice none 0 0) fun v57 b58 => ∃ (A59 : Option Addr) (n59 c59 : Nat), v57 = .slice A59 n59 c59 ∧ H49 g9 = H49 g9 ∧ newF
    H49 3 [.int .i64 x18] fun g60 H61 => appendF H61 3 1 8 A59 n59 c59 (some ⟨g60, 0, none⟩) 1 fun A62 n62 c62 H63 => H63 g9 = H61 g9 ∧ putF H63 .i64 r55 x53 (.slice A62 n62 c62) fun H64 => J74 H64) ∧ (newF H49 3 [.int
    .i64 x18] fun g65 H66 => lookF H66 .i64 r56 x53 (.slice none 0 0) fun v67 b68 => ∃ (A69 : Option Addr) (n69 c69 : Nat), v67 = .slice A69 n69 c69 ∧ H66 g9 = H66 g9 ∧ appendF H66 3 1 8 A69 n69 c69 (some ⟨g65, 0, none⟩)
    1 fun A70 n70 c70 H71 => H71 g9 = H66 g9 ∧ putF H71 .i64 r55 x53 (.slice A70 n70 c70) fun H72 => J74 H72)) (J76 H49)) fun J50 => nextF H41 i38 0 (J50 false H41) fun k43 v44 H45 => ∃ x46 : Int, k43 = .int .i64 x46 ∧ ∃
    x47 : Bool, v44 = .bool x47 ∧ J50 true H45) (J76 H14)))) (Q (.pointer (some ⟨g9, 0, none⟩)) H14)
noncomputable def fcx38 : Cx := cx 91 [(6, true)] [(4, ⟨[3, 4, 16, 17], [], [(18, .int .i64)], []⟩), (16, ⟨[3, 4, 6, 16, 17, 18, 69], [6], [], []⟩)] [(8, (.look 0 (.look 1 (.look 2 (.look 3 (.look 4 (.look 5 (.look 6 (.act 7 .done .done))))))))), (12, (.look 0 (.look 1 (.look 2 (.look 3 (.look 4 (.look 5 (.look 6 (.look 7 (.look 8 (.look 9 (.act 10 .done .done)))))))))))), (14, (.look 0 (.look 1 (.look 2 (.look 3 (.look 4 (.look 5 (.look 6 (.act 7 .done .done))))))))), (18, (.look 0 (.look 1 (.look 2 (.look 3 (.look 4 (.look 5 (.look 6 (.look 7 (.look 8 (.look 9 (.look 11 (.look 12 (.act 10 (.act 13 (.act 14 (.act 15 .done .done) .done) .done) (.act 13 (.act 10 (.act 14 (.act 15 .done .done) .done) .done) .done)))))))))))))))] [(70, ((.int .i64 0), (.bool false))), (72, ((.int .i64 0), (.bool false)))]
theorem f38.eq (pl_A : Option Addr) (pl_n pl_c : Nat) (H : Hp) (Q : Value → Hp → Prop) : f38 pl_A pl_n pl_c H Q = wFun fcx38 Tryz.f38 [.slice pl_A pl_n pl_c] H Q := by kernel_rfl
theorem f38.ok (pl_A : Option Addr) (pl_n pl_c : Nat) {H : Hp} {Q : Value → Hp → Prop} (h : f38 pl_A pl_n pl_c H Q) : HCalls Tryz.prog 38 [.slice pl_A pl_n pl_c] H Q := hcalls_of (cxOk 91 [(6, true)] [(4, ⟨[3, 4, 16, 17], [], [(18, .int .i64)], []⟩), (16, ⟨[3, 4, 6, 16, 17, 18, 69], [6], [], []⟩)] [(8, (.look 0 (.look 1 (.look 2 (.look 3 (.look 4 (.look 5 (.look 6 (.act 7 .done .done))))))))), (12, (.look 0 (.look 1 (.look 2 (.look 3 (.look 4 (.look 5 (.look 6 (.look 7 (.look 8 (.look 9 (.act 10 .done .done)))))))))))), (14, (.look 0 (.look 1 (.look 2 (.look 3 (.look 4 (.look 5 (.look 6 (.act 7 .done .done))))))))), (18, (.look 0 (.look 1 (.look 2 (.look 3 (.look 4 (.look 5 (.look 6 (.look 7 (.look 8 (.look 9 (.look 11 (.look 12 (.act 10 (.act 13 (.act 14 (.act 15 .done .done) .done) .done) (.act 13 (.act 10 (.act 14 (.act 15 .done .done) .done) .done) .done)))))))))))))))] [(70, ((.int .i64 0), (.bool false))), (72, ((.int .i64 0), (.bool false)))]) Tryz.func38 (Eq.mp (f38.eq pl_A pl_n pl_c H Q) h)

/-- (*justiciar history.book).each -/
def f39 (pb_b pb_o : Nat) (pt : Int) (H : Hp) (Q : Value → Hp → Prop) : Prop :=
  ∃ r1 : Option Nat, cl H pb_b (pb_o + 2) = some (.map r1) ∧ lookF H .i64 r1 pt (.int .i64 0) fun v2 b3 => ∃ x4 : Int, v2 = .int .i64 x4 ∧ ∃ r5 : Option Nat, cl H pb_b (pb_o + 2) = some (.map r5) ∧ lookF H .i64 r5 pt (.int
    .i64 0) fun v6 b7 => ∃ x8 : Int, v6 = .int .i64 x8 ∧ LoopF (σ := (Int × (Int × (Int × Unit))) × Unit) ((x4, (0, (IntKind.i64.wrap (x8 + 1), ()))), ()) H fun s9 H10 next11 => ∃ r12 : Option Nat, cl H10 pb_b (pb_o + 1)
    = some (.map r12) ∧ lookF H10 .i64 r12 pt (.int .i64 0) fun v13 b14 => ∃ x15 : Int, v13 = .int .i64 x15 ∧ cnd (decide ((s9.1.2.2.1 : Int) < x15)) (jn (fun (j29 : Int) (j30 : Int) (H31 : Hp) => KeepX [some (.v
    (.pointer (some ⟨pb_b, pb_o, none⟩))), some (.v (.int .i64 pt))] [] ∧ next11 ((j29, (j30, (IntKind.i64.wrap (s9.1.2.2.1 + 1), ()))), ()) H31) fun J32 => ∃ (A16 : Option Addr) (n16 c16 : Nat), cl H10 pb_b (pb_o + 0) =
    some (.slice A16 n16 c16) ∧ 0 ≤ (s9.1.2.2.1 : Int) ∧ (s9.1.2.2.1 : Int) < ((n16 : Nat) : Int) ∧ onPtr A16 fun b17 o17 => ∃ x18 : Int, cl H10 b17 (o17 + (s9.1.2.2.1 : Int).toNat * 5) = some (.int .i64 x18) ∧ ∃ x19 :
    Int, cl H10 b17 ((o17 + (s9.1.2.2.1 : Int).toNat * 5) + 1) = some (.int .i64 x19) ∧ ∃ x20 : Int, cl H10 b17 (((o17 + (s9.1.2.2.1 : Int).toNat * 5) + 1) + 1) = some (.int .i64 x20) ∧ ∃ x21 : Int, cl H10 b17 ((((o17 +
    (s9.1.2.2.1 : Int).toNat * 5) + 1) + 1) + 1) = some (.int .i64 x21) ∧ ∃ x22 : Int, cl H10 b17 (((((o17 + (s9.1.2.2.1 : Int).toNat * 5) + 1) + 1) + 1) + 1) = some (.int .i64 x22) ∧ cnd ((x19 : Int) != pt) (J32 s9.1.1
    s9.1.2.1 H10) (jn (fun (j26 : Bool) (H27 : Hp) => cnd j26 (Q (.bool false) H27) (J32 s9.1.2.2.1 x22 H27)) fun J28 => cnd ((x22 : Int) != s9.1.2.1) (HCalls Tryz.prog 71 [.pointer (some ⟨pb_b, pb_o, none⟩), .int .i64
    pt, .int .i64 x22, .int .i64 (IntKind.i64.wrap (s9.1.1 + 1)), .int .i64 s9.1.2.2.1, .int .i64 (-1)] H10 fun v23 H24 => ∃ x25 : Bool, v23 = .bool x25 ∧ J28 (!x25) H24) (J28 false H10))) (Q (.bool true) H10)
noncomputable def fcx39 : Cx := cx 61 [(8, true)] [(3, ⟨[0, 1], [], [(5, .int .i64), (6, .int .i64), (7, .int .i64)], []⟩)] [(9, (.look 0 (.look 1 (.look 2 (.act 3 (.act 4 .done .done) .done)))))] []
theorem f39.eq (pb_b pb_o : Nat) (pt : Int) (H : Hp) (Q : Value → Hp → Prop) : f39 pb_b pb_o pt H Q = wFun fcx39 Tryz.f39 [.pointer (some ⟨pb_b, pb_o, none⟩), .int .i64 pt] H Q := by kernel_rfl
theorem f39.ok (pb_b pb_o : Nat) (pt : Int) {H : Hp} {Q : Value → Hp → Prop} (h : f39 pb_b pb_o pt H Q) : HCalls Tryz.prog 39 [.pointer (some ⟨pb_b, pb_o, none⟩), .int .i64 pt] H Q := hcalls_of (cxOk 61 [(8, true)] [(3, ⟨[0, 1], [], [(5, .int .i64), (6, .int .i64), (7, .int .i64)], []⟩)] [(9, (.look 0 (.look 1 (.look 2 (.act 3 (.act 4 .done .done) .done)))))] []) Tryz.func39 (Eq.mp (f39.eq pb_b pb_o pt H Q) h)

/-- slices.Contains[[]int,int] -/
def f40 (ps_A : Option Addr) (ps_n ps_c : Nat) (pv : Int) (H : Hp) (Q : Value → Hp → Prop) : Prop :=
  HCalls Tryz.prog 72 [.slice ps_A ps_n ps_c, .int .i64 pv] H fun v1 H2 => ∃ x3 : Int, v1 = .int .i64 x3 ∧ Q (.bool (decide ((x3 : Int) ≥ 0))) H2
noncomputable def fcx40 : Cx := cx 9 [] [] [] []
theorem f40.eq (ps_A : Option Addr) (ps_n ps_c : Nat) (pv : Int) (H : Hp) (Q : Value → Hp → Prop) : f40 ps_A ps_n ps_c pv H Q = wFun fcx40 Tryz.f40 [.slice ps_A ps_n ps_c, .int .i64 pv] H Q := by kernel_rfl
theorem f40.ok (ps_A : Option Addr) (ps_n ps_c : Nat) (pv : Int) {H : Hp} {Q : Value → Hp → Prop} (h : f40 ps_A ps_n ps_c pv H Q) : HCalls Tryz.prog 40 [.slice ps_A ps_n ps_c, .int .i64 pv] H Q := hcalls_of (cxOk 9 [] [] [] []) Tryz.func40 (Eq.mp (f40.eq ps_A ps_n ps_c pv H Q) h)

/-- (*justiciar history.book).serial -/
def f41 (pb_b pb_o : Nat) (pt : Int) (H : Hp) (Q : Value → Hp → Prop) : Prop :=
  ∃ r1 : Option Nat, cl H pb_b (pb_o + 1) = some (.map r1) ∧ lookF H .i64 r1 pt (.int .i64 0) fun v2 b3 => ∃ x4 : Int, v2 = .int .i64 x4 ∧ ∃ r5 : Option Nat, cl H pb_b (pb_o + 2) = some (.map r5) ∧ lookF H .i64 r5 pt (.int
    .i64 0) fun v6 b7 => ∃ x8 : Int, v6 = .int .i64 x8 ∧ LoopF (σ := (Int × (Int × Unit)) × Unit) ((x4, (x8, ())), ()) H fun s9 H10 next11 => cnd (decide ((s9.1.2.1 : Int) < s9.1.1)) (jn (fun (j21 : Int) => KeepX [some
    (.v (.pointer (some ⟨pb_b, pb_o, none⟩))), some (.v (.int .i64 pt))] [] ∧ next11 ((j21, (IntKind.i64.wrap (s9.1.2.1 + 1), ())), ()) H10) fun J22 => ∃ (A12 : Option Addr) (n12 c12 : Nat), cl H10 pb_b (pb_o + 0) = some
    (.slice A12 n12 c12) ∧ 0 ≤ (s9.1.2.1 : Int) ∧ (s9.1.2.1 : Int) < ((n12 : Nat) : Int) ∧ onPtr A12 fun b13 o13 => ∃ x14 : Int, cl H10 b13 (o13 + (s9.1.2.1 : Int).toNat * 5) = some (.int .i64 x14) ∧ ∃ x15 : Int, cl H10
    b13 ((o13 + (s9.1.2.1 : Int).toNat * 5) + 1) = some (.int .i64 x15) ∧ ∃ x16 : Int, cl H10 b13 (((o13 + (s9.1.2.1 : Int).toNat * 5) + 1) + 1) = some (.int .i64 x16) ∧ ∃ x17 : Int, cl H10 b13 ((((o13 + (s9.1.2.1 :
    Int).toNat * 5) + 1) + 1) + 1) = some (.int .i64 x17) ∧ ∃ x18 : Int, cl H10 b13 (((((o13 + (s9.1.2.1 : Int).toNat * 5) + 1) + 1) + 1) + 1) = some (.int .i64 x18) ∧ jn (fun (j19 : Bool) => cnd j19 (J22 s9.1.2.1) (J22
    s9.1.1)) fun J20 => cnd ((x15 : Int) == pt) (cnd ((x14 : Int) == 2) (J20 true) (J20 ((x14 : Int) == 3))) (J20 false)) (jn (fun (j43 : Bool) (H44 : Hp) => Q (.bool j43) H44) fun J45 => ∃ r23 : Option Nat, cl H10 pb_b
    (pb_o + 2) = some (.map r23) ∧ ∃ r24 : Option Nat, cl H10 pb_b (pb_o + 1) = some (.map r24) ∧ (lookF H10 .i64 r23 pt (.int .i64 0) fun v25 b26 => ∃ x27 : Int, v25 = .int .i64 x27 ∧ H10 pb_b = H10 pb_b ∧ lookF H10 .i64
    r24 pt (.int .i64 0) fun v28 b29 => ∃ x30 : Int, v28 = .int .i64 x30 ∧ H10 pb_b = H10 pb_b ∧ HCalls Tryz.prog 71 [.pointer (some ⟨pb_b, pb_o, none⟩), .int .i64 pt, .int .i64 0, .int .i64 (IntKind.i64.wrap (x27 + 1)),
    .int .i64 s9.1.1, .int .i64 x30] H10 fun v31 H32 => ∃ x33 : Bool, v31 = .bool x33 ∧ J45 x33 H32) ∧ (lookF H10 .i64 r24 pt (.int .i64 0) fun v34 b35 => ∃ x36 : Int, v34 = .int .i64 x36 ∧ H10 pb_b = H10 pb_b ∧ lookF H10
    .i64 r23 pt (.int .i64 0) fun v37 b38 => ∃ x39 : Int, v37 = .int .i64 x39 ∧ H10 pb_b = H10 pb_b ∧ HCalls Tryz.prog 71 [.pointer (some ⟨pb_b, pb_o, none⟩), .int .i64 pt, .int .i64 0, .int .i64 (IntKind.i64.wrap (x39 +
    1)), .int .i64 s9.1.1, .int .i64 x36] H10 fun v40 H41 => ∃ x42 : Bool, v40 = .bool x42 ∧ J45 x42 H41))
noncomputable def fcx41 : Cx := cx 64 [(7, true)] [(3, ⟨[0, 1], [], [(5, .int .i64), (6, .int .i64)], []⟩)] [(8, (.look 0 (.look 1 (.look 2 (.look 3 (.look 4 (.look 5 (.look 6 (.look 9 (.look 10 (.look 11 (.look 12 (.look 13 (.look 14 (.act 7 (.look 8 (.act 15 (.act 16 (.act 17 .done .done) .done) .done)) (.act 15 (.act 7 (.look 8 (.act 16 (.act 17 .done .done) .done)) .done) .done))))))))))))))))] []
theorem f41.eq (pb_b pb_o : Nat) (pt : Int) (H : Hp) (Q : Value → Hp → Prop) : f41 pb_b pb_o pt H Q = wFun fcx41 Tryz.f41 [.pointer (some ⟨pb_b, pb_o, none⟩), .int .i64 pt] H Q := by kernel_rfl
theorem f41.ok (pb_b pb_o : Nat) (pt : Int) {H : Hp} {Q : Value → Hp → Prop} (h : f41 pb_b pb_o pt H Q) : HCalls Tryz.prog 41 [.pointer (some ⟨pb_b, pb_o, none⟩), .int .i64 pt] H Q := hcalls_of (cxOk 64 [(7, true)] [(3, ⟨[0, 1], [], [(5, .int .i64), (6, .int .i64)], []⟩)] [(8, (.look 0 (.look 1 (.look 2 (.look 3 (.look 4 (.look 5 (.look 6 (.look 9 (.look 10 (.look 11 (.look 12 (.look 13 (.look 14 (.act 7 (.look 8 (.act 15 (.act 16 (.act 17 .done .done) .done) .done)) (.act 15 (.act 7 (.look 8 (.act 16 (.act 17 .done .done) .done)) .done) .done))))))))))))))))] []) Tryz.func41 (Eq.mp (f41.eq pb_b pb_o pt H Q) h)

/-- (*justiciar history.book).arcs -/
def f42 (pb_b pb_o : Nat) (H : Hp) (Q : Value → Hp → Prop) : Prop :=
  newF H 56 [.pointer (some ⟨pb_b, pb_o, none⟩)] fun g1 H2 => newF H2 39 [.slice none 0 0] fun g3 H4 => ∃ p5 : Option Addr, cl H4 g1 0 = some (.pointer p5) ∧ onPtr p5 fun b6 o6 => ∃ r7 : Option Nat, cl H4 b6 (o6 + 3) = some
    (.map r7) ∧ rangeF H4 r7 fun i8 H9 => LoopF (σ := Unit × Unit) ((), ()) H9 fun s10 H11 next12 => jn (fun (j18 : Bool) (H19 : Hp) => cnd j18 (entryF H19 i8 0 fun k21 v22 => ∃ x23 : Int, k21 = .int .i64 x23 ∧ ∃ (A24 :
    Option Addr) (n24 c24 : Nat), v22 = .slice A24 n24 c24 ∧ LoopF (σ := (Int × Unit) × Unit) ((1, ()), ()) H19 fun s25 H26 next27 => cnd (decide ((s25.1.1 : Int) < ((n24 : Nat) : Int))) (0 ≤ (IntKind.i64.wrap (s25.1.1 -
    1) : Int) ∧ (IntKind.i64.wrap (s25.1.1 - 1) : Int) < ((n24 : Nat) : Int) ∧ onPtr A24 fun b28 o28 => ∃ x29 : Int, cl H26 b28 (o28 + (IntKind.i64.wrap (s25.1.1 - 1) : Int).toNat * 1) = some (.int .i64 x29) ∧ 0 ≤
    (s25.1.1 : Int) ∧ (s25.1.1 : Int) < ((n24 : Nat) : Int) ∧ onPtr A24 fun b30 o30 => ∃ x31 : Int, cl H26 b30 (o30 + (s25.1.1 : Int).toNat * 1) = some (.int .i64 x31) ∧ FnOk Tryz.prog 73 ∧ HCalls Tryz.prog 73 [.int .i64
    x29, .int .i64 x31, .int .i64 1, .int .i64 x23, .pointer (some ⟨g1, 0, none⟩), .pointer (some ⟨g3, 0, none⟩)] H26 fun v32 H33 => KeepX [some (.v (.pointer (some ⟨g1, 0, none⟩))), some (.v (.pointer (some ⟨g3, 0,
    none⟩))), some (.v (.func (.func 73) #[] #[.pointer (some ⟨g1, 0, none⟩), .pointer (some ⟨g3, 0, none⟩)])), some (.v (.int .i64 x23)), some (.v (.slice A24 n24 c24)), some (.v (.pointer (some ⟨i8, 0, none⟩)))] [] ∧
    next27 ((IntKind.i64.wrap (s25.1.1 + 1), ()), ()) H33) (KeepX [some (.v (.pointer (some ⟨g1, 0, none⟩))), some (.v (.pointer (some ⟨g3, 0, none⟩))), some (.v (.func (.func 73) #[] #[.pointer (some ⟨g1, 0, none⟩),
    .pointer (some ⟨g3, 0, none⟩)])), some (.v (.pointer (some ⟨i8, 0, none⟩)))] [] ∧ next12 ((), ()) H26)) (∃ p34 : Option Addr, cl H19 g1 0 = some (.pointer p34) ∧ onPtr p34 fun b35 o35 => ∃ (A36 : Option Addr) (n36 c36
    : Nat), cl H19 b35 (o35 + 0) = some (.slice A36 n36 c36) ∧ LoopF (σ := (Int × Unit) × Unit) ((0, ()), ()) H19 fun s37 H38 next39 => cnd (decide ((s37.1.1 : Int) < ((n36 : Nat) : Int))) (jn (fun (H69 : Hp) => KeepX
    [some (.v (.pointer (some ⟨g1, 0, none⟩))), some (.v (.pointer (some ⟨g3, 0, none⟩))), some (.v (.func (.func 73) #[] #[.pointer (some ⟨g1, 0, none⟩), .pointer (some ⟨g3, 0, none⟩)])), some (.v (.slice A36 n36 c36)),
    some (.v (.int .i64 ((n36 : Nat) : Int)))] [] ∧ next39 ((IntKind.i64.wrap (s37.1.1 + 1), ()), ()) H69) fun J70 => 0 ≤ (s37.1.1 : Int) ∧ (s37.1.1 : Int) < ((n36 : Nat) : Int) ∧ onPtr A36 fun b40 o40 => ∃ x41 : Int, cl
    H38 b40 (o40 + (s37.1.1 : Int).toNat * 5) = some (.int .i64 x41) ∧ ∃ x42 : Int, cl H38 b40 ((o40 + (s37.1.1 : Int).toNat * 5) + 1) = some (.int .i64 x42) ∧ ∃ x43 : Int, cl H38 b40 (((o40 + (s37.1.1 : Int).toNat * 5) +
    1) + 1) = some (.int .i64 x43) ∧ ∃ x44 : Int, cl H38 b40 ((((o40 + (s37.1.1 : Int).toNat * 5) + 1) + 1) + 1) = some (.int .i64 x44) ∧ ∃ x45 : Int, cl H38 b40 (((((o40 + (s37.1.1 : Int).toNat * 5) + 1) + 1) + 1) + 1) =
    some (.int .i64 x45) ∧ cnd ((x41 : Int) != 2) (J70 H38) (jn (fun (H54 : Hp) => jn (fun (j60 : Bool) (H61 : Hp) => cnd j60 (∃ p63 : Option Addr, cl H61 g1 0 = some (.pointer p63) ∧ HCalls Tryz.prog 75 [.pointer p63,
    .int .i64 x43, .int .i64 x44] H61 fun v64 H65 => ∃ x66 : Int, v64 = .int .i64 x66 ∧ FnOk Tryz.prog 73 ∧ HCalls Tryz.prog 73 [.int .i64 x42, .int .i64 x66, .int .i64 3, .int .i64 x43, .pointer (some ⟨g1, 0, none⟩),
    .pointer (some ⟨g3, 0, none⟩)] H65 fun v67 H68 => J70 H68) (J70 H61)) fun J62 => cnd ((x44 : Int) == 0) (J62 true H54) (∃ p56 : Option Addr, cl H54 g1 0 = some (.pointer p56) ∧ HCalls Tryz.prog 74 [.pointer p56, .int
    .i64 x44] H54 fun v57 H58 => ∃ x59 : Bool, v57 = .bool x59 ∧ J62 x59 H58)) fun J55 => ∃ p46 : Option Addr, cl H38 g1 0 = some (.pointer p46) ∧ onPtr p46 fun b47 o47 => ∃ r48 : Option Nat, cl H38 b47 (o47 + 4) = some
    (.map r48) ∧ lookF2 H38 r48 x44 x43 (.int .i64 0) fun v49 b50 => ∃ x51 : Int, v49 = .int .i64 x51 ∧ cnd (decide ((x51 : Int) < s37.1.1)) (FnOk Tryz.prog 73 ∧ HCalls Tryz.prog 73 [.int .i64 x44, .int .i64 x42, .int
    .i64 2, .int .i64 x43, .pointer (some ⟨g1, 0, none⟩), .pointer (some ⟨g3, 0, none⟩)] H38 fun v52 H53 => J55 H53) (J55 H38))) (∃ (A71 : Option Addr) (n71 c71 : Nat), cl H38 g3 0 = some (.slice A71 n71 c71) ∧ HCalls
    Tryz.prog 76 [.slice A71 n71 c71, .func (.func 77) #[] #[]] H38 fun v72 H73 => v72 = .tuple #[] ∧ ∃ (A74 : Option Addr) (n74 c74 : Nat), cl H73 g3 0 = some (.slice A74 n74 c74) ∧ HCalls Tryz.prog 78 [.slice A74 n74
    c74] H73 fun v75 H76 => ∃ (A77 : Option Addr) (n77 c77 : Nat), v75 = .slice A77 n77 c77 ∧ Q (.slice A77 n77 c77) H76))) fun J20 => nextF H11 i8 0 (J20 false H11) fun k13 v14 H15 => ∃ x16 : Int, k13 = .int .i64 x16 ∧ ∃
    (A17 : Option Addr) (n17 c17 : Nat), v14 = .slice A17 n17 c17 ∧ J20 true H15
noncomputable def fcx42 : Cx := cx 98 [(9, true)] [(4, ⟨[1, 3, 4, 15], [], [], []⟩), (7, ⟨[1, 3, 4, 5, 6, 15], [], [(7, .int .i64)], []⟩), (11, ⟨[1, 3, 4, 42, 43], [], [(44, .int .i64)], []⟩)] [(9, (.look 0 (.look 1 (.look 2 (.look 3 (.look 4 (.look 5 (.look 6 (.look 7 (.look 8 (.look 9 (.look 10 (.act 11 .done .done))))))))))))), (14, (.look 0 (.look 1 (.look 2 (.look 3 (.look 4 (.look 5 (.look 6 (.look 7 (.look 8 (.look 10 (.act 9 (.look 11 .done) .done)))))))))))), (17, (.look 0 (.look 1 (.look 2 (.look 3 (.look 4 (.look 5 (.look 6 (.look 7 (.look 9 (.look 10 (.act 8 (.act 11 .done .done) .done))))))))))))] [(16, ((.int .i64 0), (.slice none 0 0))), (18, ((.int .i64 0), (.slice none 0 0)))]
theorem f42.eq (pb_b pb_o : Nat) (H : Hp) (Q : Value → Hp → Prop) : f42 pb_b pb_o H Q = wFun fcx42 Tryz.f42 [.pointer (some ⟨pb_b, pb_o, none⟩)] H Q := by kernel_rfl
theorem f42.ok (pb_b pb_o : Nat) {H : Hp} {Q : Value → Hp → Prop} (h : f42 pb_b pb_o H Q) : HCalls Tryz.prog 42 [.pointer (some ⟨pb_b, pb_o, none⟩)] H Q := hcalls_of (cxOk 98 [(9, true)] [(4, ⟨[1, 3, 4, 15], [], [], []⟩), (7, ⟨[1, 3, 4, 5, 6, 15], [], [(7, .int .i64)], []⟩), (11, ⟨[1, 3, 4, 42, 43], [], [(44, .int .i64)], []⟩)] [(9, (.look 0 (.look 1 (.look 2 (.look 3 (.look 4 (.look 5 (.look 6 (.look 7 (.look 8 (.look 9 (.look 10 (.act 11 .done .done))))))))))))), (14, (.look 0 (.look 1 (.look 2 (.look 3 (.look 4 (.look 5 (.look 6 (.look 7 (.look 8 (.look 10 (.act 9 (.look 11 .done) .done)))))))))))), (17, (.look 0 (.look 1 (.look 2 (.look 3 (.look 4 (.look 5 (.look 6 (.look 7 (.look 9 (.look 10 (.act 8 (.act 11 .done .done) .done))))))))))))] [(16, ((.int .i64 0), (.slice none 0 0))), (18, ((.int .i64 0), (.slice none 0 0)))]) Tryz.func42 (Eq.mp (f42.eq pb_b pb_o H Q) h)

/-- justiciar history.Faults$1 -/
def f43 (pis : Bool) (ps : ByteArray) (fra_b fra_o : Nat) (H : Hp) (Q : Value → Hp → Prop) : Prop :=
  jn (fun (H7 : Hp) => Q (.bool pis) H7) fun J8 => cnd pis (∃ (A1 : Option Addr) (n1 c1 : Nat), cl H fra_b fra_o = some (.slice A1 n1 c1) ∧ newF H 9 [.string ps] fun g2 H3 => appendF H3 9 1 16 A1 n1 c1 (some ⟨g2, 0, none⟩)
    1 fun A4 n4 c4 H5 => storeF H5 fra_b fra_o [.slice A4 n4 c4] fun H6 => J8 H6) (J8 H)
noncomputable def fcx43 : Cx := cx 12 [] [] [] []
theorem f43.eq (pis : Bool) (ps : ByteArray) (fra_b fra_o : Nat) (H : Hp) (Q : Value → Hp → Prop) : f43 pis ps fra_b fra_o H Q = wFun fcx43 Tryz.f43 [.bool pis, .string ps, .pointer (some ⟨fra_b, fra_o, none⟩)] H Q := by kernel_rfl
theorem f43.ok (pis : Bool) (ps : ByteArray) (fra_b fra_o : Nat) {H : Hp} {Q : Value → Hp → Prop} (h : f43 pis ps fra_b fra_o H Q) : HCalls Tryz.prog 43 [.bool pis, .string ps, .pointer (some ⟨fra_b, fra_o, none⟩)] H Q := hcalls_of (cxOk 12 [] [] [] []) Tryz.func43 (Eq.mp (f43.eq pis ps fra_b fra_o H Q) h)

/-- (*justiciar history.book).reads -/
def f44 (pb_b pb_o : Nat) (H : Hp) (Q : Value → Hp → Prop) : Prop :=
  ∃ (A1 : Option Addr) (n1 c1 : Nat), cl H pb_b (pb_o + 0) = some (.slice A1 n1 c1) ∧ LoopF (σ := (Bool × (Bool × (Int × Unit))) × Unit) ((false, (false, (0, ()))), ()) H fun s2 H3 next4 => cnd (decide ((s2.1.2.2.1 : Int) <
    ((n1 : Nat) : Int))) (jn (fun (j27 : Bool) (j28 : Bool) (H29 : Hp) => KeepX [some (.v (.pointer (some ⟨pb_b, pb_o, none⟩))), some (.v (.slice A1 n1 c1)), some (.v (.int .i64 ((n1 : Nat) : Int)))] [] ∧ next4 ((j27,
    (j28, (IntKind.i64.wrap (s2.1.2.2.1 + 1), ()))), ()) H29) fun J30 => 0 ≤ (s2.1.2.2.1 : Int) ∧ (s2.1.2.2.1 : Int) < ((n1 : Nat) : Int) ∧ onPtr A1 fun b5 o5 => ∃ x6 : Int, cl H3 b5 (o5 + (s2.1.2.2.1 : Int).toNat * 5) =
    some (.int .i64 x6) ∧ ∃ x7 : Int, cl H3 b5 ((o5 + (s2.1.2.2.1 : Int).toNat * 5) + 1) = some (.int .i64 x7) ∧ ∃ x8 : Int, cl H3 b5 (((o5 + (s2.1.2.2.1 : Int).toNat * 5) + 1) + 1) = some (.int .i64 x8) ∧ ∃ x9 : Int, cl
    H3 b5 ((((o5 + (s2.1.2.2.1 : Int).toNat * 5) + 1) + 1) + 1) = some (.int .i64 x9) ∧ ∃ x10 : Int, cl H3 b5 (((((o5 + (s2.1.2.2.1 : Int).toNat * 5) + 1) + 1) + 1) + 1) = some (.int .i64 x10) ∧ jn (fun (j14 : Bool) (H15
    : Hp) => cnd j14 (J30 s2.1.1 s2.1.2.1 H15) (jn (fun (j20 : Bool) (H21 : Hp) => cnd s2.1.2.1 (J30 j20 true H21) (∃ r23 : Option Nat, cl H21 pb_b (pb_o + 4) = some (.map r23) ∧ lookF2 H21 r23 x9 x8 (.int .i64 0) fun v24
    b25 => ∃ x26 : Int, v24 = .int .i64 x26 ∧ J30 j20 (decide ((x26 : Int) > s2.1.2.2.1)) H21)) fun J22 => cnd s2.1.1 (J22 true H15) (HCalls Tryz.prog 74 [.pointer (some ⟨pb_b, pb_o, none⟩), .int .i64 x9] H15 fun v17 H18
    => ∃ x19 : Bool, v17 = .bool x19 ∧ J22 (!x19) H18))) fun J16 => cnd ((x6 : Int) != 2) (J16 true H3) (cnd ((x9 : Int) == 0) (J16 true H3) (cnd ((x9 : Int) == x7) (J16 true H3) (HCalls Tryz.prog 74 [.pointer (some
    ⟨pb_b, pb_o, none⟩), .int .i64 x7] H3 fun v11 H12 => ∃ x13 : Bool, v11 = .bool x13 ∧ J16 (!x13) H12)))) (Q (.tuple #[.bool s2.1.1, .bool s2.1.2.1]) H3)
noncomputable def fcx44 : Cx := cx 64 [(5, true)] [(2, ⟨[0, 9, 10], [], [(2, .bool), (3, .bool), (11, .int .i64)], []⟩)] [(6, (.look 0 (.look 1 (.look 2 (.look 3 (.look 4 (.look 5 (.look 6 (.look 7 (.look 8 (.look 9 (.look 10 (.look 12 (.act 11 (.look 13 (.look 14 (.act 15 .done .done))) .done))))))))))))))] []
theorem f44.eq (pb_b pb_o : Nat) (H : Hp) (Q : Value → Hp → Prop) : f44 pb_b pb_o H Q = wFun fcx44 Tryz.f44 [.pointer (some ⟨pb_b, pb_o, none⟩)] H Q := by kernel_rfl
theorem f44.ok (pb_b pb_o : Nat) {H : Hp} {Q : Value → Hp → Prop} (h : f44 pb_b pb_o H Q) : HCalls Tryz.prog 44 [.pointer (some ⟨pb_b, pb_o, none⟩)] H Q := hcalls_of (cxOk 64 [(5, true)] [(2, ⟨[0, 9, 10], [], [(2, .bool), (3, .bool), (11, .int .i64)], []⟩)] [(6, (.look 0 (.look 1 (.look 2 (.look 3 (.look 4 (.look 5 (.look 6 (.look 7 (.look 8 (.look 9 (.look 10 (.look 12 (.act 11 (.look 13 (.look 14 (.act 15 .done .done))) .done))))))))))))))] []) Tryz.func44 (Eq.mp (f44.eq pb_b pb_o H Q) h)

/-- justiciar history.graphOf -/
def f45 (pl_A : Option Addr) (pl_n pl_c : Nat) (pwant_f : FuncId) (pwant_a pwant_c : Array Value) (H : Hp) (Q : Value → Hp → Prop) : Prop :=
  newMapF H fun m1 H2 => LoopF (σ := (Int × Unit) × Unit) ((0, ()), ()) H2 fun s3 H4 next5 => cnd (decide ((s3.1.1 : Int) < ((pl_n : Nat) : Int))) (jn (fun (H39 : Hp) => KeepX [some (.v (.func (.func pwant_f) pwant_a
    pwant_c)), some (.v (.map (some m1))), some (.v (.slice pl_A pl_n pl_c)), some (.v (.int .i64 ((pl_n : Nat) : Int)))] [] ∧ next5 ((IntKind.i64.wrap (s3.1.1 + 1), ()), ()) H39) fun J40 => 0 ≤ (s3.1.1 : Int) ∧ (s3.1.1 :
    Int) < ((pl_n : Nat) : Int) ∧ onPtr pl_A fun b6 o6 => ∃ x7 : Int, cl H4 b6 (o6 + (s3.1.1 : Int).toNat * 4) = some (.int .i64 x7) ∧ ∃ x8 : Int, cl H4 b6 ((o6 + (s3.1.1 : Int).toNat * 4) + 1) = some (.int .i64 x8) ∧ ∃
    x9 : Int, cl H4 b6 (((o6 + (s3.1.1 : Int).toNat * 4) + 1) + 1) = some (.int .i64 x9) ∧ ∃ x10 : Int, cl H4 b6 ((((o6 + (s3.1.1 : Int).toNat * 4) + 1) + 1) + 1) = some (.int .i64 x10) ∧ jn (fun (j20 : Bool) (H21 : Hp)
    => cnd j20 ((lookF H21 .i64 (some m1) x7 (.slice none 0 0) fun v23 b24 => ∃ (A25 : Option Addr) (n25 c25 : Nat), v23 = .slice A25 n25 c25 ∧ newF H21 3 [.int .i64 x8] fun g26 H27 => appendF H27 3 1 8 A25 n25 c25 (some
    ⟨g26, 0, none⟩) 1 fun A28 n28 c28 H29 => putF H29 .i64 (some m1) x7 (.slice A28 n28 c28) fun H30 => J40 H30) ∧ (newF H21 3 [.int .i64 x8] fun g31 H32 => lookF H32 .i64 (some m1) x7 (.slice none 0 0) fun v33 b34 => ∃
    (A35 : Option Addr) (n35 c35 : Nat), v33 = .slice A35 n35 c35 ∧ appendF H32 3 1 8 A35 n35 c35 (some ⟨g31, 0, none⟩) 1 fun A36 n36 c36 H37 => putF H37 .i64 (some m1) x7 (.slice A36 n36 c36) fun H38 => J40 H38)) (J40
    H21)) fun J22 => FnOk Tryz.prog pwant_f ∧ HCalls Tryz.prog pwant_f (pwant_a.toList ++ [.int .i64 x9] ++ pwant_c.toList) H4 fun v11 H12 => ∃ x13 : Bool, v11 = .bool x13 ∧ cnd x13 (lookF H12 .i64 (some m1) x7 (.slice
    none 0 0) fun v14 b15 => ∃ (A16 : Option Addr) (n16 c16 : Nat), v14 = .slice A16 n16 c16 ∧ HCalls Tryz.prog 40 [.slice A16 n16 c16, .int .i64 x8] H12 fun v17 H18 => ∃ x19 : Bool, v17 = .bool x19 ∧ J22 (!x19) H18) (J22
    false H12)) (rangeF H4 (some m1) fun i41 H42 => LoopF (σ := Unit × Unit) ((), ()) H42 fun s43 H44 next45 => jn (fun (j51 : Bool) (H52 : Hp) => cnd j51 (entryF H52 i41 0 fun k54 v55 => ∃ x56 : Int, k54 = .int .i64 x56
    ∧ ∃ (A57 : Option Addr) (n57 c57 : Nat), v55 = .slice A57 n57 c57 ∧ HCalls Tryz.prog 79 [.slice A57 n57 c57] H52 fun v58 H59 => v58 = .tuple #[] ∧ KeepX [some (.v (.map (some m1))), some (.v (.pointer (some ⟨i41, 0,
    none⟩)))] [] ∧ next45 ((), ()) H59) (Q (.map (some m1)) H52)) fun J53 => nextF H44 i41 0 (J53 false H44) fun k46 v47 H48 => ∃ x49 : Int, k46 = .int .i64 x49 ∧ ∃ (A50 : Option Addr) (n50 c50 : Nat), v47 = .slice A50
    n50 c50 ∧ J53 true H48)
noncomputable def fcx45 : Cx := cx 52 [(7, true)] [(3, ⟨[1, 5, 11, 12], [], [(13, .int .i64)], []⟩), (9, ⟨[5, 44], [], [], []⟩)] [(6, (.look 0 (.look 1 (.look 2 (.look 3 (.look 4 (.look 5 (.look 7 (.look 8 (.act 6 (.act 9 (.act 10 (.act 11 .done .done) .done) .done) (.act 9 (.act 6 (.act 10 (.act 11 .done .done) .done) .done) .done)))))))))))] [(45, ((.int .i64 0), (.slice none 0 0))), (47, ((.int .i64 0), (.slice none 0 0)))]
theorem f45.eq (pl_A : Option Addr) (pl_n pl_c : Nat) (pwant_f : FuncId) (pwant_a pwant_c : Array Value) (H : Hp) (Q : Value → Hp → Prop) : f45 pl_A pl_n pl_c pwant_f pwant_a pwant_c H Q = wFun fcx45 Tryz.f45 [.slice pl_A pl_n pl_c, .func (.func pwant_f) pwant_a pwant_c] H Q := by kernel_rfl
theorem f45.ok (pl_A : Option Addr) (pl_n pl_c : Nat) (pwant_f : FuncId) (pwant_a pwant_c : Array Value) {H : Hp} {Q : Value → Hp → Prop} (h : f45 pl_A pl_n pl_c pwant_f pwant_a pwant_c H Q) : HCalls Tryz.prog 45 [.slice pl_A pl_n pl_c, .func (.func pwant_f) pwant_a pwant_c] H Q := hcalls_of (cxOk 52 [(7, true)] [(3, ⟨[1, 5, 11, 12], [], [(13, .int .i64)], []⟩), (9, ⟨[5, 44], [], [], []⟩)] [(6, (.look 0 (.look 1 (.look 2 (.look 3 (.look 4 (.look 5 (.look 7 (.look 8 (.act 6 (.act 9 (.act 10 (.act 11 .done .done) .done) .done) (.act 9 (.act 6 (.act 10 (.act 11 .done .done) .done) .done) .done)))))))))))] [(45, ((.int .i64 0), (.slice none 0 0))), (47, ((.int .i64 0), (.slice none 0 0)))]) Tryz.func45 (Eq.mp (f45.eq pl_A pl_n pl_c pwant_f pwant_a pwant_c H Q) h)

/-- justiciar history.Faults$2 -/
def f46 (pkind : Int) (H : Hp) (Q : Value → Hp → Prop) : Prop :=
  Q (.bool ((pkind : Int) == 1)) H
noncomputable def fcx46 : Cx := cx 5 [] [] [] []
theorem f46.eq (pkind : Int) (H : Hp) (Q : Value → Hp → Prop) : f46 pkind H Q = wFun fcx46 Tryz.f46 [.int .i64 pkind] H Q := by kernel_rfl
theorem f46.ok (pkind : Int) {H : Hp} {Q : Value → Hp → Prop} (h : f46 pkind H Q) : HCalls Tryz.prog 46 [.int .i64 pkind] H Q := hcalls_of (cxOk 5 [] [] [] []) Tryz.func46 (Eq.mp (f46.eq pkind H Q) h)

/-- justiciar history.Faults$3 -/
def f47 (pkind : Int) (H : Hp) (Q : Value → Hp → Prop) : Prop :=
  Q (.bool ((pkind : Int) != 3)) H
noncomputable def fcx47 : Cx := cx 5 [] [] [] []
theorem f47.eq (pkind : Int) (H : Hp) (Q : Value → Hp → Prop) : f47 pkind H Q = wFun fcx47 Tryz.f47 [.int .i64 pkind] H Q := by kernel_rfl
theorem f47.ok (pkind : Int) {H : Hp} {Q : Value → Hp → Prop} (h : f47 pkind H Q) : HCalls Tryz.prog 47 [.int .i64 pkind] H Q := hcalls_of (cxOk 5 [] [] [] []) Tryz.func47 (Eq.mp (f47.eq pkind H Q) h)

/-- justiciar history.Faults$4 -/
def f48 (pax : Int) (H : Hp) (Q : Value → Hp → Prop) : Prop :=
  Q (.bool true) H
noncomputable def fcx48 : Cx := cx 3 [] [] [] []
theorem f48.eq (pax : Int) (H : Hp) (Q : Value → Hp → Prop) : f48 pax H Q = wFun fcx48 Tryz.f48 [.int .i64 pax] H Q := by kernel_rfl
theorem f48.ok (pax : Int) {H : Hp} {Q : Value → Hp → Prop} (h : f48 pax H Q) : HCalls Tryz.prog 48 [.int .i64 pax] H Q := hcalls_of (cxOk 3 [] [] [] []) Tryz.func48 (Eq.mp (f48.eq pax H Q) h)

/-- justiciar history.circle -/
def f49 (pl_A : Option Addr) (pl_n pl_c : Nat) (pkind : Int) (pg : Option Nat) (H : Hp) (Q : Value → Hp → Prop) : Prop :=
  newF H 3 [.int .i64 pkind] fun g1 H2 => newF H2 69 [.map pg] fun g3 H4 => HCalls Tryz.prog 69 [.slice pl_A pl_n pl_c, .func (.func 80) #[] #[.pointer (some ⟨g1, 0, none⟩), .pointer (some ⟨g3, 0, none⟩)]] H4 fun v5 H6 => ∃
    x7 : Bool, v5 = .bool x7 ∧ Q (.bool x7) H6
noncomputable def fcx49 : Cx := cx 10 [] [] [] []
theorem f49.eq (pl_A : Option Addr) (pl_n pl_c : Nat) (pkind : Int) (pg : Option Nat) (H : Hp) (Q : Value → Hp → Prop) : f49 pl_A pl_n pl_c pkind pg H Q = wFun fcx49 Tryz.f49 [.slice pl_A pl_n pl_c, .int .i64 pkind, .map pg] H Q := by kernel_rfl
theorem f49.ok (pl_A : Option Addr) (pl_n pl_c : Nat) (pkind : Int) (pg : Option Nat) {H : Hp} {Q : Value → Hp → Prop} (h : f49 pl_A pl_n pl_c pkind pg H Q) : HCalls Tryz.prog 49 [.slice pl_A pl_n pl_c, .int .i64 pkind, .map pg] H Q := hcalls_of (cxOk 10 [] [] [] []) Tryz.func49 (Eq.mp (f49.eq pl_A pl_n pl_c pkind pg H Q) h)

/-- (justiciar history.graph).circles -/
def f50 (pg : Option Nat) (H : Hp) (Q : Value → Hp → Prop) : Prop :=
  newF H 69 [.map pg] fun g1 H2 => ∃ r3 : Option Nat, cl H2 g1 0 = some (.map r3) ∧ rangeF H2 r3 fun i4 H5 => LoopF (σ := Unit × Unit) ((), ()) H5 fun s6 H7 next8 => jn (fun (j14 : Bool) (H15 : Hp) => cnd j14 (entryF H15 i4
    0 fun k17 v18 => ∃ x19 : Int, k17 = .int .i64 x19 ∧ ∃ (A20 : Option Addr) (n20 c20 : Nat), v18 = .slice A20 n20 c20 ∧ newF H15 3 [.int .i64 0] fun g21 H22 => storeF H22 g21 0 [.int .i64 x19] fun H23 => HCalls
    Tryz.prog 82 [.slice A20 n20 c20, .func (.func 83) #[] #[.pointer (some ⟨g1, 0, none⟩), .pointer (some ⟨g21, 0, none⟩)]] H23 fun v24 H25 => ∃ x26 : Bool, v24 = .bool x26 ∧ cnd x26 (Q (.bool true) H25) (KeepX [some (.v
    (.pointer (some ⟨g1, 0, none⟩))), some (.v (.pointer (some ⟨i4, 0, none⟩)))] [] ∧ next8 ((), ()) H25)) (Q (.bool false) H15)) fun J16 => nextF H7 i4 0 (J16 false H7) fun k9 v10 H11 => ∃ x12 : Int, k9 = .int .i64 x12 ∧
    ∃ (A13 : Option Addr) (n13 c13 : Nat), v10 = .slice A13 n13 c13 ∧ J16 true H11
noncomputable def fcx50 : Cx := cx 15 [] [(2, ⟨[1, 6], [], [], []⟩)] [] [(7, ((.int .i64 0), (.slice none 0 0))), (9, ((.int .i64 0), (.slice none 0 0)))]
theorem f50.eq (pg : Option Nat) (H : Hp) (Q : Value → Hp → Prop) : f50 pg H Q = wFun fcx50 Tryz.f50 [.map pg] H Q := by kernel_rfl
theorem f50.ok (pg : Option Nat) {H : Hp} {Q : Value → Hp → Prop} (h : f50 pg H Q) : HCalls Tryz.prog 50 [.map pg] H Q := hcalls_of (cxOk 15 [] [(2, ⟨[1, 6], [], [], []⟩)] [] [(7, ((.int .i64 0), (.slice none 0 0))), (9, ((.int .i64 0), (.slice none 0 0)))]) Tryz.func50 (Eq.mp (f50.eq pg H Q) h)

/-- slices.ContainsFunc[[]justiciar api.His,justiciar api.His] -/
def f51 (ps_A : Option Addr) (ps_n ps_c : Nat) (pf_f : FuncId) (pf_a pf_c : Array Value) (H : Hp) (Q : Value → Hp → Prop) : Prop :=
  HCalls Tryz.prog 84 [.slice ps_A ps_n ps_c, .func (.func pf_f) pf_a pf_c] H fun v1 H2 => ∃ x3 : Int, v1 = .int .i64 x3 ∧ Q (.bool (decide ((x3 : Int) ≥ 0))) H2
noncomputable def fcx51 : Cx := cx 9 [] [] [] []
theorem f51.eq (ps_A : Option Addr) (ps_n ps_c : Nat) (pf_f : FuncId) (pf_a pf_c : Array Value) (H : Hp) (Q : Value → Hp → Prop) : f51 ps_A ps_n ps_c pf_f pf_a pf_c H Q = wFun fcx51 Tryz.f51 [.slice ps_A ps_n ps_c, .func (.func pf_f) pf_a pf_c] H Q := by kernel_rfl
theorem f51.ok (ps_A : Option Addr) (ps_n ps_c : Nat) (pf_f : FuncId) (pf_a pf_c : Array Value) {H : Hp} {Q : Value → Hp → Prop} (h : f51 ps_A ps_n ps_c pf_f pf_a pf_c H Q) : HCalls Tryz.prog 51 [.slice ps_A ps_n ps_c, .func (.func pf_f) pf_a pf_c] H Q := hcalls_of (cxOk 9 [] [] [] []) Tryz.func51 (Eq.mp (f51.eq ps_A ps_n ps_c pf_f pf_a pf_c H Q) h)

/-- justiciar history.Valid$1 -/
def f52 (px_0 : Int) (px_1 : Int) (px_2 : Int) (px_3 : Int) (px_4 : Int) (fra_b fra_o : Nat) (H : Hp) (Q : Value → Hp → Prop) : Prop :=
  ∃ p1 : Option Addr, cl H fra_b fra_o = some (.pointer p1) ∧ HCalls Tryz.prog 53 [.pointer p1, .agg #[.int .i64 px_0, .int .i64 px_1, .int .i64 px_2, .int .i64 px_3, .int .i64 px_4]] H fun v2 H3 => ∃ x4 : Bool, v2 = .bool
    x4 ∧ Q (.bool (!x4)) H3
noncomputable def fcx52 : Cx := cx 8 [(2, true)] [] [] []
theorem f52.eq (px_0 : Int) (px_1 : Int) (px_2 : Int) (px_3 : Int) (px_4 : Int) (fra_b fra_o : Nat) (H : Hp) (Q : Value → Hp → Prop) : f52 px_0 px_1 px_2 px_3 px_4 fra_b fra_o H Q = wFun fcx52 Tryz.f52 [.agg #[.int .i64 px_0, .int .i64 px_1, .int .i64 px_2, .int .i64 px_3, .int .i64 px_4], .pointer (some ⟨fra_b, fra_o, none⟩)] H Q := by kernel_rfl
theorem f52.ok (px_0 : Int) (px_1 : Int) (px_2 : Int) (px_3 : Int) (px_4 : Int) (fra_b fra_o : Nat) {H : Hp} {Q : Value → Hp → Prop} (h : f52 px_0 px_1 px_2 px_3 px_4 fra_b fra_o H Q) : HCalls Tryz.prog 52 [.agg #[.int .i64 px_0, .int .i64 px_1, .int .i64 px_2, .int .i64 px_3, .int .i64 px_4], .pointer (some ⟨fra_b, fra_o, none⟩)] H Q := hcalls_of (cxOk 8 [(2, true)] [] [] []) Tryz.func52 (Eq.mp (f52.eq px_0 px_1 px_2 px_3 px_4 fra_b fra_o H Q) h)

/-- (*justiciar history.checker).event -/
def f53 (pc_b pc_o : Nat) (px_0 : Int) (px_1 : Int) (px_2 : Int) (px_3 : Int) (px_4 : Int) (H : Hp) (Q : Value → Hp → Prop) : Prop :=
  newF H 35 [.int .i64 px_0, .int .i64 px_1, .int .i64 px_2, .int .i64 px_3, .int .i64 px_4] fun g1 H2 => ∃ r3 : Option Nat, cl H2 pc_b (pc_o + 0) = some (.map r3) ∧ ∃ x4 : Int, cl H2 g1 (0 + 1) = some (.int .i64 x4) ∧
    lookF H2 .i64 r3 x4 (.pointer none) fun v5 b6 => ∃ p7 : Option Addr, v5 = .pointer p7 ∧ jn (fun (jp13 : Option Addr) (H14 : Hp) => jn (fun (j25 : Bool) (H26 : Hp) => cnd j25 (Q (.bool false) H26) (∃ x28 : Int, cl H26
    g1 (0 + 0) = some (.int .i64 x28) ∧ ∃ x29 : Int, cl H26 g1 (0 + 1) = some (.int .i64 x29) ∧ jn (fun (j92 : Bool) (j93 : Int) (j94 : Int) (j95 : Int) (H96 : Hp) => jn (fun (j103 : Bool) => Q (.bool j103) H96) fun J104
    => cnd j92 (∃ x98 : Int, cl H96 g1 0 = some (.int .i64 x98) ∧ ∃ x99 : Int, cl H96 g1 (0 + 1) = some (.int .i64 x99) ∧ ∃ x100 : Int, cl H96 g1 ((0 + 1) + 1) = some (.int .i64 x100) ∧ ∃ x101 : Int, cl H96 g1 (((0 + 1) +
    1) + 1) = some (.int .i64 x101) ∧ ∃ x102 : Int, cl H96 g1 ((((0 + 1) + 1) + 1) + 1) = some (.int .i64 x102) ∧ J104 (((x98 : Int) == x28) && (((x99 : Int) == x29) && (((x100 : Int) == j93) && (((x101 : Int) == j94) &&
    (((x102 : Int) == j95) && true)))))) (J104 false)) fun J97 => ∃ x30 : Int, cl H26 g1 (0 + 0) = some (.int .i64 x30) ∧ cnd ((x30 : Int) == 1) (onPtr jp13 fun b31 o31 => storeF H26 b31 (o31 + 0) [.bool true] fun H32 =>
    J97 true 0 0 0 H32) (cnd ((x30 : Int) == 2) (∃ x33 : Int, cl H26 g1 (0 + 2) = some (.int .i64 x33) ∧ ∃ x34 : Int, cl H26 g1 (0 + 3) = some (.int .i64 x34) ∧ ∃ x35 : Int, cl H26 g1 (0 + 4) = some (.int .i64 x35) ∧ jn
    (fun (j50 : Bool) (H51 : Hp) => ∃ x53 : Int, cl H51 g1 (0 + 4) = some (.int .i64 x53) ∧ onPtr jp13 fun b54 o54 => storeF H51 b54 (o54 + 2) [.int .i64 x53] fun H55 => J97 j50 x33 x34 x35 H55) fun J52 => ∃ x36 : Int, cl
    H26 g1 (0 + 2) = some (.int .i64 x36) ∧ HCalls Tryz.prog 85 [.int .i64 x36] H26 fun v37 H38 => ∃ x39 : Bool, v37 = .bool x39 ∧ cnd x39 (∃ x40 : Int, cl H38 g1 (0 + 4) = some (.int .i64 x40) ∧ onPtr jp13 fun b41 o41 =>
    ∃ x42 : Int, cl H38 b41 (o41 + 2) = some (.int .i64 x42) ∧ H38 g1 = H38 g1 ∧ cnd (decide ((x40 : Int) ≥ (if (1 : Int) > x42 then 1 else x42))) (∃ x43 : Int, cl H38 g1 (0 + 3) = some (.int .i64 x43) ∧ cnd ((x43 : Int)
    == 0) (J52 true H38) (∃ r44 : Option Nat, cl H38 pc_b (pc_o + 1) = some (.map r44) ∧ ∃ x45 : Int, cl H38 g1 (0 + 3) = some (.int .i64 x45) ∧ ∃ x46 : Int, cl H38 g1 (0 + 2) = some (.int .i64 x46) ∧ lookF2 H38 r44 x45
    x46 (.bool false) fun v47 b48 => ∃ x49 : Bool, v47 = .bool x49 ∧ J52 x49 H38)) (J52 false H38)) (J52 false H38)) (cnd ((x30 : Int) == 3) (∃ x56 : Int, cl H26 g1 (0 + 2) = some (.int .i64 x56) ∧ ∃ x57 : Int, cl H26 g1
    (0 + 4) = some (.int .i64 x57) ∧ ∃ r58 : Option Nat, cl H26 pc_b (pc_o + 2) = some (.map r58) ∧ ∃ x59 : Int, cl H26 g1 (0 + 2) = some (.int .i64 x59) ∧ lookF H26 .i64 r58 x59 (.int .i64 0) fun v60 b61 => ∃ x62 : Int,
    v60 = .int .i64 x62 ∧ jn (fun (j71 : Bool) (H72 : Hp) => ∃ x74 : Int, cl H72 g1 (0 + 4) = some (.int .i64 x74) ∧ onPtr jp13 fun b75 o75 => storeF H72 b75 (o75 + 2) [.int .i64 x74] fun H76 => ∃ r77 : Option Nat, cl H76
    pc_b (pc_o + 1) = some (.map r77) ∧ ∃ x78 : Int, cl H76 g1 (0 + 1) = some (.int .i64 x78) ∧ ∃ x79 : Int, cl H76 g1 (0 + 2) = some (.int .i64 x79) ∧ putF2 H76 r77 x78 x79 (.bool true) fun H80 => ∃ r81 : Option Nat, cl
    H80 pc_b (pc_o + 2) = some (.map r81) ∧ ∃ x82 : Int, cl H80 g1 (0 + 2) = some (.int .i64 x82) ∧ ∃ x83 : Int, cl H80 g1 (0 + 1) = some (.int .i64 x83) ∧ putF H80 .i64 r81 x82 (.int .i64 x83) fun H84 => J97 j71 x56 0
    x57 H84) fun J73 => ∃ x63 : Int, cl H26 g1 (0 + 2) = some (.int .i64 x63) ∧ HCalls Tryz.prog 85 [.int .i64 x63] H26 fun v64 H65 => ∃ x66 : Bool, v64 = .bool x66 ∧ cnd x66 (∃ x67 : Int, cl H65 g1 (0 + 4) = some (.int
    .i64 x67) ∧ onPtr jp13 fun b68 o68 => ∃ x69 : Int, cl H65 b68 (o68 + 2) = some (.int .i64 x69) ∧ H65 g1 = H65 g1 ∧ cnd (decide ((x67 : Int) ≥ (if (1 : Int) > x69 then 1 else x69))) (cnd (!b61) (J73 true H65) (∃ x70 :
    Int, cl H65 g1 (0 + 1) = some (.int .i64 x70) ∧ J73 ((x62 : Int) == x70) H65)) (J73 false H65)) (J73 false H65)) (jn (fun (j85 : Bool) => cnd j85 (onPtr jp13 fun b87 o87 => storeF H26 b87 (o87 + 1) [.bool true] fun
    H88 => ∃ r89 : Option Nat, cl H88 pc_b (pc_o + 2) = some (.map r89) ∧ HCalls Tryz.prog 86 [.map r89, .func (.func 87) #[] #[.pointer (some ⟨g1, 0, none⟩)]] H88 fun v90 H91 => v90 = .tuple #[] ∧ J97 true 0 0 0 H91)
    (J97 false 0 0 0 H26)) fun J86 => cnd ((x30 : Int) == 4) (J86 ((x30 : Int) == 4)) (J86 ((x30 : Int) == 5))))))) fun J27 => ∃ x16 : Int, cl H14 g1 (0 + 1) = some (.int .i64 x16) ∧ HCalls Tryz.prog 85 [.int .i64 x16]
    H14 fun v17 H18 => ∃ x19 : Bool, v17 = .bool x19 ∧ cnd (!x19) (J27 true H18) (onPtr jp13 fun b20 o20 => ∃ x21 : Bool, cl H18 b20 (o20 + 1) = some (.bool x21) ∧ cnd x21 (J27 true H18) (onPtr jp13 fun b22 o22 => ∃ x23 :
    Bool, cl H18 b22 (o22 + 0) = some (.bool x23) ∧ ∃ x24 : Int, cl H18 g1 (0 + 0) = some (.int .i64 x24) ∧ J27 (x23 == ((x24 : Int) == 1)) H18))) fun J15 => cnd ((p7).isNone) (newF H2 113 [.bool false, .bool false, .int
    .i64 0] fun g8 H9 => ∃ r10 : Option Nat, cl H9 pc_b (pc_o + 0) = some (.map r10) ∧ ∃ x11 : Int, cl H9 g1 (0 + 1) = some (.int .i64 x11) ∧ putF H9 .i64 r10 x11 (.pointer (some ⟨g8, 0, none⟩)) fun H12 => J15 (some ⟨g8,
    0, none⟩) H12) (J15 p7 H2)
noncomputable def fcx53 : Cx := cx 187 [(6, true)] [] [(1, (.look 0 (.look 1 (.look 2 (.look 3 (.look 4 (.look 5 (.act 6 (.act 7 .done .done) .done)))))))), (4, (.look 0 (.look 1 (.look 2 (.look 3 (.look 4 (.look 5 (.look 6 (.act 7 .done .done))))))))), (5, (.look 0 (.look 1 (.act 2 (.look 3 (.look 4 (.look 5 (.look 6 (.look 7 (.look 8 (.look 9 (.look 10 (.look 11 (.look 12 (.look 13 (.look 14 (.look 15 (.look 16 (.look 17 (.look 18 (.look 19 .done))))))))))))))))) .done)))), (13, (.look 0 (.look 1 (.look 2 (.look 3 (.look 4 (.look 5 (.look 6 (.act 7 (.look 8 (.act 9 (.look 10 (.act 11 .done .done)) .done)) .done))))))))), (14, (.look 0 (.look 1 (.act 2 (.look 3 (.look 4 (.look 5 (.look 6 (.look 7 (.look 8 (.look 9 (.act 10 (.look 11 (.look 12 (.look 13 (.look 14 (.look 15 (.look 16 (.look 17 (.look 18 (.look 19 (.look 20 (.look 21 (.look 22 (.look 23 (.look 24 (.look 25 (.look 26 (.act 27 (.look 28 (.look 29 (.act 30 .done .done))) .done))))))))))))))))) .done)))))))) .done)))), (17, (.look 0 (.look 1 (.look 2 (.look 3 (.look 4 (.act 5 (.look 6 (.act 7 .done .done)) .done))))))), (18, (.look 0 (.look 1 (.look 2 (.look 3 (.look 4 (.look 5 (.act 6 (.look 7 (.look 8 (.look 9 (.act 10 (.act 11 .done .done) .done)))) .done)))))))), (19, (.look 0 (.look 1 (.act 2 (.look 3 (.look 4 (.look 5 (.look 6 (.look 7 (.look 8 (.look 9 (.act 10 (.look 11 (.look 12 (.look 13 (.look 14 (.look 15 (.look 16 (.look 17 (.look 18 (.look 19 (.look 20 (.look 21 (.look 22 (.act 23 .done .done))))))))))))) .done)))))))) .done)))), (21, (.look 0 (.look 1 (.look 2 (.look 3 (.look 4 (.look 5 (.look 6 (.look 7 (.look 8 (.act 9 .done .done))))))))))), (22, (.look 0 (.look 1 (.look 2 (.look 3 (.look 4 (.look 5 (.look 6 (.look 7 (.act 8 .done .done))))))))))] []
theorem f53.eq (pc_b pc_o : Nat) (px_0 : Int) (px_1 : Int) (px_2 : Int) (px_3 : Int) (px_4 : Int) (H : Hp) (Q : Value → Hp → Prop) : f53 pc_b pc_o px_0 px_1 px_2 px_3 px_4 H Q = wFun fcx53 Tryz.f53 [.pointer (some ⟨pc_b, pc_o, none⟩), .agg #[.int .i64 px_0, .int .i64 px_1, .int .i64 px_2, .int .i64 px_3, .int .i64 px_4]] H Q := by kernel_rfl
theorem f53.ok (pc_b pc_o : Nat) (px_0 : Int) (px_1 : Int) (px_2 : Int) (px_3 : Int) (px_4 : Int) {H : Hp} {Q : Value → Hp → Prop} (h : f53 pc_b pc_o px_0 px_1 px_2 px_3 px_4 H Q) : HCalls Tryz.prog 53 [.pointer (some ⟨pc_b, pc_o, none⟩), .agg #[.int .i64 px_0, .int .i64 px_1, .int .i64 px_2, .int .i64 px_3, .int .i64 px_4]] H Q := hcalls_of (cxOk 187 [(6, true)] [] [(1, (.look 0 (.look 1 (.look 2 (.look 3 (.look 4 (.look 5 (.act 6 (.act 7 .done .done) .done)))))))), (4, (.look 0 (.look 1 (.look 2 (.look 3 (.look 4 (.look 5 (.look 6 (.act 7 .done .done))))))))), (5, (.look 0 (.look 1 (.act 2 (.look 3 (.look 4 (.look 5 (.look 6 (.look 7 (.look 8 (.look 9 (.look 10 (.look 11 (.look 12 (.look 13 (.look 14 (.look 15 (.look 16 (.look 17 (.look 18 (.look 19 .done))))))))))))))))) .done)))), (13, (.look 0 (.look 1 (.look 2 (.look 3 (.look 4 (.look 5 (.look 6 (.act 7 (.look 8 (.act 9 (.look 10 (.act 11 .done .done)) .done)) .done))))))))), (14, (.look 0 (.look 1 (.act 2 (.look 3 (.look 4 (.look 5 (.look 6 (.look 7 (.look 8 (.look 9 (.act 10 (.look 11 (.look 12 (.look 13 (.look 14 (.look 15 (.look 16 (.look 17 (.look 18 (.look 19 (.look 20 (.look 21 (.look 22 (.look 23 (.look 24 (.look 25 (.look 26 (.act 27 (.look 28 (.look 29 (.act 30 .done .done))) .done))))))))))))))))) .done)))))))) .done)))), (17, (.look 0 (.look 1 (.look 2 (.look 3 (.look 4 (.act 5 (.look 6 (.act 7 .done .done)) .done))))))), (18, (.look 0 (.look 1 (.look 2 (.look 3 (.look 4 (.look 5 (.act 6 (.look 7 (.look 8 (.look 9 (.act 10 (.act 11 .done .done) .done)))) .done)))))))), (19, (.look 0 (.look 1 (.act 2 (.look 3 (.look 4 (.look 5 (.look 6 (.look 7 (.look 8 (.look 9 (.act 10 (.look 11 (.look 12 (.look 13 (.look 14 (.look 15 (.look 16 (.look 17 (.look 18 (.look 19 (.look 20 (.look 21 (.look 22 (.act 23 .done .done))))))))))))) .done)))))))) .done)))), (21, (.look 0 (.look 1 (.look 2 (.look 3 (.look 4 (.look 5 (.look 6 (.look 7 (.look 8 (.act 9 .done .done))))))))))), (22, (.look 0 (.look 1 (.look 2 (.look 3 (.look 4 (.look 5 (.look 6 (.look 7 (.act 8 .done .done))))))))))] []) Tryz.func53 (Eq.mp (f53.eq pc_b pc_o px_0 px_1 px_2 px_3 px_4 H Q) h)

end Go.Proofs.YtibhpoikhkokiaaGreat.Hw
