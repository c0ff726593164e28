/- HwCode HwTab HwFa HwMem HwMap HwPair Ba (joined by merge.py) -/
import Derived.Test.YtmelbipidffmpaaGreatDoorTm2
import Derived.Deep.LoopGhost
import Derived.Test.YtmelbipidffmpaaGreatDoorProg
import Derived.KernelRfl
/- The evaluator is sound for code: what it says of a function's body holds of a call. -/
set_option linter.unusedVariables false
set_option linter.unusedSimpArgs false
namespace Go.Proofs.YtmelbipidffmpaaGreatDoor.Hw
open Go

section
variable {c : Cx} {H0 : Hp} {w0 : World} {β : Nat → Nat} {e : Env} {V : VSt} {H : Hp} {a : Act} {w : World}
def Xt.toExit : Xt → Exit
  | .normal => .normal
  | .exit id => .exit id
  | .ret => .ret

theorem getSh_some {s : Sh} {v : Value} {K : s.T → Prop} (h : getSh s v K) : ∃ x, s.enc x = v ∧ K x := by
  unfold getSh at h
  split at h
  · split at h
    · rename_i hk
      cases sameK_eq hk
      exact ⟨_, rfl, h⟩
    · exact h.elim
  all_goals first
    | exact ⟨_, rfl, h⟩
    | exact h.elim
theorem getL_some : ∀ {l : List Sh} {vs : List Value} {K : ShT l → Prop}, getL l vs K → ∃ x, encL l x = vs ∧ K x
  | [], [], K, h => ⟨(), rfl, h⟩
  | s :: r, v :: vs, K, h => by
    obtain ⟨x, h1, h⟩ := getSh_some h
    obtain ⟨y, h2, h⟩ := getL_some h
    exact ⟨(x, y), by simp [encL, h1, h2], h⟩
theorem getVals_some : ∀ {l : List (Nat × Sh)} {K : ShT (valsT l) → Prop}, getVals l e K → ∃ x, (∀ (e1 : Env) t av, encVals l x e1 t = some av → e t = some av ∨ e1 t = some av) ∧ K x
  | [], K, h => ⟨(), fun e1 t av ht => .inr ht, h⟩
  | p :: r, K, h => by
    obtain ⟨v, hv, h⟩ := onV_some h
    obtain ⟨x, hx, h⟩ := getSh_some h
    obtain ⟨y, hy, h⟩ := getVals_some h
    refine ⟨(x, y), fun e1 t av ht => ?_, h⟩
    rcases upd_some ht with ⟨rfl, rfl⟩ | ⟨_, ht⟩
    · left; rw [hv]; exact congrArg (fun z => some (AV.v z)) hx.symm
    · exact hy e1 t av ht
theorem getBoxes_some : ∀ {l : List (Nat × List Sh)} {K : BoxT l → Prop}, getBoxes l V K → ∃ x, (∀ (V1 : VSt) k cs, encBoxes l x V1 k = some cs → V k = some cs ∨ V1 k = some cs) ∧ K x
  | [], K, h => ⟨(), fun V1 k cs hk => .inr hk, h⟩
  | p :: r, K, h => by
    unfold getBoxes at h
    split at h
    · rename_i cs hV
      obtain ⟨x, hx, h⟩ := getL_some h
      obtain ⟨y, hy, h⟩ := getBoxes_some h
      refine ⟨(x, y), fun V1 k cs' hk => ?_, h⟩
      rcases upd_some hk with ⟨h1, h2⟩ | ⟨_, hk⟩
      · left; rw [h1, hV, ← h2, hx]
      · exact hy V1 k cs' hk
    · exact h.elim
/-- Less is known. -/
theorem Sim.less (S : Sim c.D c.n H0 w0 β e V H a w) {e1 : Env} {V1 : VSt} (he : ∀ t av, e1 t = some av → e t = some av) (hv : ∀ k x, V1 k = some x → V k = some x) : Sim c.D c.n H0 w0 β e1 V1 H a w := by
  have hn : ∀ k, V1 k ≠ none → V k ≠ none := fun k hk => by
    cases h : V1 k with
    | none => exact absurd h hk
    | some x => rw [hv k x h]; simp
  exact { S with env := fun t av ht => S.env t av (he t av ht), box := fun k x hk => S.box k x (hv k x hk), inj := fun k k' hk hk' hb => S.inj k k' (hn k hk) (hn k' hk') hb }
theorem restr_some {α : Type} {l : List Nat} {e : Nat → Option α} {t : Nat} {x : α} (h : restr l e t = some x) : elemN t l = true ∧ e t = some x := by
  unfold restr at h
  cases he : elemN t l with
  | true => rw [he] at h; exact ⟨rfl, h⟩
  | false => rw [he] at h; cases h
theorem mapE_eq {α : Type} {e e' : Nat → Option α} : ∀ {l : List Nat}, mapE e' l = mapE e l → ∀ t, elemN t l = true → e' t = e t
  | [], _, t, h => by cases h
  | x :: r, h, t, ht => by
    simp only [mapE, List.cons.injEq] at h
    unfold elemN at ht
    cases hb : Nat.beq x t with
    | true => cases Nat.eq_of_beq_eq_true hb; exact h.1
    | false => rw [hb] at ht; exact mapE_eq h.2 t ht

theorem wp_loop_any {P : Program} {code : Code} {Q : Exit → Act → World → Prop} (R : Nat → Act → World → Prop) (h0 : ∃ n, R n a w)
    (round : ∀ n a w, R n a w → code.wp P (Exit.then (fun a' w' => ∃ m, m < n ∧ R m a' w') Q) a w) : (Code.loop code).wp P Q a w := by
  obtain ⟨n0, h0⟩ := h0
  exact wp_loop_ghost R n0 h0 round

theorem wv_sound (hc : CxOk c) : ∀ (code : Code) {Q : Xt → Env → VSt → Hp → Prop} {Qm : Exit → Act → World → Prop} (hq : ∀ x a w, St c H0 w0 (Q x) a w → Qm x.toExit a w) {β : Nat → Nat} {e : Env} {V : VSt} {H : Hp} {a : Act} {w : World},
    wv c code Q e V H → Sim c.D c.n H0 w0 β e V H a w → code.wp c.P Qm a w := by
  intro code
  induction code with
  | skip => intro Q Qm hq β e V H a w h S; exact wp_skip (hq .normal a w ⟨β, e, V, H, h, S⟩)
  | label l => intro Q Qm hq β e V H a w h S; exact wp_label (hq .normal a w ⟨β, e, V, H, h, S⟩)
  | region id ops draw =>
    intro Q Qm hq β e V H a w h S
    cases draw with
    | false =>
      refine wp_region_list ?_
      exact wOps_sound hc (ops := ops.toList) (hq .normal) h S
    | true =>
      simp only [wv] at h
      split at h
      · split at h
        · rename_i p hp ho
          exact wOpsD_sound hc (ops := ops) ho (hq .normal) h S
        · exact h.elim
      · exact h.elim
  | seq x y ihx ihy =>
    intro Q Qm hq β e V H a w h S
    refine wp_seq (ihx (Qm := Exit.then (y.wp c.P Qm) Qm) ?_ h S)
    rintro x1 a1 w1 ⟨β1, e1, V1, H1, hk, S1⟩
    cases x1 with
    | normal => exact ihy hq hk S1
    | exit id => exact hq (.exit id) a1 w1 ⟨β1, e1, V1, H1, hk, S1⟩
    | ret => exact hq .ret a1 w1 ⟨β1, e1, V1, H1, hk, S1⟩
  | cond x y z ihy ihz =>
    intro Q Qm hq β e V H a w h S
    obtain ⟨v, hv, h⟩ := onV_some h
    split at h
    · rename_i t
      have he := ev_evalV S.env hv
      cases t with
      | true => exact wp_cond he (by simpa using ihy hq h S)
      | false => exact wp_cond he (by simpa using ihz hq h S)
    · exact h.elim
  | block id x ih =>
    intro Q Qm hq β e V H a w h S
    refine wp_block (ih (Qm := Exit.inBlock id Qm) ?_ h S)
    rintro x1 a1 w1 ⟨β1, e1, V1, H1, hk, S1⟩
    cases x1 with
    | normal => exact hq .normal a1 w1 ⟨β1, e1, V1, H1, hk, S1⟩
    | exit i =>
      simp only at hk
      cases hb : Nat.beq i id with
      | true =>
        rw [hb] at hk
        cases Nat.eq_of_beq_eq_true hb
        simp only [Xt.toExit, Exit.inBlock, if_true]
        exact hq .normal a1 w1 ⟨β1, e1, V1, H1, hk, S1⟩
      | false =>
        rw [hb] at hk
        have hne : i ≠ id := fun hh => by subst hh; simp at hb
        simp only [Xt.toExit, Exit.inBlock, hne, if_false]
        exact hq (.exit i) a1 w1 ⟨β1, e1, V1, H1, hk, S1⟩
    | ret => exact hq .ret a1 w1 ⟨β1, e1, V1, H1, hk, S1⟩
  | loop x ih =>
    intro Q Qm hq β e V H a w h S
    simp only [wv] at h
    split at h
    · rename_i k hkey
      split at h
      · rename_i d hd
        obtain ⟨x0, hx0, h⟩ := getVals_some h
        obtain ⟨y0, hy0, h⟩ := getBoxes_some h
        obtain ⟨J, ⟨n0, hJ⟩, hround⟩ := h
        refine wp_loop_any (fun n a w => ∃ s H' β', J n s H' ∧ Sim c.D c.n H0 w0 β' (encVals d.vals s.1 (restr d.keep e)) (encBoxes d.boxes s.2 (restr d.kb V)) H' a w) ⟨n0, (x0, y0), H, β, hJ, S.less ?_ ?_⟩ ?_
        · intro t av ht
          rcases hx0 _ t av ht with h1 | h1
          · exact h1
          · exact (restr_some h1).2
        · intro k' cs hk'
          rcases hy0 _ k' cs hk' with h1 | h1
          · exact h1
          · exact (restr_some h1).2
        · rintro n a1 w1 ⟨s, H', β', hJ1, S1⟩
          refine ih (Qm := Exit.then (fun a' w' => ∃ m, m < n ∧ ∃ s H' β', J m s H' ∧ Sim c.D c.n H0 w0 β' (encVals d.vals s.1 (restr d.keep e)) (encBoxes d.boxes s.2 (restr d.kb V)) H' a' w') Qm) ?_ (hround n s H' hJ1) S1
          rintro x1 a2 w2 ⟨β2, e2, V2, H2, hk, S2⟩
          cases x1 with
          | normal =>
            obtain ⟨x', hx', hk⟩ := getVals_some hk
            obtain ⟨y', hy', hk⟩ := getBoxes_some hk
            obtain ⟨heq, m, hm, hJ2⟩ := hk
            simp only [Prod.mk.injEq] at heq
            refine ⟨m, hm, (x', y'), H2, β2, hJ2, S2.less ?_ ?_⟩
            · intro t av ht
              rcases hx' _ t av ht with h1 | h1
              · exact h1
              · obtain ⟨h2, h3⟩ := restr_some h1
                rw [mapE_eq heq.1 t h2]; exact h3
            · intro k' cs hk'
              rcases hy' _ k' cs hk' with h1 | h1
              · exact h1
              · obtain ⟨h2, h3⟩ := restr_some h1
                rw [mapE_eq heq.2 k' h2]; exact h3
          | exit i => exact hq (.exit i) a2 w2 ⟨β2, e2, V2, H2, hk, S2⟩
          | ret => exact hq .ret a2 w2 ⟨β2, e2, V2, H2, hk, S2⟩
      · exact h.elim
    · exact h.elim
  | exit id => intro Q Qm hq β e V H a w h S; exact wp_exit (hq (.exit id) a w ⟨β, e, V, H, h, S⟩)
  | ret => intro Q Qm hq β e V H a w h S; exact wp_ret (hq .ret a w ⟨β, e, V, H, h, S⟩)
  | _ => intro Q Qm hq β e V H a w h S; exact h.elim

def resOne (tmps : Array Value) : ResultVar → Sem Value
  | .tmp t => pure (tmps.getD t undef)
  | .cell a t => do loadVar t (← asAddr (tmps.getD a undef))
theorem resF_run (hc : CxOk c) (S : Sim c.D c.n H0 w0 β e V H a w) : ∀ {rs : List ResultVar} {K : List Value → Prop}, resF rs c.T e V K → ∃ vs, (rs.mapM (resOne a.tmps)).run c.P w = .ok vs w ∧ K vs
  | [], K, h => ⟨[], by simp, h⟩
  | .tmp t :: r, K, h => by
    obtain ⟨v, hv, h⟩ := onV_some h
    obtain ⟨vs, hr, h⟩ := resF_run hc S h
    refine ⟨v :: vs, ?_, h⟩
    have h1 := S.env t _ hv
    simp only [List.mapM_cons, resOne, Sem.run_bind, Sem.run_pure, Result.andThen_ok, hr, h1]
    rfl
  | .cell t ty :: r, K, h => by
    obtain ⟨i, hi, h⟩ := onTI_some h
    obtain ⟨av, hav, h⟩ := onAV_some h
    split at h
    · rename_i k
      split at h
      · rename_i x hV
        split at h
        · rename_i hl
          have hl' := Nat.eq_of_beq_eq_true hl
          obtain ⟨v, hv, h⟩ := mkV_some h
          obtain ⟨vs, hr, h⟩ := resF_run hc S h
          refine ⟨v :: vs, ?_, h⟩
          obtain ⟨⟨ty', h1⟩, h2, h3⟩ := S.box k x hV
          have hrun := run_loadVar_ok (P := c.P) (w := w) (hc.1 ty i hi) (b := β k) (o := 0) (vs := x.2) hl' (fun j u hj => by rw [Nat.zero_add, cl_of w h1]; exact hj) hv
          have h4 := S.env t _ hav
          simp only [List.mapM_cons, resOne, Sem.run_bind, h4, AV.conc, asAddr, Sem.run_pure, Result.andThen_ok, hrun, hr]
        · exact h.elim
      · exact h.elim
    · exact h.elim
theorem results_run {fn : Func} {tmps : Array Value} {P : Program} {w : World} {vs : List Value} (h : (fn.results.toList.mapM (resOne tmps)).run P w = .ok vs w) : ∃ v, (results fn tmps).run P w = .ok v w ∧ ∀ K : Value → Prop, resV vs K → K v := by
  have hm : (fn.results.mapM (resOne tmps)).run P w = .ok vs.toArray w := by
    rw [Array.mapM_eq_mapM_toList, Sem.run_map, h]
    rfl
  have he : results fn tmps = (do
      let vs ← fn.results.mapM (resOne tmps)
      pure (if h : vs.size = 1 then vs[0] else .tuple vs)) := by
    unfold results
    have h0 : (resOne tmps) = (fun x => match x with | .tmp t => pure (tmps.getD t undef) | .cell a t => (do loadVar t (← asAddr (tmps.getD a undef)) : Sem Value)) := by
      funext x
      cases x <;> rfl
    rw [h0]
    rfl
  refine ⟨if h : vs.toArray.size = 1 then vs.toArray[0] else .tuple vs.toArray, ?_, fun K hk => ?_⟩
  · rw [he, Sem.run_bind, hm]
    try rfl
  · match vs, hk with
    | [], hk => exact hk
    | [v], hk => exact hk
    | v :: u :: r, hk =>
      rw [dif_neg (by simp)]
      exact hk

theorem hcalls_of (hc : CxOk c) {f : FuncId} {fn : Func} (hf : c.P.funcs[f]? = some fn) {args : List Value} {H : Hp} {Q : Value → Hp → Prop} (h : wFun c fn args H Q) : HCallsG c.D c.P f args H Q := by
  intro w hw
  unfold wFun at h
  split at h
  · rename_i code hcode
    split at h
    · rename_i hn hle
      have hn' := Nat.eq_of_beq_eq_true hn
      have hle' := Nat.le_of_ble_eq_true hle
      refine calls_of_wp hf hcode ?_
      have S : Sim c.D c.n H w (fun _ => 0) (env0 args) (fun _ => none) H { tmps := args.toArray ++ Array.replicate (fn.ntmps - args.toArray.size) undef, defers := [] } w := by
        refine ⟨by simp; omega, ?_, fun k x hk => (by cases hk), fun k k' hk => absurd rfl hk, hw, rfl, ⟨rfl, rfl, rfl, Nat.le_refl _, fun _ _ _ => rfl, fun _ => Nat.le_refl _⟩, fun b hb => .inl hb⟩
        intro t av ht
        unfold env0 at ht
        split at ht
        · rename_i v hv
          cases ht
          have hlt : t < args.length := (List.getElem?_eq_some_iff.1 hv).1
          rw [Array.getD_eq_getD_getElem?]
          have h1 : (args.toArray ++ Array.replicate (fn.ntmps - args.toArray.size) undef)[t]? = some v := by
            rw [Array.getElem?_append_left (by simpa using hlt)]
            simpa using hv
          rw [h1]
          rfl
        · cases ht
      refine wv_sound hc code (Qm := bodyPost c.P fn _) ?_ h S
      rintro x a1 w1 ⟨β1, e1, V1, H1, hk, S1⟩
      cases x with
      | normal =>
        obtain ⟨vs, hr, hk⟩ := resF_run hc S1 hk
        obtain ⟨v, h1, h2⟩ := results_run hr
        exact ⟨S1.defers, v, h1, v, H1, rfl, h2 (fun v => Q v H1) hk, S1.has, S1.fr, S1.new⟩
      | ret =>
        obtain ⟨vs, hr, hk⟩ := resF_run hc S1 hk
        obtain ⟨v, h1, h2⟩ := results_run hr
        exact ⟨S1.defers, v, h1, v, H1, rfl, h2 (fun v => Q v H1) hk, S1.has, S1.fr, S1.new⟩
      | exit id => exact hk.elim
    · exact h.elim
  · exact h.elim
/-- What a call makes true may be weakened. -/
theorem HCalls.mono {P : Program} {f : FuncId} {args : List Value} {H : Hp} {Q Q' : Value → Hp → Prop} (h : HCalls P f args H Q) (hq : ∀ v H', Q v H' → Q' v H') : HCalls P f args H Q' := fun w hw =>
  Calls.mono (h w hw) fun _ _ ⟨v, H', h1, h2, h3⟩ => ⟨v, H', h1, hq v H' h2, h3⟩
/-- What a call does not know of stays: the frame rule. -/
theorem HCalls.frame {P : Program} {f : FuncId} {args : List Value} {H F : Hp} {Q : Value → Hp → Prop} (h : HCalls P f args H Q) (hd : ∀ b, H b ≠ none → F b = none) :
    HCalls P f args (fun b => match H b with | some o => some o | none => F b) (fun v H' => ∃ H1, Q v H1 ∧ (∀ b, H1 b ≠ none → F b = none) ∧ H' = fun b => match H1 b with | some o => some o | none => F b) := fun w hw => by
  have hH : Has w H := fun b o hb => hw b o (by simp [hb])
  have hF : ∀ b o, H b = none → F b = some o → w.heap[b]? = some o := fun b o h0 h1 => hw b o (by simp [h0, h1])
  refine Calls.mono (h w hH) ?_
  rintro e w' ⟨v, H1, rfl, hq, h1, ⟨f1, f2, f3, f4, f5⟩, h3⟩
  have hdis : ∀ b, H1 b ≠ none → F b = none := fun b hb => by
    rcases h3 b hb with h4 | h4
    · exact hd b h4
    · cases hFb : F b with
      | none => rfl
      | some o =>
        have h5 : H b = none := by
          cases hHb : H b with
          | none => rfl
          | some p => have := hd b (by rw [hHb]; simp); rw [hFb] at this; cases this
        have := (Array.getElem?_eq_some_iff.1 (hF b o h5 hFb)).1
        omega
  refine ⟨v, _, rfl, ⟨H1, hq, hdis, rfl⟩, fun b o hb => ?_, ⟨f1, f2, f3, f4, fun b hb hn => ?_, f5.2⟩, fun b hb => ?_⟩
  · cases h6 : H1 b with
    | some p => simp only [h6] at hb; exact h1 b o (by rw [h6]; exact hb)
    | none =>
      simp only [h6] at hb
      have h7 : H b = none := by
        cases hHb : H b with
        | none => rfl
        | some p => have := hd b (by rw [hHb]; simp); rw [hb] at this; cases this
      have h8 := hF b o h7 hb
      rw [f5.1 b (Array.getElem?_eq_some_iff.1 h8).1 h7]
      exact h8
  · refine f5.1 b hb ?_
    cases hHb : H b with
    | none => rfl
    | some p => simp [hHb] at hn
  · cases h6 : H1 b with
    | some p =>
      rcases h3 b (by rw [h6]; simp) with h9 | h9
      · left
        cases hHb : H b with
        | none => exact absurd hHb h9
        | some q => simp [hHb]
      · exact .inr h9
    | none =>
      simp only [h6] at hb
      left
      cases hHb : H b with
      | none => simpa [hHb] using hb
      | some q => simp [hHb]
end

/-! The tables of a translation are held against it by a reckoning. -/
def eqZ : Value → Value → Bool
  | .int k a, .int k' b => sameK k k' && (a == b)
  | .bool a, .bool b => a == b
  | .string a, .string b => a.data.toList.isEmpty && b.data.toList.isEmpty
  | .slice none 0 0, .slice none 0 0 => true
  | .pointer none, .pointer none => true
  | .map none, .map none => true
  | .nilFunc, .nilFunc => true
  | .nilIface, .nilIface => true
  | _, _ => false
def eqZs : List Value → List Value → Bool
  | [], [] => true
  | a :: x, b :: y => eqZ a b && eqZs x y
  | _, _ => false
def chkZ (z : Value) (i : TI) : Bool := match i.agg, z with
  | true, .agg cs => eqZs cs.toList i.zs
  | false, z => (match i.zs with | [y] => eqZ z y && one1 y | _ => false)
  | true, _ => false
def chkF (P : Program) : List Field → List (Nat × Nat × Bool) → Bool
  | [], [] => true
  | f :: r, x :: s => Nat.beq f.offset x.1 && (match P.info? f.type, P.underlying f.type with | some j, some d => Nat.beq j.size x.2.1 && (isAggD d == x.2.2) | _, _ => false) && chkF P r s
  | _, _ => false
def chkK (P : Program) (d : TypeDesc) (zs : List Value) : Kn → Bool
  | .scalar => (match zs, d with | [.bool _], .bool => true | [.bool _], _ => false | [.int k _], .int k' => sameK k k' | [.int _ _], _ => false | [.pointer _], .pointer _ => true | [.pointer _], _ => false | _, _ => true)
  | .slice el esz eby => (match d with
    | .slice e => Nat.beq e el && (match P.info? el with | some j => Nat.beq j.size esz && Nat.beq j.bytes eby && (match j.zero with | some z => Nat.beq z.cells.size esz | none => false) | none => false)
    | _ => false)
  | .array len esz eagg => (match d with
    | .array n e => Nat.beq n len && (match P.info? e, P.underlying e with | some j, some du => Nat.beq j.size esz && (isAggD du == eagg) | _, _ => false)
    | _ => false)
  | .struct fs => (match d with | .struct flds => chkF P flds.toList fs | _ => false)
  | .string => (match d with | .string => true | _ => false)
  | .map k v => (match d with | .map k' v' => Nat.beq k' k && Nat.beq v' v | _ => false)
def chk1 (P : Program) (t : Nat) (i : TI) : Bool := match P.info? t, P.underlying t with
  | some j, some d => (match j.zero with | some z => chkZ z i | none => false) && Nat.beq j.size i.zs.length && allOne i.zs && (isAggD d == i.agg) && chkK P d i.zs i.kn && (match i.eqs with | true => eqOk P t i.zs | false => true)
  | _, _ => false
def chkT (P : Program) : List (Nat × TI) → Bool
  | [] => true
  | p :: r => chk1 P p.1 p.2 && chkT P r
def chkR (P : Program) : List (Nat × List Nat) → Bool
  | [] => true
  | p :: r => (match P.funcs[p.1]? with | some fn => !(fn.name == "runtime.NumGoroutine") && !fn.body.isNone | none => false) && chkR P r

theorem eqZ_eq {a b : Value} (h : eqZ a b = true) : a = b := by
  unfold eqZ at h
  split at h
  · simp only [Bool.and_eq_true, beq_iff_eq] at h
    rw [sameK_eq h.1, h.2]
  · rw [beq_iff_eq] at h; rw [h]
  · rename_i a b
    simp only [Bool.and_eq_true, List.isEmpty_iff] at h
    have h1 : a = b := by
      have h2 : a.data = b.data := Array.ext' (h.1.trans h.2.symm)
      cases a; cases b; simp only at h2; rw [h2]
    rw [h1]
  all_goals first
    | rfl
    | cases h
theorem eqZs_eq : ∀ {x y : List Value}, eqZs x y = true → x = y
  | [], [], _ => rfl
  | a :: x, b :: y, h => by
    simp only [eqZs, Bool.and_eq_true] at h
    rw [eqZ_eq h.1, eqZs_eq h.2]
  | [], _ :: _, h => by cases h
  | _ :: _, [], h => by cases h
theorem chkF_ok {P : Program} : ∀ {l : List Field} {fs : List (Nat × Nat × Bool)}, chkF P l fs = true → fieldsOk P l fs
  | [], [], _ => trivial
  | f :: r, x :: s, h => by
    simp only [chkF, Bool.and_eq_true] at h
    obtain ⟨⟨h1, h2⟩, h3⟩ := h
    refine ⟨⟨Nat.eq_of_beq_eq_true h1, ?_⟩, chkF_ok h3⟩
    split at h2
    · rename_i j d hj hd
      simp only [Bool.and_eq_true, beq_iff_eq] at h2
      exact ⟨j, d, hj, Nat.eq_of_beq_eq_true h2.1, hd, h2.2⟩
    · cases h2
  | [], _ :: _, h => by cases h
  | _ :: _, [], h => by cases h
theorem chkK_ok {P : Program} {d : TypeDesc} {zs : List Value} {k : Kn} (h : chkK P d zs k = true) : knOk P d zs k := by
  cases k with
  | scalar =>
    cases zs with
    | nil => trivial
    | cons z r =>
      cases r with
      | cons _ _ => cases z <;> trivial
      | nil =>
        cases z with
        | bool x => cases d <;> first | rfl | cases h
        | int k x =>
          cases d with
          | int k' =>
            have h' : sameK k k' = true := h
            rw [sameK_eq h']
            rfl
          | _ => cases h
        | pointer x =>
          cases d with
          | pointer e => exact ⟨e, rfl⟩
          | _ => cases h
        | _ => trivial
  | slice el esz eby =>
    simp only [chkK] at h
    split at h
    · rename_i e
      simp only [Bool.and_eq_true] at h
      obtain ⟨h1, h2⟩ := h
      cases Nat.eq_of_beq_eq_true h1
      split at h2
      · rename_i j hj
        simp only [Bool.and_eq_true] at h2
        obtain ⟨⟨a1, a2⟩, a3⟩ := h2
        split at a3
        · rename_i z hz
          exact ⟨rfl, j, z, hj, Nat.eq_of_beq_eq_true a1, Nat.eq_of_beq_eq_true a2, hz, Nat.eq_of_beq_eq_true a3⟩
        · cases a3
      · cases h2
    · cases h
  | array len esz eagg =>
    simp only [chkK] at h
    split at h
    · rename_i n e
      simp only [Bool.and_eq_true] at h
      obtain ⟨h1, h2⟩ := h
      cases Nat.eq_of_beq_eq_true h1
      split at h2
      · rename_i j du hj hdu
        simp only [Bool.and_eq_true, beq_iff_eq] at h2
        exact ⟨e, j, du, rfl, hj, Nat.eq_of_beq_eq_true h2.1, hdu, h2.2⟩
      · cases h2
    · cases h
  | struct fs =>
    simp only [chkK] at h
    split at h
    · exact ⟨_, rfl, chkF_ok h⟩
    · cases h
  | string =>
    simp only [chkK] at h
    split at h
    · rfl
    · cases h
  | map k v =>
    simp only [chkK] at h
    split at h
    · simp only [Bool.and_eq_true] at h
      cases Nat.eq_of_beq_eq_true h.1
      cases Nat.eq_of_beq_eq_true h.2
      rfl
    · cases h
theorem chk1_ok {P : Program} {t : Nat} {i : TI} (h : chk1 P t i = true) : TiOk P t i := by
  unfold chk1 at h
  split at h
  · rename_i j d hj hd
    simp only [Bool.and_eq_true, beq_iff_eq] at h
    obtain ⟨⟨⟨⟨⟨h1, h2⟩, h3⟩, h4⟩, h5⟩, h6⟩ := h
    split at h1
    · rename_i z hz
      have hzz : z = (match i.agg with | true => .agg i.zs.toArray | false => i.zs.headD undef) ∧ (i.agg = false → ∃ v, i.zs = [v] ∧ one1 v = true) := by
        unfold chkZ at h1
        split at h1
        · rename_i cs hag
          rw [← eqZs_eq h1]
          exact ⟨by rw [hag], fun hh => by rw [hag] at hh; cases hh⟩
        · rename_i hag
          split at h1
          · rename_i y hy
            simp only [Bool.and_eq_true] at h1
            rw [eqZ_eq h1.1]
            exact ⟨by rw [hag, hy]; rfl, fun _ => ⟨y, hy, h1.2⟩⟩
          · cases h1
        · cases h1
      exact ⟨⟨j, hj, hz.trans (congrArg some hzz.1), Nat.eq_of_beq_eq_true h2⟩, hzz.2, h3, ⟨d, hd, h4, chkK_ok h5⟩, fun hq => by rw [hq] at h6; exact h6⟩
    · cases h1
  · cases h
theorem chkT_ok {P : Program} : ∀ {T : List (Nat × TI)}, chkT P T = true → ∀ t i, look t T = some i → TiOk P t i
  | [], _, t, i, hl => by cases hl
  | p :: r, h, t, i, hl => by
    simp only [chkT, Bool.and_eq_true] at h
    unfold look at hl
    cases hb : Nat.beq p.1 t with
    | true =>
      rw [hb] at hl
      cases hl
      cases Nat.eq_of_beq_eq_true hb
      exact chk1_ok h.1
    | false => rw [hb] at hl; exact chkT_ok h.2 t i hl
theorem chkR_ok {P : Program} : ∀ {R : List (Nat × List Nat)}, chkR P R = true → ∀ f ts, look f R = some ts → FnOk P f
  | [], _, t, i, hl => by cases hl
  | p :: r, h, t, i, hl => by
    simp only [chkR, Bool.and_eq_true] at h
    unfold look at hl
    cases hb : Nat.beq p.1 t with
    | true =>
      cases Nat.eq_of_beq_eq_true hb
      have h1 := h.1
      split at h1
      · rename_i fn hfn
        simp only [Bool.and_eq_true, Bool.not_eq_true'] at h1
        exact ⟨fn, hfn, h1.1, h1.2⟩
      · cases h1
    | false => rw [hb] at hl; exact chkR_ok h.2 t i hl
end Go.Proofs.YtmelbipidffmpaaGreatDoor.Hw

/- The types and functions of this translation, for the evaluator. Written by a program of this session. -/
set_option linter.unusedVariables false
set_option maxRecDepth 100000
namespace Go.Proofs.YtmelbipidffmpaaGreatDoor.Hw
open Go Go.Proofs
def tT : List (Nat × TI) := [
  (3, ⟨false, [(.int .i64 0)], .scalar, false⟩),
  (4, ⟨false, [(.bool false)], .scalar, false⟩),
  (5, ⟨false, [(.int .u8 0)], .scalar, false⟩),
  (9, ⟨false, [(.string ByteArray.empty)], .string, false⟩),
  (21, ⟨false, [(.int .i32 0)], .scalar, false⟩),
  (22, ⟨false, [(.slice none 0 0)], .slice 60 2 48, false⟩),
  (24, ⟨true, [(.slice none 0 0), (.int .i64 0), (.int .i64 0)], .struct [(0, 1, false), (1, 1, false), (2, 1, false)], false⟩),
  (25, ⟨false, [(.slice none 0 0)], .slice 64 3 32, false⟩),
  (28, ⟨false, [(.slice none 0 0)], .slice 46 2 32, false⟩),
  (29, ⟨false, [(.int .i64 0)], .scalar, false⟩),
  (37, ⟨false, [(.slice none 0 0)], .slice 3 1 8, false⟩),
  (41, ⟨false, [(.slice none 0 0)], .slice 4 1 1, false⟩),
  (44, ⟨false, [(.slice none 0 0)], .slice 64 3 32, false⟩),
  (46, ⟨true, [(.slice none 0 0), (.int .i64 0)], .struct [(0, 1, false), (1, 1, false)], false⟩),
  (57, ⟨false, [(.int .u64 0)], .scalar, false⟩),
  (60, ⟨true, [(.slice none 0 0), (.slice none 0 0)], .struct [(0, 1, false), (1, 1, false)], false⟩),
  (62, ⟨false, [(.int .i64 0)], .scalar, false⟩),
  (64, ⟨true, [(.int .i64 0), (.int .i64 0), (.string ByteArray.empty)], .struct [(0, 1, false), (1, 1, false), (2, 1, false)], true⟩),
  (66, ⟨false, [(.pointer none)], .scalar, false⟩),
  (70, ⟨true, [(.slice none 0 0), (.int .i64 0), (.int .i64 0), (.slice none 0 0), (.int .i64 0), (.slice none 0 0), (.bool false)], .struct [(0, 3, true), (3, 1, false), (4, 1, false), (5, 1, false), (6, 1, false)], false⟩),
  (81, ⟨false, [.nilFunc], .scalar, false⟩),
  (85, ⟨false, [.nilFunc], .scalar, false⟩),
  (86, ⟨false, [(.pointer none)], .scalar, false⟩),
  (89, ⟨false, [(.slice none 0 0)], .slice 86 1 8, false⟩),
  (91, ⟨true, [(.slice none 0 0), (.slice none 0 0)], .struct [(0, 1, false), (1, 1, false)], false⟩),
  (99, ⟨false, [.nilFunc], .scalar, false⟩),
  (105, ⟨false, [(.pointer none)], .scalar, false⟩),
  (107, ⟨true, [(.slice none 0 0), (.int .i64 0), (.int .i64 0), (.slice none 0 0), (.int .i64 0), (.slice none 0 0), (.bool false)], .struct [(0, 3, true), (3, 1, false), (4, 1, false), (5, 1, false), (6, 1, false)], false⟩),
  (109, ⟨false, [.nilFunc], .scalar, false⟩),
  (111, ⟨false, [.nilFunc], .scalar, false⟩),
  (121, ⟨false, [(.pointer none)], .scalar, false⟩),
  (138, ⟨false, [(.int .i64 0)], .scalar, false⟩),
  (145, ⟨false, [(.int .u32 0)], .scalar, false⟩),
  (147, ⟨false, [(.int .u64 0)], .scalar, false⟩),
  (149, ⟨false, [.nilFunc], .scalar, false⟩),
  (153, ⟨false, [(.int .u64 0)], .scalar, false⟩),
  (157, ⟨false, [(.pointer none)], .scalar, false⟩),
  (162, ⟨false, [(.slice none 0 0)], .slice 28 1 24, false⟩),
  (164, ⟨false, [(.pointer none)], .scalar, false⟩)]
def tR : List (Nat × List Nat) := [(3, [4]), (4, [4]), (5, [4]), (6, [4]), (7, [4]), (8, [4]), (9, [4]), (10, [4]), (11, [28, 29]), (12, [28, 29]), (13, [4]), (14, [4]), (15, [4]), (16, [3, 29]), (17, [3, 29]), (18, [3, 29]), (19, [3, 29]), (20, [37, 29]), (21, [37, 29]), (22, [4]), (23, [37, 29]), (24, [37, 29]), (25, [24, 29]), (26, [28, 29]), (27, [4]), (28, [24, 29]), (29, [28, 29]), (30, [4]), (31, [24, 29]), (32, [28, 29]), (33, [24, 29]), (34, [46]), (35, [64]), (36, [66, 4]), (37, [46]), (38, [28, 3, 4]), (39, [4]), (40, [4]), (41, [3]), (42, [25]), (43, [4]), (44, [3]), (45, [3, 4]), (46, [3]), (47, [3]), (48, []), (49, [4]), (50, [3, 4]), (51, [3]), (52, [86]), (53, []), (54, [46, 86]), (55, [24]), (56, [4]), (57, [28, 4]), (58, []), (59, [3]), (60, [4]), (61, [4]), (62, [28]), (63, []), (64, []), (65, [4]), (66, [44]), (67, []), (68, [4]), (69, [4]), (70, [4]), (71, [3]), (72, [3]), (73, [4]), (74, [3]), (75, [4]), (76, [3]), (77, [3]), (78, [3, 4]), (79, [28]), (80, [89]), (81, [89]), (82, [3]), (83, [28]), (84, [46]), (85, []), (86, [3]), (87, []), (88, [3]), (89, [3]), (90, [44]), (91, [3]), (92, [4]), (93, [4]), (94, [3]), (95, [3]), (96, [4]), (97, [3, 29]), (98, [4]), (100, []), (102, []), (103, []), (104, []), (105, []), (106, []), (107, []), (108, []), (109, [3, 138]), (110, []), (111, [4]), (112, [3]), (113, [3, 4]), (114, [3]), (115, [3]), (116, [4]), (117, [4]), (118, [4]), (119, [4]), (120, [4]), (121, [3]), (122, []), (123, []), (124, [28]), (125, [89]), (126, []), (127, [57]), (128, [147]), (129, [3]), (130, [3]), (131, [3]), (132, [4]), (133, [4]), (134, [3]), (135, []), (136, []), (137, [28]), (138, [3, 3]), (139, [3])]
def tO : List Nat := [99, 101]
theorem tO_ok : ∀ g, elemN g tO = true → OverOk Tryz.prog g := fun g h => by
  have h' : g = 99 ∨ g = 101 := by
    simp only [tO, elemN] at h
    cases hb0 : Nat.beq 99 g with
    | true => exact .inl (Nat.eq_of_beq_eq_true hb0).symm
    | false =>
    rw [hb0] at h
    simp only at h
    cases hb1 : Nat.beq 101 g with
    | true => exact .inr ((Nat.eq_of_beq_eq_true hb1).symm)
    | false =>
    rw [hb1] at h
    simp only at h
    exact absurd h (by decide)
  rcases h' with rfl | rfl
  · exact ⟨Tryz.f99, 28, 4, 46, _, by kernel_rfl, by kernel_rfl, by kernel_rfl, by kernel_rfl, by kernel_rfl, by kernel_rfl, rfl⟩
  · exact ⟨Tryz.f101, 89, 4, 86, _, by kernel_rfl, by kernel_rfl, by kernel_rfl, by kernel_rfl, by kernel_rfl, by kernel_rfl, rfl⟩
theorem tT_ok : chkT Tryz.prog tT = true := by kernel_rfl
theorem tR_ok : chkR Tryz.prog tR = true := by kernel_rfl
theorem mixed : Tryz.prog.follows .mixedOrders = true := by kernel_rfl
noncomputable def cx (n : Nat) (virt : List (Nat × Bool)) (loops : List (Nat × LD)) (perms : List (Nat × OT)) (nexts : List (Nat × (Value × Value))) : Cx := ⟨Tryz.prog, tT, tR, n, virt, loops, perms, nexts, tO, false⟩
theorem cxOk (n : Nat) (virt : List (Nat × Bool)) (loops : List (Nat × LD)) (perms : List (Nat × OT)) (nexts : List (Nat × (Value × Value))) : CxOk (cx n virt loops perms nexts) := ⟨chkT_ok tT_ok, ⟨chkR_ok tR_ok, tO_ok⟩, mixed⟩
noncomputable def cxD (n : Nat) (virt : List (Nat × Bool)) (loops : List (Nat × LD)) (perms : List (Nat × OT)) (nexts : List (Nat × (Value × Value))) : Cx := ⟨Tryz.prog, tT, tR, n, virt, loops, perms, nexts, tO, true⟩
theorem cxOkD (n : Nat) (virt : List (Nat × Bool)) (loops : List (Nat × LD)) (perms : List (Nat × OT)) (nexts : List (Nat × (Value × Value))) : CxOk (cxD n virt loops perms nexts) := ⟨chkT_ok tT_ok, ⟨chkR_ok tR_ok, tO_ok⟩, mixed⟩
end Go.Proofs.YtmelbipidffmpaaGreatDoor.Hw


/- What functions of the program come to, by the evaluator: printed by a program of this session (gen.py) and checked here. -/
set_option linter.unusedVariables false
set_option maxRecDepth 100000
namespace Go.Proofs.YtmelbipidffmpaaGreatDoor.Hw
open Go Go.Proofs

/-- justiciar value.Valid -/
def f70 (pv_0 : Int) (pv_1 : Int) (pv_2 : ByteArray) (H : Hp) (Q : Value → Hp → Prop) : Prop :=
  cnd ((pv_0 : Int) == 0) (∃ x1 : Int, cl H 0 0 = some (.int .i64 x1) ∧ ∃ x2 : Int, cl H 0 (0 + 1) = some (.int .i64 x2) ∧ ∃ s3 : ByteArray, cl H 0 ((0 + 1) + 1) = some (.string s3) ∧ Q (.bool (((pv_0 : Int) == x1) &&
    (((pv_1 : Int) == x2) && ((pv_2.toList == s3.toList) && true)))) H) (cnd ((pv_0 : Int) == 1) (jn (fun (j7 : Bool) (H8 : Hp) => Q (.bool j7) H8) fun J9 => cnd (pv_2.toList == ({ data := #[] } : ByteArray).toList)
    (HCalls Tryz.prog 92 [.int .i64 pv_1] H fun v4 H5 => ∃ x6 : Bool, v4 = .bool x6 ∧ J9 x6 H5) (J9 false H)) (cnd ((pv_0 : Int) == 2) (jn (fun (j13 : Bool) (H14 : Hp) => Q (.bool j13) H14) fun J15 => cnd ((pv_1 : Int) ==
    0) (HCalls Tryz.prog 93 [.string pv_2] H fun v10 H11 => ∃ x12 : Bool, v10 = .bool x12 ∧ J15 x12 H11) (J15 false H)) (cnd ((pv_0 : Int) == 3) (jn (fun (j16 : Bool) => Q (.bool j16) H) fun J17 => cnd (pv_2.toList == ({
    data := #[] } : ByteArray).toList) (cnd ((pv_1 : Int) == 0) (J17 true) (J17 ((pv_1 : Int) == 1))) (J17 false)) (Q (.bool false) H))))
noncomputable def fcx70 : Cx := cx 45 [(1, true)] [] [] []
theorem f70.eq (pv_0 : Int) (pv_1 : Int) (pv_2 : ByteArray) (H : Hp) (Q : Value → Hp → Prop) : f70 pv_0 pv_1 pv_2 H Q = wFun fcx70 Tryz.f70 [.agg #[.int .i64 pv_0, .int .i64 pv_1, .string pv_2]] H Q := by kernel_rfl
theorem f70.ok (pv_0 : Int) (pv_1 : Int) (pv_2 : ByteArray) {H : Hp} {Q : Value → Hp → Prop} (h : f70 pv_0 pv_1 pv_2 H Q) : HCalls Tryz.prog 70 [.agg #[.int .i64 pv_0, .int .i64 pv_1, .string pv_2]] H Q := hcalls_of (cxOk _ _ _ _ _) Tryz.func70 (Eq.mp (f70.eq pv_0 pv_1 pv_2 H Q) h)

/-- justiciar value.isInt -/
def f92 (pn : Int) (H : Hp) (Q : Value → Hp → Prop) : Prop :=
  jn (fun (j1 : Bool) => Q (.bool j1) H) fun J2 => cnd (decide ((pn : Int) ≥ (-1099511627776))) (J2 (decide ((pn : Int) ≤ 1099511627776))) (J2 false)
noncomputable def fcx92 : Cx := cx 9 [] [] [] []
theorem f92.eq (pn : Int) (H : Hp) (Q : Value → Hp → Prop) : f92 pn H Q = wFun fcx92 Tryz.f92 [.int .i64 pn] H Q := by kernel_rfl
theorem f92.ok (pn : Int) {H : Hp} {Q : Value → Hp → Prop} (h : f92 pn H Q) : HCalls Tryz.prog 92 [.int .i64 pn] H Q := hcalls_of (cxOk _ _ _ _ _) Tryz.func92 (Eq.mp (f92.eq pn H Q) h)

/-- justiciar value.isString -/
def f93 (ps : ByteArray) (H : Hp) (Q : Value → Hp → Prop) : Prop :=
  jn (fun (j4 : Bool) (H5 : Hp) => Q (.bool j4) H5) fun J6 => cnd (decide ((((ps.size : Nat) : Int) : Int) ≤ 200)) (HCalls Tryz.prog 116 [.string ps, .func (.func 117) #[] #[]] H fun v1 H2 => ∃ x3 : Bool, v1 = .bool x3 ∧ J6
    (!x3) H2) (J6 false H)
noncomputable def fcx93 : Cx := cx 11 [] [] [] []
theorem f93.eq (ps : ByteArray) (H : Hp) (Q : Value → Hp → Prop) : f93 ps H Q = wFun fcx93 Tryz.f93 [.string ps] H Q := by kernel_rfl
theorem f93.ok (ps : ByteArray) {H : Hp} {Q : Value → Hp → Prop} (h : f93 ps H Q) : HCalls Tryz.prog 93 [.string ps] H Q := hcalls_of (cxOk _ _ _ _ _) Tryz.func93 (Eq.mp (f93.eq ps H Q) h)

/-- justiciar value.isString$1 -/
def f117 (pr : Int) (H : Hp) (Q : Value → Hp → Prop) : Prop :=
  jn (fun (j1 : Bool) => Q (.bool j1) H) fun J2 => cnd (decide ((pr : Int) < 32)) (J2 true) (J2 (decide ((pr : Int) > 126)))
noncomputable def fcx117 : Cx := cx 9 [] [] [] []
theorem f117.eq (pr : Int) (H : Hp) (Q : Value → Hp → Prop) : f117 pr H Q = wFun fcx117 Tryz.f117 [.int .i32 pr] H Q := by kernel_rfl
theorem f117.ok (pr : Int) {H : Hp} {Q : Value → Hp → Prop} (h : f117 pr H Q) : HCalls Tryz.prog 117 [.int .i32 pr] H Q := hcalls_of (cxOk _ _ _ _ _) Tryz.func117 (Eq.mp (f117.eq pr H Q) h)

/-- justiciar justiciarref01.Valid -/
def f120 (pv_0 : Int) (pv_1 : Int) (pv_2 : ByteArray) (H : Hp) (Q : Value → Hp → Prop) : Prop :=
  cnd ((pv_0 : Int) == 0) (jn (fun (j1 : Bool) => Q (.bool j1) H) fun J2 => cnd ((pv_1 : Int) == 0) (J2 (pv_2.toList == ({ data := #[] } : ByteArray).toList)) (J2 false)) (cnd ((pv_0 : Int) == 1) (jn (fun (j6 : Bool) (H7 :
    Hp) => Q (.bool j6) H7) fun J8 => HCalls Tryz.prog 132 [.int .i64 pv_1] H fun v3 H4 => ∃ x5 : Bool, v3 = .bool x5 ∧ cnd x5 (J8 (pv_2.toList == ({ data := #[] } : ByteArray).toList) H4) (J8 false H4)) (cnd ((pv_0 :
    Int) == 2) (jn (fun (j12 : Bool) (H13 : Hp) => Q (.bool j12) H13) fun J14 => cnd ((pv_1 : Int) == 0) (HCalls Tryz.prog 133 [.string pv_2] H fun v9 H10 => ∃ x11 : Bool, v9 = .bool x11 ∧ J14 x11 H10) (J14 false H)) (jn
    (fun (j15 : Bool) => Q (.bool j15) H) fun J16 => cnd ((pv_0 : Int) == 3) (cnd ((pv_1 : Int) == 0) (J16 (pv_2.toList == ({ data := #[] } : ByteArray).toList)) (cnd ((pv_1 : Int) == 1) (J16 (pv_2.toList == ({ data :=
    #[] } : ByteArray).toList)) (J16 false))) (J16 false))))
noncomputable def fcx120 : Cx := cx 53 [(1, true)] [] [] []
theorem f120.eq (pv_0 : Int) (pv_1 : Int) (pv_2 : ByteArray) (H : Hp) (Q : Value → Hp → Prop) : f120 pv_0 pv_1 pv_2 H Q = wFun fcx120 Tryz.f120 [.agg #[.int .i64 pv_0, .int .i64 pv_1, .string pv_2]] H Q := by kernel_rfl
theorem f120.ok (pv_0 : Int) (pv_1 : Int) (pv_2 : ByteArray) {H : Hp} {Q : Value → Hp → Prop} (h : f120 pv_0 pv_1 pv_2 H Q) : HCalls Tryz.prog 120 [.agg #[.int .i64 pv_0, .int .i64 pv_1, .string pv_2]] H Q := hcalls_of (cxOk _ _ _ _ _) Tryz.func120 (Eq.mp (f120.eq pv_0 pv_1 pv_2 H Q) h)

/-- justiciar justiciarref01.IsInt -/
def f132 (pn : Int) (H : Hp) (Q : Value → Hp → Prop) : Prop :=
  jn (fun (j1 : Bool) => Q (.bool j1) H) fun J2 => cnd (decide ((pn : Int) ≥ (-1099511627776))) (J2 (decide ((pn : Int) ≤ 1099511627776))) (J2 false)
noncomputable def fcx132 : Cx := cx 9 [] [] [] []
theorem f132.eq (pn : Int) (H : Hp) (Q : Value → Hp → Prop) : f132 pn H Q = wFun fcx132 Tryz.f132 [.int .i64 pn] H Q := by kernel_rfl
theorem f132.ok (pn : Int) {H : Hp} {Q : Value → Hp → Prop} (h : f132 pn H Q) : HCalls Tryz.prog 132 [.int .i64 pn] H Q := hcalls_of (cxOk _ _ _ _ _) Tryz.func132 (Eq.mp (f132.eq pn H Q) h)

/-- justiciar justiciarref01.IsString -/
def f133 (ps : ByteArray) (H : Hp) (Q : Value → Hp → Prop) : Prop :=
  LoopF (σ := (Int × Unit) × Unit) ((0, ()), ()) H fun s1 H2 next3 => cnd (decide ((s1.1.1 : Int) < ((ps.size : Nat) : Int))) (jn (fun (j4 : Bool) => cnd j4 (Q (.bool false) H2) (KeepX [some (.v (.string ps))] [] ∧ next3
    ((IntKind.i64.wrap (s1.1.1 + 1), ()), ()) H2)) fun J5 => 0 ≤ (s1.1.1 : Int) ∧ (s1.1.1 : Int) < ((ps.size : Nat) : Int) ∧ cnd (decide ((bAt ps s1.1.1 : Int) < 32)) (J5 true) (0 ≤ (s1.1.1 : Int) ∧ (s1.1.1 : Int) <
    ((ps.size : Nat) : Int) ∧ J5 (decide ((bAt ps s1.1.1 : Int) > 126)))) (Q (.bool (decide ((((ps.size : Nat) : Int) : Int) ≤ 200))) H2)
noncomputable def fcx133 : Cx := cx 23 [] [(2, ⟨[0], [], [(3, .int .i64)], []⟩)] [] []
theorem f133.eq (ps : ByteArray) (H : Hp) (Q : Value → Hp → Prop) : f133 ps H Q = wFun fcx133 Tryz.f133 [.string ps] H Q := by kernel_rfl
theorem f133.ok (ps : ByteArray) {H : Hp} {Q : Value → Hp → Prop} (h : f133 ps H Q) : HCalls Tryz.prog 133 [.string ps] H Q := hcalls_of (cxOk _ _ _ _ _) Tryz.func133 (Eq.mp (f133.eq ps H Q) h)

/-- justiciar justiciarref01.Less -/
def f134 (pa_0 : Int) (pa_1 : Int) (pa_2 : ByteArray) (pb_0 : Int) (pb_1 : Int) (pb_2 : ByteArray) (H : Hp) (Q : Value → Hp → Prop) : Prop :=
  jn (fun (j1 : Bool) => cnd j1 (Q (.int .i64 (-1)) H) (cnd (((pa_0 : Int) == pb_0) && (((pa_1 : Int) == pb_1) && ((pa_2.toList == pb_2.toList) && true))) (Q (.int .i64 0) H) (Q (.int .i64 1) H))) fun J2 => cnd ((pa_0 :
    Int) == 2) (cnd (Op.bytesLess pa_2.toList pb_2.toList) (J2 true) (cnd ((pa_0 : Int) != 2) (J2 (decide ((pa_1 : Int) < pb_1))) (J2 false))) (cnd ((pa_0 : Int) != 2) (J2 (decide ((pa_1 : Int) < pb_1))) (J2 false))
noncomputable def fcx134 : Cx := cx 32 [(2, true), (3, true)] [] [] []
theorem f134.eq (pa_0 : Int) (pa_1 : Int) (pa_2 : ByteArray) (pb_0 : Int) (pb_1 : Int) (pb_2 : ByteArray) (H : Hp) (Q : Value → Hp → Prop) : f134 pa_0 pa_1 pa_2 pb_0 pb_1 pb_2 H Q = wFun fcx134 Tryz.f134 [.agg #[.int .i64 pa_0, .int .i64 pa_1, .string pa_2], .agg #[.int .i64 pb_0, .int .i64 pb_1, .string pb_2]] H Q := by kernel_rfl
theorem f134.ok (pa_0 : Int) (pa_1 : Int) (pa_2 : ByteArray) (pb_0 : Int) (pb_1 : Int) (pb_2 : ByteArray) {H : Hp} {Q : Value → Hp → Prop} (h : f134 pa_0 pa_1 pa_2 pb_0 pb_1 pb_2 H Q) : HCalls Tryz.prog 134 [.agg #[.int .i64 pa_0, .int .i64 pa_1, .string pa_2], .agg #[.int .i64 pb_0, .int .i64 pb_1, .string pb_2]] H Q := hcalls_of (cxOk _ _ _ _ _) Tryz.func134 (Eq.mp (f134.eq pa_0 pa_1 pa_2 pb_0 pb_1 pb_2 H Q) h)

/-- justiciar justiciarref01.Before -/
def f121 (pa_0 : Int) (pa_1 : Int) (pa_2 : ByteArray) (pb_0 : Int) (pb_1 : Int) (pb_2 : ByteArray) (H : Hp) (Q : Value → Hp → Prop) : Prop :=
  jn (fun (j1 : Bool) => cnd j1 (Q (.int .i64 0) H) (cnd ((pa_0 : Int) == 0) (Q (.int .i64 1) H) (cnd ((pb_0 : Int) == 0) (Q (.int .i64 (-1)) H) (HCalls Tryz.prog 134 [.agg #[.int .i64 pa_0, .int .i64 pa_1, .string pa_2],
    .agg #[.int .i64 pb_0, .int .i64 pb_1, .string pb_2]] H fun v3 H4 => ∃ x5 : Int, v3 = .int .i64 x5 ∧ Q (.int .i64 x5) H4)))) fun J2 => cnd ((pa_0 : Int) == 0) (J2 ((pb_0 : Int) == 0)) (J2 false)
noncomputable def fcx121 : Cx := cx 25 [(2, true), (3, true)] [] [] []
theorem f121.eq (pa_0 : Int) (pa_1 : Int) (pa_2 : ByteArray) (pb_0 : Int) (pb_1 : Int) (pb_2 : ByteArray) (H : Hp) (Q : Value → Hp → Prop) : f121 pa_0 pa_1 pa_2 pb_0 pb_1 pb_2 H Q = wFun fcx121 Tryz.f121 [.agg #[.int .i64 pa_0, .int .i64 pa_1, .string pa_2], .agg #[.int .i64 pb_0, .int .i64 pb_1, .string pb_2]] H Q := by kernel_rfl
theorem f121.ok (pa_0 : Int) (pa_1 : Int) (pa_2 : ByteArray) (pb_0 : Int) (pb_1 : Int) (pb_2 : ByteArray) {H : Hp} {Q : Value → Hp → Prop} (h : f121 pa_0 pa_1 pa_2 pb_0 pb_1 pb_2 H Q) : HCalls Tryz.prog 121 [.agg #[.int .i64 pa_0, .int .i64 pa_1, .string pa_2], .agg #[.int .i64 pb_0, .int .i64 pb_1, .string pb_2]] H Q := hcalls_of (cxOk _ _ _ _ _) Tryz.func121 (Eq.mp (f121.eq pa_0 pa_1 pa_2 pb_0 pb_1 pb_2 H Q) h)

/-- justiciar justiciarref01.Order -/
def f97 (pa_0 : Int) (pa_1 : Int) (pa_2 : ByteArray) (pb_0 : Int) (pb_1 : Int) (pb_2 : ByteArray) (H : Hp) (Q : Value → Hp → Prop) : Prop :=
  jn (fun (j7 : Bool) (H8 : Hp) => cnd j7 (Q (.tuple #[.int .i64 0, .int .i64 2]) H8) (jn (fun (j10 : Bool) => cnd j10 (Q (.tuple #[.int .i64 0, .int .i64 16]) H8) (HCalls Tryz.prog 121 [.agg #[.int .i64 pa_0, .int .i64
    pa_1, .string pa_2], .agg #[.int .i64 pb_0, .int .i64 pb_1, .string pb_2]] H8 fun v12 H13 => ∃ x14 : Int, v12 = .int .i64 x14 ∧ Q (.tuple #[.int .i64 x14, .int .i64 0]) H13)) fun J11 => cnd ((pa_0 : Int) != 0) (cnd
    ((pb_0 : Int) != 0) (J11 ((pa_0 : Int) != pb_0)) (J11 false)) (J11 false))) fun J9 => HCalls Tryz.prog 120 [.agg #[.int .i64 pa_0, .int .i64 pa_1, .string pa_2]] H fun v1 H2 => ∃ x3 : Bool, v1 = .bool x3 ∧ cnd (!x3)
    (J9 true H2) (HCalls Tryz.prog 120 [.agg #[.int .i64 pb_0, .int .i64 pb_1, .string pb_2]] H2 fun v4 H5 => ∃ x6 : Bool, v4 = .bool x6 ∧ J9 (!x6) H5)
noncomputable def fcx97 : Cx := cx 34 [(2, true), (3, true)] [] [] []
theorem f97.eq (pa_0 : Int) (pa_1 : Int) (pa_2 : ByteArray) (pb_0 : Int) (pb_1 : Int) (pb_2 : ByteArray) (H : Hp) (Q : Value → Hp → Prop) : f97 pa_0 pa_1 pa_2 pb_0 pb_1 pb_2 H Q = wFun fcx97 Tryz.f97 [.agg #[.int .i64 pa_0, .int .i64 pa_1, .string pa_2], .agg #[.int .i64 pb_0, .int .i64 pb_1, .string pb_2]] H Q := by kernel_rfl
theorem f97.ok (pa_0 : Int) (pa_1 : Int) (pa_2 : ByteArray) (pb_0 : Int) (pb_1 : Int) (pb_2 : ByteArray) {H : Hp} {Q : Value → Hp → Prop} (h : f97 pa_0 pa_1 pa_2 pb_0 pb_1 pb_2 H Q) : HCalls Tryz.prog 97 [.agg #[.int .i64 pa_0, .int .i64 pa_1, .string pa_2], .agg #[.int .i64 pb_0, .int .i64 pb_1, .string pb_2]] H Q := hcalls_of (cxOk _ _ _ _ _) Tryz.func97 (Eq.mp (f97.eq pa_0 pa_1 pa_2 pb_0 pb_1 pb_2 H Q) h)

/-- justiciar valid.Order -/
def f72 (pa_0 : Int) (pa_1 : Int) (pa_2 : ByteArray) (pb_0 : Int) (pb_1 : Int) (pb_2 : ByteArray) (H : Hp) (Q : Value → Hp → Prop) : Prop :=
  cnd ((pa_0 : Int) == pb_0) (HCalls Tryz.prog 77 [.int .i64 pa_1, .int .i64 pb_1] H fun v1 H2 => ∃ x3 : Int, v1 = .int .i64 x3 ∧ HCalls Tryz.prog 94 [.string pa_2, .string pb_2] H2 fun v4 H5 => ∃ x6 : Int, v4 = .int .i64
    x6 ∧ newF H5 3 [.int .i64 x3, .int .i64 x6] fun g7 H8 => HCalls Tryz.prog 76 [.slice (some ⟨g7, 0, none⟩) 2 2] H8 fun v9 H10 => ∃ x11 : Int, v9 = .int .i64 x11 ∧ Q (.int .i64 x11) H10) (cnd ((pa_0 : Int) == 0) (Q
    (.int .i64 1) H) (cnd ((pb_0 : Int) == 0) (Q (.int .i64 (-1)) H) (HCalls Tryz.prog 95 [.int .i64 pa_0, .int .i64 pb_0] H fun v12 H13 => ∃ x14 : Int, v12 = .int .i64 x14 ∧ Q (.int .i64 x14) H13)))
noncomputable def fcx72 : Cx := cx 36 [(2, true), (3, true)] [] [(2, (.look 0 (.look 1 (.look 2 (.look 3 (.look 5 (.look 6 (.look 7 (.look 8 (.act 4 (.act 9 (.act 10 (.act 11 (.act 12 .done .done) .done) .done) .done) .done))))))))))] []
theorem f72.eq (pa_0 : Int) (pa_1 : Int) (pa_2 : ByteArray) (pb_0 : Int) (pb_1 : Int) (pb_2 : ByteArray) (H : Hp) (Q : Value → Hp → Prop) : f72 pa_0 pa_1 pa_2 pb_0 pb_1 pb_2 H Q = wFun fcx72 Tryz.f72 [.agg #[.int .i64 pa_0, .int .i64 pa_1, .string pa_2], .agg #[.int .i64 pb_0, .int .i64 pb_1, .string pb_2]] H Q := by kernel_rfl
theorem f72.ok (pa_0 : Int) (pa_1 : Int) (pa_2 : ByteArray) (pb_0 : Int) (pb_1 : Int) (pb_2 : ByteArray) {H : Hp} {Q : Value → Hp → Prop} (h : f72 pa_0 pa_1 pa_2 pb_0 pb_1 pb_2 H Q) : HCalls Tryz.prog 72 [.agg #[.int .i64 pa_0, .int .i64 pa_1, .string pa_2], .agg #[.int .i64 pb_0, .int .i64 pb_1, .string pb_2]] H Q := hcalls_of (cxOk _ _ _ _ _) Tryz.func72 (Eq.mp (f72.eq pa_0 pa_1 pa_2 pb_0 pb_1 pb_2 H Q) h)

/-- cmp.Or[int] -/
def f76 (pvals_A : Option Addr) (pvals_n pvals_c : Nat) (H : Hp) (Q : Value → Hp → Prop) : Prop :=
  LoopF (σ := (Int × Unit) × Unit) ((0, ()), ()) H fun s1 H2 next3 => cnd (decide ((s1.1.1 : Int) < ((pvals_n : Nat) : Int))) (0 ≤ (s1.1.1 : Int) ∧ (s1.1.1 : Int) < ((pvals_n : Nat) : Int) ∧ onPtr pvals_A fun b4 o4 => ∃ x5
    : Int, cl H2 b4 (o4 + (s1.1.1 : Int).toNat * 1) = some (.int .i64 x5) ∧ cnd ((x5 : Int) != 0) (Q (.int .i64 x5) H2) (KeepX [some (.v (.int .i64 0)), some (.v (.slice pvals_A pvals_n pvals_c)), some (.v (.int .i64
    ((pvals_n : Nat) : Int)))] [] ∧ next3 ((IntKind.i64.wrap (s1.1.1 + 1), ()), ()) H2)) (Q (.int .i64 0) H2)
noncomputable def fcx76 : Cx := cx 18 [] [(3, ⟨[3, 6, 7], [], [(8, .int .i64)], []⟩)] [] []
theorem f76.eq (pvals_A : Option Addr) (pvals_n pvals_c : Nat) (H : Hp) (Q : Value → Hp → Prop) : f76 pvals_A pvals_n pvals_c H Q = wFun fcx76 Tryz.f76 [.slice pvals_A pvals_n pvals_c] H Q := by kernel_rfl
theorem f76.ok (pvals_A : Option Addr) (pvals_n pvals_c : Nat) {H : Hp} {Q : Value → Hp → Prop} (h : f76 pvals_A pvals_n pvals_c H Q) : HCalls Tryz.prog 76 [.slice pvals_A pvals_n pvals_c] H Q := hcalls_of (cxOk _ _ _ _ _) Tryz.func76 (Eq.mp (f76.eq pvals_A pvals_n pvals_c H Q) h)

/-- cmp.Compare[int] -/
def f77 (px : Int) (py : Int) (H : Hp) (Q : Value → Hp → Prop) : Prop :=
  HCalls Tryz.prog 98 [.int .i64 px] H fun v1 H2 => ∃ x3 : Bool, v1 = .bool x3 ∧ HCalls Tryz.prog 98 [.int .i64 py] H2 fun v4 H5 => ∃ x6 : Bool, v4 = .bool x6 ∧ cnd x3 (cnd x6 (Q (.int .i64 0) H5) (Q (.int .i64 (-1)) H5))
    (cnd x6 (Q (.int .i64 1) H5) (cnd (decide ((px : Int) < py)) (Q (.int .i64 (-1)) H5) (cnd (decide ((px : Int) > py)) (Q (.int .i64 1) H5) (Q (.int .i64 0) H5))))
noncomputable def fcx77 : Cx := cx 20 [] [] [] []
theorem f77.eq (px : Int) (py : Int) (H : Hp) (Q : Value → Hp → Prop) : f77 px py H Q = wFun fcx77 Tryz.f77 [.int .i64 px, .int .i64 py] H Q := by kernel_rfl
theorem f77.ok (px : Int) (py : Int) {H : Hp} {Q : Value → Hp → Prop} (h : f77 px py H Q) : HCalls Tryz.prog 77 [.int .i64 px, .int .i64 py] H Q := hcalls_of (cxOk _ _ _ _ _) Tryz.func77 (Eq.mp (f77.eq px py H Q) h)

/-- cmp.Compare[string] -/
def f94 (px : ByteArray) (py : ByteArray) (H : Hp) (Q : Value → Hp → Prop) : Prop :=
  HCalls Tryz.prog 118 [.string px] H fun v1 H2 => ∃ x3 : Bool, v1 = .bool x3 ∧ HCalls Tryz.prog 118 [.string py] H2 fun v4 H5 => ∃ x6 : Bool, v4 = .bool x6 ∧ cnd x3 (cnd x6 (Q (.int .i64 0) H5) (Q (.int .i64 (-1)) H5))
    (cnd x6 (Q (.int .i64 1) H5) (cnd (Op.bytesLess px.toList py.toList) (Q (.int .i64 (-1)) H5) (cnd (!(Op.bytesLess px.toList py.toList || px.toList == py.toList)) (Q (.int .i64 1) H5) (Q (.int .i64 0) H5))))
noncomputable def fcx94 : Cx := cx 20 [] [] [] []
theorem f94.eq (px : ByteArray) (py : ByteArray) (H : Hp) (Q : Value → Hp → Prop) : f94 px py H Q = wFun fcx94 Tryz.f94 [.string px, .string py] H Q := by kernel_rfl
theorem f94.ok (px : ByteArray) (py : ByteArray) {H : Hp} {Q : Value → Hp → Prop} (h : f94 px py H Q) : HCalls Tryz.prog 94 [.string px, .string py] H Q := hcalls_of (cxOk _ _ _ _ _) Tryz.func94 (Eq.mp (f94.eq px py H Q) h)

/-- cmp.Compare[justiciar api.Kind] -/
def f95 (px : Int) (py : Int) (H : Hp) (Q : Value → Hp → Prop) : Prop :=
  HCalls Tryz.prog 119 [.int .i64 px] H fun v1 H2 => ∃ x3 : Bool, v1 = .bool x3 ∧ HCalls Tryz.prog 119 [.int .i64 py] H2 fun v4 H5 => ∃ x6 : Bool, v4 = .bool x6 ∧ cnd x3 (cnd x6 (Q (.int .i64 0) H5) (Q (.int .i64 (-1)) H5))
    (cnd x6 (Q (.int .i64 1) H5) (cnd (decide ((px : Int) < py)) (Q (.int .i64 (-1)) H5) (cnd (decide ((px : Int) > py)) (Q (.int .i64 1) H5) (Q (.int .i64 0) H5))))
noncomputable def fcx95 : Cx := cx 20 [] [] [] []
theorem f95.eq (px : Int) (py : Int) (H : Hp) (Q : Value → Hp → Prop) : f95 px py H Q = wFun fcx95 Tryz.f95 [.int .i64 px, .int .i64 py] H Q := by kernel_rfl
theorem f95.ok (px : Int) (py : Int) {H : Hp} {Q : Value → Hp → Prop} (h : f95 px py H Q) : HCalls Tryz.prog 95 [.int .i64 px, .int .i64 py] H Q := hcalls_of (cxOk _ _ _ _ _) Tryz.func95 (Eq.mp (f95.eq px py H Q) h)

/-- cmp.isNaN[int] -/
def f98 (px : Int) (H : Hp) (Q : Value → Hp → Prop) : Prop :=
  Q (.bool ((px : Int) != px)) H
noncomputable def fcx98 : Cx := cx 6 [] [] [] []
theorem f98.eq (px : Int) (H : Hp) (Q : Value → Hp → Prop) : f98 px H Q = wFun fcx98 Tryz.f98 [.int .i64 px] H Q := by kernel_rfl
theorem f98.ok (px : Int) {H : Hp} {Q : Value → Hp → Prop} (h : f98 px H Q) : HCalls Tryz.prog 98 [.int .i64 px] H Q := hcalls_of (cxOk _ _ _ _ _) Tryz.func98 (Eq.mp (f98.eq px H Q) h)

/-- cmp.isNaN[string] -/
def f118 (px : ByteArray) (H : Hp) (Q : Value → Hp → Prop) : Prop :=
  Q (.bool (!(px.toList == px.toList))) H
noncomputable def fcx118 : Cx := cx 6 [] [] [] []
theorem f118.eq (px : ByteArray) (H : Hp) (Q : Value → Hp → Prop) : f118 px H Q = wFun fcx118 Tryz.f118 [.string px] H Q := by kernel_rfl
theorem f118.ok (px : ByteArray) {H : Hp} {Q : Value → Hp → Prop} (h : f118 px H Q) : HCalls Tryz.prog 118 [.string px] H Q := hcalls_of (cxOk _ _ _ _ _) Tryz.func118 (Eq.mp (f118.eq px H Q) h)

/-- cmp.isNaN[justiciar api.Kind] -/
def f119 (px : Int) (H : Hp) (Q : Value → Hp → Prop) : Prop :=
  Q (.bool ((px : Int) != px)) H
noncomputable def fcx119 : Cx := cx 6 [] [] [] []
theorem f119.eq (px : Int) (H : Hp) (Q : Value → Hp → Prop) : f119 px H Q = wFun fcx119 Tryz.f119 [.int .i64 px] H Q := by kernel_rfl
theorem f119.ok (px : Int) {H : Hp} {Q : Value → Hp → Prop} (h : f119 px H Q) : HCalls Tryz.prog 119 [.int .i64 px] H Q := hcalls_of (cxOk _ _ _ _ _) Tryz.func119 (Eq.mp (f119.eq px H Q) h)

/-- slices.CompareFunc[[]justiciar api.Value,[]justiciar api.Value,justiciar api.Value,justiciar api.Value] -/
def f71 (psb_A : Option Addr) (psb_n psb_c : Nat) (psc_A : Option Addr) (psc_n psc_c : Nat) (pcmp_f : FuncId) (pcmp_a pcmp_c : Array Value) (H : Hp) (Q : Value → Hp → Prop) : Prop :=
  LoopF (σ := (Int × Unit) × Unit) ((0, ()), ()) H fun s1 H2 next3 => cnd (decide ((s1.1.1 : Int) < ((psb_n : Nat) : Int))) (0 ≤ (s1.1.1 : Int) ∧ (s1.1.1 : Int) < ((psb_n : Nat) : Int) ∧ onPtr psb_A fun b4 o4 => ∃ x5 : Int,
    cl H2 b4 (o4 + (s1.1.1 : Int).toNat * 3) = some (.int .i64 x5) ∧ ∃ x6 : Int, cl H2 b4 ((o4 + (s1.1.1 : Int).toNat * 3) + 1) = some (.int .i64 x6) ∧ ∃ s7 : ByteArray, cl H2 b4 (((o4 + (s1.1.1 : Int).toNat * 3) + 1) +
    1) = some (.string s7) ∧ cnd (decide ((s1.1.1 : Int) ≥ ((psc_n : Nat) : Int))) (Q (.int .i64 1) H2) (0 ≤ (s1.1.1 : Int) ∧ (s1.1.1 : Int) < ((psc_n : Nat) : Int) ∧ onPtr psc_A fun b8 o8 => ∃ x9 : Int, cl H2 b8 (o8 +
    (s1.1.1 : Int).toNat * 3) = some (.int .i64 x9) ∧ ∃ x10 : Int, cl H2 b8 ((o8 + (s1.1.1 : Int).toNat * 3) + 1) = some (.int .i64 x10) ∧ ∃ s11 : ByteArray, cl H2 b8 (((o8 + (s1.1.1 : Int).toNat * 3) + 1) + 1) = some
    (.string s11) ∧ FnOk Tryz.prog pcmp_f ∧ HCalls Tryz.prog pcmp_f (pcmp_a.toList ++ [.agg #[.int .i64 x5, .int .i64 x6, .string s7], .agg #[.int .i64 x9, .int .i64 x10, .string s11]] ++ pcmp_c.toList) H2 fun v12 H13 =>
    ∃ x14 : Int, v12 = .int .i64 x14 ∧ cnd ((x14 : Int) != 0) (Q (.int .i64 x14) H13) (KeepX [some (.v (.slice psb_A psb_n psb_c)), some (.v (.slice psc_A psc_n psc_c)), some (.v (.func (.func pcmp_f) pcmp_a pcmp_c)),
    some (.v (.slice psb_A psb_n psb_c)), some (.v (.int .i64 ((psb_n : Nat) : Int)))] [] ∧ next3 ((IntKind.i64.wrap (s1.1.1 + 1), ()), ()) H13))) (cnd (decide ((((psb_n : Nat) : Int) : Int) < ((psc_n : Nat) : Int))) (Q
    (.int .i64 (-1)) H2) (Q (.int .i64 0) H2))
noncomputable def fcx71 : Cx := cx 39 [(8, true), (9, true)] [(2, ⟨[0, 1, 2, 11, 12], [], [(13, .int .i64)], []⟩)] [] []
theorem f71.eq (psb_A : Option Addr) (psb_n psb_c : Nat) (psc_A : Option Addr) (psc_n psc_c : Nat) (pcmp_f : FuncId) (pcmp_a pcmp_c : Array Value) (H : Hp) (Q : Value → Hp → Prop) : f71 psb_A psb_n psb_c psc_A psc_n psc_c pcmp_f pcmp_a pcmp_c H Q = wFun fcx71 Tryz.f71 [.slice psb_A psb_n psb_c, .slice psc_A psc_n psc_c, .func (.func pcmp_f) pcmp_a pcmp_c] H Q := by kernel_rfl
theorem f71.ok (psb_A : Option Addr) (psb_n psb_c : Nat) (psc_A : Option Addr) (psc_n psc_c : Nat) (pcmp_f : FuncId) (pcmp_a pcmp_c : Array Value) {H : Hp} {Q : Value → Hp → Prop} (h : f71 psb_A psb_n psb_c psc_A psc_n psc_c pcmp_f pcmp_a pcmp_c H Q) : HCalls Tryz.prog 71 [.slice psb_A psb_n psb_c, .slice psc_A psc_n psc_c, .func (.func pcmp_f) pcmp_a pcmp_c] H Q := hcalls_of (cxOk _ _ _ _ _) Tryz.func71 (Eq.mp (f71.eq psb_A psb_n psb_c psc_A psc_n psc_c pcmp_f pcmp_a pcmp_c H Q) h)

/-- justiciar valid.Rows -/
def f41 (pa_A : Option Addr) (pa_n pa_c : Nat) (pb_A : Option Addr) (pb_n pb_c : Nat) (H : Hp) (Q : Value → Hp → Prop) : Prop :=
  HCalls Tryz.prog 71 [.slice pa_A pa_n pa_c, .slice pb_A pb_n pb_c, .func (.func 72) #[] #[]] H fun v1 H2 => ∃ x3 : Int, v1 = .int .i64 x3 ∧ Q (.int .i64 x3) H2
noncomputable def fcx41 : Cx := cx 8 [] [] [] []
theorem f41.eq (pa_A : Option Addr) (pa_n pa_c : Nat) (pb_A : Option Addr) (pb_n pb_c : Nat) (H : Hp) (Q : Value → Hp → Prop) : f41 pa_A pa_n pa_c pb_A pb_n pb_c H Q = wFun fcx41 Tryz.f41 [.slice pa_A pa_n pa_c, .slice pb_A pb_n pb_c] H Q := by kernel_rfl
theorem f41.ok (pa_A : Option Addr) (pa_n pa_c : Nat) (pb_A : Option Addr) (pb_n pb_c : Nat) {H : Hp} {Q : Value → Hp → Prop} (h : f41 pa_A pa_n pa_c pb_A pb_n pb_c H Q) : HCalls Tryz.prog 41 [.slice pa_A pa_n pa_c, .slice pb_A pb_n pb_c] H Q := hcalls_of (cxOk _ _ _ _ _) Tryz.func41 (Eq.mp (f41.eq pa_A pa_n pa_c pb_A pb_n pb_c H Q) h)

/-- justiciar valid.All -/
def f40 (pl_A : Option Addr) (pl_n pl_c : Nat) (H : Hp) (Q : Value → Hp → Prop) : Prop :=
  HCalls Tryz.prog 68 [.slice pl_A pl_n pl_c, .func (.func 69) #[] #[]] H fun v1 H2 => ∃ x3 : Bool, v1 = .bool x3 ∧ Q (.bool (!x3)) H2
noncomputable def fcx40 : Cx := cx 6 [] [] [] []
theorem f40.eq (pl_A : Option Addr) (pl_n pl_c : Nat) (H : Hp) (Q : Value → Hp → Prop) : f40 pl_A pl_n pl_c H Q = wFun fcx40 Tryz.f40 [.slice pl_A pl_n pl_c] H Q := by kernel_rfl
theorem f40.ok (pl_A : Option Addr) (pl_n pl_c : Nat) {H : Hp} {Q : Value → Hp → Prop} (h : f40 pl_A pl_n pl_c H Q) : HCalls Tryz.prog 40 [.slice pl_A pl_n pl_c] H Q := hcalls_of (cxOk _ _ _ _ _) Tryz.func40 (Eq.mp (f40.eq pl_A pl_n pl_c H Q) h)

/-- slices.ContainsFunc[[]justiciar api.Value,justiciar api.Value] -/
def f68 (ps_A : Option Addr) (ps_n ps_c : Nat) (pf_f : FuncId) (pf_a pf_c : Array Value) (H : Hp) (Q : Value → Hp → Prop) : Prop :=
  HCalls Tryz.prog 91 [.slice ps_A ps_n ps_c, .func (.func pf_f) pf_a pf_c] H fun v1 H2 => ∃ x3 : Int, v1 = .int .i64 x3 ∧ Q (.bool (decide ((x3 : Int) ≥ 0))) H2
noncomputable def fcx68 : Cx := cx 9 [] [] [] []
theorem f68.eq (ps_A : Option Addr) (ps_n ps_c : Nat) (pf_f : FuncId) (pf_a pf_c : Array Value) (H : Hp) (Q : Value → Hp → Prop) : f68 ps_A ps_n ps_c pf_f pf_a pf_c H Q = wFun fcx68 Tryz.f68 [.slice ps_A ps_n ps_c, .func (.func pf_f) pf_a pf_c] H Q := by kernel_rfl
theorem f68.ok (ps_A : Option Addr) (ps_n ps_c : Nat) (pf_f : FuncId) (pf_a pf_c : Array Value) {H : Hp} {Q : Value → Hp → Prop} (h : f68 ps_A ps_n ps_c pf_f pf_a pf_c H Q) : HCalls Tryz.prog 68 [.slice ps_A ps_n ps_c, .func (.func pf_f) pf_a pf_c] H Q := hcalls_of (cxOk _ _ _ _ _) Tryz.func68 (Eq.mp (f68.eq ps_A ps_n ps_c pf_f pf_a pf_c H Q) h)

/-- slices.IndexFunc[[]justiciar api.Value,justiciar api.Value] -/
def f91 (ps_A : Option Addr) (ps_n ps_c : Nat) (pf_f : FuncId) (pf_a pf_c : Array Value) (H : Hp) (Q : Value → Hp → Prop) : Prop :=
  LoopF (σ := (Int × Unit) × Unit) ((0, ()), ()) H fun s1 H2 next3 => cnd (decide ((s1.1.1 : Int) < ((ps_n : Nat) : Int))) (0 ≤ (s1.1.1 : Int) ∧ (s1.1.1 : Int) < ((ps_n : Nat) : Int) ∧ onPtr ps_A fun b4 o4 => ∃ x5 : Int, cl
    H2 b4 (o4 + (s1.1.1 : Int).toNat * 3) = some (.int .i64 x5) ∧ ∃ x6 : Int, cl H2 b4 ((o4 + (s1.1.1 : Int).toNat * 3) + 1) = some (.int .i64 x6) ∧ ∃ s7 : ByteArray, cl H2 b4 (((o4 + (s1.1.1 : Int).toNat * 3) + 1) + 1) =
    some (.string s7) ∧ FnOk Tryz.prog pf_f ∧ HCalls Tryz.prog pf_f (pf_a.toList ++ [.agg #[.int .i64 x5, .int .i64 x6, .string s7]] ++ pf_c.toList) H2 fun v8 H9 => ∃ x10 : Bool, v8 = .bool x10 ∧ cnd x10 (Q (.int .i64
    s1.1.1) H9) (KeepX [some (.v (.slice ps_A ps_n ps_c)), some (.v (.func (.func pf_f) pf_a pf_c)), some (.v (.int .i64 ((ps_n : Nat) : Int)))] [] ∧ next3 ((IntKind.i64.wrap (s1.1.1 + 1), ()), ()) H9)) (Q (.int .i64
    (-1)) H2)
noncomputable def fcx91 : Cx := cx 19 [] [(2, ⟨[0, 1, 7], [], [(8, .int .i64)], []⟩)] [] []
theorem f91.eq (ps_A : Option Addr) (ps_n ps_c : Nat) (pf_f : FuncId) (pf_a pf_c : Array Value) (H : Hp) (Q : Value → Hp → Prop) : f91 ps_A ps_n ps_c pf_f pf_a pf_c H Q = wFun fcx91 Tryz.f91 [.slice ps_A ps_n ps_c, .func (.func pf_f) pf_a pf_c] H Q := by kernel_rfl
theorem f91.ok (ps_A : Option Addr) (ps_n ps_c : Nat) (pf_f : FuncId) (pf_a pf_c : Array Value) {H : Hp} {Q : Value → Hp → Prop} (h : f91 ps_A ps_n ps_c pf_f pf_a pf_c H Q) : HCalls Tryz.prog 91 [.slice ps_A ps_n ps_c, .func (.func pf_f) pf_a pf_c] H Q := hcalls_of (cxOk _ _ _ _ _) Tryz.func91 (Eq.mp (f91.eq ps_A ps_n ps_c pf_f pf_a pf_c H Q) h)

/-- justiciar valid.All$1 -/
def f69 (pv_0 : Int) (pv_1 : Int) (pv_2 : ByteArray) (H : Hp) (Q : Value → Hp → Prop) : Prop :=
  HCalls Tryz.prog 70 [.agg #[.int .i64 pv_0, .int .i64 pv_1, .string pv_2]] H fun v1 H2 => ∃ x3 : Bool, v1 = .bool x3 ∧ Q (.bool (!x3)) H2
noncomputable def fcx69 : Cx := cx 6 [(1, true)] [] [] []
theorem f69.eq (pv_0 : Int) (pv_1 : Int) (pv_2 : ByteArray) (H : Hp) (Q : Value → Hp → Prop) : f69 pv_0 pv_1 pv_2 H Q = wFun fcx69 Tryz.f69 [.agg #[.int .i64 pv_0, .int .i64 pv_1, .string pv_2]] H Q := by kernel_rfl
theorem f69.ok (pv_0 : Int) (pv_1 : Int) (pv_2 : ByteArray) {H : Hp} {Q : Value → Hp → Prop} (h : f69 pv_0 pv_1 pv_2 H Q) : HCalls Tryz.prog 69 [.agg #[.int .i64 pv_0, .int .i64 pv_1, .string pv_2]] H Q := hcalls_of (cxOk _ _ _ _ _) Tryz.func69 (Eq.mp (f69.eq pv_0 pv_1 pv_2 H Q) h)

/-- justiciar justiciarref17.keys -/
def f44 (pa_A : Option Addr) (pa_n pa_c : Nat) (pb_A : Option Addr) (pb_n pb_c : Nat) (H : Hp) (Q : Value → Hp → Prop) : Prop :=
  LoopF (σ := (Int × Unit) × Unit) ((0, ()), ()) H fun s1 H2 next3 => jn (fun (j4 : Bool) => cnd j4 (0 ≤ (s1.1.1 : Int) ∧ (s1.1.1 : Int) < ((pa_n : Nat) : Int) ∧ onPtr pa_A fun b6 o6 => ∃ x7 : Int, cl H2 b6 (o6 + (s1.1.1 :
    Int).toNat * 3) = some (.int .i64 x7) ∧ ∃ x8 : Int, cl H2 b6 ((o6 + (s1.1.1 : Int).toNat * 3) + 1) = some (.int .i64 x8) ∧ ∃ s9 : ByteArray, cl H2 b6 (((o6 + (s1.1.1 : Int).toNat * 3) + 1) + 1) = some (.string s9) ∧ 0
    ≤ (s1.1.1 : Int) ∧ (s1.1.1 : Int) < ((pb_n : Nat) : Int) ∧ onPtr pb_A fun b10 o10 => ∃ x11 : Int, cl H2 b10 (o10 + (s1.1.1 : Int).toNat * 3) = some (.int .i64 x11) ∧ ∃ x12 : Int, cl H2 b10 ((o10 + (s1.1.1 : Int).toNat
    * 3) + 1) = some (.int .i64 x12) ∧ ∃ s13 : ByteArray, cl H2 b10 (((o10 + (s1.1.1 : Int).toNat * 3) + 1) + 1) = some (.string s13) ∧ HCalls Tryz.prog 74 [.agg #[.int .i64 x7, .int .i64 x8, .string s9], .agg #[.int .i64
    x11, .int .i64 x12, .string s13]] H2 fun v14 H15 => ∃ x16 : Int, v14 = .int .i64 x16 ∧ cnd ((x16 : Int) != 0) (Q (.int .i64 x16) H15) (KeepX [some (.v (.slice pa_A pa_n pa_c)), some (.v (.slice pb_A pb_n pb_c))] [] ∧
    next3 ((IntKind.i64.wrap (s1.1.1 + 1), ()), ()) H15)) (Q (.int .i64 0) H2)) fun J5 => cnd (decide ((s1.1.1 : Int) < ((pa_n : Nat) : Int))) (J5 (decide ((s1.1.1 : Int) < ((pb_n : Nat) : Int)))) (J5 false)
noncomputable def fcx44 : Cx := cx 31 [] [(2, ⟨[0, 1], [], [(5, .int .i64)], []⟩)] [(4, (.look 0 (.look 1 (.look 2 (.look 3 (.look 4 (.look 5 (.look 6 (.look 7 (.act 8 (.act 9 .done .done) .done))))))))))] []
theorem f44.eq (pa_A : Option Addr) (pa_n pa_c : Nat) (pb_A : Option Addr) (pb_n pb_c : Nat) (H : Hp) (Q : Value → Hp → Prop) : f44 pa_A pa_n pa_c pb_A pb_n pb_c H Q = wFun fcx44 Tryz.f44 [.slice pa_A pa_n pa_c, .slice pb_A pb_n pb_c] H Q := by kernel_rfl
theorem f44.ok (pa_A : Option Addr) (pa_n pa_c : Nat) (pb_A : Option Addr) (pb_n pb_c : Nat) {H : Hp} {Q : Value → Hp → Prop} (h : f44 pa_A pa_n pa_c pb_A pb_n pb_c H Q) : HCalls Tryz.prog 44 [.slice pa_A pa_n pa_c, .slice pb_A pb_n pb_c] H Q := hcalls_of (cxOk _ _ _ _ _) Tryz.func44 (Eq.mp (f44.eq pa_A pa_n pa_c pb_A pb_n pb_c H Q) h)

/-- justiciar justiciarref17.values -/
def f74 (pa_0 : Int) (pa_1 : Int) (pa_2 : ByteArray) (pb_0 : Int) (pb_1 : Int) (pb_2 : ByteArray) (H : Hp) (Q : Value → Hp → Prop) : Prop :=
  cnd ((pa_0 : Int) == pb_0) (HCalls Tryz.prog 97 [.agg #[.int .i64 pa_0, .int .i64 pa_1, .string pa_2], .agg #[.int .i64 pb_0, .int .i64 pb_1, .string pb_2]] H fun v1 H2 => ∃ x3 : Int, ∃ x4 : Int, v1 = .tuple #[.int .i64
    x3, .int .i64 x4] ∧ Q (.int .i64 x3) H2) (jn (fun (j5 : Bool) => cnd j5 (Q (.int .i64 1) H) (Q (.int .i64 (-1)) H)) fun J6 => cnd ((pa_0 : Int) == 0) (J6 true) (cnd ((pb_0 : Int) != 0) (J6 (decide ((pa_0 : Int) >
    pb_0))) (J6 false)))
noncomputable def fcx74 : Cx := cx 36 [(2, true), (3, true)] [] [] []
theorem f74.eq (pa_0 : Int) (pa_1 : Int) (pa_2 : ByteArray) (pb_0 : Int) (pb_1 : Int) (pb_2 : ByteArray) (H : Hp) (Q : Value → Hp → Prop) : f74 pa_0 pa_1 pa_2 pb_0 pb_1 pb_2 H Q = wFun fcx74 Tryz.f74 [.agg #[.int .i64 pa_0, .int .i64 pa_1, .string pa_2], .agg #[.int .i64 pb_0, .int .i64 pb_1, .string pb_2]] H Q := by kernel_rfl
theorem f74.ok (pa_0 : Int) (pa_1 : Int) (pa_2 : ByteArray) (pb_0 : Int) (pb_1 : Int) (pb_2 : ByteArray) {H : Hp} {Q : Value → Hp → Prop} (h : f74 pa_0 pa_1 pa_2 pb_0 pb_1 pb_2 H Q) : HCalls Tryz.prog 74 [.agg #[.int .i64 pa_0, .int .i64 pa_1, .string pa_2], .agg #[.int .i64 pb_0, .int .i64 pb_1, .string pb_2]] H Q := hcalls_of (cxOk _ _ _ _ _) Tryz.func74 (Eq.mp (f74.eq pa_0 pa_1 pa_2 pb_0 pb_1 pb_2 H Q) h)

/-- justiciar justiciarref01.All -/
def f96 (pl_A : Option Addr) (pl_n pl_c : Nat) (H : Hp) (Q : Value → Hp → Prop) : Prop :=
  LoopF (σ := (Int × Unit) × Unit) ((0, ()), ()) H fun s1 H2 next3 => cnd (decide ((s1.1.1 : Int) < ((pl_n : Nat) : Int))) (0 ≤ (s1.1.1 : Int) ∧ (s1.1.1 : Int) < ((pl_n : Nat) : Int) ∧ onPtr pl_A fun b4 o4 => ∃ x5 : Int, cl
    H2 b4 (o4 + (s1.1.1 : Int).toNat * 3) = some (.int .i64 x5) ∧ ∃ x6 : Int, cl H2 b4 ((o4 + (s1.1.1 : Int).toNat * 3) + 1) = some (.int .i64 x6) ∧ ∃ s7 : ByteArray, cl H2 b4 (((o4 + (s1.1.1 : Int).toNat * 3) + 1) + 1) =
    some (.string s7) ∧ HCalls Tryz.prog 120 [.agg #[.int .i64 x5, .int .i64 x6, .string s7]] H2 fun v8 H9 => ∃ x10 : Bool, v8 = .bool x10 ∧ cnd (!x10) (Q (.bool false) H9) (KeepX [some (.v (.slice pl_A pl_n pl_c)), some
    (.v (.int .i64 ((pl_n : Nat) : Int)))] [] ∧ next3 ((IntKind.i64.wrap (s1.1.1 + 1), ()), ()) H9)) (Q (.bool true) H2)
noncomputable def fcx96 : Cx := cx 15 [(4, true)] [(2, ⟨[5, 6], [], [(7, .int .i64)], []⟩)] [] []
theorem f96.eq (pl_A : Option Addr) (pl_n pl_c : Nat) (H : Hp) (Q : Value → Hp → Prop) : f96 pl_A pl_n pl_c H Q = wFun fcx96 Tryz.f96 [.slice pl_A pl_n pl_c] H Q := by kernel_rfl
theorem f96.ok (pl_A : Option Addr) (pl_n pl_c : Nat) {H : Hp} {Q : Value → Hp → Prop} (h : f96 pl_A pl_n pl_c H Q) : HCalls Tryz.prog 96 [.slice pl_A pl_n pl_c] H Q := hcalls_of (cxOk _ _ _ _ _) Tryz.func96 (Eq.mp (f96.eq pl_A pl_n pl_c H Q) h)

/-- justiciar justiciarref01.IsRow -/
def f73 (pr_A : Option Addr) (pr_n pr_c : Nat) (H : Hp) (Q : Value → Hp → Prop) : Prop :=
  jn (fun (j4 : Bool) (H5 : Hp) => Q (.bool j4) H5) fun J6 => cnd (decide ((((pr_n : Nat) : Int) : Int) ≤ 20)) (HCalls Tryz.prog 96 [.slice pr_A pr_n pr_c] H fun v1 H2 => ∃ x3 : Bool, v1 = .bool x3 ∧ J6 x3 H2) (J6 false H)
noncomputable def fcx73 : Cx := cx 10 [] [] [] []
theorem f73.eq (pr_A : Option Addr) (pr_n pr_c : Nat) (H : Hp) (Q : Value → Hp → Prop) : f73 pr_A pr_n pr_c H Q = wFun fcx73 Tryz.f73 [.slice pr_A pr_n pr_c] H Q := by kernel_rfl
theorem f73.ok (pr_A : Option Addr) (pr_n pr_c : Nat) {H : Hp} {Q : Value → Hp → Prop} (h : f73 pr_A pr_n pr_c H Q) : HCalls Tryz.prog 73 [.slice pr_A pr_n pr_c] H Q := hcalls_of (cxOk _ _ _ _ _) Tryz.func73 (Eq.mp (f73.eq pr_A pr_n pr_c H Q) h)

/-- justiciar tree.isEntry -/
def f49 (pe_0_A : Option Addr) (pe_0_n pe_0_c : Nat) (pe_1 : Int) (pcols : Int) (H : Hp) (Q : Value → Hp → Prop) : Prop :=
  jn (fun (j7 : Bool) (H8 : Hp) => Q (.bool j7) H8) fun J9 => cnd ((((pe_0_n : Nat) : Int) : Int) == pcols) (HCalls Tryz.prog 40 [.slice pe_0_A pe_0_n pe_0_c] H fun v1 H2 => ∃ x3 : Bool, v1 = .bool x3 ∧ cnd x3 (HCalls
    Tryz.prog 75 [.int .i64 pe_1] H2 fun v4 H5 => ∃ x6 : Bool, v4 = .bool x6 ∧ J9 x6 H5) (J9 false H2)) (J9 false H)
noncomputable def fcx49 : Cx := cx 20 [(2, true)] [] [] []
theorem f49.eq (pe_0_A : Option Addr) (pe_0_n pe_0_c : Nat) (pe_1 : Int) (pcols : Int) (H : Hp) (Q : Value → Hp → Prop) : f49 pe_0_A pe_0_n pe_0_c pe_1 pcols H Q = wFun fcx49 Tryz.f49 [.agg #[.slice pe_0_A pe_0_n pe_0_c, .int .i64 pe_1], .int .i64 pcols] H Q := by kernel_rfl
theorem f49.ok (pe_0_A : Option Addr) (pe_0_n pe_0_c : Nat) (pe_1 : Int) (pcols : Int) {H : Hp} {Q : Value → Hp → Prop} (h : f49 pe_0_A pe_0_n pe_0_c pe_1 pcols H Q) : HCalls Tryz.prog 49 [.agg #[.slice pe_0_A pe_0_n pe_0_c, .int .i64 pe_1], .int .i64 pcols] H Q := hcalls_of (cxOk _ _ _ _ _) Tryz.func49 (Eq.mp (f49.eq pe_0_A pe_0_n pe_0_c pe_1 pcols H Q) h)

/-- justiciar valid.IsNumber -/
def f75 (pn : Int) (H : Hp) (Q : Value → Hp → Prop) : Prop :=
  jn (fun (j1 : Bool) => Q (.bool j1) H) fun J2 => cnd (decide ((pn : Int) ≥ 1)) (J2 (decide ((pn : Int) ≤ 1099511627776))) (J2 false)
noncomputable def fcx75 : Cx := cx 9 [] [] [] []
theorem f75.eq (pn : Int) (H : Hp) (Q : Value → Hp → Prop) : f75 pn H Q = wFun fcx75 Tryz.f75 [.int .i64 pn] H Q := by kernel_rfl
theorem f75.ok (pn : Int) {H : Hp} {Q : Value → Hp → Prop} (h : f75 pn H Q) : HCalls Tryz.prog 75 [.int .i64 pn] H Q := hcalls_of (cxOk _ _ _ _ _) Tryz.func75 (Eq.mp (f75.eq pn H Q) h)

/-- justiciar justiciarref17.Entry -/
def f56 (pcols : Int) (pe_0_A : Option Addr) (pe_0_n pe_0_c : Nat) (pe_1 : Int) (H : Hp) (Q : Value → Hp → Prop) : Prop :=
  jn (fun (j4 : Bool) (H5 : Hp) => Q (.bool j4) H5) fun J6 => cnd ((((pe_0_n : Nat) : Int) : Int) == pcols) (HCalls Tryz.prog 73 [.slice pe_0_A pe_0_n pe_0_c] H fun v1 H2 => ∃ x3 : Bool, v1 = .bool x3 ∧ cnd x3 (cnd (decide
    ((pe_1 : Int) ≥ 1)) (J6 (decide ((pe_1 : Int) ≤ 1099511627776)) H2) (J6 false H2)) (J6 false H2)) (J6 false H)
noncomputable def fcx56 : Cx := cx 25 [(3, true)] [] [] []
theorem f56.eq (pcols : Int) (pe_0_A : Option Addr) (pe_0_n pe_0_c : Nat) (pe_1 : Int) (H : Hp) (Q : Value → Hp → Prop) : f56 pcols pe_0_A pe_0_n pe_0_c pe_1 H Q = wFun fcx56 Tryz.f56 [.int .i64 pcols, .agg #[.slice pe_0_A pe_0_n pe_0_c, .int .i64 pe_1]] H Q := by kernel_rfl
theorem f56.ok (pcols : Int) (pe_0_A : Option Addr) (pe_0_n pe_0_c : Nat) (pe_1 : Int) {H : Hp} {Q : Value → Hp → Prop} (h : f56 pcols pe_0_A pe_0_n pe_0_c pe_1 H Q) : HCalls Tryz.prog 56 [.int .i64 pcols, .agg #[.slice pe_0_A pe_0_n pe_0_c, .int .i64 pe_1]] H Q := hcalls_of (cxOk _ _ _ _ _) Tryz.func56 (Eq.mp (f56.eq pcols pe_0_A pe_0_n pe_0_c pe_1 H Q) h)

/-- justiciar tree.order -/
def f51 (pa_0_A : Option Addr) (pa_0_n pa_0_c : Nat) (pa_1 : Int) (pb_0_A : Option Addr) (pb_0_n pb_0_c : Nat) (pb_1 : Int) (H : Hp) (Q : Value → Hp → Prop) : Prop :=
  HCalls Tryz.prog 41 [.slice pa_0_A pa_0_n pa_0_c, .slice pb_0_A pb_0_n pb_0_c] H fun v1 H2 => ∃ x3 : Int, v1 = .int .i64 x3 ∧ HCalls Tryz.prog 77 [.int .i64 pa_1, .int .i64 pb_1] H2 fun v4 H5 => ∃ x6 : Int, v4 = .int .i64
    x6 ∧ newF H5 3 [.int .i64 x3, .int .i64 x6] fun g7 H8 => HCalls Tryz.prog 76 [.slice (some ⟨g7, 0, none⟩) 2 2] H8 fun v9 H10 => ∃ x11 : Int, v9 = .int .i64 x11 ∧ Q (.int .i64 x11) H10
noncomputable def fcx51 : Cx := cx 17 [(2, true), (3, true)] [] [(1, (.look 0 (.look 1 (.look 2 (.look 3 (.look 5 (.look 6 (.look 7 (.look 8 (.act 4 (.act 9 (.act 10 (.act 11 (.act 12 .done .done) .done) .done) .done) .done))))))))))] []
theorem f51.eq (pa_0_A : Option Addr) (pa_0_n pa_0_c : Nat) (pa_1 : Int) (pb_0_A : Option Addr) (pb_0_n pb_0_c : Nat) (pb_1 : Int) (H : Hp) (Q : Value → Hp → Prop) : f51 pa_0_A pa_0_n pa_0_c pa_1 pb_0_A pb_0_n pb_0_c pb_1 H Q = wFun fcx51 Tryz.f51 [.agg #[.slice pa_0_A pa_0_n pa_0_c, .int .i64 pa_1], .agg #[.slice pb_0_A pb_0_n pb_0_c, .int .i64 pb_1]] H Q := by kernel_rfl
theorem f51.ok (pa_0_A : Option Addr) (pa_0_n pa_0_c : Nat) (pa_1 : Int) (pb_0_A : Option Addr) (pb_0_n pb_0_c : Nat) (pb_1 : Int) {H : Hp} {Q : Value → Hp → Prop} (h : f51 pa_0_A pa_0_n pa_0_c pa_1 pb_0_A pb_0_n pb_0_c pb_1 H Q) : HCalls Tryz.prog 51 [.agg #[.slice pa_0_A pa_0_n pa_0_c, .int .i64 pa_1], .agg #[.slice pb_0_A pb_0_n pb_0_c, .int .i64 pb_1]] H Q := hcalls_of (cxOk _ _ _ _ _) Tryz.func51 (Eq.mp (f51.eq pa_0_A pa_0_n pa_0_c pa_1 pb_0_A pb_0_n pb_0_c pb_1 H Q) h)

/-- justiciar justiciarref17.Order -/
def f59 (pa_0_A : Option Addr) (pa_0_n pa_0_c : Nat) (pa_1 : Int) (pb_0_A : Option Addr) (pb_0_n pb_0_c : Nat) (pb_1 : Int) (H : Hp) (Q : Value → Hp → Prop) : Prop :=
  HCalls Tryz.prog 44 [.slice pa_0_A pa_0_n pa_0_c, .slice pb_0_A pb_0_n pb_0_c] H fun v1 H2 => ∃ x3 : Int, v1 = .int .i64 x3 ∧ cnd ((x3 : Int) != 0) (Q (.int .i64 x3) H2) (cnd (decide ((pa_1 : Int) < pb_1)) (Q (.int .i64
    (-1)) H2) (cnd (decide ((pa_1 : Int) > pb_1)) (Q (.int .i64 1) H2) (Q (.int .i64 0) H2)))
noncomputable def fcx59 : Cx := cx 27 [(2, true), (3, true)] [] [] []
theorem f59.eq (pa_0_A : Option Addr) (pa_0_n pa_0_c : Nat) (pa_1 : Int) (pb_0_A : Option Addr) (pb_0_n pb_0_c : Nat) (pb_1 : Int) (H : Hp) (Q : Value → Hp → Prop) : f59 pa_0_A pa_0_n pa_0_c pa_1 pb_0_A pb_0_n pb_0_c pb_1 H Q = wFun fcx59 Tryz.f59 [.agg #[.slice pa_0_A pa_0_n pa_0_c, .int .i64 pa_1], .agg #[.slice pb_0_A pb_0_n pb_0_c, .int .i64 pb_1]] H Q := by kernel_rfl
theorem f59.ok (pa_0_A : Option Addr) (pa_0_n pa_0_c : Nat) (pa_1 : Int) (pb_0_A : Option Addr) (pb_0_n pb_0_c : Nat) (pb_1 : Int) {H : Hp} {Q : Value → Hp → Prop} (h : f59 pa_0_A pa_0_n pa_0_c pa_1 pb_0_A pb_0_n pb_0_c pb_1 H Q) : HCalls Tryz.prog 59 [.agg #[.slice pa_0_A pa_0_n pa_0_c, .int .i64 pa_1], .agg #[.slice pb_0_A pb_0_n pb_0_c, .int .i64 pb_1]] H Q := hcalls_of (cxOk _ _ _ _ _) Tryz.func59 (Eq.mp (f59.eq pa_0_A pa_0_n pa_0_c pa_1 pb_0_A pb_0_n pb_0_c pb_1 H Q) h)

/-- justiciar justiciarref01.Int -/
def f35 (pn : Int) (H : Hp) (Q : Value → Hp → Prop) : Prop :=
  Q (.agg #[.int .i64 1, .int .i64 pn, .string ByteArray.empty]) H
noncomputable def fcx35 : Cx := cx 5 [(2, true)] [] [] []
theorem f35.eq (pn : Int) (H : Hp) (Q : Value → Hp → Prop) : f35 pn H Q = wFun fcx35 Tryz.f35 [.int .i64 pn] H Q := by kernel_rfl
theorem f35.ok (pn : Int) {H : Hp} {Q : Value → Hp → Prop} (h : f35 pn H Q) : HCalls Tryz.prog 35 [.int .i64 pn] H Q := hcalls_of (cxOk _ _ _ _ _) Tryz.func35 (Eq.mp (f35.eq pn H Q) h)

/-- justiciar justiciarlaw17.entry -/
def f34 (pn : Int) (pid : Int) (H : Hp) (Q : Value → Hp → Prop) : Prop :=
  HCalls Tryz.prog 35 [.int .i64 pn] H fun v1 H2 => ∃ x3 : Int, ∃ x4 : Int, ∃ s5 : ByteArray, v1 = .agg #[.int .i64 x3, .int .i64 x4, .string s5] ∧ newF H2 64 [.int .i64 x3, .int .i64 x4, .string s5] fun g6 H7 => Q (.agg
    #[.slice (some ⟨g6, 0, none⟩) 1 1, .int .i64 pid]) H7
noncomputable def fcx34 : Cx := cx 10 [(4, true)] [] [] []
theorem f34.eq (pn : Int) (pid : Int) (H : Hp) (Q : Value → Hp → Prop) : f34 pn pid H Q = wFun fcx34 Tryz.f34 [.int .i64 pn, .int .i64 pid] H Q := by kernel_rfl
theorem f34.ok (pn : Int) (pid : Int) {H : Hp} {Q : Value → Hp → Prop} (h : f34 pn pid H Q) : HCalls Tryz.prog 34 [.int .i64 pn, .int .i64 pid] H Q := hcalls_of (cxOk _ _ _ _ _) Tryz.func34 (Eq.mp (f34.eq pn pid H Q) h)

/-- justiciar justiciarref01.SameRow -/
def f39 (pa_A : Option Addr) (pa_n pa_c : Nat) (pb_A : Option Addr) (pb_n pb_c : Nat) (H : Hp) (Q : Value → Hp → Prop) : Prop :=
  cnd ((((pa_n : Nat) : Int) : Int) != ((pb_n : Nat) : Int)) (Q (.bool false) H) (LoopF (σ := (Int × Unit) × Unit) ((0, ()), ()) H fun s1 H2 next3 => cnd (decide ((s1.1.1 : Int) < ((pa_n : Nat) : Int))) (0 ≤ (s1.1.1 : Int)
    ∧ (s1.1.1 : Int) < ((pa_n : Nat) : Int) ∧ onPtr pa_A fun b4 o4 => ∃ x5 : Int, cl H2 b4 (o4 + (s1.1.1 : Int).toNat * 3) = some (.int .i64 x5) ∧ ∃ x6 : Int, cl H2 b4 ((o4 + (s1.1.1 : Int).toNat * 3) + 1) = some (.int
    .i64 x6) ∧ ∃ s7 : ByteArray, cl H2 b4 (((o4 + (s1.1.1 : Int).toNat * 3) + 1) + 1) = some (.string s7) ∧ 0 ≤ (s1.1.1 : Int) ∧ (s1.1.1 : Int) < ((pb_n : Nat) : Int) ∧ onPtr pb_A fun b8 o8 => ∃ x9 : Int, cl H2 b8 (o8 +
    (s1.1.1 : Int).toNat * 3) = some (.int .i64 x9) ∧ ∃ x10 : Int, cl H2 b8 ((o8 + (s1.1.1 : Int).toNat * 3) + 1) = some (.int .i64 x10) ∧ ∃ s11 : ByteArray, cl H2 b8 (((o8 + (s1.1.1 : Int).toNat * 3) + 1) + 1) = some
    (.string s11) ∧ cnd (!(((x5 : Int) == x9) && (((x6 : Int) == x10) && ((s7.toList == s11.toList) && true)))) (Q (.bool false) H2) (KeepX [some (.v (.slice pa_A pa_n pa_c)), some (.v (.slice pb_A pb_n pb_c)), some (.v
    (.int .i64 ((pa_n : Nat) : Int)))] [] ∧ next3 ((IntKind.i64.wrap (s1.1.1 + 1), ()), ()) H2)) (Q (.bool true) H2))
noncomputable def fcx39 : Cx := cx 26 [] [(4, ⟨[0, 1, 12], [], [(13, .int .i64)], []⟩)] [(6, (.look 0 (.look 1 (.look 2 (.look 3 (.look 4 (.look 5 (.look 6 (.look 7 (.look 8 .done))))))))))] []
theorem f39.eq (pa_A : Option Addr) (pa_n pa_c : Nat) (pb_A : Option Addr) (pb_n pb_c : Nat) (H : Hp) (Q : Value → Hp → Prop) : f39 pa_A pa_n pa_c pb_A pb_n pb_c H Q = wFun fcx39 Tryz.f39 [.slice pa_A pa_n pa_c, .slice pb_A pb_n pb_c] H Q := by kernel_rfl
theorem f39.ok (pa_A : Option Addr) (pa_n pa_c : Nat) (pb_A : Option Addr) (pb_n pb_c : Nat) {H : Hp} {Q : Value → Hp → Prop} (h : f39 pa_A pa_n pa_c pb_A pb_n pb_c H Q) : HCalls Tryz.prog 39 [.slice pa_A pa_n pa_c, .slice pb_A pb_n pb_c] H Q := hcalls_of (cxOk _ _ _ _ _) Tryz.func39 (Eq.mp (f39.eq pa_A pa_n pa_c pb_A pb_n pb_c H Q) h)

/-- justiciar justiciarref17.Same -/
def f15 (pa_A : Option Addr) (pa_n pa_c : Nat) (pb_A : Option Addr) (pb_n pb_c : Nat) (H : Hp) (Q : Value → Hp → Prop) : Prop :=
  cnd ((((pa_n : Nat) : Int) : Int) != ((pb_n : Nat) : Int)) (Q (.bool false) H) (LoopF (σ := (Int × Unit) × Unit) ((0, ()), ()) H fun s1 H2 next3 => cnd (decide ((s1.1.1 : Int) < ((pa_n : Nat) : Int))) (jn (fun (j15 :
    Bool) (H16 : Hp) => cnd j15 (Q (.bool false) H16) (KeepX [some (.v (.slice pa_A pa_n pa_c)), some (.v (.slice pb_A pb_n pb_c)), some (.v (.int .i64 ((pa_n : Nat) : Int)))] [] ∧ next3 ((IntKind.i64.wrap (s1.1.1 + 1),
    ()), ()) H16)) fun J17 => 0 ≤ (s1.1.1 : Int) ∧ (s1.1.1 : Int) < ((pa_n : Nat) : Int) ∧ onPtr pa_A fun b4 o4 => ∃ x5 : Int, cl H2 b4 ((o4 + (s1.1.1 : Int).toNat * 2) + 1) = some (.int .i64 x5) ∧ 0 ≤ (s1.1.1 : Int) ∧
    (s1.1.1 : Int) < ((pb_n : Nat) : Int) ∧ onPtr pb_A fun b6 o6 => ∃ x7 : Int, cl H2 b6 ((o6 + (s1.1.1 : Int).toNat * 2) + 1) = some (.int .i64 x7) ∧ cnd ((x5 : Int) != x7) (J17 true H2) (0 ≤ (s1.1.1 : Int) ∧ (s1.1.1 :
    Int) < ((pa_n : Nat) : Int) ∧ onPtr pa_A fun b8 o8 => ∃ (A9 : Option Addr) (n9 c9 : Nat), cl H2 b8 ((o8 + (s1.1.1 : Int).toNat * 2) + 0) = some (.slice A9 n9 c9) ∧ 0 ≤ (s1.1.1 : Int) ∧ (s1.1.1 : Int) < ((pb_n : Nat) :
    Int) ∧ onPtr pb_A fun b10 o10 => ∃ (A11 : Option Addr) (n11 c11 : Nat), cl H2 b10 ((o10 + (s1.1.1 : Int).toNat * 2) + 0) = some (.slice A11 n11 c11) ∧ HCalls Tryz.prog 39 [.slice A9 n9 c9, .slice A11 n11 c11] H2 fun
    v12 H13 => ∃ x14 : Bool, v12 = .bool x14 ∧ J17 (!x14) H13)) (Q (.bool true) H2))
noncomputable def fcx15 : Cx := cx 42 [] [(4, ⟨[0, 1, 12], [], [(13, .int .i64)], []⟩)] [(6, (.look 0 (.look 1 (.look 2 (.look 3 (.look 4 (.look 5 (.look 6 (.look 7 (.look 8 (.look 9 (.look 10 (.look 11 (.look 12 (.look 13 (.look 14 (.look 15 (.look 16 (.look 17 (.look 18 (.look 19 (.look 20 (.look 21 (.act 22 (.look 23 (.look 24 .done)) .done))))))))))))))))))))))))] []
theorem f15.eq (pa_A : Option Addr) (pa_n pa_c : Nat) (pb_A : Option Addr) (pb_n pb_c : Nat) (H : Hp) (Q : Value → Hp → Prop) : f15 pa_A pa_n pa_c pb_A pb_n pb_c H Q = wFun fcx15 Tryz.f15 [.slice pa_A pa_n pa_c, .slice pb_A pb_n pb_c] H Q := by kernel_rfl
theorem f15.ok (pa_A : Option Addr) (pa_n pa_c : Nat) (pb_A : Option Addr) (pb_n pb_c : Nat) {H : Hp} {Q : Value → Hp → Prop} (h : f15 pa_A pa_n pa_c pb_A pb_n pb_c H Q) : HCalls Tryz.prog 15 [.slice pa_A pa_n pa_c, .slice pb_A pb_n pb_c] H Q := hcalls_of (cxOk _ _ _ _ _) Tryz.func15 (Eq.mp (f15.eq pa_A pa_n pa_c pb_A pb_n pb_c H Q) h)

/-- justiciar justiciarref17.SameInts -/
def f22 (pa_A : Option Addr) (pa_n pa_c : Nat) (pb_A : Option Addr) (pb_n pb_c : Nat) (H : Hp) (Q : Value → Hp → Prop) : Prop :=
  cnd ((((pa_n : Nat) : Int) : Int) != ((pb_n : Nat) : Int)) (Q (.bool false) H) (LoopF (σ := (Int × Unit) × Unit) ((0, ()), ()) H fun s1 H2 next3 => cnd (decide ((s1.1.1 : Int) < ((pa_n : Nat) : Int))) (0 ≤ (s1.1.1 : Int)
    ∧ (s1.1.1 : Int) < ((pa_n : Nat) : Int) ∧ onPtr pa_A fun b4 o4 => ∃ x5 : Int, cl H2 b4 (o4 + (s1.1.1 : Int).toNat * 1) = some (.int .i64 x5) ∧ 0 ≤ (s1.1.1 : Int) ∧ (s1.1.1 : Int) < ((pb_n : Nat) : Int) ∧ onPtr pb_A
    fun b6 o6 => ∃ x7 : Int, cl H2 b6 (o6 + (s1.1.1 : Int).toNat * 1) = some (.int .i64 x7) ∧ cnd ((x5 : Int) != x7) (Q (.bool false) H2) (KeepX [some (.v (.slice pa_A pa_n pa_c)), some (.v (.slice pb_A pb_n pb_c)), some
    (.v (.int .i64 ((pa_n : Nat) : Int)))] [] ∧ next3 ((IntKind.i64.wrap (s1.1.1 + 1), ()), ()) H2)) (Q (.bool true) H2))
noncomputable def fcx22 : Cx := cx 26 [] [(4, ⟨[0, 1, 12], [], [(13, .int .i64)], []⟩)] [(6, (.look 0 (.look 1 (.look 2 (.look 3 (.look 4 (.look 5 (.look 6 (.look 7 (.look 8 .done))))))))))] []
theorem f22.eq (pa_A : Option Addr) (pa_n pa_c : Nat) (pb_A : Option Addr) (pb_n pb_c : Nat) (H : Hp) (Q : Value → Hp → Prop) : f22 pa_A pa_n pa_c pb_A pb_n pb_c H Q = wFun fcx22 Tryz.f22 [.slice pa_A pa_n pa_c, .slice pb_A pb_n pb_c] H Q := by kernel_rfl
theorem f22.ok (pa_A : Option Addr) (pa_n pa_c : Nat) (pb_A : Option Addr) (pb_n pb_c : Nat) {H : Hp} {Q : Value → Hp → Prop} (h : f22 pa_A pa_n pa_c pb_A pb_n pb_c H Q) : HCalls Tryz.prog 22 [.slice pa_A pa_n pa_c, .slice pb_A pb_n pb_c] H Q := hcalls_of (cxOk _ _ _ _ _) Tryz.func22 (Eq.mp (f22.eq pa_A pa_n pa_c pb_A pb_n pb_c H Q) h)

/-- justiciar tree.cut -/
def f42 (pe_0_A : Option Addr) (pe_0_n pe_0_c : Nat) (pe_1 : Int) (pn : Int) (H : Hp) (Q : Value → Hp → Prop) : Prop :=
  0 ≤ (pn : Int) ∧ (pn : Int) ≤ ((pe_0_c : Nat) : Int) ∧ Q (.slice (cutA pe_0_A (0 * 3) (decide (pe_0_c = 0))) (((pn : Int).toNat) - 0) (pe_0_c - 0)) H
noncomputable def fcx42 : Cx := cx 9 [(2, true)] [] [] []
theorem f42.eq (pe_0_A : Option Addr) (pe_0_n pe_0_c : Nat) (pe_1 : Int) (pn : Int) (H : Hp) (Q : Value → Hp → Prop) : f42 pe_0_A pe_0_n pe_0_c pe_1 pn H Q = wFun fcx42 Tryz.f42 [.agg #[.slice pe_0_A pe_0_n pe_0_c, .int .i64 pe_1], .int .i64 pn] H Q := by kernel_rfl
theorem f42.ok (pe_0_A : Option Addr) (pe_0_n pe_0_c : Nat) (pe_1 : Int) (pn : Int) {H : Hp} {Q : Value → Hp → Prop} (h : f42 pe_0_A pe_0_n pe_0_c pe_1 pn H Q) : HCalls Tryz.prog 42 [.agg #[.slice pe_0_A pe_0_n pe_0_c, .int .i64 pe_1], .int .i64 pn] H Q := hcalls_of (cxOk _ _ _ _ _) Tryz.func42 (Eq.mp (f42.eq pe_0_A pe_0_n pe_0_c pe_1 pn H Q) h)

/-- justiciar justiciarref17.row -/
def f43 (pl_A : Option Addr) (pl_n pl_c : Nat) (pleast : Int) (pmost : Int) (H : Hp) (Q : Value → Hp → Prop) : Prop :=
  jn (fun (j4 : Bool) (H5 : Hp) => Q (.bool j4) H5) fun J6 => cnd (decide ((((pl_n : Nat) : Int) : Int) ≥ pleast)) (cnd (decide ((((pl_n : Nat) : Int) : Int) ≤ pmost)) (HCalls Tryz.prog 73 [.slice pl_A pl_n pl_c] H fun v1
    H2 => ∃ x3 : Bool, v1 = .bool x3 ∧ J6 x3 H2) (J6 false H)) (J6 false H)
noncomputable def fcx43 : Cx := cx 21 [] [] [] []
theorem f43.eq (pl_A : Option Addr) (pl_n pl_c : Nat) (pleast : Int) (pmost : Int) (H : Hp) (Q : Value → Hp → Prop) : f43 pl_A pl_n pl_c pleast pmost H Q = wFun fcx43 Tryz.f43 [.slice pl_A pl_n pl_c, .int .i64 pleast, .int .i64 pmost] H Q := by kernel_rfl
theorem f43.ok (pl_A : Option Addr) (pl_n pl_c : Nat) (pleast : Int) (pmost : Int) {H : Hp} {Q : Value → Hp → Prop} (h : f43 pl_A pl_n pl_c pleast pmost H Q) : HCalls Tryz.prog 43 [.slice pl_A pl_n pl_c, .int .i64 pleast, .int .i64 pmost] H Q := hcalls_of (cxOk _ _ _ _ _) Tryz.func43 (Eq.mp (f43.eq pl_A pl_n pl_c pleast pmost H Q) h)

end Go.Proofs.YtmelbipidffmpaaGreatDoor.Hw

/- Heaps that grow, slices in them, and what the memory operations of the evaluator come to. -/
set_option linter.unusedVariables false
set_option linter.unusedSimpArgs false
namespace Go.Proofs.YtmelbipidffmpaaGreatDoor.Hw
open Go

/-- Whatever the one heap has, the other has too. -/
def Ext (H H' : Hp) : Prop := ∀ b o, H b = some o → H' b = some o
theorem Ext.refl (H : Hp) : Ext H H := fun _ _ h => h
theorem Ext.trans {H1 H2 H3 : Hp} (h : Ext H1 H2) (h' : Ext H2 H3) : Ext H1 H3 := fun b o hb => h' b o (h b o hb)
theorem upd_at {α : Type} {t : Nat} {a : α} {e : Nat → Option α} : upd t a e t = some a := by simp [upd]
theorem upd_off {α : Type} {t x : Nat} {a : α} {e : Nat → Option α} (h : x ≠ t) : upd t a e x = e x := by
  unfold upd
  cases hb : Nat.beq x t with
  | true => exact absurd (Nat.eq_of_beq_eq_true hb) h
  | false => rfl
theorem Ext.new {H : Hp} {b : Nat} {o : Obj} (h : H b = none) : Ext H (upd b o H) := fun x p hx => by
  rw [upd_off (fun e => by rw [e, h] at hx; cases hx)]; exact hx
theorem Ext.upd {H0 H : Hp} {b : Nat} {o : Obj} (h : Ext H0 H) (hb : H0 b = none) : Ext H0 (upd b o H) := fun x p hx => by
  rw [upd_off (fun e => by rw [e, hb] at hx; cases hx)]; exact h x p hx
theorem Ext.none {H H' : Hp} (h : Ext H H') {b : Nat} (hb : H' b = none) : H b = none := by
  cases hx : H b with
  | none => rfl
  | some o => rw [h b o hx] at hb; cases hb

theorem cl_ext {H H' : Hp} (h : Ext H H') {b o : Nat} {v : Value} (hc : cl H b o = some v) : cl H' b o = some v := by
  unfold cl at hc ⊢
  cases hb : H b with
  | none => rw [hb] at hc; cases hc
  | some p => rw [hb] at hc; rw [h b p hb]; exact hc
theorem cellsAt_ext {H H' : Hp} (h : Ext H H') {A : Option Addr} {l : List Value} (hc : cellsAt H A l) : cellsAt H' A l := by
  rcases hc with hc | ⟨b, o, hA, hc⟩
  · exact .inl hc
  · exact .inr ⟨b, o, hA, fun j v hj => cl_ext h (hc j v hj)⟩
theorem cl_cells {H : Hp} {b : Nat} {cs : List Value} {ty : Nat} {z : Nat × Nat} (h : H b = some (.cells cs.toArray ty z)) (o : Nat) : cl H b o = cs[o]? := by
  unfold cl; rw [h]; simp
/-- A slice's element: where it lies. -/
theorem at_cells {H : Hp} {A : Option Addr} {vs : List Value} (h : cellsAt H A vs) (hn : vs ≠ []) {K : Nat → Nat → Prop}
    (hk : ∀ b o, A = some ⟨b, o, none⟩ → (∀ j v, vs[j]? = some v → cl H b (o + j) = some v) → K b o) : onPtr A K := by
  rcases h with h | ⟨b, o, rfl, h⟩
  · exact absurd h hn
  · exact hk b o rfl h
theorem wrap_id {x : Int} (h1 : -9223372036854775808 ≤ x) (h2 : x < 9223372036854775808) : IntKind.i64.wrap x = x := by
  unfold IntKind.wrap
  simp [IntKind.bits, IntKind.signed]
  omega

/-- The same, with the loop's step handed on as it is. -/
theorem loop_to {σ : Type} {s0 : σ} {H : Hp} {body : σ → Hp → (σ → Hp → Prop) → Prop} (n : Nat) (I : Nat → σ → Hp → Prop) (h0 : I 0 s0 H)
    (hs : ∀ i s H' (next : σ → Hp → Prop), i ≤ n → I i s H' → (∀ s' H2, i < n → I (i + 1) s' H2 → next s' H2) → body s H' next) : LoopF s0 H body :=
  ⟨fun m s H' => ∃ i, i + m = n ∧ I i s H', ⟨n, 0, by omega, h0⟩, fun m s H' ⟨i, hi, hI⟩ => hs i s H' _ (by omega) hI (fun s' H2 hlt h2 => ⟨n - (i + 1), by omega, i + 1, by omega, h2⟩)⟩

theorem cndT {b : Bool} {A B : Prop} (h : b = true) (hA : A) : cnd b A B := by subst h; exact hA
theorem cndF {b : Bool} {A B : Prop} (h : b = false) (hB : B) : cnd b A B := by subst h; exact hB
theorem cndI {b : Bool} {A B : Prop} (hA : b = true → A) (hB : b = false → B) : cnd b A B := by
  cases b
  · exact hB rfl
  · exact hA rfl
theorem onPtrI {b o : Nat} {K : Nat → Nat → Prop} (h : K b o) : onPtr (some ⟨b, o, none⟩) K := h
/-- A loop over the indices of a slice. -/
theorem scan {n : Nat} {H : Hp} {body : ((Int × Unit) × Unit) → Hp → (((Int × Unit) × Unit) → Hp → Prop) → Prop} (hn : n < 4611686018427387904) (I : Nat → Hp → Prop) (h0 : I 0 H)
    (hs : ∀ (i : Nat) H' next, i < n → I i H' → (∀ H2, I (i + 1) H2 → next ((IntKind.i64.wrap ((i : Int) + 1), ()), ()) H2) → body (((i : Int), ()), ()) H' next)
    (he : ∀ H' next, I n H' → body (((n : Int), ()), ()) H' next) : LoopF (((0 : Int), ()), ()) H body := by
  refine loop_to n (fun i s H' => s = (((i : Int), ()), ()) ∧ I i H') ⟨rfl, h0⟩ ?_
  rintro i s H' next hi ⟨rfl, hI⟩ hnext
  by_cases h : i < n
  · refine hs i H' next h hI fun H2 h2 => hnext _ _ h ⟨?_, h2⟩
    rw [wrap_id (by omega) (by omega)]
    rfl
  · obtain rfl : i = n := by omega
    exact he H' next hI

/-! ### rows: blocks of their own behind slices -/
/-- A slice whose block is its own (no other slice of 'H0' has it), of which the first cells are known. -/
def Row (H0 H : Hp) (A : Option Addr) (n c esz : Nat) (vals : List Value) : Prop :=
  vals.length = n * esz ∧ n ≤ c ∧ ((A = none ∧ c = 0) ∨ ∃ (b : Nat) (cs : List Value) (ty : Nat), A = some ⟨b, 0, none⟩ ∧ H b = some (.cells cs.toArray ty (0, 0)) ∧ c * esz ≤ cs.length ∧ cs.take (n * esz) = vals ∧ H0 b = none)
/-- The block of a row, if it has one. -/
def rowB (A : Option Addr) (b : Nat) : Prop := ∃ o q, A = some ⟨b, o, q⟩
theorem Row.cells {H0 H : Hp} {A : Option Addr} {n c esz : Nat} {vals : List Value} (h : Row H0 H A n c esz vals) : cellsAt H A vals := by
  obtain ⟨h1, h2, h3 | ⟨b, cs, ty, rfl, hb, hl, ht, _⟩⟩ := h
  · left
    have : n = 0 := by omega
    subst this
    simpa using h1
  · right
    refine ⟨b, 0, rfl, fun j v hj => ?_⟩
    rw [cl_cells hb, Nat.zero_add]
    rw [← ht, List.getElem?_take] at hj
    split at hj
    · exact hj
    · cases hj
/-- A row stays where its block stays. -/
theorem Row.keep {H0 H H' : Hp} {A : Option Addr} {n c esz : Nat} {vals : List Value} (h : Row H0 H A n c esz vals) (hk : ∀ b, rowB A b → H' b = H b) : Row H0 H' A n c esz vals := by
  obtain ⟨h1, h2, h3 | ⟨b, cs, ty, rfl, hb, hl, ht, hz⟩⟩ := h
  · exact ⟨h1, h2, .inl h3⟩
  · exact ⟨h1, h2, .inr ⟨b, cs, ty, rfl, (hk b ⟨_, _, rfl⟩).trans hb, hl, ht, hz⟩⟩
theorem Row.lt {H0 H : Hp} {A : Option Addr} {n c esz : Nat} {vals : List Value} (h : Row H0 H A n c esz vals) {b : Nat} (hb : rowB A b) : H b ≠ none ∧ H0 b = none := by
  obtain ⟨h1, h2, h3 | ⟨b', cs, ty, rfl, hb', hl, ht, hz⟩⟩ := h
  · obtain ⟨o, q, hA⟩ := hb; rw [h3.1] at hA; cases hA
  · obtain ⟨o, q, hA⟩ := hb
    cases hA
    exact ⟨by rw [hb']; simp, hz⟩
theorem Row.base {H0 H1 H : Hp} {A : Option Addr} {n c esz : Nat} {vals : List Value} (h : Row H1 H A n c esz vals) (hx : Ext H0 H1) : Row H0 H A n c esz vals := by
  obtain ⟨h1, h2, h3 | ⟨b, cs, ty, rfl, hb, hl, ht, hz⟩⟩ := h
  · exact ⟨h1, h2, .inl h3⟩
  · exact ⟨h1, h2, .inr ⟨b, cs, ty, rfl, hb, hl, ht, hx.none hz⟩⟩
theorem Row.nil {H0 H : Hp} {esz : Nat} : Row H0 H none 0 0 esz [] := ⟨by simp, Nat.le_refl _, .inl ⟨rfl, rfl⟩⟩

theorem setR_take {cs vs : List Value} {o : Nat} (h : o + vs.length ≤ cs.length) : (setR cs o vs).take (o + vs.length) = cs.take o ++ vs := by
  unfold setR
  rw [List.take_append_of_le_length (by rw [List.length_append, List.length_take]; omega), List.take_of_length_le (by rw [List.length_append, List.length_take]; omega)]
theorem setR_length {cs vs : List Value} {o : Nat} (h : o + vs.length ≤ cs.length) : (setR cs o vs).length = cs.length := by
  unfold setR
  rw [List.length_append, List.length_append, List.length_take, List.length_drop]; omega

/-- Appending to a row: it stays a row, and no block but its own, or a new one, is touched. -/
theorem Row.appendR {H0 H : Hp} {A B : Option Addr} {n c m el esz eby : Nat} {vals new : List Value} {K : Option Addr → Nat → Nat → Hp → Prop} (R : Row H0 H A n c esz vals) (hx : Ext H0 H)
    (hnew : cellsAt H B new) (hl : new.length = m * esz) (ho : ∀ v ∈ new, v.oneCell' = true) (hz1 : RoomOk (n + m) eby) (hz2 : n + m ≤ 140737488355328)
    (hk : ∀ A' c' H', Row H0 H' A' (n + m) c' esz (vals ++ new) → Ext H0 H' → (∀ b, H' b ≠ H b → rowB A' b ∧ (rowB A b ∨ H b = none)) → (∀ b, rowB A' b → rowB A b ∨ H b = none) → (n + m ≤ c → A' = A ∧ c' = c) → K A' (n + m) c' H') :
    appendF H el esz eby A n c B m K := by
  have hR := R
  obtain ⟨h1, h2, h3⟩ := R
  have hmul : (n + m) * esz = n * esz + m * esz := Nat.add_mul _ _ _
  have hmn : c < n + m → c * esz ≤ (n + m) * esz := fun h => Nat.mul_le_mul_right _ (by omega)
  refine ⟨hz1, hz2, new, hl, hnew, ho, fun hc => ⟨fun hm => ?_, fun hm => ?_⟩, fun hc => ⟨vals, h1, hR.cells, fun b cap rest hb hcap hcl hrl => ?_⟩⟩
  · subst hm
    have : new = [] := List.length_eq_zero_iff.1 (by simpa using hl)
    subst this
    exact hk A c H (by simpa using hR) hx (fun b hb => absurd rfl hb) (fun b hb => .inl hb) (fun _ => ⟨rfl, rfl⟩)
  · rcases h3 with h3 | ⟨b, cs, ty, rfl, hb, hcl, ht, hz⟩
    · omega
    · have hle : (n + m) * esz ≤ cs.length := Nat.le_trans (Nat.mul_le_mul_right _ hc) hcl
      refine ⟨b, 0, cs, ty, rfl, hb, by omega, ?_⟩
      rw [Nat.zero_add]
      refine hk _ c _ ⟨?_, hc, .inr ⟨b, setR cs (n * esz) new, ty, rfl, upd_at, ?_, ?_, hz⟩⟩ (hx.upd hz) ?_ (fun b' hb' => .inl hb') (fun _ => ⟨rfl, rfl⟩)
      · rw [List.length_append, h1, hl, hmul]
      · rw [setR_length (by omega)]; exact hcl
      · rw [hmul, ← hl, setR_take (by omega), ht]
      · intro b' hb'
        by_cases hbb : b' = b
        · subst hbb; exact ⟨⟨_, _, rfl⟩, .inl ⟨_, _, rfl⟩⟩
        · exact absurd (upd_off hbb) hb'
  · refine hk _ cap _ ⟨?_, hcap, .inr ⟨b, vals ++ new ++ rest, el, rfl, upd_at, ?_, ?_, hx.none hb⟩⟩ (hx.upd (hx.none hb)) ?_ ?_ (fun h => by omega)
    · rw [List.length_append, h1, hl, hmul]
    · have h4 : cap * esz = (n + m) * esz + (cap - (n + m)) * esz := by rw [← Nat.add_mul]; congr 1; omega
      rw [List.length_append, List.length_append, h1, hl, hrl, h4, hmul]; exact Nat.le_refl _
    · rw [List.take_append_of_le_length (by rw [List.length_append, h1, hl, hmul]; exact Nat.le_refl _), List.take_of_length_le (by rw [List.length_append, h1, hl, hmul]; exact Nat.le_refl _)]
    · intro b' hb'
      by_cases hbb : b' = b
      · subst hbb; exact ⟨⟨_, _, rfl⟩, .inr hb⟩
      · exact absurd (upd_off hbb) hb'
    · rintro b' ⟨o, q, h⟩
      cases h
      exact .inr hb

theorem Row.append {H0 H : Hp} {A B : Option Addr} {n c m el esz eby : Nat} {vals new : List Value} {K : Option Addr → Nat → Nat → Hp → Prop} (R : Row H0 H A n c esz vals) (hx : Ext H0 H)
    (hnew : cellsAt H B new) (hl : new.length = m * esz) (ho : ∀ v ∈ new, v.oneCell' = true) (hz1 : (n + m) * eby ≤ 140737488355328) (hz2 : n + m ≤ 140737488355328)
    (hk : ∀ A' c' H', Row H0 H' A' (n + m) c' esz (vals ++ new) → Ext H0 H' → (∀ b, H' b ≠ H b → rowB A' b ∧ (rowB A b ∨ H b = none)) → (∀ b, rowB A' b → rowB A b ∨ H b = none) → (n + m ≤ c → A' = A ∧ c' = c) → K A' (n + m) c' H') :
    appendF H el esz eby A n c B m K := R.appendR hx hnew hl ho (.inl hz1) hz2 hk
/-! ### slices that are read -/
def ints (l : List Int) : List Value := l.map (fun x => .int .i64 x)
theorem flat_get {α : Type} {f : α → List Value} {k : Nat} : ∀ {l : List α} {i j : Nat} {x : α}, (∀ x ∈ l, (f x).length = k) → l[i]? = some x → j < k → (l.flatMap f)[i * k + j]? = (f x)[j]?
  | [], i, j, x, _, h, _ => by simp at h
  | y :: r, 0, j, x, hl, h, hj => by
    simp at h
    subst h
    rw [List.flatMap_cons, Nat.zero_mul, Nat.zero_add, List.getElem?_append_left (by rw [hl y List.mem_cons_self]; exact hj)]
  | y :: r, i + 1, j, x, hl, h, hj => by
    rw [List.flatMap_cons, show (i + 1) * k + j = (f y).length + (i * k + j) by rw [hl y List.mem_cons_self, Nat.add_mul]; omega, List.getElem?_append_right (by omega), Nat.add_sub_cancel_left]
    exact flat_get (fun z hz => hl z (List.mem_cons_of_mem _ hz)) (by simpa using h) hj
theorem flat_length {α : Type} {f : α → List Value} {k : Nat} : ∀ {l : List α}, (∀ x ∈ l, (f x).length = k) → (l.flatMap f).length = l.length * k
  | [], _ => by simp
  | y :: r, hl => by
    rw [List.flatMap_cons, List.length_append, flat_length (fun z hz => hl z (List.mem_cons_of_mem _ hz)), hl y List.mem_cons_self, List.length_cons, Nat.add_mul]; omega
theorem flat_ne {α : Type} {f : α → List Value} {k : Nat} {l : List α} (hl : ∀ x ∈ l, (f x).length = k) (hk : 0 < k) (h : l ≠ []) : l.flatMap f ≠ [] := fun e => by
  have := flat_length hl
  rw [e] at this
  cases l with
  | nil => exact h rfl
  | cons y r => simp only [List.length_nil, List.length_cons, Nat.add_mul] at this; omega
end Go.Proofs.YtmelbipidffmpaaGreatDoor.Hw

/- Maps whose keys are whole numbers: what the evaluator's words come to, said of lists of pairs. -/
set_option linter.unusedVariables false
set_option linter.unusedSimpArgs false
namespace Go.Proofs.YtmelbipidffmpaaGreatDoor.Hw
open Go
abbrev KV := List (Int × Value)
def kvGet (kv : KV) (x : Int) : Option Value := (kv.find? (fun p => decide (x = p.1))).map (·.2)
def kvPut (kv : KV) (x : Int) (v : Value) : KV := match kv.findIdx? (fun p => decide (x = p.1)) with
  | some i => kv.set i (x, v)
  | none => kv ++ [(x, v)]
def keysD (kv : KV) : Prop := (kv.map (·.1)).Nodup
/-- The entries of a map, as pairs. -/
def EsOf (k : IntKind) (es : Array MapEntry) (clock : Nat) (kv : KV) : Prop :=
  es.toList.map (fun e => (e.key, e.val)) = kv.map (fun p => (Value.int k p.1, p.2)) ∧ (es.toList.map (·.born)).Nodup ∧ (∀ e ∈ es.toList, e.born < clock) ∧ keysD kv
def MapAt (k : IntKind) (H : Hp) (b : Nat) (kv : KV) : Prop := ∃ es clock, H b = some (.map es clock) ∧ EsOf k es clock kv
section
variable {k : IntKind} {H : Hp} {es : Array MapEntry} {clock : Nat} {kv : KV} {x : Int} {v : Value}
theorem EsOf.ints (h : EsOf k es clock kv) : intKeys k es.toList := fun e he => by
  have : (e.key, e.val) ∈ kv.map (fun p => (Value.int k p.1, p.2)) := by rw [← h.1]; exact List.mem_map_of_mem he
  obtain ⟨p, _, hp⟩ := List.mem_map.1 this
  injection hp with h1 h2
  exact ⟨p.1, h1.symm⟩
theorem esOf_at : ∀ {l : List MapEntry} {kv : KV}, l.map (fun e => (e.key, e.val)) = kv.map (fun p => (Value.int k p.1, p.2)) → l.findIdx? (isKey x) = kv.findIdx? (fun p => decide (x = p.1))
  | [], [], _ => rfl
  | [], _ :: _, h => by cases h
  | _ :: _, [], h => by cases h
  | e :: l, p :: r, h => by
    simp only [List.map_cons, List.cons.injEq, Prod.mk.injEq] at h
    rw [List.findIdx?_cons, List.findIdx?_cons, esOf_at (l := l) (kv := r) h.2]
    have : isKey x e = decide (x = p.1) := by unfold isKey; rw [h.1.1]
    rw [this]
theorem esOf_find : ∀ {l : List MapEntry} {kv : KV}, l.map (fun e => (e.key, e.val)) = kv.map (fun p => (Value.int k p.1, p.2)) → findE x l = kvGet kv x
  | [], [], _ => rfl
  | [], _ :: _, h => by cases h
  | _ :: _, [], h => by cases h
  | e :: l, p :: r, h => by
    simp only [List.map_cons, List.cons.injEq, Prod.mk.injEq] at h
    have ih := esOf_find (l := l) (kv := r) h.2
    unfold findE kvGet at ih ⊢
    rw [List.find?_cons, List.find?_cons]
    have : isKey x e = decide (x = p.1) := by unfold isKey; rw [h.1.1]
    rw [this]
    cases decide (x = p.1) with
    | true => simp [h.1.2]
    | false => exact ih
theorem look_to {b : Nat} {z : Value} {K : Value → Bool → Prop} (h : MapAt k H b kv) (hk : K ((kvGet kv x).getD z) (kvGet kv x).isSome) : lookF H k (some b) x z K := by
  obtain ⟨es, clock, hb, he⟩ := h
  refine ⟨es, clock, hb, he.ints, ?_⟩
  rw [esOf_find he.1]; exact hk
theorem keysD_put (h : keysD kv) : keysD (kvPut kv x v) := by
  unfold kvPut
  split
  · rename_i i hi
    rw [List.findIdx?_eq_some_iff_getElem] at hi
    obtain ⟨hlt, hp, _⟩ := hi
    have hp := of_decide_eq_true hp
    unfold keysD at h ⊢
    have : (kv.set i (x, v)).map (·.1) = kv.map (·.1) := by
      rw [List.map_set]
      apply List.ext_getElem
      · simp
      · intro j h1 h2
        rw [List.getElem_set]
        split
        · rename_i e; subst e; simp [hp]
        · rfl
    rw [this]; exact h
  · rename_i hn
    rw [List.findIdx?_eq_none_iff] at hn
    unfold keysD at h ⊢
    rw [List.map_append, List.nodup_append]
    refine ⟨h, by simp, fun a ha c hc => ?_⟩
    obtain ⟨p, hp, rfl⟩ := List.mem_map.1 ha
    simp only [List.map_cons, List.map_nil, List.mem_singleton] at hc
    subst hc
    have := of_decide_eq_false (hn p hp)
    exact fun e => this e.symm
theorem esOf_put (h : EsOf k es clock kv) : ∃ es' clock', putE k x v es clock = .map es' clock' ∧ EsOf k es' clock' (kvPut kv x v) := by
  obtain ⟨h1, h2, h3, h4⟩ := h
  have hk := keysD_put (x := x) (v := v) h4
  unfold putE
  rw [esOf_at h1]
  cases hi : kv.findIdx? (fun p => decide (x = p.1)) with
  | some i =>
    refine ⟨_, clock, rfl, ?_⟩
    have hput : kvPut kv x v = kv.set i (x, v) := by unfold kvPut; rw [hi]
    rw [hput] at hk ⊢
    rw [List.findIdx?_eq_some_iff_getElem] at hi
    obtain ⟨hlt, hp, _⟩ := hi
    have hlen : es.size = kv.length := by have := congrArg List.length h1; simpa using this
    have hmod : (es.modify i fun e => { e with key := .int k x, val := v }).toList = es.toList.modify i fun e => { e with key := .int k x, val := v } := by simp
    refine ⟨?_, ?_, ?_, hk⟩
    · rw [hmod]
      have h1' := h1
      apply List.ext_getElem?
      intro j
      have hj := congrArg (fun l => l[j]?) h1'
      simp only [List.getElem?_map] at hj
      simp only [List.getElem?_map, List.getElem?_modify, List.getElem?_set]
      by_cases e : i = j
      · subst e
        have : i < es.toList.length := by simpa using hlen ▸ hlt
        simp [List.getElem?_eq_getElem this, hlt]
      · simp only [e, if_false]
        rw [← hj]
        cases es.toList[j]? <;> rfl
    · rw [hmod]
      have : (es.toList.modify i fun e => { e with key := .int k x, val := v }).map (·.born) = es.toList.map (·.born) := by
        apply List.ext_getElem?
        intro j
        simp only [List.getElem?_map, List.getElem?_modify]
        by_cases e : i = j
        · subst e; simp only [if_true]; cases es.toList[i]? <;> rfl
        · simp only [e, if_false]; cases es.toList[j]? <;> rfl
      rw [this]; exact h2
    · intro e he
      rw [hmod] at he
      obtain ⟨j, hj⟩ := List.getElem?_of_mem he
      rw [List.getElem?_modify] at hj
      cases hx : es.toList[j]? with
      | none => rw [hx] at hj; cases hj
      | some e0 =>
        rw [hx] at hj
        simp only [Option.map_eq_map, Option.map_some, Option.some.injEq] at hj
        have hb := h3 e0 (List.mem_of_getElem? hx)
        subst hj
        split <;> exact hb
  | none =>
    refine ⟨_, clock + 1, rfl, ?_⟩
    have hput : kvPut kv x v = kv ++ [(x, v)] := by unfold kvPut; rw [hi]
    rw [hput] at hk ⊢
    refine ⟨by simp [h1], ?_, ?_, hk⟩
    · rw [Array.toList_push, List.map_append, List.nodup_append]
      refine ⟨h2, by simp, fun a ha c hc => ?_⟩
      obtain ⟨e, he, rfl⟩ := List.mem_map.1 ha
      simp only [List.map_cons, List.map_nil, List.mem_singleton] at hc
      subst hc
      have := h3 e he
      omega
    · intro e he
      rw [Array.toList_push, List.mem_append, List.mem_singleton] at he
      rcases he with he | rfl
      · have := h3 e he; omega
      · exact Nat.lt_succ_self _
theorem put_to {b : Nat} {K : Hp → Prop} (h : MapAt k H b kv) (hk : ∀ H', MapAt k H' b (kvPut kv x v) → (∀ q, q ≠ b → H' q = H q) → K H') : putF H k (some b) x v K := by
  obtain ⟨es, clock, hb, he⟩ := h
  obtain ⟨es', clock', e, he'⟩ := esOf_put (x := x) (v := v) he
  refine ⟨b, es, clock, rfl, hb, he.ints, ?_⟩
  rw [e]
  exact hk _ ⟨es', clock', upd_at, he'⟩ (fun q hq => upd_off hq)
theorem kvGet_set {y : Int} : ∀ {kv : KV} {i : Nat} (hlt : i < kv.length), kv[i].1 = x → (∀ j (hj : j < kv.length), j < i → x ≠ kv[j].1) → kvGet (kv.set i (x, v)) y = if y = x then some v else kvGet kv y
  | [], i, hlt, _, _ => by simp at hlt
  | a :: r, 0, _, hf, _ => by
    simp only [List.getElem_cons_zero] at hf
    unfold kvGet
    simp only [List.set_cons_zero, List.find?_cons, hf]
    by_cases e : y = x
    · simp [e]
    · simp [e]
  | a :: r, i + 1, hlt, hf, hn => by
    have ha : x ≠ a.1 := hn 0 (by simp) (by omega)
    have ih := kvGet_set (y := y) (kv := r) (i := i) (by simpa using hlt) (by simpa using hf) (fun j hj hji => by have := hn (j + 1) (by simpa using hj) (by omega); simpa using this)
    unfold kvGet at ih ⊢
    simp only [List.set_cons_succ, List.find?_cons]
    by_cases e : y = a.1
    · have hyx : y ≠ x := fun h => ha (h ▸ e)
      simp [e, Ne.symm ha]
    · simp only [decide_eq_false e]
      exact ih
theorem kvGet_put {y : Int} : kvGet (kvPut kv x v) y = if y = x then some v else kvGet kv y := by
  unfold kvPut
  split
  · rename_i i hi
    rw [List.findIdx?_eq_some_iff_getElem] at hi
    obtain ⟨hlt, hp, hn⟩ := hi
    exact kvGet_set hlt (of_decide_eq_true hp).symm (fun j hj hji => by have := hn j hji; simpa using this)
  · rename_i hn
    rw [List.findIdx?_eq_none_iff] at hn
    unfold kvGet
    rw [List.find?_append]
    by_cases e : y = x
    · subst e
      have : kv.find? (fun p => decide (y = p.1)) = none := by
        rw [List.find?_eq_none]
        intro p hp
        rw [hn p hp]; decide
      rw [this]; simp
    · simp [e]
end
end Go.Proofs.YtmelbipidffmpaaGreatDoor.Hw

/- Maps whose keys are pairs of whole numbers, as functions. -/
set_option linter.unusedVariables false
set_option linter.unusedSimpArgs false
namespace Go.Proofs.YtmelbipidffmpaaGreatDoor.Hw
open Go
theorem find_mod_hit {p : MapEntry → Bool} {g : MapEntry → MapEntry} : ∀ {l : List MapEntry} {i : Nat}, l.findIdx? p = some i → (∀ e, p e = true → p (g e) = true) → (∃ e, p e = true ∧ (l.modify i g).find? p = some (g e))
  | [], i, h, _ => by simp at h
  | e :: r, i, h, hg => by
    rw [List.findIdx?_cons] at h
    cases hp : p e with
    | true =>
      rw [hp] at h
      cases h
      refine ⟨e, hp, ?_⟩
      show ((g e) :: r).find? p = _
      rw [List.find?_cons, hg e hp]
    | false =>
      rw [hp] at h
      simp only [Bool.false_eq_true, if_false, Option.map_eq_some_iff] at h
      obtain ⟨j, hj, rfl⟩ := h
      obtain ⟨e', h1, h2⟩ := find_mod_hit hj hg
      refine ⟨e', h1, ?_⟩
      show (e :: r.modify j g).find? p = _
      rw [List.find?_cons, hp]; exact h2
theorem find_mod_off {p q : MapEntry → Bool} {g : MapEntry → MapEntry} : ∀ {l : List MapEntry} {i : Nat}, l.findIdx? p = some i → (∀ e, p e = true → q e = false ∧ q (g e) = false) → (l.modify i g).find? q = l.find? q
  | [], i, h, _ => by simp at h
  | e :: r, i, h, hg => by
    rw [List.findIdx?_cons] at h
    cases hp : p e with
    | true =>
      rw [hp] at h
      cases h
      show ((g e) :: r).find? q = _
      rw [List.find?_cons, List.find?_cons, (hg e hp).1, (hg e hp).2]
    | false =>
      rw [hp] at h
      simp only [Bool.false_eq_true, if_false, Option.map_eq_some_iff] at h
      obtain ⟨j, hj, rfl⟩ := h
      have ih := find_mod_off hj hg
      show (e :: r.modify j g).find? q = _
      rw [List.find?_cons, List.find?_cons, ih]
theorem key2_is {x y a b : Int} {v : Value} {n : Nat} : isKey2 x y ⟨key2 a b, v, n⟩ = (decide (x = a) && decide (y = b)) := rfl
theorem isKey2_key {x y a b : Int} {e : MapEntry} (h : e.key = key2 a b) : isKey2 x y e = (decide (x = a) && decide (y = b)) := by
  unfold isKey2; rw [h]; rfl
theorem isKey2_iff {x y : Int} {e : MapEntry} (h : ∃ a b, e.key = key2 a b) : isKey2 x y e = true ↔ e.key = key2 x y := by
  obtain ⟨a, b, h⟩ := h
  rw [isKey2_key h, h]
  constructor
  · intro hh
    simp only [Bool.and_eq_true, decide_eq_true_eq] at hh
    rw [hh.1, hh.2]
  · intro hh
    unfold key2 at hh
    injection hh with hh
    have := congrArg Array.toList hh
    simp at this
    simp [this.1, this.2]
/-- A map with pairs as keys, as a function. -/
def MapF2 (H : Hp) (b : Nat) (f : Int → Int → Option Value) : Prop := ∃ es clock, H b = some (.map es clock) ∧ pairKeys es.toList ∧ ∀ x y, findE2 x y es.toList = f x y
section
variable {H : Hp} {b : Nat} {f : Int → Int → Option Value}
theorem MapF2.look {x y : Int} {z : Value} {K : Value → Bool → Prop} (h : MapF2 H b f) (hk : K ((f x y).getD z) (f x y).isSome) : lookF2 H (some b) x y z K := by
  obtain ⟨es, clock, hb, hp, hf⟩ := h
  refine ⟨es, clock, hb, hp, ?_⟩
  rw [hf]; exact hk
theorem MapF2.keep {H' : Hp} (h : MapF2 H b f) (hb : H' b = H b) : MapF2 H' b f := by
  obtain ⟨es, clock, h1, hp, hf⟩ := h
  exact ⟨es, clock, hb.trans h1, hp, hf⟩
theorem MapF2.new {K : Nat → Hp → Prop} (hk : ∀ b H', H b = none → Ext H H' → (∀ q, q ≠ b → H' q = H q) → MapF2 H' b (fun _ _ => none) → K b H') : newMapF H K := fun b hb =>
  hk b _ hb (Ext.new hb) (fun q hq => upd_off hq) ⟨#[], 0, upd_at, fun e he => (by cases he), fun x y => rfl⟩
theorem MapF2.put {x y : Int} {v : Value} {K : Hp → Prop} (h : MapF2 H b f) (hk : ∀ H', MapF2 H' b (fun x' y' => if x' = x ∧ y' = y then some v else f x' y') → (∀ q, q ≠ b → H' q = H q) → K H') : putF2 H (some b) x y v K := by
  classical
  obtain ⟨es, clock, hb, hp, hf⟩ := h
  refine ⟨b, es, clock, rfl, hb, hp, hk _ ?_ fun q hq => upd_off hq⟩
  have hself : ∀ n : Nat, isKey2 x y ⟨key2 x y, v, n⟩ = true := fun n => by rw [key2_is]; simp
  unfold putE2
  cases hi : es.toList.findIdx? (isKey2 x y) with
  | none =>
    refine ⟨_, _, upd_at, fun e he => ?_, fun x' y' => ?_⟩
    · rw [Array.toList_push] at he
      rcases List.mem_append.1 he with he | he
      · exact hp e he
      · obtain rfl := List.mem_singleton.1 he; exact ⟨x, y, rfl⟩
    · have hn : es.toList.find? (isKey2 x y) = none := by
        rw [List.find?_eq_none]
        rw [List.findIdx?_eq_none_iff] at hi
        intro e he hk
        rw [hi e he] at hk; cases hk
      unfold findE2 at hf ⊢
      rw [Array.toList_push, List.find?_append]
      show _ = if x' = x ∧ y' = y then some v else f x' y'
      by_cases hxy : x' = x ∧ y' = y
      · obtain ⟨rfl, rfl⟩ := hxy
        rw [if_pos ⟨rfl, rfl⟩, hn]
        rw [List.find?_cons, hself]
        rfl
      · rw [if_neg hxy, ← hf x' y']
        have : isKey2 x' y' ⟨key2 x y, v, clock⟩ = false := by
          rw [key2_is]
          cases h1 : decide (x' = x) <;> cases h2 : decide (y' = y) <;> first | rfl | skip
          exact absurd ⟨of_decide_eq_true h1, of_decide_eq_true h2⟩ hxy
        rw [List.find?_cons, this, List.find?_nil, Option.or_none]
  | some i =>
    refine ⟨_, _, upd_at, fun e he => ?_, fun x' y' => ?_⟩
    · rw [Array.toList_modify] at he
      obtain ⟨j, hj⟩ := List.getElem?_of_mem he
      rw [List.getElem?_modify] at hj
      cases he' : es.toList[j]? with
      | none => rw [he'] at hj; cases hj
      | some e0 =>
        rw [he'] at hj
        have hj : some (if i = j then ({ e0 with key := key2 x y, val := v } : MapEntry) else e0) = some e := hj
        by_cases hij : i = j
        · rw [if_pos hij] at hj
          cases hj
          exact ⟨x, y, rfl⟩
        · rw [if_neg hij] at hj
          cases hj
          exact hp e (List.mem_of_getElem? he')
    · unfold findE2 at hf ⊢
      rw [Array.toList_modify]
      show _ = if x' = x ∧ y' = y then some v else f x' y'
      by_cases hxy : x' = x ∧ y' = y
      · obtain ⟨rfl, rfl⟩ := hxy
        rw [if_pos ⟨rfl, rfl⟩]
        obtain ⟨e, _, he⟩ := find_mod_hit (g := fun e => { e with key := key2 x' y', val := v }) hi (fun e _ => hself e.born)
        rw [he]; rfl
      · rw [if_neg hxy, ← hf x' y']
        rw [List.findIdx?_eq_some_iff_getElem] at hi
        obtain ⟨hlt, hpi, hbefore⟩ := hi
        have hi' : es.toList.findIdx? (fun e => isKey2 x y e && decide (∃ a b, e.key = key2 a b)) = some i := by
          rw [List.findIdx?_eq_some_iff_getElem]
          refine ⟨hlt, ?_, fun j hj => ?_⟩
          · rw [hpi, decide_eq_true (hp _ (List.getElem_mem hlt))]; rfl
          · have := hbefore j hj
            cases hh : isKey2 x y es.toList[j] with
            | false => simp
            | true => exact absurd hh this
        rw [find_mod_off (p := fun e => isKey2 x y e && decide (∃ a b, e.key = key2 a b)) hi']
        intro e he
        simp only [Bool.and_eq_true, decide_eq_true_eq] at he
        have hk := (isKey2_iff he.2).1 he.1
        have hoff : (decide (x' = x) && decide (y' = y)) = false := by
          cases h1 : decide (x' = x) <;> cases h2 : decide (y' = y) <;> first | rfl | skip
          exact absurd ⟨of_decide_eq_true h1, of_decide_eq_true h2⟩ hxy
        exact ⟨by rw [isKey2_key hk, hoff], by rw [key2_is, hoff]⟩
end
/-- A map with whole numbers as keys, as a function. -/
def MapF (H : Hp) (b : Nat) (f : Int → Option Value) : Prop := ∃ kv, MapAt .i64 H b kv ∧ ∀ x, kvGet kv x = f x
section
variable {H : Hp} {b : Nat} {f : Int → Option Value}
theorem MapAt.keep {k : IntKind} {H' : Hp} {kv : KV} (h : MapAt k H b kv) (hb : H' b = H b) : MapAt k H' b kv := by
  obtain ⟨es, clock, h1, hp⟩ := h
  exact ⟨es, clock, hb.trans h1, hp⟩
theorem MapF.look {x : Int} {z : Value} {K : Value → Bool → Prop} (h : MapF H b f) (hk : K ((f x).getD z) (f x).isSome) : lookF H .i64 (some b) x z K := by
  obtain ⟨kv, hm, hf⟩ := h
  refine look_to hm ?_
  rw [hf]; exact hk
theorem MapF.keep {H' : Hp} (h : MapF H b f) (hb : H' b = H b) : MapF H' b f := by
  obtain ⟨kv, hm, hf⟩ := h
  exact ⟨kv, hm.keep hb, hf⟩
theorem MapF.new {K : Nat → Hp → Prop} (hk : ∀ b H', H b = none → Ext H H' → (∀ q, q ≠ b → H' q = H q) → MapF H' b (fun _ => none) → K b H') : newMapF H K := fun b hb =>
  hk b _ hb (Ext.new hb) (fun q hq => upd_off hq) ⟨[], ⟨#[], 0, upd_at, rfl, by simp, fun e he => (by cases he), List.nodup_nil⟩, fun x => rfl⟩
theorem MapF.put {x : Int} {v : Value} {K : Hp → Prop} (h : MapF H b f) (hk : ∀ H', MapF H' b (fun y => if y = x then some v else f y) → (∀ q, q ≠ b → H' q = H q) → K H') : putF H .i64 (some b) x v K := by
  obtain ⟨kv, hm, hf⟩ := h
  refine put_to hm fun H' h1 h2 => hk H' ⟨_, h1, fun y => ?_⟩ h2
  rw [kvGet_put, hf]
theorem MapF.ne {b' : Nat} {cs : Array Value} {ty : Nat} {z : Nat × Nat} (h : MapF H b f) (hb : H b' = some (.cells cs ty z)) : b ≠ b' := by
  rintro rfl
  obtain ⟨kv, ⟨es, clock, h1, _⟩, _⟩ := h
  rw [h1] at hb; cases hb
theorem MapF.live (h : MapF H b f) : H b ≠ none := by
  obtain ⟨kv, ⟨es, clock, h1, _⟩, _⟩ := h
  rw [h1]; simp
theorem MapF2.live {g : Int → Int → Option Value} (h : MapF2 H b g) : H b ≠ none := by
  obtain ⟨es, clock, h1, _⟩ := h
  rw [h1]; simp
end
end Go.Proofs.YtmelbipidffmpaaGreatDoor.Hw

/- Slices, rows, comparisons: what all texts of this seat lean on. -/
set_option linter.unusedVariables false
set_option linter.unusedSimpArgs false
set_option linter.unusedSectionVars false
namespace Go.Proofs.YtmelbipidffmpaaGreatDoor.Hw
open Go Go.Proofs
theorem not_f : ∀ {z : Bool}, false = !z → z = true := by decide
theorem take_snoc {α : Type} {l : List α} {i : Nat} {x : α} (h : l[i]? = some x) : l.take (i + 1) = l.take i ++ [x] := by
  rw [List.take_add_one, h]; rfl
def inC (x : Int) : List Value := [.int .i64 x]
def big : Nat := 1000000000000
def huge : Nat := 140737488355329
/-- Elements in a slice. -/
structure SlAt {α : Type} (f : α → List Value) (H : Hp) (A : Option Addr) (n : Nat) (l : List α) : Prop where
  len : n = l.length
  cells : cellsAt H A (l.flatMap f)
  small : l.length < huge
theorem SlAt.ext {α : Type} {f : α → List Value} {H H' : Hp} {A : Option Addr} {n : Nat} {l : List α} (h : SlAt f H A n l) (hx : Ext H H') : SlAt f H' A n l := ⟨h.len, cellsAt_ext hx h.cells, h.small⟩
theorem SlAt.lt {α : Type} {f : α → List Value} {H : Hp} {A : Option Addr} {n : Nat} {l : List α} (h : SlAt f H A n l) : l.length < 4611686018427387904 := by have := h.small; unfold huge at this; omega
theorem rd_in {H : Hp} {A : Option Addr} {n : Nat} {l : List Int} {i : Nat} {x : Int} (h : SlAt inC H A n l) (hi : l[i]? = some x) {K : Nat → Nat → Prop}
    (hk : ∀ p o, A = some ⟨p, o, none⟩ → cl H p (o + i) = some (.int .i64 x) → K p o) : onPtr A K := by
  have hlen : ∀ x ∈ l, (inC x).length = 1 := fun x _ => rfl
  have hne : l ≠ [] := fun e => by subst e; simp at hi
  refine at_cells h.cells (flat_ne hlen (by omega) hne) fun p o hA hc => hk p o hA ?_
  have := hc (i * 1 + 0) _ (flat_get hlen hi (by omega))
  rw [Nat.mul_one, Nat.add_zero] at this
  exact this
theorem fnOk (f : Nat) {ts : List Nat} (h : look f tR = some ts) : FnOk Tryz.prog f := chkR_ok tR_ok f ts h
theorem any_take_succ {α : Type} {g : α → Bool} {l : List α} {i : Nat} {x : α} (hx : l[i]? = some x) : (l.take (i + 1)).any g = ((l.take i).any g || g x) := by
  rw [List.take_add_one, hx]; simp
theorem all_take_succ {α : Type} {g : α → Bool} {l : List α} {i : Nat} {x : α} (hx : l[i]? = some x) : (l.take (i + 1)).all g = ((l.take i).all g && g x) := by
  rw [List.take_add_one, hx]; simp
theorem all_miss {α : Type} {g : α → Bool} {l : List α} {i : Nat} {x : α} (hx : l[i]? = some x) (hg : g x = false) : l.all g = false := by
  cases h : l.all g with
  | false => rfl
  | true => have := List.all_eq_true.1 h x (List.mem_of_getElem? hx); rw [hg] at this; cases this
theorem get_of {α : Type} {l : List α} {i : Nat} (h : i < l.length) : ∃ x, l[i]? = some x := ⟨_, List.getElem?_eq_getElem h⟩
theorem ext_at {H H' : Hp} (hx : Ext H H') {b : Nat} (h : H b ≠ none) : H' b = H b := by
  cases hb : H b with
  | none => exact absurd hb h
  | some o => exact hx b o hb
section
variable {H0 H H' : Hp}
theorem Row.push1 {α : Type} {f : α → List Value} {k ty eby : Nat} (hf : ∀ x, (f x).length = k) (ho : ∀ x, ∀ v ∈ f x, v.oneCell' = true) (he : eby ≤ 100) {S : Option Addr} {c g : Nat} {st : List α} {w : α} {K : Option Addr → Nat → Nat → Hp → Prop} (R : Row H0 H S st.length c k (st.flatMap f)) (hx : Ext H0 H) (hs : st.length < big) (hg : H g = none)
    (hk : ∀ A' c' H', Row H0 H' A' (st ++ [w]).length c' k ((st ++ [w]).flatMap f) → Ext H0 H' → (∀ b, H' b ≠ H b → rowB S b ∨ H b = none) → (∀ b, rowB A' b → rowB S b ∨ H b = none) → K A' (st ++ [w]).length c' H') :
    appendF (upd g (.cells (f w).toArray ty (0, 0)) H) ty k eby S st.length c (some ⟨g, 0, none⟩) 1 K := by
  unfold big at hs
  have hx1 : Ext H (upd g (.cells (f w).toArray ty (0, 0)) H) := Ext.new hg
  have R1 := Row.keep R (fun b hb => ext_at hx1 (R.lt hb).1)
  have hroom : (st.length + 1) * eby ≤ 1000000000001 * 100 := Nat.mul_le_mul (by omega) he
  refine R1.append (hx.trans hx1) (new := f w) (.inr ⟨g, 0, rfl, fun j v hj => by rw [cl_cells upd_at, Nat.zero_add]; exact hj⟩) (by rw [hf]; omega) (ho w) (by omega) (by omega) fun A' c' H' R' x' ch nw _ => ?_
  have old : ∀ b, (upd g (.cells (f w).toArray ty (0, 0)) H) b = none → H b = none := fun b h => hx1.none h
  have := hk A' c' H' (by rw [List.length_append, List.flatMap_append]; simpa using R') x' (fun b hb => ?_) (fun b hb => (nw b hb).imp id (old b))
  · rw [List.length_append] at this; exact this
  · by_cases e : b = g
    · subst e; exact .inr hg
    · have : H' b ≠ (upd g (.cells (f w).toArray ty (0, 0)) H) b := by rw [upd_off e]; exact hb
      exact (ch b this).2.imp id (old b)

end
theorem inC_len {l : List Int} : (l.flatMap inC).length = l.length * 1 := flat_length (fun _ _ => rfl)
/-- Numbers on a block of their own. -/
def RowI (H0 H : Hp) (A : Option Addr) (c : Nat) (l : List Int) : Prop := Row H0 H A l.length c 1 (l.flatMap inC)
theorem inC_get {l : List Int} {j : Nat} : (l.flatMap inC)[j]? = (l[j]?).map (fun x => Value.int .i64 x) := by
  induction l generalizing j with
  | nil => simp
  | cons a r ih =>
    rw [List.flatMap_cons]
    cases j with
    | zero => rfl
    | succ j => exact ih
section
variable {H : Hp}
theorem cells_cut {α : Type} {f : α → List Value} {k : Nat} (hf : ∀ x, (f x).length = k) {A : Option Addr} {l : List α} {p m : Nat} {stay : Bool} (hA : cellsAt H A (l.flatMap f)) (hs : stay = true → m = 0) (hm : p + m ≤ l.length) :
    cellsAt H (cutA A (p * k) stay) (((l.drop p).take m).flatMap f) := by
  by_cases h0 : ((l.drop p).take m).flatMap f = []
  · exact .inl h0
  have hm0 : m ≠ 0 := fun e => h0 (by rw [e]; rfl)
  have hst : stay = false := by cases stay with | false => rfl | true => exact absurd (hs rfl) hm0
  subst hst
  rcases hA with hA | ⟨b, o, rfl, hc⟩
  · exfalso
    apply h0
    rw [List.flatMap_eq_nil_iff] at hA ⊢
    exact fun x hx => hA x (List.mem_of_mem_drop (List.mem_of_mem_take hx))
  · refine .inr ⟨b, o + p * k, ?_, fun j v hj => ?_⟩
    · unfold cutA
      simp only [Option.map_some, Option.some.injEq]
      unfold Addr.add
      by_cases h : p * k = 0
      · rw [h]; rfl
      · simp [h]
    · have hk : 0 < k := by
        refine Nat.pos_of_ne_zero fun e => h0 ?_
        rw [List.flatMap_eq_nil_iff]
        exact fun x _ => List.eq_nil_of_length_eq_zero (by rw [hf, e])
      have hlen : ∀ x ∈ (l.drop p).take m, (f x).length = k := fun x _ => hf x
      have hjl : j < m * k := by
        have := (List.getElem?_eq_some_iff.1 hj).1
        rw [flat_length hlen, List.length_take, List.length_drop, Nat.min_eq_left (by omega)] at this
        exact this
      have hi : j / k < m := Nat.div_lt_of_lt_mul (by rw [Nat.mul_comm]; exact hjl)
      have hq : j % k < k := Nat.mod_lt _ hk
      have hd : j = j / k * k + j % k := by have := Nat.div_add_mod j k; rw [Nat.mul_comm] at this; exact this.symm
      obtain ⟨x, hx⟩ := get_of (l := l) (i := p + j / k) (by omega)
      have hx' : ((l.drop p).take m)[j / k]? = some x := by rw [List.getElem?_take_of_lt hi, List.getElem?_drop]; exact hx
      rw [hd, flat_get hlen hx' hq] at hj
      have h1 := hc ((p + j / k) * k + j % k) v ((flat_get (fun x _ => hf x) hx hq).trans hj)
      rw [Nat.add_mul] at h1
      rw [hd]
      rw [show o + p * k + (j / k * k + j % k) = o + (p * k + j / k * k + j % k) by omega]
      exact h1
theorem SlAt.cut {α : Type} {f : α → List Value} {k : Nat} (hf : ∀ x, (f x).length = k) {A : Option Addr} {n c : Nat} {l : List α} {p m : Nat} (hA : SlAt f H A n l) (hc : n ≤ c) (hm : p + m ≤ l.length) : SlAt f H (cutA A (p * k) (decide (c = p))) m ((l.drop p).take m) :=
  ⟨by rw [List.length_take, List.length_drop]; omega, cells_cut hf hA.cells (fun h => by have := of_decide_eq_true h; have := hA.len; omega) hm, by have := hA.small; rw [List.length_take, List.length_drop]; omega⟩
end
theorem RowI.at {H0 H : Hp} {A : Option Addr} {c : Nat} {l : List Int} (R : RowI H0 H A c l) (hs : l.length < big) : SlAt inC H A l.length l := ⟨rfl, R.cells, by unfold big at hs; unfold huge; omega⟩
theorem RowI.more {H0 H H' : Hp} {A : Option Addr} {c : Nat} {l : List Int} (R : RowI H0 H A c l) (hx : Ext H H') : RowI H0 H' A c l := Row.keep R (fun b hb => ext_at hx (Row.lt R hb).1)
theorem cut_zero {A : Option Addr} {k : Nat} {s : Bool} : cutA A (0 * k) s = A := by
  unfold cutA
  cases s with
  | true => rfl
  | false =>
    cases A with
    | none => rfl
    | some a => cases a; simp [Addr.add]
section
variable {H : Hp}
/-- A new block of fixed cells as a slice. -/
theorem fresh_sl {α : Type} {f : α → List Value} {g ty : Nat} {l : List α} {vs : List Value} (hv : vs = l.flatMap f) (hs : l.length < huge) : SlAt f (upd g (.cells vs.toArray ty (0, 0)) H) (some ⟨g, 0, none⟩) l.length l :=
  ⟨rfl, .inr ⟨g, 0, rfl, fun j v hj => by rw [cl_cells upd_at, Nat.zero_add, hv]; exact hj⟩, hs⟩
end
theorem SlAt.stay {α : Type} {f : α → List Value} {H H' : Hp} {A : Option Addr} {n : Nat} {l : List α} (h : SlAt f H A n l) (hk : ∀ b, rowB A b → H b ≠ none → H' b = H b) : SlAt f H' A n l := ⟨h.len, by
  rcases h.cells with h1 | ⟨b, o, hA, hc⟩
  · exact .inl h1
  · refine .inr ⟨b, o, hA, fun j v hj => ?_⟩
    have h1 := hc j v hj
    have hn : H b ≠ none := fun e => by unfold cl at h1; rw [e] at h1; cases h1
    unfold cl at h1 ⊢
    rw [hk b ⟨o, none, hA⟩ hn]; exact h1, h.small⟩
theorem SlAt.live {α : Type} {f : α → List Value} {k : Nat} {H : Hp} {A : Option Addr} {n b : Nat} {l : List α} (hf : ∀ x, (f x).length = k) (hk : 0 < k) (h : SlAt f H A n l) (hl : l ≠ []) (hb : rowB A b) : H b ≠ none := by
  rcases h.cells with h1 | ⟨b', o, hA, hc⟩
  · exact absurd h1 (flat_ne (fun x _ => hf x) hk hl)
  · obtain ⟨o', q', hA'⟩ := hb
    rw [hA] at hA'; cases hA'
    cases hv : (l.flatMap f)[0]? with
    | none =>
      have := flat_length (l := l) (fun x _ => hf x)
      have hlp := List.length_pos_iff.2 hl
      have : 0 < (l.flatMap f).length := by rw [this]; exact Nat.mul_pos hlp hk
      rw [List.getElem?_eq_none_iff] at hv; omega
    | some v =>
      have := hc 0 v hv
      intro e
      unfold cl at this; rw [e] at this; cases this
section
variable {H H' H0 : Hp}
/-- append to a slice that is full: a new block. -/
theorem appendF_slx {α : Type} {f : α → List Value} {k ty eby : Nat} (hf : ∀ x, (f x).length = k) (ho : ∀ x, ∀ v ∈ f x, v.oneCell' = true) (he : eby ≤ 100) {A B : Option Addr} {n c m : Nat} {l r : List α} {K : Option Addr → Nat → Nat → Hp → Prop}
    (hA : SlAt f H A n l) (hB : SlAt f H B m r) (hcap : c < n + m ∨ m = 0) (hnc : n ≤ c) (hsz : n + m < big) (hk : ∀ A' c' H', Ext H H' → SlAt f H' A' (n + m) (l ++ r) → n + m ≤ c' → (∀ b, rowB A' b → rowB A b ∨ H b = none) → K A' (n + m) c' H') : appendF H ty k eby A n c B m K := by
  have hl := hA.len
  have hr := hB.len
  have hmul : (n + m) * eby ≤ 140737488355328 := by
    have : (n + m) * eby ≤ (n + m) * 100 := Nat.mul_le_mul_left _ he
    unfold big at hsz; omega
  have hbh : n + m < huge := by unfold big at hsz; unfold huge; omega
  refine ⟨.inl hmul, by unfold big at hsz; omega, r.flatMap f, by rw [flat_length (fun x _ => hf x), hr], hB.cells, fun v hv => by obtain ⟨x, _, hx⟩ := List.mem_flatMap.1 hv; exact ho x v hx, fun hle => ⟨fun h0 => ?_, fun hpos => by omega⟩, fun hlt => ⟨l.flatMap f, by rw [flat_length (fun x _ => hf x), hl], hA.cells, fun b cap rest hb h1 h2 h3 => ?_⟩⟩
  · subst h0
    have : r = [] := List.eq_nil_of_length_eq_zero hr.symm
    subst this
    have := hk A c H (Ext.refl _) (by rw [List.append_nil]; exact hA) (by omega) (fun b hb => .inl hb)
    exact this
  · refine hk _ _ _ (Ext.new hb) ⟨by rw [List.length_append]; omega, .inr ⟨b, 0, rfl, fun j v hj => ?_⟩, by rw [List.length_append]; omega⟩ h1 (fun b' ⟨o, q, h⟩ => by cases h; exact .inr hb)
    rw [cl_cells upd_at, Nat.zero_add]
    rw [List.flatMap_append] at hj
    rw [List.getElem?_append_left (List.getElem?_eq_some_iff.1 hj).1]; exact hj
end
theorem Row.off {H0 H H' : Hp} {A S : Option Addr} {n c k : Nat} {vals : List Value} (R : Row H0 H A n c k vals) (ch : ∀ b, H' b ≠ H b → rowB S b ∨ H b = none) (sep : ∀ b, rowB A b → ¬ rowB S b) : Row H0 H' A n c k vals :=
  R.keep fun b hb => Classical.byContradiction fun hne => by
    rcases ch b hne with h | h
    · exact sep b hb h
    · exact (R.lt hb).1 h
theorem Row.apart {H0 H : Hp} {A S S' : Option Addr} {n c k : Nat} {vals : List Value} (R : Row H0 H A n c k vals) (nw : ∀ b, rowB S' b → rowB S b ∨ H b = none) (sep : ∀ b, rowB A b → ¬ rowB S b) : ∀ b, rowB A b → ¬ rowB S' b := fun b hb hs => by
  rcases nw b hs with h | h
  · exact sep b hb h
  · exact (R.lt hb).1 h
def cmpI (x y : Int) : Int := if x < y then -1 else if x > y then 1 else 0
def orI (x y : Int) : Int := if x == 0 then y else x
theorem cmpI_eq {x y : Int} : cmpI x y = 0 ↔ x = y := by unfold cmpI; split <;> (try split) <;> omega
section
variable {H : Hp} {Q : Value → Hp → Prop}
theorem c98 {x : Int} (hq : Q (.bool false) H) : HCalls Tryz.prog 98 [.int .i64 x] H Q := by
  refine f98.ok _ ?_
  unfold f98
  simpa using hq
theorem c119 {x : Int} (hq : Q (.bool false) H) : HCalls Tryz.prog 119 [.int .i64 x] H Q := by
  refine f119.ok _ ?_
  unfold f119
  simpa using hq
theorem c77 {x y : Int} (hq : Q (.int .i64 (cmpI x y)) H) : HCalls Tryz.prog 77 [.int .i64 x, .int .i64 y] H Q := by
  refine f77.ok _ _ ?_
  unfold f77
  unfold cmpI at hq
  refine c98 ⟨false, rfl, c98 ⟨false, rfl, cndF rfl (cndF rfl (cndI (fun h => ?_) fun h => cndI (fun h2 => ?_) fun h2 => ?_))⟩⟩
  · rw [if_pos (of_decide_eq_true h)] at hq; exact hq
  · rw [if_neg (of_decide_eq_false h), if_pos (of_decide_eq_true h2)] at hq; exact hq
  · rw [if_neg (of_decide_eq_false h), if_neg (of_decide_eq_false h2)] at hq; exact hq
theorem c95 {x y : Int} (hq : Q (.int .i64 (cmpI x y)) H) : HCalls Tryz.prog 95 [.int .i64 x, .int .i64 y] H Q := by
  refine f95.ok _ _ ?_
  unfold f95
  unfold cmpI at hq
  refine c119 ⟨false, rfl, c119 ⟨false, rfl, cndF rfl (cndF rfl (cndI (fun h => ?_) fun h => cndI (fun h2 => ?_) fun h2 => ?_))⟩⟩
  · rw [if_pos (of_decide_eq_true h)] at hq; exact hq
  · rw [if_neg (of_decide_eq_false h), if_pos (of_decide_eq_true h2)] at hq; exact hq
  · rw [if_neg (of_decide_eq_false h), if_neg (of_decide_eq_false h2)] at hq; exact hq
def orL (l : List Int) : Int := (l.find? (fun x => x != 0)).getD 0
theorem c76 {A : Option Addr} {n k : Nat} {l : List Int} (hA : SlAt inC H A n l) (hq : Q (.int .i64 (orL l)) H) : HCalls Tryz.prog 76 [.slice A n k] H Q := by
  refine f76.ok _ _ _ ?_
  unfold f76
  obtain rfl := hA.len
  have hlt := hA.lt
  refine scan hlt (fun i H' => H' = H ∧ ∀ y ∈ l.take i, (y != 0) = false) ⟨rfl, fun y hy => by simp at hy⟩ ?_ ?_
  · rintro i H next hi ⟨rfl, hI⟩ hnext
    obtain ⟨y, hy⟩ := get_of hi
    dsimp only
    refine cndT (decide_eq_true (by omega)) ⟨by omega, by omega, rd_in hA hy fun q o _ hc => ⟨y, by simpa using hc, cndI (fun h => ?_) (fun h => ⟨rfl, hnext _ ⟨rfl, fun z hz => ?_⟩⟩)⟩⟩
    · have : l.find? (fun x => x != 0) = some y := by
        obtain ⟨h1, h2⟩ := List.getElem?_eq_some_iff.1 hy
        rw [← List.take_append_drop i l, List.find?_append, List.find?_eq_none.2 (fun z hz => by rw [hI z hz]; decide), List.drop_eq_getElem_cons h1, h2, List.find?_cons, h]
        rfl
      unfold orL at hq
      rw [this] at hq; exact hq
    · rw [take_snoc hy] at hz
      rcases List.mem_append.1 hz with hz | hz
      · exact hI z hz
      · obtain rfl := List.mem_singleton.1 hz; exact h
  · rintro H next ⟨rfl, hI⟩
    rw [List.take_length] at hI
    have : l.find? (fun x => x != 0) = none := List.find?_eq_none.2 fun z hz => by rw [hI z hz]; decide
    unfold orL at hq
    rw [this] at hq
    dsimp only
    exact cndF (decide_eq_false (by omega)) hq
end
end Go.Proofs.YtmelbipidffmpaaGreatDoor.Hw
