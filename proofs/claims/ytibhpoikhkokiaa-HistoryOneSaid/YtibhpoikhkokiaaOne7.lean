/- HsPure HsOp HsMo HsStep HsList (joined by merge.py) -/
import Derived.Test.YtibhpoikhkokiaaOne6
import Derived.Laws.Cover3
import Derived.Laws.Small
import Derived.Laws.StructEq
import Derived.ChangeKeysEq
import Derived.Lib.Overlaps
import Derived.Laws.IdiomCopy
import Derived.Laws.CopyRow
import Derived.ArgAppend
import Derived.Deep.LoopGhost
/- The evaluator's operations that look neither at the heap nor at variables are sound: each comes to the value that the evaluator says. -/
set_option linter.unusedVariables false
set_option linter.unusedSimpArgs false
namespace Go.Proofs.Ytibhpoikhkokiaa.Hs
open Go

def isAggD : TypeDesc → Bool
  | .struct _ | .array _ _ => true
  | _ => false
def fieldOk (P : Program) (f : Field) (x : Nat × Nat × Bool) : Prop := f.offset = x.1 ∧ (∃ j d, P.info? f.type = some j ∧ j.size = x.2.1 ∧ P.underlying f.type = some d ∧ isAggD d = x.2.2)
def fieldsOk (P : Program) : List Field → List (Nat × Nat × Bool) → Prop
  | [], [] => True
  | f :: r, x :: s => fieldOk P f x ∧ fieldsOk P r s
  | _, _ => False
def knOk (P : Program) (d : TypeDesc) (zs : List Value) : Kn → Prop
  | .scalar => (match zs with | [.bool _] => d = .bool | [.int k _] => d = .int k | [.pointer _] => ∃ e, d = .pointer e | _ => True)
  | .slice el esz eby => d = .slice el ∧ ∃ j z, P.info? el = some j ∧ j.size = esz ∧ j.bytes = eby ∧ j.zero = some z ∧ z.cells.size = esz
  | .array len esz eagg => ∃ el j du, d = .array len el ∧ P.info? el = some j ∧ j.size = esz ∧ P.underlying el = some du ∧ isAggD du = eagg
  | .struct fs => ∃ flds, d = .struct flds ∧ fieldsOk P flds.toList fs
  | .string => d = .string
  | .map k v => d = .map k v
def chkEq (P : Program) : Nat → List Field → List Value → Bool
  | _, [], [] => true
  | off, f :: r, z :: s => f.name != "_" && Nat.beq f.offset off && (match P.info? f.type with | some j => Nat.beq j.size 1 | none => false) &&
    (match z, P.underlying f.type with | .int _ _, some (.int _) => true | .bool _, some .bool => true | .string _, some .string => true | _, _ => false) && chkEq P (off + 1) r s
  | _, _, _ => false
def chkArr (P : Program) (n el : Nat) (zs : List Value) : Bool := Nat.beq n zs.length && (match P.underlying el, P.info? el with
  | some (.int k), some j => Nat.beq j.size 1 && zs.all fun z => (match z with | .int k' _ => sameK k k' | _ => false)
  | _, _ => false)
def eqOk (P : Program) (t : Nat) (zs : List Value) : Bool := (match P.underlying t with | some (.struct fs) => chkEq P 0 fs.toList zs | some (.array n el) => chkArr P n el zs | _ => false) && !P.stoodInHeld t && !P.eqGuardType P.depth t
structure TiOk (P : Program) (t : Nat) (i : TI) : Prop where
  info : ∃ j, P.info? t = some j ∧ j.zero = some (match i.agg with | true => .agg i.zs.toArray | false => i.zs.headD undef) ∧ j.size = i.zs.length
  one : i.agg = false → ∃ v, i.zs = [v] ∧ one1 v = true
  ones : allOne i.zs = true
  desc : ∃ d, P.underlying t = some d ∧ isAggD d = i.agg ∧ knOk P d i.zs i.kn
  eqs : i.eqs = true → eqOk P t i.zs = true

/-- A function that the model has by itself: whether two slices overlap. -/
def OverOk (P : Program) (g : FuncId) : Prop := ∃ fn tS tR e j, P.funcs[g]? = some fn ∧ (fn.name == "runtime.NumGoroutine") = false ∧ fn.body.isNone = true ∧ Extern.findNext fn = none ∧
  Extern.find fn = some (Extern.SlicesOverlaps.overlaps #[tS, tS] #[tR]) ∧ P.underlying tS = some (.slice e) ∧ P.info? e = some j
def AV.conc (β : Nat → Nat) : AV → Value
  | .v x => x
  | .loc k o => .pointer (some ⟨β k, o, none⟩)

theorem onAV_some {x : Option AV} {K : AV → Prop} (h : onAV x K) : ∃ a, x = some a ∧ K a := by
  cases x with
  | none => exact h.elim
  | some a => exact ⟨a, rfl, h⟩
theorem onV_some {x : Option AV} {K : Value → Prop} (h : onV x K) : ∃ a, x = some (.v a) ∧ K a := by
  cases x with
  | none => exact h.elim
  | some a => cases a with
    | v a => exact ⟨a, rfl, h⟩
    | loc k o => exact h.elim
theorem onPtr_some {p : Option Addr} {K : Nat → Nat → Prop} (h : onPtr p K) : ∃ b o, p = some ⟨b, o, none⟩ ∧ K b o := by
  rcases p with _ | ⟨b, o, s⟩
  · exact h.elim
  · cases s with
    | none => exact ⟨b, o, rfl, h⟩
    | some s => exact h.elim
theorem onTI_some {T : List (Nat × TI)} {t : Nat} {K : TI → Prop} (h : onTI T t K) : ∃ i, look t T = some i ∧ K i := by
  unfold onTI at h
  cases hl : look t T with
  | none => rw [hl] at h; exact h.elim
  | some i => rw [hl] at h; exact ⟨i, rfl, h⟩

/-- What the slots hold, the evaluator knows. -/
def EnvOk (β : Nat → Nat) (e : Env) (a : Act) : Prop := ∀ t av, e t = some av → a.tmps.getD t undef = av.conc β
theorem ev_eval {β : Nat → Nat} {e : Env} {a : Act} (h : EnvOk β e a) {x : Operand} {av : AV} (hx : ev e x = some av) : a.eval x = av.conc β := by
  cases x with
  | tmp t => exact h t av hx
  | const v => simp only [ev, Option.some.injEq] at hx; subst hx; rfl
  | func f => simp only [ev, Option.some.injEq] at hx; subst hx; rfl
  | global g => simp [ev] at hx
theorem ev_evalV {β : Nat → Nat} {e : Env} {a : Act} (h : EnvOk β e a) {x : Operand} {v : Value} (hx : ev e x = some (.v v)) : a.eval x = v := ev_eval h hx
theorem withVs_some {β : Nat → Nat} {e : Env} {a : Act} (h : EnvOk β e a) : ∀ {l : List Operand} {K : List Value → Prop}, withVs e l K → ∃ vs, l.map a.eval = vs ∧ K vs
  | [], K, hk => ⟨[], rfl, hk⟩
  | x :: r, K, hk => by
    obtain ⟨v, hv, hk⟩ := onV_some hk
    obtain ⟨vs, hvs, hk⟩ := withVs_some h hk
    exact ⟨v :: vs, by rw [List.map_cons, ev_evalV h hv, hvs], hk⟩
theorem pairVs_some {β : Nat → Nat} {e : Env} {a : Act} (h : EnvOk β e a) : ∀ {l : List (Nat × Operand)} {K : List (Nat × Value) → Prop}, pairVs e l K → ∃ vs, l.map (fun x => (x.1, a.eval x.2)) = vs ∧ K vs
  | [], K, hk => ⟨[], rfl, hk⟩
  | x :: r, K, hk => by
    obtain ⟨v, hv, hk⟩ := onV_some hk
    obtain ⟨vs, hvs, hk⟩ := pairVs_some h hk
    exact ⟨(x.1, v) :: vs, by rw [List.map_cons, ev_evalV h hv, hvs], hk⟩

theorem add_mk (b o n : Nat) : (⟨b, o, none⟩ : Addr).add n = ⟨b, o + n, none⟩ := by unfold Addr.add; split <;> simp_all
theorem sameK_eq {k k' : IntKind} (h : sameK k k' = true) : k = k' := of_decide_eq_true h
theorem mkV_some {g : Bool} {cs : List Value} {K : Value → Prop} (h : mkV g cs K) : ∃ v, ((g = true ∧ v = .agg cs.toArray) ∨ (g = false ∧ cs = [v])) ∧ K v := by
  cases g with
  | true => exact ⟨_, .inl ⟨rfl, rfl⟩, h⟩
  | false =>
    match cs, h with
    | [v], h => exact ⟨v, .inr ⟨rfl, rfl⟩, h⟩

section
variable {P : Program}
theorem run_isAgg {t : Nat} {d : TypeDesc} (h : P.underlying t = some d) (w : World) : (isAgg t).run P w = .ok (isAggD d) w := by
  unfold isAgg
  simp only [Sem.run_bind, run_underlying h, Result.andThen_ok]
  cases d <;> rfl
theorem run_sizeOf {t : Nat} {j : TypeInfo} (h : P.info? t = some j) (w : World) : (sizeOf t).run P w = .ok j.size w := by
  simp [sizeOf, typeInfo, h]
theorem run_zeroValue {t : Nat} {j : TypeInfo} {z : Value} (h : P.info? t = some j) (hz : j.zero = some z) (w : World) : (zeroValue t).run P w = .ok z w := by
  simp [zeroValue, typeInfo, h, hz]
theorem fieldsOk_get : ∀ {l : List Field} {fs : List (Nat × Nat × Bool)} {f : Nat} {x : Nat × Nat × Bool}, fieldsOk P l fs → fs[f]? = some x → ∃ g, l[f]? = some g ∧ fieldOk P g x
  | [], [], f, x, _, h => by simp at h
  | g :: r, y :: s, 0, x, hk, h => by simp at h; subst h; exact ⟨g, rfl, hk.1⟩
  | g :: r, y :: s, f + 1, x, hk, h => by
    obtain ⟨q, hq, ho⟩ := fieldsOk_get (l := r) (fs := s) (f := f) hk.2 (by simpa using h)
    exact ⟨q, by simpa using hq, ho⟩
  | [], _ :: _, _, _, hk, _ => hk.elim
  | _ :: _, [], _, _, hk, _ => hk.elim

theorem run_part {t : Nat} {j : TypeInfo} {d : TypeDesc} {cs : Array Value} {off : Nat} (hj : P.info? t = some j) (hd : P.underlying t = some d) (h : off + j.size ≤ cs.toList.length) {v : Value}
    (hv : (isAggD d = true ∧ v = .agg ((cs.toList.drop off).take j.size).toArray) ∨ (isAggD d = false ∧ (cs.toList.drop off).take j.size = [v])) (w : World) : (part t cs off).run P w = .ok v w := by
  unfold part
  simp only [Sem.run_bind, run_isAgg hd, Result.andThen_ok]
  rcases hv with ⟨h1, rfl⟩ | ⟨h1, h2⟩
  · simp only [h1, if_true, Sem.run_bind, run_sizeOf hj, Result.andThen_ok, Sem.run_pure]
    congr 2
    apply Array.ext'
    simp [Array.toList_extract, List.extract_eq_take_drop]
  · simp only [h1, Bool.false_eq_true, if_false]
    have h3 : cs[off]? = some v := by
      have h4 : ((cs.toList.drop off).take j.size)[0]? = some v := by rw [h2]; rfl
      have h5 : 0 < j.size := by
        rcases Nat.eq_zero_or_pos j.size with h0 | h0
        · rw [h0] at h2; simp at h2
        · exact h0
      rw [List.getElem?_take_of_lt h5, List.getElem?_drop] at h4
      simpa using h4
    simp [h3]
theorem run_eqLs {d : Nat} {xs ys : Array Value} {w : World} : ∀ {fs : List Field} {zs : List Value} {off : Nat} {b : Bool}, chkEq P off fs zs = true → eqLs zs (xs.toList.drop off) (ys.toList.drop off) = some b → (Op.eqFields (d + 1) xs ys fs).run P w = .ok b w
  | [], [], off, b, _, h => by
    have hb : b = true := by
      generalize xs.toList.drop off = l1 at h
      generalize ys.toList.drop off = l2 at h
      cases l1 <;> cases l2 <;> simp [eqLs] at h
      exact h.symm ▸ rfl
    subst hb
    simp [Op.eqFields]
  | f :: r, z :: s, off, b, hc, h => by
    simp only [chkEq, Bool.and_eq_true] at hc
    obtain ⟨⟨⟨⟨c1, c2⟩, c3⟩, c4⟩, c5⟩ := hc
    have hoff := Nat.eq_of_beq_eq_true c2
    cases hx : xs.toList.drop off with
    | nil => rw [hx] at h; simp [eqLs] at h
    | cons x xr =>
      cases hy : ys.toList.drop off with
      | nil => rw [hx, hy] at h; simp [eqLs] at h
      | cons y yr =>
        rw [hx, hy] at h
        have hxr : xs.toList.drop (off + 1) = xr := by rw [← List.drop_drop, hx]; rfl
        have hyr : ys.toList.drop (off + 1) = yr := by rw [← List.drop_drop, hy]; rfl
        have hxl : off + 1 ≤ xs.toList.length := by
          have := congrArg List.length hx
          rw [List.length_drop, List.length_cons] at this; omega
        have hyl : off + 1 ≤ ys.toList.length := by
          have := congrArg List.length hy
          rw [List.length_drop, List.length_cons] at this; omega
        cases hj : P.info? f.type with
        | none => rw [hj] at c3; cases c3
        | some j =>
          rw [hj] at c3
          have hsz := Nat.eq_of_beq_eq_true c3
          simp only [eqLs] at h
          split at h
          · rename_i p q hp hq
            cases h
            have ih := run_eqLs (d := d) (xs := xs) (ys := ys) (w := w) (fs := r) (zs := s) (off := off + 1) (b := q) c5 (by rw [hxr, hyr]; exact hq)
            have hstep : ∃ du, P.underlying f.type = some du ∧ isAggD du = false ∧ (Op.equalIn (d + 1) f.type x y).run P w = .ok p w := by
              unfold eq1F at hp
              split at hp
              · split at hp
                · rename_i hk
                  cases sameK_eq hk
                  cases hp
                  split at c4
                  all_goals first
                    | (rename_i hz hu; cases hz; refine ⟨_, hu, rfl, ?_⟩; exact run_equalIn_int w _ _ _ _ _ _ hu)
                    | (rename_i hz hu; cases hz; done)
                    | (cases c4; done)
                · cases hp
              · cases hp
                split at c4
                all_goals first
                  | (rename_i hz hu; cases hz; refine ⟨_, hu, rfl, ?_⟩; exact run_equalIn_bool w _ _ _ _ hu)
                  | (rename_i hz hu; cases hz; done)
                  | (cases c4; done)
              · cases hp
                split at c4
                all_goals first
                  | (rename_i hz hu; cases hz; refine ⟨_, hu, rfl, ?_⟩; exact run_equalIn_string w _ _ _ _ hu)
                  | (rename_i hz hu; cases hz; done)
                  | (cases c4; done)
              · cases hp
            obtain ⟨du, hu, hag, hrun⟩ := hstep
            have hpx : (part f.type xs f.offset).run P w = .ok x w := run_part hj hu (by rw [hoff, hsz]; exact hxl) (.inr ⟨hag, by rw [hoff, hsz, hx]; rfl⟩) w
            have hpy : (part f.type ys f.offset).run P w = .ok y w := run_part hj hu (by rw [hoff, hsz]; exact hyl) (.inr ⟨hag, by rw [hoff, hsz, hy]; rfl⟩) w
            have hn' : f.name ≠ "_" := by simpa using c1
            rw [Op.eqFields]
            simp only [if_pos hn', Sem.run_bind, hpx, hpy, hrun, Result.andThen_ok]
            cases p
            · simp
            · simpa using ih
          · cases h
  | [], _ :: _, _, _, hc, _ => by simp [chkEq] at hc
  | _ :: _, [], _, _, hc, _ => by simp [chkEq] at hc

theorem run_eqItems {d el : Nat} {k : IntKind} {j : TypeInfo} {xs ys : Array Value} {w : World} (he : P.underlying el = some (.int k)) (hj : P.info? el = some j) (hs : j.size = 1) : ∀ {zs : List Value} {off : Nat} {b : Bool},
    (∀ z ∈ zs, ∃ x : Int, z = .int k x) → eqLs zs (xs.toList.drop off) (ys.toList.drop off) = some b → (Op.eqItems (d + 1) el 1 xs ys (List.range' off zs.length)).run P w = .ok b w
  | [], off, b, _, h => by
    have hb : b = true := by
      generalize xs.toList.drop off = l1 at h
      generalize ys.toList.drop off = l2 at h
      cases l1 <;> cases l2 <;> simp [eqLs] at h
      exact h.symm ▸ rfl
    subst hb
    simp [Op.eqItems]
  | z :: s, off, b, hz, h => by
    cases hx : xs.toList.drop off with
    | nil => rw [hx] at h; simp [eqLs] at h
    | cons x xr =>
      cases hy : ys.toList.drop off with
      | nil => rw [hx, hy] at h; simp [eqLs] at h
      | cons y yr =>
        rw [hx, hy] at h
        have hxr : xs.toList.drop (off + 1) = xr := by rw [← List.drop_drop, hx]; rfl
        have hyr : ys.toList.drop (off + 1) = yr := by rw [← List.drop_drop, hy]; rfl
        have hxl : off + 1 ≤ xs.toList.length := by
          have := congrArg List.length hx
          rw [List.length_drop, List.length_cons] at this; omega
        have hyl : off + 1 ≤ ys.toList.length := by
          have := congrArg List.length hy
          rw [List.length_drop, List.length_cons] at this; omega
        obtain ⟨x0, rfl⟩ := hz z List.mem_cons_self
        simp only [eqLs] at h
        split at h
        · rename_i p q hp hq
          cases h
          have ih := run_eqItems (d := d) (xs := xs) (ys := ys) (w := w) he hj hs (zs := s) (off := off + 1) (b := q) (fun z h => hz z (List.mem_cons_of_mem _ h)) (by rw [hxr, hyr]; exact hq)
          have hrun : (Op.equalIn (d + 1) el x y).run P w = .ok p w := by
            unfold eq1F at hp
            split at hp
            · rename_i hz0
              split at hp
              · rename_i hk
                cases sameK_eq hk
                cases hp
                exact run_equalIn_int w _ _ _ _ _ _ he
              · cases hp
            · rename_i hz0; cases hz0
            · rename_i hz0; cases hz0
            · cases hp
          have hpx : (part el xs (off * 1)).run P w = .ok x w := run_part hj he (by rw [Nat.mul_one, hs]; exact hxl) (.inr ⟨rfl, by rw [Nat.mul_one, hs, hx]; rfl⟩) w
          have hpy : (part el ys (off * 1)).run P w = .ok y w := run_part hj he (by rw [Nat.mul_one, hs]; exact hyl) (.inr ⟨rfl, by rw [Nat.mul_one, hs, hy]; rfl⟩) w
          rw [List.length_cons, List.range'_succ, Op.eqItems]
          simp only [Sem.run_bind, hpx, hpy, hrun, Result.andThen_ok]
          cases p
          · simp
          · simpa using ih
        · cases h
theorem run_binF {T : List (Nat × TI)} (hT : ∀ t i, look t T = some i → TiOk P t i) {op : BinOp} {t : Nat} {a b : Value} {K : Value → Prop} (h : binF T op t a b K) (x y : Operand) :
    ∃ v, K v ∧ ∀ w, (do eqGuard op t x y a b; binOp op t a b : Sem Value).run P w = .ok v w := by
  unfold binF at h
  split at h
  · rename_i k m k' n
    split at h
    · rename_i hs
      unfold shF at h
      split at h
      all_goals first
        | (exact h.elim)
        | (obtain ⟨h0, h⟩ := h; refine ⟨_, h, fun w => ?_⟩; simp [eqGuard, binOp, Op.shift, Int.not_lt.2 h0]; done)
    split at h
    · rename_i hk
      cases sameK_eq hk
      unfold intF at h
      split at h
      all_goals first
        | (exact h.elim)
        | (refine ⟨_, h, fun w => ?_⟩; simp [eqGuard, binOp, Op.intArith, Op.intCmp, Op.intDiv]; done)
        | (obtain ⟨h0, h⟩ := h; refine ⟨_, h, ?_⟩; simp [eqGuard, binOp, Op.intDiv, h0]; done)
    · exact h.elim
  · rename_i m n
    obtain ⟨i, hi, h⟩ := onTI_some h
    split at h
    · rename_i hkn hzs
      obtain ⟨d, hd, hag, hk⟩ := (hT t i hi).desc
      rw [hkn, hzs] at hk
      have hd' : P.underlying t = some .bool := by rw [hd]; exact congrArg some hk
      unfold boolF at h
      split at h
      · refine ⟨_, h, fun w => ?_⟩
        simp [eqGuard, Sem.run_bind, run_eql_bool (P := P) w t m n hd']
      · refine ⟨_, h, fun w => ?_⟩
        simp [eqGuard, Sem.run_bind, run_neq_bool (P := P) w t m n hd']
      · exact h.elim
    · exact h.elim
  · rename_i m n
    unfold strF at h
    split at h
    all_goals first
      | (exact h.elim)
      | (refine ⟨_, h, fun w => ?_⟩; simp [eqGuard, binOp, Op.stringOp]; done)
  · rename_i A n c
    obtain ⟨i, hi, h⟩ := onTI_some h
    split at h
    · rename_i hkn
      obtain ⟨d, hd, hag, hk⟩ := (hT t i hi).desc
      rw [hkn] at hk
      have hd' := hd.trans (congrArg some hk.1)
      unfold nilF at h
      split at h
      · refine ⟨_, h, fun w => ?_⟩
        have h1 := run_equal_slice_nil (P := P) w t _ A n c hd'
        simp only [eqGuard, binOp]
        simp [h1]
      · refine ⟨_, h, fun w => ?_⟩
        have h1 := run_neq_slice_nil (P := P) w t _ A n c hd'
        simp [eqGuard, Sem.run_bind, h1]
      · exact h.elim
    · exact h.elim
  · rename_i q
    obtain ⟨i, hi, h⟩ := onTI_some h
    split at h
    · rename_i hkn hzs
      obtain ⟨d, hd, hag, hk⟩ := (hT t i hi).desc
      rw [hkn, hzs] at hk
      obtain ⟨e, rfl⟩ := hk
      have hrun : ∀ w, (Op.equalIn 10000 t (.pointer q) (.pointer none)).run P w = .ok q.isNone w := fun w => by
        show (Op.equalIn (9999 + 1) t (.pointer q) (.pointer none)).run P w = .ok q.isNone w
        unfold Op.equalIn
        cases q <;> simp [Sem.run_bind, run_underlying hd]
      unfold nilF at h
      split at h
      · refine ⟨_, h, fun w => ?_⟩
        simp only [eqGuard, binOp]
        simp [Op.equal, Op.maxDepth, hrun]
      · refine ⟨_, h, fun w => ?_⟩
        simp only [eqGuard, binOp]
        simp [Op.equal, Op.maxDepth, hrun]
      · exact h.elim
    · exact h.elim
  · rename_i xs ys
    obtain ⟨i, hi, h⟩ := onTI_some h
    split at h
    · rename_i heq
      split at h
      · rename_i b hb
        have hok := (hT t i hi).eqs heq
        unfold eqOk at hok
        simp only [Bool.and_eq_true, Bool.not_eq_true'] at hok
        obtain ⟨⟨h1, h2⟩, h3⟩ := hok
        split at h1
        · rename_i fs hu
          have hf : P.fieldsOf t = fs := by simp [Program.fieldsOf, hu]
          have hrun : ∀ w, (Op.equalIn 10000 t (.agg xs) (.agg ys)).run P w = .ok b w := fun w => by
            rw [run_equalIn_struct (P := P) w 9999 t xs ys (by rw [hf]; exact hu) h2, hf]
            exact run_eqLs (d := 9998) h1 hb
          unfold nilF at h
          split at h
          · refine ⟨_, h, fun w => ?_⟩
            simp [eqGuard, Sem.run_bind, h3, run_eql_struct, hrun]
          · refine ⟨_, h, fun w => ?_⟩
            simp [eqGuard, Sem.run_bind, h3, run_neq_struct, hrun]
          · exact h.elim
        · rename_i n el hu
          unfold chkArr at h1
          simp only [Bool.and_eq_true] at h1
          obtain ⟨hn, h1⟩ := h1
          split at h1
          · rename_i k j he hj
            simp only [Bool.and_eq_true, List.all_eq_true] at h1
            obtain ⟨hs, hz⟩ := h1
            have hs := Nat.eq_of_beq_eq_true hs
            have hn := Nat.eq_of_beq_eq_true hn
            have hz' : ∀ z ∈ i.zs, ∃ x : Int, z = .int k x := fun z hm => by
              have := hz z hm
              split at this
              · rename_i k' x
                exact ⟨x, by rw [sameK_eq this]⟩
              · cases this
            have hrun : ∀ w, (Op.equalIn 10000 t (.agg xs) (.agg ys)).run P w = .ok b w := fun w => by
              have h1c : P.cellsOf el = 1 := by unfold Program.cellsOf; rw [hj]; exact hs
              rw [run_equalIn_array (P := P) w 9999 xs ys hu hj, h1c, hn, List.range_eq_range']
              exact run_eqItems (d := 9998) he hj hs hz' (by simpa using hb)
            unfold nilF at h
            split at h
            · refine ⟨_, h, fun w => ?_⟩
              simp [eqGuard, Sem.run_bind, h3, run_eql_struct, hrun]
            · refine ⟨_, h, fun w => ?_⟩
              simp [eqGuard, Sem.run_bind, h3, run_neq_struct, hrun]
            · exact h.elim
          · cases h1
        · cases h1
      · exact h.elim
    · exact h.elim
  · exact h.elim
end

section
variable {P : Program} {T : List (Nat × TI)} {β : Nat → Nat} {e : Env} {a : Act}
/-- An operation comes to a value, and turns nothing. -/
def Gives (P : Program) (o : Op) (a : Act) (w : World) (v : Value) : Prop := ∀ (d : Option Tmp) (ty : TypeId) (pos : String) (af : Array Edge) (g : Option (Nat × Bool)), (execOp a.eval ⟨d, o, ty, pos, af, g⟩).run P w = .ok (.value v) w

theorem run_bound (v : Int) (k : IntKind) (y : Nat) (code : BoundsCode) (h0 : 0 ≤ v) (h1 : v ≤ y) (w : World) : (Instr.sliceBound (.int k v) y code).run P w = .ok v.toNat w := by
  simp [Instr.sliceBound, asIntOf, h0, h1]

theorem opt_some (h : EnvOk β e a) {x : Option Operand} {i : Option Int} (hx : opt e x = some i) :
    (i = none ∧ x.map a.eval = none) ∨ ∃ j k, i = some j ∧ x.map a.eval = some (.int k j) := by
  cases x with
  | none => simp only [opt, Option.some.injEq] at hx; exact .inl ⟨hx.symm, rfl⟩
  | some x =>
    simp only [opt] at hx
    split at hx
    · rename_i k j he
      simp only [Option.some.injEq] at hx
      refine .inr ⟨j, k, hx.symm, ?_⟩
      simp [ev_evalV h he]
    · simp at hx
theorem run_bounds {n c : Nat} {lo hi mx : Option Int} {K : Nat → Nat → Nat → Prop} (h : sliceF n c lo hi mx K) {lv hv mv : Option Value}
    (h1 : (lo = none ∧ lv = none) ∨ ∃ j k, lo = some j ∧ lv = some (.int k j)) (h2 : (hi = none ∧ hv = none) ∨ ∃ j k, hi = some j ∧ hv = some (.int k j)) (h3 : (mx = none ∧ mv = none) ∨ ∃ j k, mx = some j ∧ mv = some (.int k j)) (g : Bool) :
    ∃ l hh m, (∀ w, (Instr.sliceBounds g n c lv hv mv).run P w = .ok (l, hh, m) w) ∧ K l hh m := by
  rcases h3 with ⟨rfl, rfl⟩ | ⟨m, km, rfl, rfl⟩ <;> rcases h2 with ⟨rfl, rfl⟩ | ⟨x, kx, rfl, rfl⟩ <;> rcases h1 with ⟨rfl, rfl⟩ | ⟨l, kl, rfl, rfl⟩ <;> simp only [sliceF] at h
  · exact ⟨0, n, c, fun w => by simp [Instr.sliceBounds], h⟩
  · obtain ⟨a1, a2, h⟩ := h
    exact ⟨_, _, _, fun w => by simp [Instr.sliceBounds, run_bound l kl n _ a1 a2], h⟩
  · obtain ⟨a1, a2, h⟩ := h
    exact ⟨_, _, _, fun w => by simp [Instr.sliceBounds, run_bound x kx c _ a1 a2], h⟩
  · obtain ⟨a1, a2, a3, a4, h⟩ := h
    have h4 := fun code => run_bound (P := P) l kl x.toNat code a3 (by omega)
    exact ⟨_, _, _, fun w => by simp [Instr.sliceBounds, run_bound x kx c _ a1 a2, h4], h⟩
  · obtain ⟨a1, a2, a3, a4, h⟩ := h
    have h4 := fun code => run_bound (P := P) x kx m.toNat code a3 (by omega)
    exact ⟨_, _, _, fun w => by simp [Instr.sliceBounds, run_bound m km c _ a1 a2, h4], h⟩
  · obtain ⟨a1, a2, a3, a4, a5, a6, h⟩ := h
    have h4 := fun code => run_bound (P := P) x kx m.toNat code a3 (by omega)
    have h5 := fun code => run_bound (P := P) l kl x.toNat code a5 (by omega)
    exact ⟨_, _, _, fun w => by simp [Instr.sliceBounds, run_bound m km c _ a1 a2, h4, h5], h⟩
theorem cutA_eq (A : Option Addr) (k l m : Nat) : (if m = l then A else A.map (·.add k)) = cutA A k (decide (m = l)) := by
  by_cases h : m = l <;> simp [cutA, h]
theorem setFold (vs : List Value) : ∀ (cs : List Value) (o i : Nat), o + i + vs.length ≤ cs.length →
    (vs.zipIdx i).foldl (fun (cs : Array Value) (x : Value × Nat) => cs.setIfInBounds (o + x.2) x.1) cs.toArray = (setR cs (o + i) vs).toArray := by
  induction vs with
  | nil => intro cs o i h; simp [setR]
  | cons v r ih =>
    intro cs o i h
    simp only [List.zipIdx_cons, List.foldl_cons, List.setIfInBounds_toArray]
    have hl : (v :: r).length = r.length + 1 := rfl
    rw [hl] at h
    rw [ih (cs.set (o + i) v) o (i + 1) (by rw [List.length_set]; omega)]
    congr 1
    unfold setR
    apply List.ext_getElem?
    intro j
    simp only [List.getElem?_append, List.length_append, List.length_take, List.length_set, List.getElem?_take, List.getElem?_drop, List.getElem?_set, List.length_cons]
    by_cases c1 : j < o + i
    · have e1 : j < min (o + (i + 1)) cs.length := by omega
      have e2 : j < min (o + (i + 1)) cs.length + r.length := by omega
      have e3 : j < min (o + i) cs.length := by omega
      have e4 : j < min (o + i) cs.length + (r.length + 1) := by omega
      have e5 : ¬ (o + i = j) := by omega
      have e6 : j < o + (i + 1) := by omega
      simp [e1, e2, e3, e4, e5, c1, e6]
    · by_cases c2 : j = o + i
      · subst c2
        have e1 : o + i < min (o + (i + 1)) cs.length := by omega
        have e2 : o + i < min (o + (i + 1)) cs.length + r.length := by omega
        have e3 : ¬ (o + i < min (o + i) cs.length) := by omega
        have e4 : o + i < min (o + i) cs.length + (r.length + 1) := by omega
        have e6 : o + i < o + (i + 1) := by omega
        have e7 : o + i < cs.length := by omega
        have e8 : o + i - min (o + i) cs.length = 0 := by omega
        simp [e1, e2, e3, e4, e6, e7, e8]
      · by_cases c3 : j < o + i + 1 + r.length
        · have e1 : ¬ (j < min (o + (i + 1)) cs.length) := by omega
          have e2 : j < min (o + (i + 1)) cs.length + r.length := by omega
          have e3 : ¬ (j < min (o + i) cs.length) := by omega
          have e4 : j < min (o + i) cs.length + (r.length + 1) := by omega
          have e5 : j - min (o + i) cs.length = (j - min (o + (i + 1)) cs.length) + 1 := by omega
          simp [e1, e2, e3, e4, e5]
        · have e1 : ¬ (j < min (o + (i + 1)) cs.length) := by omega
          have e2 : ¬ (j < min (o + (i + 1)) cs.length + r.length) := by omega
          have e3 : ¬ (j < min (o + i) cs.length) := by omega
          have e4 : ¬ (j < min (o + i) cs.length + (r.length + 1)) := by omega
          have e9 : o + (i + 1) + r.length + (j - (min (o + (i + 1)) cs.length + r.length)) = j := by omega
          have e10 : o + i + (r.length + 1) + (j - (min (o + i) cs.length + (r.length + 1))) = j := by omega
          have e11 : ¬ (o + i = j) := by omega
          simp only [e1, e2, e3, e4, if_false, e9, e10, e11]
theorem cellsL_eq (v : Value) : v.cells = (cellsL v).toArray := by cases v <;> rfl
theorem run_fill {fs : List (Nat × Nat × Bool)} {places : Nat → Option (Nat × Nat)} (hp : ∀ i f, fs[i]? = some f → places i = some (f.1, f.2.1)) : ∀ {ps : List (Nat × Value)} {cs out : List Value}, fillL fs cs ps = some out →
    Instr.fill places cs.toArray ps = some out.toArray
  | [], cs, out, h => by simp only [fillL, Option.some.injEq] at h; subst h; rfl
  | (i, v) :: r, cs, out, h => by
    simp only [fillL] at h
    split at h
    · rename_i f hf
      split at h
      · rename_i h1 h2
        have h1' := Nat.eq_of_beq_eq_true h1
        have h2' := Nat.le_of_ble_eq_true h2
        have hsz : v.cells.size = (cellsL v).length := by rw [cellsL_eq]; simp
        simp only [Instr.fill, hp i f hf]
        have hno : ¬ (v.cells.size ≠ f.2.1 ∨ f.1 + v.cells.size > cs.toArray.size) := by
          rw [hsz, List.size_toArray]
          omega
        rw [if_neg (by simpa using hno)]
        have h3 := setFold (cellsL v) cs f.1 0 (by omega)
        have h4 : v.cells.zipIdx.foldl (fun cs (x : Value × Nat) => cs.setIfInBounds (f.1 + x.2) x.1) cs.toArray = (setR cs f.1 (cellsL v)).toArray := by
          rw [cellsL_eq, ← Array.foldl_toList]
          simpa using h3
        have h5 := run_fill hp h
        rw [← h4] at h5
        exact h5
      · simp at h
    · simp at h
theorem run_fillA {len esz : Nat} {ps : List (Nat × Value)} {cs out : List Value} (h : fillL (fsA len esz) cs ps = some out) : Instr.fill (fun i => some (i * esz, esz)) cs.toArray ps = some out.toArray := by
  refine run_fill (fs := fsA len esz) (fun i f hf => ?_) h
  unfold fsA at hf
  rw [List.getElem?_map] at hf
  cases hr : (List.range len)[i]? with
  | none => rw [hr] at hf; simp at hf
  | some j =>
    rw [hr] at hf
    obtain ⟨hlt, hj⟩ := List.getElem?_eq_some_iff.1 hr
    rw [List.getElem_range] at hj
    subst hj
    simp only [Option.map_some, Option.some.injEq] at hf
    subst hf
    rfl
theorem run_mapM {l : List Field} {fs : List (Nat × Nat × Bool)} (h : fieldsOk P l fs) (w : World) : (l.mapM fun f => (do pure (f.offset, ← sizeOf f.type) : Sem (Nat × Nat))).run P w = .ok (fs.map fun x => (x.1, x.2.1)) w := by
  induction l generalizing fs with
  | nil =>
    cases fs with
    | nil => simp
    | cons x s => exact h.elim
  | cons f r ih =>
    cases fs with
    | nil => exact h.elim
    | cons x s =>
      obtain ⟨⟨h1, j, d, h2, h3, h4, h5⟩, h6⟩ := h
      simp only [List.mapM_cons, Sem.run_bind, run_sizeOf h2, Result.andThen_ok, Sem.run_pure, ih h6, List.map_cons, h1, h3]

theorem run_asIntOf (k : IntKind) (n : Int) (w : World) : (asIntOf (.int k n)).run P w = .ok (k, n) w := by simp [asIntOf]
/-- Each such operation is sound. -/
theorem wPure_sound (hT : ∀ t i, look t T = some i → TiOk P t i) {o : Op} {K : AV → Prop} (h : wPure T o e K) (E : EnvOk β e a) : ∃ av, K av ∧ ∀ w, Gives P o a w (av.conc β) := by
  cases o with
  | move x =>
    obtain ⟨av, hx, h⟩ := onAV_some h
    exact ⟨av, h, fun w _ _ _ _ _ => by simp [execOp, ev_eval E hx]⟩
  | assign x =>
    obtain ⟨av, hx, h⟩ := onAV_some h
    exact ⟨av, h, fun w _ _ _ _ _ => by simp [execOp, ev_eval E hx]⟩
  | pick c x y =>
    obtain ⟨cv, hc, h⟩ := onV_some h
    split at h
    · rename_i t
      cases t
      · obtain ⟨av, hx, h⟩ := onAV_some (h : onAV (ev e y) K)
        exact ⟨av, h, fun w _ _ _ _ _ => by simp [execOp, ev_evalV E hc, ev_eval E hx, asBool]⟩
      · obtain ⟨av, hx, h⟩ := onAV_some (h : onAV (ev e x) K)
        exact ⟨av, h, fun w _ _ _ _ _ => by simp [execOp, ev_evalV E hc, ev_eval E hx, asBool]⟩
    · exact h.elim
  | nilCheck x =>
    obtain ⟨av, hx, h⟩ := onAV_some h
    split at h
    · exact ⟨_, h, fun w _ _ _ _ _ => by simp [execOp, ev_eval E hx, AV.conc]⟩
    · obtain ⟨b, o, rfl, h⟩ := onPtr_some h
      exact ⟨_, h, fun w _ _ _ _ _ => by simp [execOp, ev_eval E hx, AV.conc]⟩
    · exact ⟨_, h, fun w _ _ _ _ _ => by simp [execOp, ev_eval E hx, AV.conc]⟩
    · exact h.elim
  | binOp op t x y u =>
    obtain ⟨va, ha, h⟩ := onV_some h
    obtain ⟨vb, hb, h⟩ := onV_some h
    obtain ⟨v, h, hr⟩ := run_binF hT h x y
    refine ⟨_, h, fun w _ _ _ _ _ => ?_⟩
    simp only [execOp, ev_evalV E ha, ev_evalV E hb]
    rw [Sem.run_bind, hr w]
    rfl
  | unOp op t x =>
    obtain ⟨va, ha, h⟩ := onV_some h
    unfold unF at h
    split at h
    · exact ⟨_, h, fun w _ _ _ _ _ => by simp [execOp, ev_evalV E ha, Op.unary, AV.conc]⟩
    · exact ⟨_, h, fun w _ _ _ _ _ => by simp [execOp, ev_evalV E ha, Op.unary, Op.intArith, AV.conc]⟩
    · exact h.elim
  | convert s d x =>
    obtain ⟨va, hx, h⟩ := onV_some h
    obtain ⟨si, hs, h⟩ := onTI_some h
    obtain ⟨di, hd, h⟩ := onTI_some h
    split at h
    · rename_i k m kk n hkn hz _ _
      obtain ⟨d1, hd1, hag1, hk1⟩ := (hT s si hs).desc
      obtain ⟨d2, hd2, hag2, hk2⟩ := (hT d di hd).desc
      rw [hkn, hz] at hk2
      cases (hk2 : d2 = .int k)
      refine ⟨_, h, fun w _ _ _ _ _ => ?_⟩
      cases d1 <;> simp [execOp, ev_evalV E hx, AV.conc, convert, run_underlying hd1, run_underlying hd2, Conv.intToInt]
    · exact h.elim
  | fieldAddr t x f =>
    obtain ⟨i, hi, h⟩ := onTI_some h
    split at h
    · rename_i fs hkn
      split at h
      · rename_i fi hfi
        split at h
        · exact h.elim
        · rename_i q hq
          obtain ⟨av, hx, h⟩ := onAV_some h
          obtain ⟨d, hd, hag, hk⟩ := (hT t i hi).desc
          rw [hkn] at hk
          obtain ⟨flds, rfl, hf⟩ := hk
          obtain ⟨g, hg, ho, j, dd, hj, hjs, _⟩ := fieldsOk_get hf hfi
          have hg' : flds[f]? = some g := by simpa using hg
          have hne : j.size ≠ 0 := by rw [hjs, hq]; omega
          split at h
          · exact ⟨_, h, fun w _ _ _ _ _ => by simp [execOp, ev_eval E hx, AV.conc, Instr.fieldAt, run_underlying hd, hg', Instr.sureAddr, fieldPlace, run_sizeOf hj, hne, ho, add_mk]⟩
          · obtain ⟨b, o, rfl, h⟩ := onPtr_some h
            exact ⟨_, h, fun w _ _ _ _ _ => by simp [execOp, ev_eval E hx, AV.conc, Instr.fieldAt, run_underlying hd, hg', Instr.sureAddr, fieldPlace, run_sizeOf hj, hne, ho, add_mk]⟩
          · exact h.elim
      · exact h.elim
    · exact h.elim
  | field t x f =>
    obtain ⟨i, hi, h⟩ := onTI_some h
    split at h
    · rename_i fs hkn
      split at h
      · rename_i fi hfi
        obtain ⟨va, hx, h⟩ := onV_some h
        split at h
        · rename_i cs
          split at h
          · rename_i hle
            obtain ⟨v, hv, h⟩ := mkV_some h
            obtain ⟨d, hd, hag, hk⟩ := (hT t i hi).desc
            rw [hkn] at hk
            obtain ⟨flds, rfl, hf⟩ := hk
            obtain ⟨g, hg, ho, j, dd, hj, hjs, hdd, hagg⟩ := fieldsOk_get hf hfi
            have hg' : flds[f]? = some g := by simpa using hg
            have hp := run_part (P := P) (cs := cs) (off := g.offset) (v := v) hj hdd (by rw [ho, hjs]; exact Nat.le_of_ble_eq_true hle) (by rw [ho, hjs, hagg]; exact hv)
            exact ⟨_, h, fun w _ _ _ _ _ => by simp [execOp, ev_evalV E hx, AV.conc, Instr.field, run_underlying hd, hg', asAgg, hp]⟩
          · exact h.elim
        · exact h.elim
      · exact h.elim
    · exact h.elim
  | indexAddr t x ix =>
    obtain ⟨i, hi, h⟩ := onTI_some h
    obtain ⟨iv, hix, h⟩ := onV_some h
    obtain ⟨d, hd, hag, hk⟩ := (hT t i hi).desc
    split at h
    · rename_i kk j
      split at h
      · rename_i el esz eby hkn
        rw [hkn] at hk
        obtain ⟨rfl, jj, z, hj, hjs, _⟩ := hk
        obtain ⟨va, hx, h⟩ := onV_some h
        split at h
        · rename_i A n c
          obtain ⟨h0, h1, h⟩ := h
          obtain ⟨b, o, rfl, h⟩ := onPtr_some h
          exact ⟨_, h, fun w _ _ _ _ _ => by simp [execOp, ev_evalV E hx, ev_evalV E hix, AV.conc, Instr.indexAt, run_underlying hd, run_asIntOf, h0, h1, run_sizeOf hj, hjs, add_mk]⟩
        · exact h.elim
      · rename_i len esz ag hkn
        rw [hkn] at hk
        obtain ⟨el, jj, du, rfl, hj, hjs, _⟩ := hk
        obtain ⟨av, hx, h⟩ := onAV_some h
        split at h
        · obtain ⟨h0, h1, h⟩ := h
          exact ⟨_, h, fun w _ _ _ _ _ => by simp [execOp, ev_eval E hx, ev_evalV E hix, AV.conc, Instr.indexAt, run_underlying hd, run_asIntOf, h0, h1, run_sizeOf hj, hjs, add_mk, Instr.sureAddr]⟩
        · obtain ⟨h0, h1, h⟩ := h
          obtain ⟨b, o, rfl, h⟩ := onPtr_some h
          exact ⟨_, h, fun w _ _ _ _ _ => by simp [execOp, ev_eval E hx, ev_evalV E hix, AV.conc, Instr.indexAt, run_underlying hd, run_asIntOf, h0, h1, run_sizeOf hj, hjs, add_mk, Instr.sureAddr]⟩
        · exact h.elim
      · exact h.elim
    · exact h.elim
  | index t x ix =>
    obtain ⟨i, hi, h⟩ := onTI_some h
    obtain ⟨iv, hix, h⟩ := onV_some h
    obtain ⟨d, hd, hag, hk⟩ := (hT t i hi).desc
    split at h
    · rename_i kk j
      obtain ⟨va, hx, h⟩ := onV_some h
      split at h
      · rename_i len esz ag cs hkn
        rw [hkn] at hk
        obtain ⟨el, jj, du, rfl, hj, hjs, hdu, hagg⟩ := hk
        obtain ⟨h0, h1, h⟩ := h
        split at h
        · rename_i hl
          have hl' := Nat.eq_of_beq_eq_true hl
          obtain ⟨v, hv, h⟩ := mkV_some h
          have hb : j.toNat * esz + jj.size ≤ cs.toList.length := by
            rw [hl', hjs]
            have h3 : j.toNat + 1 ≤ len := by omega
            have h4 := Nat.mul_le_mul_right esz h3
            rw [Nat.add_mul, Nat.one_mul] at h4
            exact h4
          have hp := run_part (P := P) (cs := cs) (off := j.toNat * jj.size) (v := v) hj hdu (by rw [hjs] at hb ⊢; exact hb) (by rw [hjs, hagg]; exact hv)
          rw [hjs] at hp
          exact ⟨_, h, fun w _ _ _ _ _ => by simp [execOp, ev_evalV E hx, ev_evalV E hix, AV.conc, Instr.index, run_underlying hd, run_asIntOf, h0, h1, run_sizeOf hj, hjs, hp]⟩
        · exact h.elim
      · rename_i s hkn
        rw [hkn] at hk
        cases (hk : d = .string)
        obtain ⟨h0, h1, h⟩ := h
        have hlt : j.toNat < s.size := by omega
        have hget : s[j.toNat]? = some s[j.toNat] := by simp [hlt]
        have hb : bAt s j = ((s[j.toNat]'hlt).toNat : Int) := by
          unfold bAt
          have h5 : j.toNat < s.data.toList.length := by simpa using hlt
          rw [List.getD_eq_getElem?_getD, List.getElem?_eq_getElem h5]
          rfl
        refine ⟨_, h, fun w _ _ _ _ _ => ?_⟩
        rw [hb]
        simp [execOp, ev_evalV E hx, ev_evalV E hix, AV.conc, Instr.index, run_underlying hd, run_asIntOf, h0, hget]
      · exact h.elim
    · exact h.elim
  | slice t x lo hi mx =>
    obtain ⟨i, hi0, h⟩ := onTI_some h
    obtain ⟨va, hx, h⟩ := onV_some h
    obtain ⟨d, hd, hag, hk⟩ := (hT t i hi0).desc
    split at h
    · rename_i a1 a2 a3 l1 l2 l3 e1 e2 e3
      have o1 := opt_some E e1
      have o2 := opt_some E e2
      have o3 := opt_some E e3
      split at h
      · rename_i el esz eby A n c hkn
        rw [hkn] at hk
        obtain ⟨rfl, jj, z, hj, hjs, _⟩ := hk
        obtain ⟨l, hh, m, hr, h⟩ := run_bounds (P := P) h o1 o2 o3 true
        refine ⟨_, h, fun w _ _ _ _ _ => ?_⟩
        simp only [execOp, ev_evalV E hx, AV.conc, Instr.sliceAt, Sem.run_bind, run_underlying hd, Result.andThen_ok, Instr.slice, hr, run_sizeOf hj, Sem.run_pure, hjs]
        rw [cutA_eq]
      · rename_i s hkn
        rw [hkn] at hk
        cases (hk : d = .string)
        split at h
        · rcases o3 with ⟨_, o3⟩ | ⟨_, _, o3, _⟩
          · obtain ⟨l, hh, m, hr, h⟩ := run_bounds (P := P) h o1 o2 (.inl ⟨rfl, rfl⟩) false
            refine ⟨_, h, fun w _ _ _ _ _ => ?_⟩
            simp [execOp, ev_evalV E hx, AV.conc, Instr.sliceAt, run_underlying hd, Instr.slice, o3, hr]
          · cases o3
        · exact h.elim
      · exact h.elim
    · exact h.elim
  | build t ps =>
    obtain ⟨i, hi, h⟩ := onTI_some h
    obtain ⟨vs, hvs, h⟩ := pairVs_some E h
    obtain ⟨d, hd, hag, hk⟩ := (hT t i hi).desc
    obtain ⟨jt, hjt, hjz, hjts⟩ := (hT t i hi).info
    have hps : (ps.map fun (p : Nat × Operand) => (p.1, a.eval p.2)).toList = vs := by rw [Array.toList_map]; exact hvs
    split at h
    · rename_i fs hkn
      rw [hkn] at hk
      obtain ⟨flds, rfl, hf⟩ := hk
      split at h
      · rename_i cs hcs
        have hag' : i.agg = true := hag.symm
        rw [hag'] at hjz
        refine ⟨_, h, fun w _ _ _ _ _ => ?_⟩
        have hm : (flds.mapM fun f => (do pure (f.offset, ← sizeOf f.type) : Sem (Nat × Nat))).run P w = .ok (fs.map fun x => (x.1, x.2.1)).toArray w := by
          rw [Array.mapM_eq_mapM_toList, Sem.run_map, run_mapM hf]
          rfl
        have hfill := run_fill (fs := fs) (places := fun k => ((fs.map fun x => (x.1, x.2.1)).toArray)[k]?) (fun k f hkf => by simp [hkf]) hcs
        simp only [execOp, AV.conc, Instr.build, Sem.run_bind, run_zeroValue hjt hjz, Result.andThen_ok, run_underlying hd, hm, hps, Value.cells, hfill, Sem.run_pure]
      · exact h.elim
    · rename_i len esz ag hkn
      rw [hkn] at hk
      obtain ⟨el, jj, du, rfl, hj, hjs, _⟩ := hk
      split at h
      · rename_i cs hcs
        have hag' : i.agg = true := hag.symm
        rw [hag'] at hjz
        refine ⟨_, h, fun w _ _ _ _ _ => ?_⟩
        have hfill := run_fillA hcs
        simp only [execOp, AV.conc, Instr.build, Sem.run_bind, run_zeroValue hjt hjz, Result.andThen_ok, run_underlying hd, run_sizeOf hj, hjs, hps, Value.cells, hfill, Sem.run_pure]
      · exact h.elim
    · exact h.elim
  | extract x ix =>
    obtain ⟨va, hx, h⟩ := onV_some h
    split at h
    · rename_i vs
      split at h
      · rename_i v hv
        have hv' : vs[ix]? = some v := by simpa using hv
        exact ⟨_, h, fun w _ _ _ _ _ => by simp [execOp, ev_evalV E hx, AV.conc, Instr.extract, hv']⟩
      · exact h.elim
    · exact h.elim
  | makeFunc fn first cap =>
    obtain ⟨vs, hvs, h⟩ := withVs_some E h
    obtain ⟨us, hus, h⟩ := withVs_some E h
    refine ⟨_, h, fun w _ _ _ _ _ => ?_⟩
    have h1 : first.map a.eval = vs.toArray := by apply Array.ext'; rw [Array.toList_map]; exact hvs
    have h2 : cap.map a.eval = us.toArray := by apply Array.ext'; rw [Array.toList_map]; exact hus
    simp [execOp, AV.conc, Instr.makeFunc, h1, h2]
  | _ => exact h.elim
end
end Go.Proofs.Ytibhpoikhkokiaa.Hs

/- Each operation of the evaluator is sound: what it says of heap and slots holds of the machine. -/
set_option linter.unusedVariables false
set_option linter.unusedSimpArgs false
namespace Go.Proofs.Ytibhpoikhkokiaa.Hs
open Go

/-- The machine's slots and heap are those that the evaluator speaks of. H0, w0: where the call began. -/
structure Sim (n : Nat) (H0 : Hp) (w0 : World) (β : Nat → Nat) (e : Env) (V : VSt) (H : Hp) (a : Act) (w : World) : Prop where
  size : a.tmps.size = n
  env : EnvOk β e a
  box : ∀ k x, V k = some x → (∃ ty, w.heap[β k]? = some (.cells x.2.toArray ty (0, 0))) ∧ H (β k) = none ∧ w0.heap.size ≤ β k
  inj : ∀ k k', V k ≠ none → V k' ≠ none → β k = β k' → k = k'
  has : Has w H
  defers : a.defers = []
  fr : Fr H0 w0 w
  new : New H0 w0 H

theorem upd_same {α : Type} (t : Nat) (a : α) (e : Nat → Option α) : upd t a e t = some a := by simp [upd]
theorem upd_other {α : Type} {t x : Nat} (h : x ≠ t) (a : α) (e : Nat → Option α) : upd t a e x = e x := by
  have : Nat.beq x t = false := by
    cases hb : Nat.beq x t with
    | false => rfl
    | true => exact absurd (Nat.eq_of_beq_eq_true hb) h
  simp [upd, this]
theorem del_some {α : Type} {t x : Nat} {e : Nat → Option α} {a : α} (h : del t e x = some a) : x ≠ t ∧ e x = some a := by
  unfold del at h
  cases hb : Nat.beq x t with
  | true => rw [hb] at h; cases h
  | false => rw [hb] at h; exact ⟨fun hx => by subst hx; simp at hb, h⟩
theorem upd_some {α : Type} {t x : Nat} {a b : α} {e : Nat → Option α} (h : upd t a e x = some b) : (x = t ∧ a = b) ∨ (x ≠ t ∧ e x = some b) := by
  by_cases hx : x = t
  · subst hx; rw [upd_same] at h; exact .inl ⟨rfl, Option.some.inj h⟩
  · rw [upd_other hx] at h; exact .inr ⟨hx, h⟩
theorem forget_some {k x : Nat} {e : Env} {av : AV} (h : forget k e x = some av) : e x = some av ∧ ∀ o, av ≠ .loc k o := by
  unfold forget at h
  split at h
  · rename_i k' o he
    split at h
    · cases h
    · rename_i hb
      cases h
      refine ⟨he, fun o' => ?_⟩
      rintro h'
      cases h'
      simp at hb
  · rename_i hno
    refine ⟨h, ?_⟩
    rintro o rfl
    exact hno _ _ h

section
variable {n : Nat} {H0 : Hp} {w0 : World} {β : Nat → Nat} {e : Env} {V : VSt} {H : Hp} {a : Act} {w : World}
theorem put_size (a : Act) (d : Option Tmp) (v : Value) : (a.put d v).tmps.size = a.tmps.size := by cases d <;> simp [Act.put]
theorem put_defers (a : Act) (d : Option Tmp) (v : Value) : (a.put d v).defers = a.defers := by cases d <;> rfl
theorem put_getD_ne (a : Act) {d t : Nat} (h : t ≠ d) (v : Value) : (a.put (some d) v).tmps.getD t undef = a.tmps.getD t undef := by
  simp [Act.put, Array.getElem?_setIfInBounds_ne (Ne.symm h)]
theorem put_getD_eq (a : Act) {d : Nat} (h : d < a.tmps.size) (v : Value) : (a.put (some d) v).tmps.getD d undef = v := by
  simp [Act.put, h]
theorem fin_env (E : EnvOk β e a) (hs : a.tmps.size = n) (d : Option Tmp) {v : Value} {av : AV} (hv : av.conc β = v) : EnvOk β (fin n d (some av) e) (a.put d v) := by
  intro t b ht
  cases d with
  | none => exact E t b ht
  | some d =>
    cases hb : Nat.blt d n with
    | true =>
      simp only [fin, hb] at ht
      rcases upd_some ht with ⟨rfl, rfl⟩ | ⟨hne, ht⟩
      · rw [put_getD_eq a (by rw [hs]; exact Nat.le_of_ble_eq_true hb), hv]
      · rw [put_getD_ne a hne]; exact E t b ht
    | false =>
      simp only [fin, hb] at ht
      obtain ⟨hne, ht⟩ := del_some ht
      rw [put_getD_ne a hne]; exact E t b ht
theorem fin_none (E : EnvOk β e a) (d : Option Tmp) (v : Value) : EnvOk β (fin n d none e) (a.put d v) := by
  intro t b ht
  cases d with
  | none => exact E t b ht
  | some d =>
    unfold fin at ht
    simp only at ht
    obtain ⟨hne, ht⟩ := del_some ht
    rw [put_getD_ne a hne]
    exact E t b ht
theorem Sim.put (S : Sim n H0 w0 β e V H a w) (d : Option Tmp) {v : Value} {av : AV} (hv : av.conc β = v) : Sim n H0 w0 β (fin n d (some av) e) V H (a.put d v) w :=
  { S with size := (put_size a d v).trans S.size, env := fin_env S.env S.size d hv, defers := (put_defers a d v).trans S.defers }
theorem Sim.putN (S : Sim n H0 w0 β e V H a w) (d : Option Tmp) (v : Value) : Sim n H0 w0 β (fin n d none e) V H (a.put d v) w :=
  { S with size := (put_size a d v).trans S.size, env := fin_none S.env d v, defers := (put_defers a d v).trans S.defers }
theorem has_cell (h : Has w H) {b o : Nat} {v : Value} (hc : cl H b o = some v) : w.cell? ⟨b, o, none⟩ = some v := by
  unfold cl at hc
  split at hc
  · rename_i c ty fr hb
    simp [World.cell?, h b _ hb, hc]
  · cases hc
theorem cl_of (w : World) {b o : Nat} {cs : List Value} {ty : Nat} (h : w.heap[b]? = some (.cells cs.toArray ty (0, 0))) : w.cell? ⟨b, o, none⟩ = cs[o]? := by
  simp [World.cell?, h]
theorem frz_of (w : World) {b o : Nat} {cs : Array Value} {ty : Nat} (h : w.heap[b]? = some (.cells cs ty (0, 0))) : w.frozen? ⟨b, o, none⟩ = false := by
  simp [World.frozen?, h]
/-- A step that turns what the evaluator knows of, and makes what is new. -/
theorem Sim.step (S : Sim n H0 w0 β e V H a w) {w' : World} {H' : Hp} (hh : Has w' H') (hf : Fr H w w') (hn : New H w H') : Sim n H0 w0 β e V H' a w' := by
  refine { S with has := hh, box := fun k x hk => ?_, fr := ?_, new := ?_ }
  · obtain ⟨⟨ty, h1⟩, h2, h3⟩ := S.box k x hk
    have hlt : β k < w.heap.size := (Array.getElem?_eq_some_iff.1 h1).1
    refine ⟨⟨ty, (hf.2.2.2.2.1 _ hlt h2).trans h1⟩, ?_, h3⟩
    cases hb : H' (β k) with
    | none => rfl
    | some o =>
      rcases hn (β k) (by rw [hb]; simp) with h4 | h4
      · exact absurd h2 h4
      · omega
  · obtain ⟨a1, a2, a3, a4, a5, a6⟩ := S.fr
    obtain ⟨b1, b2, b3, b4, b5, b6⟩ := hf
    refine ⟨b1.trans a1, b2.trans a2, b3.trans a3, Nat.le_trans a4 b4, fun b hb h0 => ?_, Nat.le_trans a6 b6⟩
    have hnone : H b = none := by
      cases hb' : H b with
      | none => rfl
      | some o =>
        rcases S.new b (by rw [hb']; simp) with h4 | h4
        · exact absurd h0 h4
        · omega
    exact (b5 b (Nat.lt_of_lt_of_le hb a4) hnone).trans (a5 b hb h0)
  · intro b hb
    have h4 := S.fr.2.2.2.1
    rcases hn b hb with h | h
    · exact S.new b h
    · exact .inr (Nat.le_trans h4 h)
theorem has_lt (h : Has w H) {b : Nat} {o : Obj} (hb : H b = some o) : b < w.heap.size := (Array.getElem?_eq_some_iff.1 (h b o hb)).1
theorem has_none (h : Has w H) {b : Nat} (hb : w.heap.size ≤ b) : H b = none := by
  cases hh : H b with
  | none => rfl
  | some o => have := has_lt h hh; omega
theorem step_set (h : Has w H) {b : Nat} {cs cs' : Array Value} {ty : Nat} (hb : H b = some (.cells cs ty (0, 0))) :
    Has (w.setRow b cs') (upd b (.cells cs' ty (0, 0)) H) ∧ Fr H w (w.setRow b cs') ∧ New H w (upd b (.cells cs' ty (0, 0)) H) := by
  refine ⟨fun x o hx => ?_, ⟨rfl, rfl, rfl, by simp, fun x hx hn => setRow_other _ _ _ _ (fun e => by subst e; rw [hb] at hn; cases hn), Nat.le_refl _⟩, fun x hx => ?_⟩
  · rcases upd_some hx with ⟨rfl, rfl⟩ | ⟨hne, hx⟩
    · exact setRow_heap w x cs cs' ty _ (h x _ hb)
    · rw [setRow_other _ _ _ _ hne]; exact h x o hx
  · by_cases hxb : x = b
    · subst hxb; left; rw [hb]; simp
    · rw [upd_other hxb] at hx; exact .inl hx
theorem step_new (h : Has w H) (o : Obj) : Has (w.alloc o) (upd w.heap.size o H) ∧ Fr H w (w.alloc o) ∧ New H w (upd w.heap.size o H) := by
  refine ⟨fun x p hx => ?_, ⟨rfl, rfl, rfl, by simp, fun x hx _ => heap_alloc_old w o hx, Nat.le_refl _⟩, fun x hx => ?_⟩
  · rcases upd_some hx with ⟨rfl, rfl⟩ | ⟨hne, hx⟩
    · exact heap_alloc_new w _
    · rw [heap_alloc_old w o (has_lt h hx)]; exact h x p hx
  · by_cases hxb : x = w.heap.size
    · subst hxb; exact .inr (Nat.le_refl _)
    · rw [upd_other hxb] at hx; exact .inl hx
theorem step_drew_new (h : Has w H) (o : Obj) : Has (w.drew.alloc o) (upd w.heap.size o H) ∧ Fr H w (w.drew.alloc o) ∧ New H w (upd w.heap.size o H) := by
  obtain ⟨h1, ⟨a1, a2, a3, a4, a5, a6⟩, h3⟩ := step_new (w := w.drew) h o
  exact ⟨h1, ⟨a1, a2, a3, a4, a5, Nat.le_trans (Nat.le_succ _) a6⟩, h3⟩

theorem one1_eq (v : Value) : v.oneCell' = one1 v := by cases v <;> rfl
theorem allOne_mem : ∀ {l : List Value}, allOne l = true → ∀ v ∈ l, v.oneCell' = true
  | [], _, v, hv => by simp at hv
  | x :: r, h, v, hv => by
    simp only [allOne] at h
    cases hx : one1 x with
    | false => rw [hx] at h; cases h
    | true =>
      rw [hx] at h
      rcases List.mem_cons.1 hv with rfl | hv
      · rw [one1_eq, hx]
      · exact allOne_mem h v hv
theorem leafE_some {z : Value} {K : Value → Prop} (h : leafE z K) : ∃ v, K v := by
  unfold leafE at h
  split at h
  all_goals first
    | (obtain ⟨x, h⟩ := h; exact ⟨_, h⟩)
    | (obtain ⟨x, y, z, h⟩ := h; exact ⟨_, h⟩)
theorem leafEs_some : ∀ {zs : List Value} {K : List Value → Prop}, leafEs zs K → ∃ vs, K vs
  | [], K, h => ⟨_, h⟩
  | z :: r, K, h => by
    obtain ⟨v, h⟩ := leafE_some h
    obtain ⟨vs, h⟩ := leafEs_some h
    exact ⟨_, h⟩
theorem loadL_some : ∀ {zs : List Value} {b o : Nat} {K : List Value → Prop}, loadL zs H b o K → ∃ vs : List Value, vs.length = zs.length ∧ (∀ j v, vs[j]? = some v → cl H b (o + j) = some v) ∧ K vs
  | [], b, o, K, h => ⟨[], rfl, fun j v hj => by simp at hj, h⟩
  | z :: r, b, o, K, h => by
    obtain ⟨v, hv, h⟩ := leafE_some h
    obtain ⟨vs, hl, hc, h⟩ := loadL_some h
    refine ⟨v :: vs, by simp [hl], fun j u hj => ?_, h⟩
    cases j with
    | zero => simp at hj; subst hj; exact hv
    | succ j => rw [show o + (j + 1) = o + 1 + j by omega]; exact hc j u (by simpa using hj)

section
variable {P : Program}
theorem run_loadVar_ok {t : Nat} {i : TI} (hi : TiOk P t i) {b o : Nat} {vs : List Value} (hl : vs.length = i.zs.length) (hc : ∀ j v, vs[j]? = some v → w.cell? ⟨b, o + j, none⟩ = some v) {v : Value}
    (hv : (i.agg = true ∧ v = .agg vs.toArray) ∨ (i.agg = false ∧ vs = [v])) : (loadVar t ⟨b, o, none⟩).run P w = .ok v w := by
  obtain ⟨d, hd, hag, _⟩ := hi.desc
  obtain ⟨j, hj, hjz, hjs⟩ := hi.info
  unfold loadVar
  simp only [Sem.run_bind, run_isAgg hd, Result.andThen_ok, hag]
  rcases hv with ⟨h1, rfl⟩ | ⟨h1, rfl⟩
  · simp only [h1, if_true, Sem.run_bind, run_sizeOf hj, Result.andThen_ok]
    have := run_loadCells_list (P := P) w ⟨b, o, none⟩ vs (fun j v hv => by rw [add_mk]; exact hc j v hv)
    rw [hjs, ← hl, this]
    rfl
  · have h2 := hc 0 v rfl
    simp only [Nat.add_zero] at h2
    simp [h1, h2]
theorem run_storeVar_ok {t : Nat} {i : TI} (hi : TiOk P t i) {b o : Nat} {cs : List Value} {ty : Nat} (hb : w.heap[b]? = some (.cells cs.toArray ty (0, 0))) {v : Value} (hl : (cellsL v).length = i.zs.length)
    (h1 : allOne (cellsL v) = true) (hfit : o + (cellsL v).length ≤ cs.length) : (storeVar t ⟨b, o, none⟩ v).run P w = .ok () (w.setRow b (setR cs o (cellsL v)).toArray) := by
  obtain ⟨j, hj, hjz, hjs⟩ := hi.info
  have hsz : v.cells.size = j.size := by rw [cellsL_eq, hjs]; simpa using hl
  have hst := run_storeCells_at (P := P) b o ty (cellsL v) 0 cs.toArray w hb (by simpa using hfit) (allOne_mem h1)
  have hcl : v.cells.toList = cellsL v := by rw [cellsL_eq]
  unfold storeVar
  simp only [Sem.run_bind, run_sizeOf hj, Result.andThen_ok, hsz, ne_eq, not_true, if_false, Sem.run_pure]
  simp only [hcl, hst]
  simp [setR]
end
end
end Go.Proofs.Ytibhpoikhkokiaa.Hs

/- What the machine does with maps whose keys are whole numbers. -/
set_option linter.unusedVariables false
set_option linter.unusedSimpArgs false
namespace Go.Proofs.Ytibhpoikhkokiaa.Hs
open Go
open Go.ChangeMaps (setBlock)
section
variable {P : Program} {w : World} {H : Hp}
theorem blk_at {b : Nat} {o : Obj} (hb : w.heap[b]? = some o) (o' : Obj) (x : Nat) : (setBlock w b o').heap[x]? = if x = b then some o' else w.heap[x]? := by
  unfold setBlock
  have hlt : b < w.heap.size := (Array.getElem?_eq_some_iff.1 hb).1
  simp only [Array.getElem?_setIfInBounds]
  by_cases h : x = b
  · subst h; simp [hlt]
  · rw [if_neg (fun e => h e.symm), if_neg h]
theorem step_obj (h : Has w H) {b : Nat} {o : Obj} (hb : H b = some o) (o' : Obj) : Has (setBlock w b o') (upd b o' H) ∧ Fr H w (setBlock w b o') ∧ New H w (upd b o' H) := by
  have hw := h b o hb
  refine ⟨fun x p hx => ?_, ⟨rfl, rfl, rfl, by simp [setBlock], fun x hx hn => ?_, Nat.le_refl _⟩, fun x hx => ?_⟩
  · rw [blk_at hw]
    rcases upd_some hx with ⟨rfl, rfl⟩ | ⟨hne, hx⟩
    · rw [if_pos rfl]
    · rw [if_neg hne]; exact h x p hx
  · rw [blk_at hw, if_neg (fun e => by subst e; rw [hb] at hn; cases hn)]
  · by_cases hxb : x = b
    · subst hxb; left; rw [hb]; simp
    · rw [upd_other hxb] at hx; exact .inl hx
theorem step_drew_obj (h : Has w H) {b : Nat} {o : Obj} (hb : H b = some o) (o' : Obj) : Has (setBlock w.drew b o') (upd b o' H) ∧ Fr H w (setBlock w.drew b o') ∧ New H w (upd b o' H) := by
  obtain ⟨h1, ⟨a1, a2, a3, a4, a5, a6⟩, h3⟩ := step_obj (w := w.drew) h hb o'
  exact ⟨h1, ⟨a1, a2, a3, a4, a5, Nat.le_trans (Nat.le_succ _) a6⟩, h3⟩
theorem findNow_int {k : IntKind} {x : Int} : ∀ {es : List MapEntry} {i : Nat}, intKeys k es → Instr.findNow (.int k) (.int k x) es i = some ((es.findIdx? (isKey x)).map fun j => (i + j, (es[j]?.map (·.val)).getD undef))
  | [], i, _ => rfl
  | e :: r, i, h => by
    obtain ⟨y, hy⟩ := h e List.mem_cons_self
    have ih := findNow_int (x := x) (es := r) (i := i + 1) (fun e he => h e (List.mem_cons_of_mem _ he))
    unfold Instr.findNow
    rw [List.findIdx?_cons]
    have hs : Instr.sameNow (.int k) (.int k x) e.key = some (x == y) := by rw [hy]; simp [Instr.sameNow]
    have hi : isKey x e = (x == y) := by unfold isKey; rw [hy]; rfl
    rw [hs, hi]
    cases x == y with
    | true => simp
    | false =>
      simp only [Bool.false_eq_true, if_false]
      rw [ih, Option.map_map]
      congr 2
      funext j
      simp only [Function.comp, Prod.mk.injEq, List.getElem?_cons_succ, and_true]
      omega
theorem run_findKey {kt : TypeId} {k : IntKind} {x : Int} {es : List MapEntry} (hk : P.underlying kt = some (.int k)) (h : intKeys k es) :
    (Instr.findKey kt (.int k x) es).run P w = .ok ((es.findIdx? (isKey x)).map fun j => (j, (es[j]?.map (·.val)).getD undef)) w := by
  unfold Instr.findKey
  simp only [Sem.run_bind, run_underlying hk, Result.andThen_ok, findNow_int (x := x) h (i := 0), Nat.zero_add, Sem.run_pure]
theorem run_checkKey {kt : TypeId} {k : IntKind} {x : Int} {b : Bool} (hk : P.underlying kt = some (.int k)) : (Instr.checkKey b 10000 kt (.int k x)).run P w = .ok () w := by
  show (Instr.checkKey b (9999 + 1) kt (.int k x)).run P w = .ok () w
  unfold Instr.checkKey
  simp only [Sem.run_bind, run_underlying hk, Result.andThen_ok, Sem.run_pure]
theorem run_getMap {b : Nat} {es : Array MapEntry} {clock : Nat} (hb : w.heap[b]? = some (.map es clock)) : (getObj b).run P w = .ok (.map es clock) w := by
  simp [getObj, Sem.run, hb]
theorem run_setMap {b : Nat} {es : Array MapEntry} {clock : Nat} (hb : w.heap[b]? = some (.map es clock)) (o' : Obj) : (setObj b o').run P w = .ok () (setBlock w b o') := by
  simp [setObj, Sem.run, hb, setBlock]
theorem find_idx {x : Int} : ∀ {es : List MapEntry}, findE x es = (es.findIdx? (isKey x)).map fun j => (es[j]?.map (·.val)).getD undef
  | [] => rfl
  | e :: r => by
    have ih := find_idx (x := x) (es := r)
    unfold findE at ih ⊢
    rw [List.find?_cons, List.findIdx?_cons]
    cases isKey x e with
    | true => simp
    | false =>
      simp only [Bool.false_eq_true, if_false]
      rw [ih, Option.map_map]
      congr 1
theorem run_lookup {t kt vt : TypeId} {k : IntKind} {x : Int} {z : Value} {ok : Bool} (ht : P.underlying t = some (.map kt vt)) (hk : P.underlying kt = some (.int k)) (hz : (zeroValue vt).run P w = .ok z w)
    {b : Nat} {es : Array MapEntry} {clock : Nat} (hb : w.heap[b]? = some (.map es clock)) (h : intKeys k es.toList) :
    (Instr.lookup t (.map (some b)) (.int k x) ok).run P w = .ok (if ok then .tuple #[(findE x es.toList).getD z, .bool (findE x es.toList).isSome] else (findE x es.toList).getD z) w := by
  unfold Instr.lookup
  simp only [Sem.run_bind, run_underlying ht, Result.andThen_ok, run_getMap hb, Sem.run_pure, run_checkKey hk, run_findKey hk h]
  rw [find_idx]
  cases es.toList.findIdx? (isKey x) with
  | none => simp [hz]
  | some j => simp
theorem run_lookup_nil {t kt vt : TypeId} {k : IntKind} {x : Int} {z : Value} {ok : Bool} (ht : P.underlying t = some (.map kt vt)) (hk : P.underlying kt = some (.int k)) (hz : (zeroValue vt).run P w = .ok z w) :
    (Instr.lookup t (.map none) (.int k x) ok).run P w = .ok (if ok then .tuple #[z, .bool false] else z) w := by
  unfold Instr.lookup
  have h : intKeys k (#[] : Array MapEntry).toList := fun e he => by cases he
  simp only [Sem.run_bind, run_underlying ht, Result.andThen_ok, Sem.run_pure, run_checkKey hk, run_findKey hk h]
  simp [hz]
theorem findIdx_key {k : IntKind} {x : Int} {es : List MapEntry} {j : Nat} (h : intKeys k es) (hj : es.findIdx? (isKey x) = some j) : ∃ e, es[j]? = some e ∧ e.key = .int k x := by
  rw [List.findIdx?_eq_some_iff_getElem] at hj
  obtain ⟨hlt, hp, _⟩ := hj
  refine ⟨_, List.getElem?_eq_getElem hlt, ?_⟩
  obtain ⟨y, hy⟩ := h _ (List.getElem_mem hlt)
  unfold isKey at hp
  rw [hy] at hp
  rw [hy, of_decide_eq_true hp]
theorem run_mapUpdate {t kt vt : TypeId} {k : IntKind} {x : Int} {v : Value} (ht : P.underlying t = some (.map kt vt)) (hk : P.underlying kt = some (.int k))
    {b : Nat} {es : Array MapEntry} {clock : Nat} (hb : w.heap[b]? = some (.map es clock)) (h : intKeys k es.toList) :
    (Instr.mapUpdate t (.map (some b)) (.int k x) v).run P w = .ok () (setBlock w b (putE k x v es clock)) := by
  unfold Instr.mapUpdate putE
  simp only [Sem.run_bind, run_underlying ht, Result.andThen_ok, run_getMap hb, run_checkKey hk, run_findKey hk h]
  cases hj : es.toList.findIdx? (isKey x) with
  | none => simp only [Option.map_none, run_setMap hb]
  | some j =>
    obtain ⟨e, he, hkey⟩ := findIdx_key h hj
    have he' : es[j]? = some e := by rw [← Array.getElem?_toList]; exact he
    have hstay : (Instr.keyThatStays (.int k x) (.int k x)).run P w = .ok (.int k x) w := by
      unfold Instr.keyThatStays
      have : Instr.sameBits 10000 (.int k x) (.int k x) = true := by
        show Instr.sameBits (9999 + 1) (.int k x) (.int k x) = true
        unfold Instr.sameBits
        simp
      rw [if_pos this]; rfl
    simp only [Option.map_some, he', Option.getD_some, hkey, Sem.run_bind, hstay, Result.andThen_ok, run_setMap hb]
theorem run_delete {t kt vt ty : TypeId} {us : List TypeId} {k : IntKind} {x : Int} (ht : P.underlying t = some (.map kt vt)) (hk : P.underlying kt = some (.int k))
    {b : Nat} {es : Array MapEntry} {clock : Nat} (hb : w.heap[b]? = some (.map es clock)) (h : intKeys k es.toList) :
    (Builtin.delete_ (t :: us).toArray ty #[.map (some b), .int k x]).run P w = .ok (.tuple #[]) (setBlock w b (delE x es clock)) := by
  unfold Builtin.delete_ delE
  simp only [List.getElem?_toArray, List.getElem?_cons_zero, List.getElem?_cons_succ, Sem.run_bind, run_underlying ht, Result.andThen_ok, run_getMap hb, run_checkKey hk, run_findKey hk h]
  cases hj : es.toList.findIdx? (isKey x) with
  | none => simp only [Option.map_none, run_setMap hb, Sem.run_bind, Result.andThen_ok, Sem.run_pure]
  | some j => simp only [Option.map_some, run_setMap hb, Sem.run_bind, Result.andThen_ok, Sem.run_pure]
/-! Pairs of whole numbers as keys. -/
theorem run_eq_key2 {kt el n : TypeId} {zs : List Value} {a1 a2 : Int} {x y a b : Int} (hok : eqOk P kt zs = true) (hzs : zs = [.int .i64 a1, .int .i64 a2]) (hu : P.underlying kt = some (.array n el)) :
    n = 2 ∧ (∃ j, P.info? el = some j ∧ j.size = 1) ∧ P.underlying el = some (.int .i64) ∧ ∀ w, (Op.equal kt (key2 x y) (key2 a b)).run P w = .ok (decide (x = a) && decide (y = b)) w := by
  unfold eqOk at hok
  rw [hu] at hok
  simp only [Bool.and_eq_true, Bool.not_eq_true'] at hok
  obtain ⟨⟨h1, h2⟩, h3⟩ := hok
  unfold chkArr at h1
  simp only [Bool.and_eq_true] at h1
  obtain ⟨hn, h1⟩ := h1
  split at h1
  · rename_i k j he hj
    simp only [Bool.and_eq_true, List.all_eq_true] at h1
    obtain ⟨hs, hz⟩ := h1
    have hs := Nat.eq_of_beq_eq_true hs
    have hn := Nat.eq_of_beq_eq_true hn
    subst hzs
    have hk : k = .i64 := by
      have := hz (.int .i64 a1) (by simp)
      exact sameK_eq this
    subst hk
    refine ⟨hn, ⟨j, hj, hs⟩, he, fun w => ?_⟩
    have h1c : P.cellsOf el = 1 := by unfold Program.cellsOf; rw [hj]; exact hs
    show (Op.equalIn (9999 + 1) kt (.agg _) (.agg _)).run P w = _
    rw [run_equalIn_array (P := P) w 9999 _ _ hu hj, h1c, hn, List.range_eq_range']
    refine run_eqItems (d := 9998) (zs := [.int .i64 a1, .int .i64 a2]) (off := 0) he hj hs (fun z hm => ?_) ?_
    · rcases List.mem_cons.1 hm with rfl | hm
      · exact ⟨_, rfl⟩
      · obtain rfl := List.mem_singleton.1 hm
        exact ⟨_, rfl⟩
    · have e1 : (x == a) = decide (x = a) := rfl
      have e2 : (y == b) = decide (y = b) := rfl
      show eqLs [.int .i64 a1, .int .i64 a2] [.int .i64 x, .int .i64 y] [.int .i64 a, .int .i64 b] = _
      have hs : sameK .i64 .i64 = true := rfl
      simp only [eqLs, eq1F, hs, e1, e2, Bool.and_true]
  · cases h1
theorem run_checkKey2 {kt el : TypeId} {j : TypeInfo} {x y : Int} {b : Bool} (hu : P.underlying kt = some (.array 2 el)) (hj : P.info? el = some j) (hs : j.size = 1) (he : P.underlying el = some (.int .i64)) : (Instr.checkKey b 10000 kt (key2 x y)).run P w = .ok () w := by
  have hp : ∀ (i : Nat) v w, [Value.int .i64 x, .int .i64 y][i]? = some v → (part el #[.int .i64 x, .int .i64 y] (i * j.size)).run P w = .ok v w := fun i v w hv =>
    run_part hj he (by rw [hs]; have := (List.getElem?_eq_some_iff.1 hv).1; simp at this ⊢; omega) (.inr ⟨rfl, by
      rw [hs, Nat.mul_one]
      obtain ⟨hi, hv⟩ := List.getElem?_eq_some_iff.1 hv
      show ([Value.int .i64 x, .int .i64 y].drop i).take 1 = [v]
      rw [List.drop_eq_getElem_cons hi, hv]; rfl⟩) w
  have hc : ∀ (v : Int) w, (Instr.checkKey b 9999 el (.int .i64 v)).run P w = .ok () w := fun v w => by
    show (Instr.checkKey b (9998 + 1) el (.int .i64 v)).run P w = .ok () w
    unfold Instr.checkKey
    simp only [Sem.run_bind, run_underlying he, Result.andThen_ok, Sem.run_pure]
  show (Instr.checkKey b (9999 + 1) kt (.agg _)).run P w = .ok () w
  unfold Instr.checkKey
  simp only [Sem.run_bind, run_underlying hu, Result.andThen_ok, Std.Legacy.Range.forIn_eq_forIn_range', Std.Legacy.Range.size, Nat.sub_zero, Nat.add_one_sub_one, Nat.div_one]
  rw [show List.range' 0 2 = [0, 1] from rfl]
  simp only [List.forIn_cons, List.forIn_nil, Sem.run_bind, run_sizeOf hj, Result.andThen_ok, hp 0 _ _ rfl, hp 1 _ _ rfl, hc, Sem.run_pure]
theorem run_findAsking2 {kt : TypeId} {x y : Int} (hq : ∀ (a b : Int) w, (Op.equal kt (key2 x y) (key2 a b)).run P w = .ok (decide (x = a) && decide (y = b)) w) : ∀ {es : List MapEntry} {i : Nat}, pairKeys es →
    (Instr.findAsking kt (key2 x y) es i).run P w = .ok ((es.findIdx? (isKey2 x y)).map fun j => (i + j, (es[j]?.map (·.val)).getD undef)) w
  | [], i, _ => rfl
  | e :: r, i, h => by
    obtain ⟨a, b, hk⟩ := h e List.mem_cons_self
    have ih := run_findAsking2 hq (es := r) (i := i + 1) (fun e he => h e (List.mem_cons_of_mem _ he))
    unfold Instr.findAsking
    rw [List.findIdx?_cons]
    have hi : isKey2 x y e = (decide (x = a) && decide (y = b)) := by unfold isKey2; rw [hk]; rfl
    rw [hk, hi]
    simp only [Sem.run_bind, hq, Result.andThen_ok]
    cases decide (x = a) && decide (y = b) with
    | true => simp
    | false =>
      simp only [Bool.false_eq_true, if_false]
      rw [ih, Option.map_map]
      congr 2
      funext j
      simp only [Function.comp, Prod.mk.injEq, List.getElem?_cons_succ, and_true]
      omega
theorem run_findKey2 {kt el : TypeId} {n : Nat} {x y : Int} {es : List MapEntry} (hu : P.underlying kt = some (.array n el)) (hq : ∀ (a b : Int) w, (Op.equal kt (key2 x y) (key2 a b)).run P w = .ok (decide (x = a) && decide (y = b)) w) (h : pairKeys es) :
    (Instr.findKey kt (key2 x y) es).run P w = .ok ((es.findIdx? (isKey2 x y)).map fun j => (j, (es[j]?.map (·.val)).getD undef)) w := by
  unfold Instr.findKey
  simp only [Sem.run_bind, run_underlying hu, Result.andThen_ok]
  cases es with
  | nil => rfl
  | cons e r =>
    have hn : Instr.findNow (.array n el) (key2 x y) (e :: r) 0 = none := by
      unfold Instr.findNow
      have : Instr.sameNow (.array n el) (key2 x y) e.key = none := by unfold Instr.sameNow; rfl
      rw [this]
    rw [hn]
    simpa using run_findAsking2 (w := w) hq (i := 0) h
theorem find_idx2 {x y : Int} : ∀ {es : List MapEntry}, findE2 x y es = (es.findIdx? (isKey2 x y)).map fun j => (es[j]?.map (·.val)).getD undef
  | [] => rfl
  | e :: r => by
    have ih := find_idx2 (x := x) (y := y) (es := r)
    unfold findE2 at ih ⊢
    rw [List.find?_cons, List.findIdx?_cons]
    cases isKey2 x y e with
    | true => simp
    | false =>
      simp only [Bool.false_eq_true, if_false]
      rw [ih, Option.map_map]
      congr 1
/-- What is known of a type of keys that are pairs of whole numbers. -/
def PairT (P : Program) (kt : TypeId) : Prop := ∃ el j, P.underlying kt = some (.array 2 el) ∧ P.info? el = some j ∧ j.size = 1 ∧ P.underlying el = some (.int .i64) ∧ ∀ (x y a b : Int) w, (Op.equal kt (key2 x y) (key2 a b)).run P w = .ok (decide (x = a) && decide (y = b)) w
theorem run_lookup2 {t kt vt : TypeId} {x y : Int} {z : Value} {ok : Bool} (ht : P.underlying t = some (.map kt vt)) (hk : PairT P kt) (hz : (zeroValue vt).run P w = .ok z w)
    {b : Nat} {es : Array MapEntry} {clock : Nat} (hb : w.heap[b]? = some (.map es clock)) (h : pairKeys es.toList) :
    (Instr.lookup t (.map (some b)) (key2 x y) ok).run P w = .ok (if ok then .tuple #[(findE2 x y es.toList).getD z, .bool (findE2 x y es.toList).isSome] else (findE2 x y es.toList).getD z) w := by
  obtain ⟨el, j, hu, hj, hs, he, hq⟩ := hk
  unfold Instr.lookup
  simp only [Sem.run_bind, run_underlying ht, Result.andThen_ok, run_getMap hb, Sem.run_pure, run_checkKey2 hu hj hs he, run_findKey2 hu (hq x y) h]
  rw [find_idx2]
  cases es.toList.findIdx? (isKey2 x y) with
  | none => simp [hz]
  | some j => simp
theorem run_lookup2_nil {t kt vt : TypeId} {x y : Int} {z : Value} {ok : Bool} (ht : P.underlying t = some (.map kt vt)) (hk : PairT P kt) (hz : (zeroValue vt).run P w = .ok z w) :
    (Instr.lookup t (.map none) (key2 x y) ok).run P w = .ok (if ok then .tuple #[z, .bool false] else z) w := by
  obtain ⟨el, j, hu, hj, hs, he, hq⟩ := hk
  unfold Instr.lookup
  have h : pairKeys (#[] : Array MapEntry).toList := fun e he => by cases he
  simp only [Sem.run_bind, run_underlying ht, Result.andThen_ok, Sem.run_pure, run_checkKey2 hu hj hs he, run_findKey2 hu (hq x y) h]
  simp [hz]
theorem findIdx_key2 {x y : Int} {es : List MapEntry} {j : Nat} (h : pairKeys es) (hj : es.findIdx? (isKey2 x y) = some j) : ∃ e, es[j]? = some e ∧ e.key = key2 x y := by
  rw [List.findIdx?_eq_some_iff_getElem] at hj
  obtain ⟨hlt, hp, _⟩ := hj
  refine ⟨_, List.getElem?_eq_getElem hlt, ?_⟩
  obtain ⟨a, b, hk⟩ := h _ (List.getElem_mem hlt)
  have hi : isKey2 x y es[j] = (decide (x = a) && decide (y = b)) := by unfold isKey2; rw [hk]; rfl
  rw [hi] at hp
  simp only [Bool.and_eq_true, decide_eq_true_eq] at hp
  rw [hk, hp.1, hp.2]
theorem run_mapUpdate2 {t kt vt : TypeId} {x y : Int} {v : Value} (ht : P.underlying t = some (.map kt vt)) (hk : PairT P kt)
    {b : Nat} {es : Array MapEntry} {clock : Nat} (hb : w.heap[b]? = some (.map es clock)) (h : pairKeys es.toList) :
    (Instr.mapUpdate t (.map (some b)) (key2 x y) v).run P w = .ok () (setBlock w b (putE2 x y v es clock)) := by
  obtain ⟨el, j, hu, hj, hs, he, hq⟩ := hk
  unfold Instr.mapUpdate putE2
  simp only [Sem.run_bind, run_underlying ht, Result.andThen_ok, run_getMap hb, run_checkKey2 hu hj hs he, run_findKey2 hu (hq x y) h]
  cases hj : es.toList.findIdx? (isKey2 x y) with
  | none => simp only [Option.map_none, run_setMap hb]
  | some j =>
    obtain ⟨e, he, hkey⟩ := findIdx_key2 h hj
    have he' : es[j]? = some e := by rw [← Array.getElem?_toList]; exact he
    have hstay : (Instr.keyThatStays (key2 x y) (key2 x y)).run P w = .ok (key2 x y) w := by
      unfold Instr.keyThatStays
      have : Instr.sameBits 10000 (key2 x y) (key2 x y) = true := by
        show Instr.sameBits (9999 + 1) (.agg _) (.agg _) = true
        unfold Instr.sameBits
        have hb : ∀ v : Int, Instr.sameBits 9999 (.int .i64 v) (.int .i64 v) = true := fun v => by
          show Instr.sameBits (9998 + 1) (.int .i64 v) (.int .i64 v) = true
          unfold Instr.sameBits
          simp
        simp [hb]
      rw [if_pos this]; rfl
    simp only [Option.map_some, he', Option.getD_some, hkey, Sem.run_bind, hstay, Result.andThen_ok, run_setMap hb]
end
end Go.Proofs.Ytibhpoikhkokiaa.Hs

/- Every operation of the evaluator is sound. -/
set_option linter.unusedVariables false
set_option linter.unusedSimpArgs false
namespace Go.Proofs.Ytibhpoikhkokiaa.Hs
open Go
open Go.ChangeMaps (setBlock)

section
variable {P : Program} {w : World} {H : Hp}
theorem cellsAt_w (h : Has w H) {A : Option Addr} {l : List Value} (hc : cellsAt H A l) (size n len cap : Nat) (hl : l.length = n * size) :
    (Builtin.firstCells size n (.slice A len cap)).run P w = .ok l.toArray w := by
  rcases hc with rfl | ⟨b, o, rfl, hc⟩
  · have h0 : n * size = 0 := by simpa using hl.symm
    cases A with
    | none => simp [Builtin.firstCells]
    | some a => simp [Builtin.firstCells, h0, loadCells, loadCellsFrom]
  · exact run_firstCells_some (P := P) w size n ⟨b, o, none⟩ len cap l hl (fun j v hv => by rw [add_mk]; exact has_cell h (hc j v hv))
theorem run_append_all {t el ty : TypeId} {j : TypeInfo} {z : Value} {esz eby : Nat} (hd : P.underlying t = some (.slice el)) (hj : P.info? el = some j) (hz : j.zero = some z) (hjs : j.size = esz) (hjb : j.bytes = eby) (hzs : z.cells.size = esz)
    {A B : Option Addr} {n c m cb : Nat} {K : Option Addr → Nat → Nat → Hp → Prop} (hs : 0 < esz) (hh : Has w H) (h : appendF H el esz eby A n c B m K) :
    ∃ A' n' c' w' H', (Builtin.append_ #[t, t] ty #[.slice A n c, .slice B m cb]).run P w = .ok (.slice A' n' c') w' ∧ K A' n' c' H' ∧ Has w' H' ∧ Fr H w w' ∧ New H w H' := by
  obtain ⟨hb1, hb2, new, hnl, hnc, hn1, hroom, hgrow⟩ := h
  have hfn := cellsAt_w (P := P) hh hnc esz m m cb hnl
  have hsl : (match (TypeDesc.slice el) with | .int _ => true | _ => false) = false := rfl
  by_cases hle : n + m ≤ c
  · obtain ⟨h0, h1⟩ := hroom hle
    rcases Nat.eq_zero_or_pos m with hm | hm
    · subst hm
      have hnil : new = [] := List.eq_nil_of_length_eq_zero (by simpa using hnl)
      subst hnil
      have hle' : n ≤ c := hle
      refine ⟨A, n, c, w, H, ?_, h0 rfl, hh, ⟨rfl, rfl, rfl, Nat.le_refl _, fun _ _ _ => rfl, Nat.le_refl _⟩, fun b hb => .inl hb⟩
      cases A with
      | none => simp [Builtin.append_, run_underlying hd, sizeOf, typeInfo, hj, hjs, Builtin.lenOf, hfn, hle']
      | some a => simp [Builtin.append_, run_underlying hd, sizeOf, typeInfo, hj, hjs, Builtin.lenOf, hfn, hle', storeCells]
    · obtain ⟨b, o, cs, ty', rfl, hb, hfit, hk⟩ := h1 hm
      have hst := run_storeCells_at (P := P) b (o + n * esz) ty' new 0 cs.toArray w (hh b _ hb) (by rw [List.size_toArray, hnl]; rw [Nat.add_mul] at hfit; omega) hn1
      obtain ⟨a1, a2, a3⟩ := step_set (cs' := (setR cs (o + n * esz) new).toArray) hh hb
      refine ⟨_, _, _, _, _, ?_, hk, a1, a2, a3⟩
      simp only [Nat.add_zero] at hst
      simp [Builtin.append_, run_underlying hd, sizeOf, typeInfo, hj, hjs, Builtin.lenOf, hfn, hle, add_mk, hst, setR]
  · obtain ⟨old, hol, hoc, hk⟩ := hgrow (by omega)
    have hml : (9223372036854775807 : Nat) = maxLen := by simp only [maxLen]
    have hcm : grownCap w (n + m) c el ≤ maxLen := grownCap_le_maxLen w (n + m) c el (by rw [← hml]; omega)
    have hge := grownCap_ge w (n + m) c el
    have hdr : Has w.drew H := hh
    have hfo := cellsAt_w (P := P) hdr hoc esz n n c hol
    have hfn' := cellsAt_w (P := P) hdr hnc esz m m cb hnl
    have hrl : (Builtin.zeroCells z.cells (grownCap w (n + m) c el - (n + m))).toList.length = (grownCap w (n + m) c el - (n + m)) * esz := by
      rw [Array.length_toList, size_zeroCells, hzs]
    have hkk := hk w.heap.size (grownCap w (n + m) c el) (Builtin.zeroCells z.cells (grownCap w (n + m) c el - (n + m))).toList (has_none hh (Nat.le_refl _)) hge hcm hrl
    obtain ⟨a1, a2, a3⟩ := step_drew_new hh (.cells (old ++ new ++ (Builtin.zeroCells z.cells (grownCap w (n + m) c el - (n + m))).toList).toArray el (0, 0))
    refine ⟨_, _, _, _, _, ?_, hkk, a1, a2, a3⟩
    have hfit : ¬ (281474976710656 < Builtin.nextslicecap (n + m) c * eby) := by
      have := growslice_fits (need := n + m) (old := c) (by omega) hb1
      omega
    have h63 : ¬ (9223372036854775807 < ((n : Int) + (m : Int))) := by omega
    simp [Builtin.append_, run_underlying hd, sizeOf, typeInfo, hj, hjs, hjb, Builtin.lenOf, hle, hfit, h63, Question.forced, zeroValue, hz, newRow, hfo, hfn', grownCap]
    congr 2
    apply Array.ext'
    simp [List.append_assoc]
theorem range_flat (z : List Value) : ∀ n, ((Array.range (n * z.length)).map fun i => z.toArray[i % z.toArray.size]!).toList = (List.replicate n z).flatten := by
  intro n
  rw [Array.toList_map, Array.toList_range]
  induction n with
  | zero => simp
  | succ n ih =>
    rw [Nat.add_mul, Nat.one_mul, List.range_add, List.map_append, ih, List.replicate_succ', List.flatten_append]
    congr 1
    simp only [List.flatten_cons, List.flatten_nil, List.append_nil, List.map_map]
    apply List.ext_getElem
    · simp
    · intro i h1 h2
      simp only [List.getElem_map, List.getElem_range, Function.comp, List.size_toArray]
      rw [Nat.mul_comm n, Nat.mul_add_mod, Nat.mod_eq_of_lt h2]
      simp [h2]
theorem run_append_zeros {t u el ty : TypeId} {ud : TypeDesc} {uk : IntKind} {j : TypeInfo} {z : Value} {esz eby : Nat} {zs : List Value} (hd : P.underlying t = some (.slice el)) (hud : P.underlying u = some ud) (huk : ud = .int uk) (hj : P.info? el = some j) (hz : j.zero = some z) (hjs : j.size = esz) (hjb : j.bytes = eby)
    (hzc : z.cells = zs.toArray) (hzl : zs.length = esz) {A : Option Addr} {n c : Nat} {k : Int} {K : Option Addr → Nat → Nat → Hp → Prop} (hs : 0 < esz) (hh : Has w H) (h : appendZF H el esz eby zs A n c k K) :
    ∃ A' n' c' w' H', (Builtin.append_ #[t, u] ty #[.slice A n c, .int .i64 k]).run P w = .ok (.slice A' n' c') w' ∧ K A' n' c' H' ∧ Has w' H' ∧ Fr H w w' ∧ New H w H' := by
  obtain ⟨hk0, hgt, hb1, hb2, old, hol, hoc, hk⟩ := h
  subst huk
  have hwr : IntKind.i64.wrap k = k := by
    unfold IntKind.wrap
    simp [IntKind.bits, IntKind.signed]
    omega
  obtain ⟨m, rfl⟩ : ∃ m : Nat, k = m := ⟨k.toNat, by omega⟩
  rw [Int.toNat_natCast] at hgt hb1 hb2 hk
  have hml : (9223372036854775807 : Nat) = maxLen := by simp only [maxLen]
  have hcm : grownCap w (n + m) c el ≤ maxLen := grownCap_le_maxLen w (n + m) c el (by rw [← hml]; omega)
  have hge := grownCap_ge w (n + m) c el
  have hdr : Has w.drew H := hh
  have hfo := cellsAt_w (P := P) hdr hoc esz n n c hol
  have hzs : z.cells.size = esz := by rw [hzc, List.size_toArray]; exact hzl
  have hrl : (Builtin.zeroCells z.cells (grownCap w (n + m) c el - (n + m))).toList.length = (grownCap w (n + m) c el - (n + m)) * esz := by
    rw [Array.length_toList, size_zeroCells, hzs]
  have hflat : (Builtin.zeroCells z.cells m).toList = (List.replicate m zs).flatten := by
    rw [hzc]
    unfold Builtin.zeroCells
    have := range_flat zs m
    rw [List.size_toArray]
    exact this
  have hkk := hk w.heap.size (grownCap w (n + m) c el) (Builtin.zeroCells z.cells (grownCap w (n + m) c el - (n + m))).toList (has_none hh (Nat.le_refl _)) hge hcm hrl
  obtain ⟨a1, a2, a3⟩ := step_drew_new hh (.cells (old ++ (List.replicate m zs).flatten ++ (Builtin.zeroCells z.cells (grownCap w (n + m) c el - (n + m))).toList).toArray el (0, 0))
  refine ⟨_, _, _, _, _, ?_, hkk, a1, a2, a3⟩
  have hfit : ¬ (281474976710656 < Builtin.nextslicecap (n + m) c * eby) := by
    have := growslice_fits (need := n + m) (old := c) (by omega) hb1
    omega
  have hle : ¬ (n + m ≤ c) := by omega
  have h63 : ¬ (9223372036854775807 < ((n : Int) + (m : Int))) := by omega
  have hmul : (m : Int) * (eby : Int) ≤ 140737488355328 := by
    have h1 : m * eby ≤ (n + m) * eby := Nat.mul_le_mul_right _ (by omega)
    have h2 : m * eby ≤ 140737488355328 := Nat.le_trans h1 hb1
    rw [← Int.natCast_mul]; omega
  have h48 : ¬ (281474976710656 < (m : Int) * (eby : Int)) := by omega
  have hm0 : ¬ (m = 0) := by omega
  have hneg : ¬ ((m : Int) < 0) := by omega
  have hme : ¬ (m * esz = 0) := fun h => by rcases Nat.mul_eq_zero.1 h with h | h <;> omega
  have hai : (asInt (.int .i64 (m : Int))).run P w = .ok (m : Int) w := by simp [asInt, asIntOf]
  simp [Builtin.append_, run_underlying hd, run_underlying hud, sizeOf, typeInfo, hj, hjs, hjb, hle, hfit, h63, h48, hai, hwr, hneg, hme, Question.forced, zeroValue, hz, newRow, hfo, grownCap]
  congr 2
  apply Array.ext'
  simp [List.append_assoc, hflat]
theorem run_newRow (el : TypeId) (cs : Array Value) (w : World) : (newRow el cs).run P w = .ok ⟨w.heap.size, 0, none⟩ (w.alloc (.cells cs el)) := by
  simp [newRow]
theorem run_newVar (el : TypeId) (v : Value) (w : World) : (newVar el v).run P w = .ok ⟨w.heap.size, 0, none⟩ (w.alloc (.cells v.cells el)) := by
  simp [newVar, run_newRow]
theorem shape1_some {T : List (Nat × TI)} {t : Nat} {K : Value → Prop} (h : shape1 T t K) : ∃ v, K v := by
  obtain ⟨i, _, h⟩ := onTI_some h
  obtain ⟨vs, h⟩ := leafEs_some h
  obtain ⟨v, _, h⟩ := mkV_some h
  exact ⟨v, h⟩
theorem shapes_some {T : List (Nat × TI)} : ∀ {ts : List Nat} {K : List Value → Prop}, shapes T ts K → ∃ vs, K vs
  | [], K, h => ⟨_, h⟩
  | t :: r, K, h => by
    obtain ⟨v, h⟩ := shape1_some h
    obtain ⟨vs, h⟩ := shapes_some h
    exact ⟨_, h⟩
theorem shapeR_some {T : List (Nat × TI)} {ts : List Nat} {K : Value → Prop} (h : shapeR T ts K) : ∃ v, K v := by
  unfold shapeR at h
  split at h
  · exact shape1_some h
  · obtain ⟨vs, h⟩ := shapes_some h
    exact ⟨_, h⟩
end

section
variable {c : Cx} {H0 : Hp} {w0 : World} {β : Nat → Nat} {e : Env} {V : VSt} {H : Hp} {a : Act} {w : World} {o : Oper}
/-- A new variable beside the heap. -/
theorem Sim.alloc (S : Sim c.n H0 w0 β e V H a w) (d : Nat) (rw_ : Bool) (cs : List Value) (ty : Nat) :
    Sim c.n H0 w0 (fun x => if x = d then w.heap.size else β x) (fin c.n (some d) (some (.loc d 0)) (forget d e)) (upd d (rw_, cs) V) H (a.put (some d) (.pointer (some ⟨w.heap.size, 0, none⟩))) (w.alloc (.cells cs.toArray ty)) := by
  have hE : EnvOk (fun x => if x = d then w.heap.size else β x) (forget d e) a := by
    intro t av ht
    obtain ⟨h1, h2⟩ := forget_some ht
    rw [S.env t av h1]
    cases av with
    | v x => rfl
    | loc k o =>
      have hk : k ≠ d := fun hk => h2 o (by rw [hk])
      simp [AV.conc, hk]
  have hlt : ∀ k x, V k = some x → β k < w.heap.size := fun k x hx => by
    obtain ⟨⟨ty, h1⟩, _, _⟩ := S.box k x hx
    exact (Array.getElem?_eq_some_iff.1 h1).1
  have hsz : w.heap.size ≤ (w.alloc (.cells cs.toArray ty)).heap.size := by simp
  refine ⟨(put_size a _ _).trans S.size, fin_env hE S.size (some d) (by simp [AV.conc]), fun k x hx => ?_, fun k k' hk hk' hb => ?_, fun b p hb => ?_, (put_defers a _ _).trans S.defers, ?_, S.new⟩
  · rcases upd_some hx with ⟨rfl, rfl⟩ | ⟨hne, hx⟩
    · refine ⟨⟨ty, ?_⟩, ?_, ?_⟩
      · simp only [if_true]; exact heap_alloc_new w _
      · simp only [if_true]; exact has_none S.has (Nat.le_refl _)
      · simp only [if_true]; exact S.fr.2.2.2.1
    · obtain ⟨⟨ty', h1⟩, h2, h3⟩ := S.box k x hx
      simp only [hne, if_false]
      exact ⟨⟨ty', by rw [heap_alloc_old w _ (hlt k x hx)]; exact h1⟩, h2, h3⟩
  · by_cases h1 : k = d
    · by_cases h2 : k' = d
      · rw [h1, h2]
      · exfalso
        rw [upd_other h2] at hk'
        cases hv : V k' with
        | none => exact hk' hv
        | some x =>
          have := hlt k' x hv
          simp only [h1, if_true, h2, if_false] at hb
          omega
    · rw [upd_other h1] at hk
      by_cases h2 : k' = d
      · exfalso
        cases hv : V k with
        | none => exact hk hv
        | some x =>
          have := hlt k x hv
          simp only [h1, if_false, h2, if_true] at hb
          omega
      · rw [upd_other h2] at hk'
        simp only [h1, h2, if_false] at hb
        exact S.inj k k' hk hk' hb
  · rw [heap_alloc_old w _ (has_lt S.has hb)]; exact S.has b p hb
  · obtain ⟨a1, a2, a3, a4, a5, a6⟩ := S.fr
    exact ⟨a1, a2, a3, Nat.le_trans a4 hsz, fun b hb h0 => by rw [heap_alloc_old w _ (Nat.lt_of_lt_of_le hb a4)]; exact a5 b hb h0, a6⟩
/-- A store into a variable beside the heap. -/
theorem Sim.vstore (S : Sim c.n H0 w0 β e V H a w) {k : Nat} {r : Bool} {cs cs' : List Value} (hk : V k = some (r, cs)) :
    Sim c.n H0 w0 β e (upd k (r, cs') V) H a (w.setRow (β k) cs'.toArray) := by
  obtain ⟨⟨ty, h1⟩, h2, h3⟩ := S.box k _ hk
  have hne : ∀ b p, H b = some p → b ≠ β k := fun b p hb e => by rw [e, h2] at hb; cases hb
  refine { S with box := fun k' x hx => ?_, inj := fun x y hx hy hb => ?_, has := fun b p hb => ?_, fr := ?_ }
  · rcases upd_some hx with ⟨rfl, rfl⟩ | ⟨hn, hx⟩
    · exact ⟨⟨ty, setRow_heap w _ _ _ _ _ h1⟩, h2, h3⟩
    · obtain ⟨⟨ty', g1⟩, g2, g3⟩ := S.box k' x hx
      have hb : β k' ≠ β k := fun he => hn (S.inj k' k (by rw [hx]; simp) (by rw [hk]; simp) he)
      exact ⟨⟨ty', by rw [setRow_other _ _ _ _ hb]; exact g1⟩, g2, g3⟩
  · refine S.inj x y ?_ ?_ hb
    · by_cases h : x = k
      · rw [h, hk]; simp
      · rw [upd_other h] at hx; exact hx
    · by_cases h : y = k
      · rw [h, hk]; simp
      · rw [upd_other h] at hy; exact hy
  · rw [setRow_other _ _ _ _ (hne b p hb)]; exact S.has b p hb
  · obtain ⟨a1, a2, a3, a4, a5, a6⟩ := S.fr
    exact ⟨a1, a2, a3, by simpa using a4, fun b hb h0 => by rw [setRow_other _ _ _ _ (by omega)]; exact a5 b hb h0, a6⟩

theorem wp_value {K : Act → World → Prop} {Q : Exit → Act → World → Prop} {v : Value} {w' : World} (h : (execOp a.eval o).run c.P w = .ok (.value v) w') (hk : K (a.put o.dst v) w') : o.wp c.P a w K Q := by
  unfold Oper.wp; rw [h]; exact hk
theorem wp_skipv {K : Act → World → Prop} {Q : Exit → Act → World → Prop} {w' : World} (h : (execOp a.eval o).run c.P w = .ok .skip w') (hk : K (a.put o.dst undef) w') : o.wp c.P a w K Q := by
  unfold Oper.wp; rw [h]; exact hk

theorem run_callFunc {P : Program} {f : FuncId} (h : FnOk P f) (args : Array Value) (w : World) : (callFunc f args).run P w = .ok (.enter f args) w := by
  obtain ⟨fn, h1, h2, h3⟩ := h
  simp only [callFunc, Sem.run_bind, run_program, Result.andThen_ok, h1, h2, h3, Bool.false_eq_true, if_false, Sem.run_pure]

/-- What an operation leaves alone. -/
structure Eff (o : Oper) (e : Env) (β : Nat → Nat) (V : VSt) (H : Hp) (w : World) (β' : Nat → Nat) (e' : Env) (V' : VSt) (H' : Hp) (w' : World) : Prop where
  size : w.heap.size ≤ w'.heap.size
  env : ∀ t av, e' t = some av → e t = some av
  beside : ∀ b, b < w.heap.size → H b = none → (∀ k, vstK e o.op = some k → V k ≠ none → b ≠ β k) → w'.heap[b]? = w.heap[b]?
  none' : ∀ b, b < w.heap.size → H b = none → H' b = none
  heap : (efOf o.op = .write → vstK e o.op ≠ none) → ∀ b, H b ≠ none → w'.heap[b]? = w.heap[b]? ∧ H' b ≠ none
  beta : ∀ k, V' k ≠ none → (V k ≠ none ∧ β' k = β k) ∨ w.heap.size ≤ β' k
theorem Eff.same {β β' : Nat → Nat} (hb : β' = β) : Eff o e β V H w β' e V H w := by
  subst hb
  exact ⟨Nat.le_refl _, fun _ _ h => h, fun _ _ _ _ => rfl, fun _ _ h => h, fun _ _ h => ⟨rfl, h⟩, fun k hk => .inl ⟨hk, rfl⟩⟩
theorem Eff.write {w' : World} {H' : Hp} (hf : Fr H w w') (hn : New H w H') (hw : efOf o.op = .write) (hv : vstK e o.op = none) : Eff o e β V H w β e V H' w' := by
  refine ⟨hf.2.2.2.1, fun _ _ h => h, fun b hb h0 _ => hf.2.2.2.2.1 b hb h0, fun b hb h0 => ?_, fun h => absurd hv (h hw), fun k hk => .inl ⟨hk, rfl⟩⟩
  cases hh : H' b with
  | none => rfl
  | some p =>
    rcases hn b (by rw [hh]; simp) with h1 | h1
    · exact absurd h0 h1
    · omega
theorem Eff.new (hs : Has w H) (p : Obj) : Eff o e β V H w β e V (upd w.heap.size p H) (w.alloc p) := by
  refine ⟨by simp, fun _ _ h => h, fun b hb _ _ => heap_alloc_old w p hb, fun b hb h0 => ?_, fun _ b hb => ?_, fun k hk => .inl ⟨hk, rfl⟩⟩
  · rw [upd_other (by omega)]; exact h0
  · cases hh : H b with
    | none => exact absurd hh hb
    | some q =>
      have := has_lt hs hh
      refine ⟨heap_alloc_old w p this, ?_⟩
      rw [upd_other (by omega), hh]
      simp
theorem Eff.valloc (hs : Has w H) (d : Nat) (x : Bool × List Value) (p : Obj) : Eff o e β V H w (fun x => if x = d then w.heap.size else β x) (forget d e) (upd d x V) H (w.alloc p) := by
  refine ⟨by simp, fun _ _ h => (forget_some h).1, fun b hb _ _ => heap_alloc_old w p hb, fun _ _ h => h, fun _ b hb => ⟨?_, hb⟩, fun k hk => ?_⟩
  · cases hh : H b with
    | none => exact absurd hh hb
    | some q => exact heap_alloc_old w p (has_lt hs hh)
  · by_cases h : k = d
    · right; simp [h]
    · rw [upd_other h] at hk
      exact .inl ⟨hk, by simp [h]⟩
theorem Eff.vstore (S : Sim c.n H0 w0 β e V H a w) {k : Nat} {x y : Bool × List Value} (hk : V k = some x) (hv : vstK e o.op = some k) (cs : Array Value) : Eff o e β V H w β e (upd k y V) H (w.setRow (β k) cs) := by
  obtain ⟨_, h2, _⟩ := S.box k _ hk
  refine ⟨by simp, fun _ _ h => h, fun b _ _ h => setRow_other _ _ _ _ (h k hv (by rw [hk]; simp)), fun _ _ h => h, fun _ b hb => ⟨setRow_other _ _ _ _ (fun he => hb (by rw [he]; exact h2)), hb⟩, fun j hj => .inl ⟨?_, rfl⟩⟩
  by_cases h : j = k
  · rw [h, hk]; simp
  · rw [upd_other h] at hj; exact hj

theorem wOp_pure (hT : ∀ t i, look t c.T = some i → TiOk c.P t i) (S : Sim c.n H0 w0 β e V H a w) {K : Option AV → Env → VSt → Hp → Prop} (h : wPure c.T o.op e fun av => K (some av) e V H) {next : Act → World → Prop} {Q : Exit → Act → World → Prop}
    (hn : ∀ β' av e' V' H' a' w', K av e' V' H' → Sim c.n H0 w0 β' (fin c.n o.dst av e') V' H' a' w' → Eff o e β V H w β' e' V' H' w' → next a' w') : o.wp c.P a w next Q := by
  obtain ⟨av, hk, hg⟩ := wPure_sound hT h S.env
  exact wp_value (hg w o.dst o.type o.pos o.after o.guard) (hn β _ _ _ _ _ _ hk (S.put o.dst rfl) (Eff.same rfl))

theorem TiOk.zero {P : Program} {t : Nat} {i : TI} (h : TiOk P t i) : ∃ j z, P.info? t = some j ∧ j.zero = some z ∧ z.cells = i.zs.toArray ∧ j.size = i.zs.length := by
  obtain ⟨j, hj, hjz, hjs⟩ := h.info
  refine ⟨j, _, hj, hjz, ?_, hjs⟩
  cases hag : i.agg with
  | true => rfl
  | false =>
    obtain ⟨v, hv, h1⟩ := h.one hag
    rw [hv]
    simp only [List.headD_cons]
    rw [cellsL_eq]
    cases v <;> first | rfl | simp [one1] at h1

theorem wOp_builtin (hT : ∀ t i, look t c.T = some i → TiOk c.P t i) {dst : Option Tmp} {b : Builtin} {args : Array Operand} {ats : Array TypeId} {ty : TypeId} {pos : String} {af : Array Edge} {g : Option (Nat × Bool)}
    (S : Sim c.n H0 w0 β e V H a w) {K : Option AV → Env → VSt → Hp → Prop} (hw : wOp c ⟨dst, .call ⟨.builtin b, args, ats⟩, ty, pos, af, g⟩ e V H K) {next : Act → World → Prop} {Q : Exit → Act → World → Prop}
    (hn : ∀ β' av e' V' H' a' w', K av e' V' H' → Sim c.n H0 w0 β' (fin c.n dst av e') V' H' a' w' → Eff ⟨dst, .call ⟨.builtin b, args, ats⟩, ty, pos, af, g⟩ e β V H w β' e' V' H' w' → next a' w') : Oper.wp c.P ⟨dst, .call ⟨.builtin b, args, ats⟩, ty, pos, af, g⟩ a w next Q := by
  cases b with
  | len =>
    obtain ⟨vs, hvs, h⟩ := withVs_some S.env hw
    have hm : args.map a.eval = vs.toArray := by apply Array.ext'; rw [Array.toList_map]; exact hvs
    split at h
    · rename_i t v hts
      obtain ⟨i, hi, h⟩ := onTI_some h
      obtain ⟨d, hd, hag, hk⟩ := (hT t i hi).desc
      have hat : ats = #[t] := by apply Array.ext'; exact hts
      subst hat
      split at h
      · rename_i el esz eby A n cp hkn _
        rw [hkn] at hk
        cases hk.1
        refine wp_value (w' := w) ?_ (hn β _ _ _ _ _ _ h (S.put dst rfl) (Eff.same rfl))
        simp [execOp, resolve, hm, invoke, builtin, Builtin.len_, run_underlying hd, goInt, AV.conc]
      · rename_i s hkn _
        rw [hkn] at hk
        cases (hk : d = .string)
        refine wp_value (w' := w) ?_ (hn β _ _ _ _ _ _ h (S.put dst rfl) (Eff.same rfl))
        simp [execOp, resolve, hm, invoke, builtin, Builtin.len_, run_underlying hd, goInt, AV.conc]
      · exact h.elim
    · exact h.elim
  | append =>
    obtain ⟨vs, hvs, h⟩ := withVs_some S.env hw
    have hm : args.map a.eval = vs.toArray := by apply Array.ext'; rw [Array.toList_map]; exact hvs
    split at h
    · rename_i t u A n cp B m cb hts
      split at h
      · rename_i htu
        cases Nat.eq_of_beq_eq_true htu
        obtain ⟨i, hi, h⟩ := onTI_some h
        obtain ⟨d, hd, hag, hk⟩ := (hT t i hi).desc
        have hat : ats = #[t, t] := by apply Array.ext'; exact hts
        subst hat
        split at h
        · rename_i el esz eby hkn
          rw [hkn] at hk
          obtain ⟨rfl, jj, zz, hj, hjs, hjb, hjz, hzs⟩ := hk
          split at h
          · exact h.elim
          · rename_i q hq
            obtain ⟨A', n', c', w', H', hr, hk, g1, g2, g3⟩ := run_append_all (P := c.P) (ty := ty) (cb := cb) hd hj hjz hjs hjb hzs (by omega) S.has h
            refine wp_value (v := .slice A' n' c') (w' := w') ?_ (hn β _ _ _ _ _ _ hk ((S.step g1 g2 g3).put dst rfl) (Eff.write g2 g3 rfl rfl))
            simp [execOp, resolve, hm, invoke, builtin, hr]
        · exact h.elim
      · exact h.elim
    · rename_i t u A n cp k hts
      obtain ⟨i, hi, h⟩ := onTI_some h
      obtain ⟨ui, hui, h⟩ := onTI_some h
      obtain ⟨d, hd, hag, hk⟩ := (hT t i hi).desc
      obtain ⟨ud, hud, huag, huk⟩ := (hT u ui hui).desc
      have hat : ats = #[t, u] := by apply Array.ext'; exact hts
      subst hat
      split at h
      · rename_i el esz eby uk _ hkn hukn huzs
        rw [hkn] at hk
        rw [hukn, huzs] at huk
        obtain ⟨rfl, jj, zz, hj, hjs, hjb, hjz, hzs⟩ := hk
        obtain ⟨ei, hei, h⟩ := onTI_some h
        obtain ⟨j2, z2, hj2, hjz2, hzc2, hjs2⟩ := (hT el ei hei).zero
        rw [hj] at hj2
        cases hj2
        rw [hjz] at hjz2
        cases hjz2
        split at h
        · exact h.elim
        · rename_i q hq
          obtain ⟨A', n', c', w', H', hr, hk, g1, g2, g3⟩ := run_append_zeros (P := c.P) (ty := ty) (u := u) (ud := ud) hd hud huk hj hjz hjs hjb hzc2 (by rw [← hjs2, hjs]) (by omega) S.has h
          refine wp_value (v := .slice A' n' c') (w' := w') ?_ (hn β _ _ _ _ _ _ hk ((S.step g1 g2 g3).put dst rfl) (Eff.write g2 g3 rfl rfl))
          simp [execOp, resolve, hm, invoke, builtin, hr]
      · exact h.elim
    · exact h.elim
  | clear =>
    obtain ⟨vs, hvs, h⟩ := withVs_some S.env hw
    have hm : args.map a.eval = vs.toArray := by apply Array.ext'; rw [Array.toList_map]; exact hvs
    split at h
    · rename_i t A n cp hts
      obtain ⟨i, hi, h⟩ := onTI_some h
      obtain ⟨d, hd, hag, hk⟩ := (hT t i hi).desc
      have hat : ats = #[t] := by apply Array.ext'; exact hts
      subst hat
      split at h
      · rename_i el esz eby hkn
        rw [hkn] at hk
        obtain ⟨rfl, jj, zz, hj, hjs, hjb, hjz, hzs⟩ := hk
        obtain ⟨ei, hei, h⟩ := onTI_some h
        obtain ⟨j2, z2, hj2, hjz2, hzc2, hjs2⟩ := (hT el ei hei).zero
        rcases Nat.eq_zero_or_pos n with hn0 | hn0
        · subst hn0
          refine wp_value (v := .tuple #[]) (w' := w) ?_ (hn β _ _ _ _ _ _ (h.1 rfl) (S.put dst rfl) (Eff.same rfl))
          cases A <;> simp [execOp, resolve, hm, invoke, builtin, Builtin.clear_, run_underlying hd]
        · obtain ⟨b, o, rfl, cs, ty', hb, hfit, hk⟩ := onPtr_some (h.2 hn0)
          have hz : (Builtin.zeroCells z2.cells n).toList = (List.replicate n ei.zs).flatten := by
            rw [hzc2]
            unfold Builtin.zeroCells
            have := range_flat ei.zs n
            rw [List.size_toArray]
            exact this
          have hone : ∀ v ∈ (List.replicate n ei.zs).flatten, v.oneCell' = true := by
            intro v hv
            obtain ⟨l, hl, hv⟩ := List.mem_flatten.1 hv
            rw [List.eq_of_mem_replicate hl] at hv
            exact allOne_mem (hT el ei hei).ones v hv
          have hst := run_storeCells_at (P := c.P) b o ty' (List.replicate n ei.zs).flatten 0 cs.toArray w (S.has b _ hb) (by rw [List.size_toArray]; omega) hone
          obtain ⟨a1, a2, a3⟩ := step_set (cs' := (setR cs o (List.replicate n ei.zs).flatten).toArray) S.has hb
          refine wp_value (v := .tuple #[]) (w' := w.setRow b (setR cs o (List.replicate n ei.zs).flatten).toArray) ?_ (hn β _ _ _ _ _ _ hk ((S.step a1 a2 a3).put dst rfl) (Eff.write a2 a3 rfl rfl))
          have hne : ∀ (x : Addr) (y : Nat), (match (TypeDesc.slice el), (Value.slice (some x) n y) with | _, .slice _ 0 _ => true | _, _ => false) = false := by
            intro x y
            obtain ⟨q, rfl⟩ : ∃ q, n = q + 1 := ⟨n - 1, by omega⟩
            rfl
          obtain ⟨q, rfl⟩ : ∃ q, n = q + 1 := ⟨n - 1, by omega⟩
          simp only [Nat.add_zero] at hst
          simp [execOp, resolve, hm, invoke, builtin, Builtin.clear_, run_underlying hd, run_zeroValue hj2 hjz2, hz, hst, setR]
      · exact h.elim
    · exact h.elim
  | max =>
    obtain ⟨vs, hvs, h⟩ := withVs_some S.env hw
    have hm : args.map a.eval = vs.toArray := by apply Array.ext'; rw [Array.toList_map]; exact hvs
    split at h
    · rename_i k x k' y
      split at h
      · rename_i hsame
        cases sameK_eq hsame
        refine wp_value (w' := w) ?_ (hn β _ _ _ _ _ _ h (S.put dst rfl) (Eff.same rfl))
        simp [execOp, resolve, hm, invoke, builtin, Builtin.max_, Builtin.max2, AV.conc]
      · exact h.elim
    · exact h.elim
  | cap =>
    obtain ⟨vs, hvs, h⟩ := withVs_some S.env hw
    have hm : args.map a.eval = vs.toArray := by apply Array.ext'; rw [Array.toList_map]; exact hvs
    split at h
    · rename_i t A n cp hts
      obtain ⟨i, hi, h⟩ := onTI_some h
      obtain ⟨d, hd, hag, hk⟩ := (hT t i hi).desc
      have hat : ats = #[t] := by apply Array.ext'; exact hts
      subst hat
      split at h
      · rename_i el esz eby hkn
        rw [hkn] at hk
        cases hk.1
        refine wp_value (w' := w) ?_ (hn β _ _ _ _ _ _ h (S.put dst rfl) (Eff.same rfl))
        simp [execOp, resolve, hm, invoke, builtin, Builtin.cap_, run_underlying hd, goInt, AV.conc]
      · exact h.elim
    · exact h.elim
  | copy =>
    obtain ⟨vs, hvs, h⟩ := withVs_some S.env hw
    have hm : args.map a.eval = vs.toArray := by apply Array.ext'; rw [Array.toList_map]; exact hvs
    split at h
    · rename_i t u A n cp B m cb hts
      obtain ⟨i, hi, h⟩ := onTI_some h
      obtain ⟨d, hd, hag, hk⟩ := (hT t i hi).desc
      have hat : ats = #[t, u] := by apply Array.ext'; exact hts
      subst hat
      split at h
      · rename_i el esz eby hkn
        rw [hkn] at hk
        obtain ⟨rfl, jj, zz, hj, hjs, hjb, hjz, hzs⟩ := hk
        rcases Nat.eq_zero_or_pos (min m n) with h0 | h0
        · have hk := h.1 h0
          refine wp_value (v := .int .i64 (min m n)) (w' := w) ?_ (hn β _ _ _ _ _ _ hk (S.put dst rfl) (Eff.same rfl))
          have hf := cellsAt_w (P := c.P) (w := w) S.has (A := B) (l := []) (.inl rfl) esz 0 m cb (by simp)
          have h0' : Nat.min m n = 0 := h0
          cases A with
          | none => simp [execOp, resolve, hm, invoke, builtin, Builtin.copy_, run_underlying hd, Builtin.lenOf, h0, h0', sizeOf, typeInfo, hj, hjs, hf, goInt]; omega
          | some x => simp [execOp, resolve, hm, invoke, builtin, Builtin.copy_, run_underlying hd, Builtin.lenOf, h0, h0', sizeOf, typeInfo, hj, hjs, hf, goInt, storeCells]; omega
        · obtain ⟨new, hnl, hnc, hn1, h⟩ := h.2 h0
          obtain ⟨b, o, rfl, cs, ty', hb, hfit, hk⟩ := onPtr_some h
          have hf := cellsAt_w (P := c.P) S.has hnc esz (min m n) m cb hnl
          have hst := run_storeCells_at (P := c.P) b o ty' new 0 cs.toArray w (S.has b _ hb) (by rw [List.size_toArray]; omega) hn1
          obtain ⟨a1, a2, a3⟩ := step_set (cs' := (setR cs o new).toArray) S.has hb
          refine wp_value (v := .int .i64 (min m n)) (w' := w.setRow b (setR cs o new).toArray) ?_ (hn β _ _ _ _ _ _ hk ((S.step a1 a2 a3).put dst rfl) (Eff.write a2 a3 rfl rfl))
          simp only [Nat.add_zero] at hst
          have hmn : Nat.min m n = min m n := rfl
          simp [execOp, resolve, hm, invoke, builtin, Builtin.copy_, run_underlying hd, Builtin.lenOf, hmn, sizeOf, typeInfo, hj, hjs, hf, goInt, hst, setR]; omega
      · exact h.elim
    · exact h.elim
  | delete =>
    obtain ⟨vs, hvs, h⟩ := withVs_some S.env hw
    have hm : args.map a.eval = vs.toArray := by apply Array.ext'; rw [Array.toList_map]; exact hvs
    split at h
    · rename_i t us r k x hts
      obtain ⟨i, hi, h⟩ := onTI_some h
      obtain ⟨d, hd, hag, hk⟩ := (hT t i hi).desc
      have hat : ats = (t :: us).toArray := by apply Array.ext'; exact hts
      subst hat
      split at h
      · rename_i kt vt hkn
        rw [hkn] at hk
        cases (hk : d = .map kt vt)
        obtain ⟨ki, hki, h⟩ := onTI_some h
        obtain ⟨kd, hkd, hkag, hkk⟩ := (hT kt ki hki).desc
        split at h
        · rename_i k' _ hkkn hkzs
          split at h
          · rename_i hsame
            cases sameK_eq hsame
            rw [hkkn, hkzs] at hkk
            cases (hkk : kd = .int k)
            obtain ⟨b, es, clock, rfl, hb, hint, h⟩ := h
            obtain ⟨a1, a2, a3⟩ := step_obj S.has hb (delE x es clock)
            refine wp_value (v := .tuple #[]) (w' := setBlock w b (delE x es clock)) ?_ (hn β _ _ _ _ _ _ h ((S.step a1 a2 a3).put dst rfl) (Eff.write a2 a3 rfl rfl))
            simp [execOp, resolve, hm, invoke, builtin, run_delete hd hkd (S.has b _ hb) hint]
          · exact h.elim
        · exact h.elim
      · exact h.elim
    · exact h.elim
  | _ => exact hw.elim

theorem pairT_of {P : Program} {kt : Nat} {ki : TI} {l1 l2 : Nat} {ea : Bool} {k1 k2 k3 k4 : IntKind} {a1 a2 p q : Int} {cs : Array Value} (hok : TiOk P kt ki) (hkn : ki.kn = .array l1 l2 ea) (hzs : ki.zs = [.int k1 a1, .int k2 a2]) (hcs : cs.toList = [.int k3 p, .int k4 q])
    (hs : (ki.eqs && (sameK k1 .i64 && (sameK k2 .i64 && (sameK k3 .i64 && sameK k4 .i64)))) = true) : PairT P kt ∧ cs = #[.int .i64 p, .int .i64 q] := by
  simp only [Bool.and_eq_true] at hs
  obtain ⟨he, h1, h2, h3, h4⟩ := hs
  cases sameK_eq h1; cases sameK_eq h2; cases sameK_eq h3; cases sameK_eq h4
  obtain ⟨d, hd, hag, hk⟩ := hok.desc
  rw [hkn] at hk
  obtain ⟨el, j, du, rfl, hj, hjs, hdu, _⟩ := hk
  have hz := hok.eqs he
  obtain ⟨hn, ⟨j', hj', hs'⟩, hel, _⟩ := run_eq_key2 (x := 0) (y := 0) (a := 0) (b := 0) hz hzs hd
  refine ⟨⟨el, j', by rw [hd, hn], hj', hs', hel, fun x y a b w => (run_eq_key2 hz hzs hd).2.2.2 w⟩, ?_⟩
  have : cs.toList = (#[.int .i64 p, .int .i64 q] : Array Value).toList := hcs
  exact Array.ext' this
theorem updF_sound (hT : ∀ t i, look t c.T = some i → TiOk c.P t i) (S : Sim c.n H0 w0 β e V H a w) {K : Option AV → Env → VSt → Hp → Prop} {t : Nat} {m x y : Operand} {dst : Option Tmp} {op : Op} {ty : TypeId} {pos : String} {af : Array Edge} {g : Option (Nat × Bool)} (h : updF c e H t m x y fun H' => K none e V H')
    (ho : ∀ v m' k', a.eval m = m' → a.eval x = k' → a.eval y = v → (execOp a.eval ⟨dst, op, ty, pos, af, g⟩ : Sem Next) = (do Instr.mapUpdate t m' k' v; pure .skip)) (hw : efOf op = .write) (hv : vstK e op = none) {next : Act → World → Prop} {Q : Exit → Act → World → Prop}
    (hn : ∀ β' av e' V' H' a' w', K av e' V' H' → Sim c.n H0 w0 β' (fin c.n dst av e') V' H' a' w' → Eff ⟨dst, op, ty, pos, af, g⟩ e β V H w β' e' V' H' w' → next a' w') : Oper.wp c.P ⟨dst, op, ty, pos, af, g⟩ a w next Q := by
  obtain ⟨i, hi, h⟩ := onTI_some h
  obtain ⟨d, hd, hag, hk⟩ := (hT t i hi).desc
  split at h
  · rename_i kt vt hkn
    rw [hkn] at hk
    cases (hk : d = .map kt vt)
    obtain ⟨ki, hki, h⟩ := onTI_some h
    obtain ⟨kd, hkd, hkag, hkk⟩ := (hT kt ki hki).desc
    split at h
    · rename_i k' _ hkkn hkzs
      obtain ⟨mv, hmv, h⟩ := onV_some h
      obtain ⟨xv, hxv, h⟩ := onV_some h
      obtain ⟨v, hyv, h⟩ := onV_some h
      cases mv with
      | map r =>
       cases xv with
       | int k n =>
        dsimp only at h
        split at h
        · rename_i hsame
          cases sameK_eq hsame
          rw [hkkn, hkzs] at hkk
          cases (hkk : kd = .int k')
          obtain ⟨b, es, clock, rfl, hb, hint, h⟩ := h
          obtain ⟨a1, a2, a3⟩ := step_obj S.has hb (putE k' n v es clock)
          refine wp_skipv (w' := setBlock w b (putE k' n v es clock)) ?_ (hn β _ _ _ _ _ _ h ((S.step a1 a2 a3).putN dst undef) (Eff.write a2 a3 hw hv))
          rw [ho _ _ _ (ev_evalV S.env hmv) (ev_evalV S.env hxv) (ev_evalV S.env hyv)]
          simp [run_mapUpdate hd hkd (S.has b _ hb) hint]
        · exact h.elim
       | _ => exact False.elim h
      | _ => exact False.elim h
    · rename_i k1 a1 k2 a2 hkkn hkzs
      obtain ⟨mv, hmv, h1⟩ := onV_some h
      obtain ⟨xv, hxv, h2⟩ := onV_some h1
      obtain ⟨v, hyv, h3⟩ := onV_some h2
      clear h h1 h2
      have h := h3
      clear h3
      cases mv with
      | map r =>
       cases xv with
       | agg cs =>
        dsimp only at h
        split at h
        · rename_i k3 p k4 q hcs
          split at h
          · rename_i hsame
            obtain ⟨hPT, hcs'⟩ := pairT_of (hT kt ki hki) hkkn hkzs hcs hsame
            subst hcs'
            obtain ⟨b, es, clock, rfl, hb, hint, h⟩ := h
            obtain ⟨a1, a2, a3⟩ := step_obj S.has hb (putE2 p q v es clock)
            refine wp_skipv (w' := setBlock w b (putE2 p q v es clock)) ?_ (hn β _ _ _ _ _ _ h ((S.step a1 a2 a3).putN dst undef) (Eff.write a2 a3 hw hv))
            rw [ho _ _ _ (ev_evalV S.env hmv) (ev_evalV S.env hxv) (ev_evalV S.env hyv)]
            have := run_mapUpdate2 (x := p) (y := q) (v := v) hd hPT (S.has b _ hb) hint
            unfold key2 at this
            simp [this]
          · exact h.elim
        · exact h.elim
       | _ => exact False.elim h
      | _ => exact False.elim h
    · exact h.elim
  · exact h.elim
set_option maxHeartbeats 1000000 in
theorem wOp_sound (hT : ∀ t i, look t c.T = some i → TiOk c.P t i) (hR : (∀ f ts, look f c.R = some ts → FnOk c.P f) ∧ ∀ g, elemN g c.overs = true → OverOk c.P g) (S : Sim c.n H0 w0 β e V H a w) {K : Option AV → Env → VSt → Hp → Prop} (h : wOp c o e V H K) {next : Act → World → Prop} {Q : Exit → Act → World → Prop}
    (hn : ∀ β' av e' V' H' a' w', K av e' V' H' → Sim c.n H0 w0 β' (fin c.n o.dst av e') V' H' a' w' → Eff o e β V H w β' e' V' H' w' → next a' w') : o.wp c.P a w next Q := by
  obtain ⟨dst, op, ty, pos, af, g⟩ := o
  cases op with
  | load t x =>
    obtain ⟨i, hi, h⟩ := onTI_some h
    obtain ⟨p, hp, h⟩ := onAV_some h
    have hTi := hT t i hi
    split at h
    · rename_i k o
      split at h
      · rename_i x' hV
        split at h
        · rename_i hle
          have hle' := Nat.le_of_ble_eq_true hle
          obtain ⟨v, hv, h⟩ := mkV_some h
          obtain ⟨⟨ty', h1⟩, h2, h3⟩ := S.box k x' hV
          have hr := run_loadVar_ok (P := c.P) (w := w) hTi (b := β k) (o := o) (vs := (x'.2.drop o).take i.zs.length) (by rw [List.length_take, List.length_drop]; omega) (fun j u hj => by
            rw [cl_of w h1]
            rw [List.getElem?_take] at hj
            split at hj
            · rw [List.getElem?_drop] at hj; exact hj
            · cases hj) hv
          refine wp_value (v := v) (w' := w) ?_ (hn β _ _ _ _ _ _ h (S.put dst rfl) (Eff.same rfl))
          simp [execOp, ev_eval S.env hp, AV.conc, Instr.loadAt, Instr.sureAddr, hr]
        · exact h.elim
      · exact h.elim
    · obtain ⟨b, o, rfl, h⟩ := onPtr_some h
      split at h
      · exact h.elim
      rename_i hzs
      rw [← hzs] at h
      obtain ⟨vs, hl, hc, h⟩ := loadL_some h
      obtain ⟨v, hv, h⟩ := mkV_some h
      have hr := run_loadVar_ok (P := c.P) (w := w) hTi (b := b) (o := o) hl (fun j u hj => has_cell S.has (hc j u hj)) hv
      refine wp_value (v := v) (w' := w) ?_ (hn β _ _ _ _ _ _ h (S.put dst rfl) (Eff.same rfl))
      simp [execOp, ev_eval S.env hp, AV.conc, Instr.loadAt, Instr.sureAddr, hr]
    · exact h.elim
  | store t x y =>
    obtain ⟨i, hi, h⟩ := onTI_some h
    obtain ⟨v, hv, h⟩ := onV_some h
    have hTi := hT t i hi
    split at h
    · rename_i hl h1
      have hl' := Nat.eq_of_beq_eq_true hl
      obtain ⟨p, hp, h⟩ := onAV_some h
      split at h
      · rename_i k o
        split at h
        · rename_i cs hV
          split at h
          · rename_i hle
            have hle' := Nat.le_of_ble_eq_true hle
            obtain ⟨⟨ty', g1⟩, g2, g3⟩ := S.box k _ hV
            have hr := run_storeVar_ok (P := c.P) (w := w) hTi (b := β k) (o := o) g1 hl' h1 hle'
            refine wp_skipv (w' := w.setRow (β k) (setR cs o (cellsL v)).toArray) ?_ (hn β _ _ _ _ _ _ h ((S.vstore hV).putN dst undef) (Eff.vstore S hV (by simp [vstK, hp]) _))
            simp [execOp, ev_eval S.env hp, ev_evalV S.env hv, AV.conc, Instr.storeAt, Instr.sureAddr, hr]
          · exact h.elim
        · exact h.elim
      · obtain ⟨b, o, rfl, h⟩ := onPtr_some h
        obtain ⟨cs, ty', hb, hfit, h⟩ := h
        have hr := run_storeVar_ok (P := c.P) (w := w) hTi (b := b) (o := o) (S.has b _ hb) hl' h1 hfit
        obtain ⟨a1, a2, a3⟩ := step_set (cs' := (setR cs o (cellsL v)).toArray) S.has hb
        refine wp_skipv (w' := w.setRow b (setR cs o (cellsL v)).toArray) ?_ (hn β _ _ _ _ _ _ h ((S.step a1 a2 a3).putN dst undef) (Eff.write a2 a3 rfl (by simp [vstK, hp])))
        simp [execOp, ev_eval S.env hp, ev_evalV S.env hv, AV.conc, Instr.storeAt, Instr.sureAddr, hr]
      · exact h.elim
    · exact h.elim
  | alloc t =>
    obtain ⟨i, hi, h⟩ := onTI_some h
    obtain ⟨j, z, hj, hjz, hzc, hjs⟩ := (hT t i hi).zero
    have hrun : (execOp a.eval ⟨dst, .alloc t, ty, pos, af, g⟩).run c.P w = .ok (.value (.pointer (some ⟨w.heap.size, 0, none⟩))) (w.alloc (.cells i.zs.toArray t)) := by
      simp only [execOp, Instr.alloc, Sem.run_bind, run_zeroValue hj hjz, Result.andThen_ok, run_newVar, hzc, Sem.run_pure]
    cases dst with
    | none => exact h.elim
    | some d =>
      cases hl : look d c.virt with
      | some rw_ =>
        simp only [hl] at h
        exact wp_value hrun (hn _ _ _ _ _ _ _ h (S.alloc d _ i.zs t) (Eff.valloc S.has d _ _))
      | none =>
        simp only [hl] at h
        have hk := h w.heap.size (has_none S.has (Nat.le_refl _))
        obtain ⟨a1, a2, a3⟩ := step_new S.has (.cells i.zs.toArray t (0, 0))
        exact wp_value hrun (hn _ _ _ _ _ _ _ hk ((S.step a1 a2 a3).put (some d) rfl) (Eff.new S.has _))
  | box t x =>
    obtain ⟨i, hi, h⟩ := onTI_some h
    obtain ⟨v, hv, h⟩ := onV_some h
    have hrun : (execOp a.eval ⟨dst, .box t x, ty, pos, af, g⟩).run c.P w = .ok (.value (.pointer (some ⟨w.heap.size, 0, none⟩))) (w.alloc (.cells (cellsL v).toArray t)) := by
      simp only [execOp, Instr.box, Sem.run_bind, ev_evalV S.env hv, run_newVar, Result.andThen_ok, cellsL_eq, Sem.run_pure]
    cases dst with
    | none =>
      simp only at h
      split at h
      · rename_i hh; cases hh
      · exact h.elim
    | some d =>
      simp only at h
      split at h
      · rename_i d' _ _ hd
        cases hd
        cases hl : look d c.virt with
        | some rw_ =>
          simp only [hl] at h
          exact wp_value hrun (hn _ _ _ _ _ _ _ h (S.alloc d _ (cellsL v) t) (Eff.valloc S.has d _ _))
        | none =>
          simp only [hl] at h
          have hk := h w.heap.size (has_none S.has (Nat.le_refl _))
          obtain ⟨a1, a2, a3⟩ := step_new S.has (.cells (cellsL v).toArray t (0, 0))
          exact wp_value hrun (hn _ _ _ _ _ _ _ hk ((S.step a1 a2 a3).put (some d) rfl) (Eff.new S.has _))
      · exact h.elim
  | buildSlice t len ps =>
    obtain ⟨i, hi, h⟩ := onTI_some h
    obtain ⟨vs, hvs, h⟩ := pairVs_some S.env h
    obtain ⟨d, hd, hag, hk⟩ := (hT t i hi).desc
    have hps : (ps.map fun (p : Nat × Operand) => (p.1, a.eval p.2)).toList = vs := by rw [Array.toList_map]; exact hvs
    split at h
    · rename_i el esz eby hkn
      rw [hkn] at hk
      obtain ⟨rfl, jj, zz, hj, hjs, hjb, hjz, hzs⟩ := hk
      obtain ⟨ei, hei, h⟩ := onTI_some h
      obtain ⟨j2, z2, hj2, hjz2, hzc2, hjs2⟩ := (hT el ei hei).zero
      rw [hj] at hj2
      cases hj2
      rw [hjz] at hjz2
      cases hjz2
      split at h
      · rename_i cs hcs hle
        have hle' := Nat.le_of_ble_eq_true hle
        have hlen : ei.zs.length = esz := by rw [← hjs2, hjs]
        have hk := h w.heap.size (has_none S.has (Nat.le_refl _))
        obtain ⟨a1, a2, a3⟩ := step_new S.has (.cells cs.toArray el (0, 0))
        have hfill := run_fillA hcs
        have hflat := range_flat ei.zs len
        rw [hlen] at hflat
        refine wp_value ?_ (hn _ _ _ _ _ _ _ hk ((S.step a1 a2 a3).put dst rfl) (Eff.new S.has _))
        have hno : ¬ (len * esz > 2 ^ 24) := by omega
        have harr : ((Array.range (len * esz)).map fun i => ei.zs.toArray[i % ei.zs.toArray.size]!) = (List.replicate len ei.zs).flatten.toArray := by
          apply Array.ext'; rw [hflat]
        simp only [execOp, Instr.buildSlice, Sem.run_bind, run_underlying hd, Result.andThen_ok, run_sizeOf hj, hjs, hno, if_false, Sem.run_pure, hps]
        by_cases h0 : len * esz = 0
        · have hnil : (List.replicate len ei.zs).flatten = [] := List.eq_nil_of_length_eq_zero (by rw [← hflat]; simp [h0])
          rw [hnil] at hfill
          have h00 : ∀ f : Nat → Value, Array.map f (Array.range 0) = #[] := fun f => Array.ext' (by rw [Array.toList_map, Array.toList_range]; rfl)
          simp only [h0, if_true, Sem.run_pure, Result.andThen_ok, h00]
          simp only [hfill, Sem.run_bind, run_newRow, Result.andThen_ok, Sem.run_pure, AV.conc]
        · simp only [h0, if_false, Sem.run_bind, run_zeroValue hj hjz, Result.andThen_ok, Sem.run_pure, hzc2, harr, hfill, run_newRow, AV.conc]
      · exact h.elim
    · exact h.elim
  | call cc =>
    obtain ⟨callee, args, ats⟩ := cc
    cases callee with
    | value f =>
      obtain ⟨fv, hf, h⟩ := onV_some h
      obtain ⟨vs, hvs, h⟩ := withVs_some S.env h
      split at h
      · rename_i g' first cap _
        have hm : args.map a.eval = vs.toArray := by apply Array.ext'; rw [Array.toList_map]; exact hvs
        have ha : (first ++ vs.toArray) ++ cap = (first.toList ++ vs ++ cap.toList).toArray := by apply Array.ext'; simp
        have hrun : FnOk c.P g' → (execOp a.eval ⟨dst, .call ⟨.value f, args, ats⟩, ty, pos, af, g⟩).run c.P w = .ok (.enter g' (first.toList ++ vs ++ cap.toList).toArray) w := fun hok => by
          simp only [execOp, resolve, ev_evalV S.env hf, hm, Deferred.ofValue, Sem.run_bind, Sem.run_pure, Result.andThen_ok, invoke, ha]
          exact run_callFunc hok _ w
        have key : ∀ {R : Value → Hp → Prop}, FnOk c.P g' → HCalls c.P g' (first.toList ++ vs ++ cap.toList) H R → (∀ v H', R v H' → K (some (.v v)) e V H') → Oper.wp c.P ⟨dst, .call ⟨.value f, args, ats⟩, ty, pos, af, g⟩ a w next Q := fun hok hcall hR => by
          unfold Oper.wp
          rw [hrun hok]
          refine Calls.mono (hcall w S.has) ?_
          rintro e1 w1 ⟨v, H', rfl, hq, g1, g2, g3⟩
          exact hn _ _ _ _ _ _ _ (hR v H' hq) ((S.step g1 g2 g3).put dst rfl) (Eff.write g2 g3 rfl rfl)
        split at h
        · obtain ⟨hok, h⟩ := h
          split at h
          · refine key hok h fun v H' hq => ?_
            obtain ⟨us, hq⟩ := leafEs_some hq
            obtain ⟨v', _, rfl, hq⟩ := mkV_some hq
            exact hq
          · exact key hok h fun v H' hq => hq
        split at h
        · rename_i hov
          obtain ⟨fn, tS, tR, el, j, h1, h2, h3, h4, h5, h6, h7⟩ := hR.2 g' hov
          split at h
          · rename_i A _ _ B _ _ hargs
            obtain ⟨ba, oa, hA, h'⟩ := onPtr_some h
            obtain ⟨bb, ob, hB, h''⟩ := onPtr_some h'
            obtain ⟨hne, ⟨csa, tya, ha'⟩, ⟨csb, tyb, hb', hpos⟩, hk⟩ := h''
            rw [hA, hB] at hargs
            have g1 := S.has ba _ ha'
            have g2 := S.has bb _ hb'
            refine wp_value (v := .bool false) (w' := w) ?_ (hn β _ _ _ _ _ _ hk (S.put dst rfl) (Eff.same rfl))
            simp only [execOp, resolve, ev_evalV S.env hf, hm, Deferred.ofValue, Sem.run_bind, Sem.run_pure, Result.andThen_ok, invoke, ha]
            rw [hargs, run_callFunc_extern h1 h2 h3 h4 h5]
            have := Go.Lib.run_overlaps_apart (P := c.P) w tS tR el h6 j.size (fun w => run_sizeOf h7 w) ⟨ba, oa, none⟩ ⟨bb, ob, none⟩
            rw [this _ _ _ _ hne tya tyb csa.size csb.size (by simp [World.shape?, g1]) (by simp [World.shape?, g2]) (by omega) (frz_of w g1) (frz_of w g1)]
            rfl
          · exact h.elim
        · unfold callF at h
          split at h
          · rename_i ts hts
            refine key (hR.1 g' ts hts) h fun v H' hq => ?_
            obtain ⟨v', rfl, hq⟩ := shapeR_some hq
            exact hq
          · exact h.elim
      · exact h.elim
    | invoke r m => exact h.elim
    | builtin b => exact wOp_builtin hT S h hn
  | makeMap t r =>
    cases r with
    | some x => exact wOp_pure hT S (K := K) (o := ⟨dst, .makeMap t (some x), ty, pos, af, g⟩) h hn
    | none =>
      have hk := h w.heap.size (has_none S.has (Nat.le_refl _))
      obtain ⟨a1, a2, a3⟩ := step_new S.has (.map #[] 0)
      refine wp_value (w' := w.alloc (.map #[] 0)) ?_ (hn _ _ _ _ _ _ _ hk ((S.step a1 a2 a3).put dst rfl) (Eff.new S.has _))
      rfl
  | lookup t m x ok =>
    obtain ⟨i, hi, h⟩ := onTI_some h
    obtain ⟨d, hd, hag, hk⟩ := (hT t i hi).desc
    split at h
    · rename_i kt vt hkn
      rw [hkn] at hk
      cases (hk : d = .map kt vt)
      obtain ⟨ki, hki, h⟩ := onTI_some h
      obtain ⟨vi, hvi, h⟩ := onTI_some h
      obtain ⟨kd, hkd, hkag, hkk⟩ := (hT kt ki hki).desc
      obtain ⟨j2, z2, hj2, hjz2, hzc2, hjs2⟩ := (hT vt vi hvi).zero
      split at h
      · rename_i k' _ hkkn hkzs
        obtain ⟨mv, hmv, h⟩ := onV_some h
        obtain ⟨xv, hxv, h⟩ := onV_some h
        cases mv with
        | map r =>
         cases xv with
         | int k y =>
          dsimp only at h
          split at h
          · rename_i hsame
            cases sameK_eq hsame
            rw [hkkn, hkzs] at hkk
            cases (hkk : kd = .int k')
            obtain ⟨z, hz, h⟩ := mkV_some h
            have hz' : (zeroValue vt).run c.P w = .ok z w := by
              obtain ⟨j, hj, hjz, hjs⟩ := (hT vt vi hvi).info
              rw [run_zeroValue hj hjz]
              congr 1
              rcases hz with ⟨h1, rfl⟩ | ⟨h1, h2⟩
              · rw [h1]
              · rw [h1, h2]; rfl
            have fin : ∀ (v : Value) (b : Bool), (execOp a.eval ⟨dst, .lookup t m x ok, ty, pos, af, g⟩).run c.P w = .ok (.value (okV ok v b)) w →
                (leafEs vi.zs fun us => mkV vi.agg us fun v' => v = v' ∧ K (some (.v (okV ok v' b))) e V H) → Oper.wp c.P ⟨dst, .lookup t m x ok, ty, pos, af, g⟩ a w next Q := fun v b hr hl => by
              obtain ⟨us, hl⟩ := leafEs_some hl
              obtain ⟨v', _, rfl, hl⟩ := mkV_some hl
              exact wp_value hr (hn β _ _ _ _ _ _ hl (S.put dst rfl) (Eff.same rfl))
            cases r with
            | none =>
              refine fin z false ?_ h
              simp [execOp, ev_evalV S.env hmv, ev_evalV S.env hxv, run_lookup_nil hd hkd hz', okV]
              cases ok <;> rfl
            | some b =>
              obtain ⟨es, clock, hb, hint, h⟩ := h
              refine fin _ _ ?_ h
              simp [execOp, ev_evalV S.env hmv, ev_evalV S.env hxv, run_lookup hd hkd hz' (S.has b _ hb) hint, okV]
              cases ok <;> rfl
          · exact h.elim
         | _ => exact False.elim h
        | _ => exact False.elim h
      · rename_i k1 a1 k2 a2 hkkn hkzs
        obtain ⟨mv, hmv, h1⟩ := onV_some h
        obtain ⟨xv, hxv, h2⟩ := onV_some h1
        clear h h1
        have h := h2
        clear h2
        cases mv with
        | map r =>
         cases xv with
         | agg cs =>
          dsimp only at h
          split at h
          · rename_i k3 p k4 q hcs
            split at h
            · rename_i hsame
              obtain ⟨hPT, hcs'⟩ := pairT_of (hT kt ki hki) hkkn hkzs hcs hsame
              subst hcs'
              obtain ⟨z, hz, h⟩ := mkV_some h
              have hz' : (zeroValue vt).run c.P w = .ok z w := by
                obtain ⟨j, hj, hjz, hjs⟩ := (hT vt vi hvi).info
                rw [run_zeroValue hj hjz]
                congr 1
                rcases hz with ⟨h1, rfl⟩ | ⟨h1, h2⟩
                · rw [h1]
                · rw [h1, h2]; rfl
              have fin : ∀ (v : Value) (b : Bool), (execOp a.eval ⟨dst, .lookup t m x ok, ty, pos, af, g⟩).run c.P w = .ok (.value (okV ok v b)) w →
                  (leafEs vi.zs fun us => mkV vi.agg us fun v' => v = v' ∧ K (some (.v (okV ok v' b))) e V H) → Oper.wp c.P ⟨dst, .lookup t m x ok, ty, pos, af, g⟩ a w next Q := fun v b hr hl => by
                obtain ⟨us, hl⟩ := leafEs_some hl
                obtain ⟨v', _, rfl, hl⟩ := mkV_some hl
                exact wp_value hr (hn β _ _ _ _ _ _ hl (S.put dst rfl) (Eff.same rfl))
              cases r with
              | none =>
                refine fin z false ?_ h
                have := run_lookup2_nil (x := p) (y := q) (ok := ok) hd hPT hz'
                unfold key2 at this
                simp [execOp, ev_evalV S.env hmv, ev_evalV S.env hxv, this, okV]
                cases ok <;> rfl
              | some b =>
                obtain ⟨es, clock, hb, hint, h⟩ := h
                refine fin _ _ ?_ h
                have := run_lookup2 (x := p) (y := q) (ok := ok) hd hPT hz' (S.has b _ hb) hint
                unfold key2 at this
                simp [execOp, ev_evalV S.env hmv, ev_evalV S.env hxv, this, okV]
                cases ok <;> rfl
            · exact h.elim
          · exact h.elim
         | _ => exact False.elim h
        | _ => exact False.elim h
      · exact h.elim
    · exact h.elim
  | mapUpdate t m x y => exact updF_sound hT S h (fun v m' k' h1 h2 h3 => by subst h1 h2 h3; rfl) rfl rfl hn
  | insert t m x y => exact updF_sound hT S h (fun v m' k' h1 h2 h3 => by subst h1 h2 h3; rfl) rfl rfl hn
  | entry it =>
    obtain ⟨iv, hiv, h⟩ := onV_some h
    split at h
    · rename_i p d _
      split at h
      · rename_i zz _
        obtain ⟨b0, off, rfl, h⟩ := onPtr_some h
        obtain ⟨rfl, b, since, seen, es, clock, e1, hr, hb, he, hnd, hk⟩ := h
        obtain ⟨k', hk', hk⟩ := leafE_some hk
        obtain ⟨v', hv', hk⟩ := leafE_some hk
        subst hk'
        subst hv'
        refine wp_value (v := .tuple #[e1.key, e1.val]) (w' := w) ?_ (hn β _ _ _ _ _ _ hk (S.put _ rfl) (Eff.same rfl))
        simp [execOp, ev_evalV S.env hiv, run_entry_at (P := c.P) w b0 b since seen es clock e1 (S.has b0 _ hr) (S.has b _ hb) he hnd]
      · exact h.elim
    · exact h.elim
  | range t m =>
    obtain ⟨i, hi, h⟩ := onTI_some h
    obtain ⟨d, hd, hag, hk⟩ := (hT t i hi).desc
    split at h
    · rename_i kt vt hkn
      rw [hkn] at hk
      cases (hk : d = .map kt vt)
      obtain ⟨mv, hmv, h⟩ := onV_some h
      split at h
      · obtain ⟨b, es, clock, rfl, hb, h⟩ := h
        have hk := h w.heap.size (has_none S.has (Nat.le_refl _))
        obtain ⟨a1, a2, a3⟩ := step_new S.has (.mapIter (some b) clock #[] clock)
        refine wp_value (w' := w.alloc (.mapIter (some b) clock #[] clock)) ?_ (hn _ _ _ _ _ _ _ hk ((S.step a1 a2 a3).put dst rfl) (Eff.new S.has _))
        simp [execOp, ev_evalV S.env hmv, run_range_map w t kt vt b es clock hd (S.has b _ hb), AV.conc]
      · exact h.elim
    · exact h.elim
  | next it str =>
    cases str with
    | true => exact wOp_pure hT S (K := K) (o := ⟨dst, .next it true, ty, pos, af, g⟩) h hn
    | false =>
      obtain ⟨iv, hiv, h⟩ := onV_some h
      split at h
      · rename_i p d _
        split at h
        · rename_i zz _
          obtain ⟨b0, off, rfl, h⟩ := onPtr_some h
          obtain ⟨rfl, b, since, seen, c0, es, clock, hr, hb, hold, hsc, h1, h2⟩ := h
          rcases run_next_at (P := c.P) w ty b0 b since c0 seen es clock (S.has b0 _ hr) (S.has b _ hb) hold hsc with ⟨hz, hrun⟩ | ⟨e1, he, w1, hw1, hrun⟩
          · refine wp_value (v := .tuple #[.bool false]) (w' := w) ?_ (hn β _ _ _ _ _ _ (h1 hz) (S.put _ rfl) (Eff.same rfl))
            simp [execOp, ev_evalV S.env hiv, hrun]
          · have hk := h2 e1 he
            obtain ⟨k', hk', hk⟩ := leafE_some hk
            obtain ⟨v', hv', hk⟩ := leafE_some hk
            subst hk'
            subst hv'
            have hst : Has (setBlock w1 b0 (.mapIter (some b) since (seen.push e1.born) clock)) (upd b0 (.mapIter (some b) since (seen.push e1.born) clock) H) ∧ Fr H w (setBlock w1 b0 (.mapIter (some b) since (seen.push e1.born) clock)) ∧ New H w (upd b0 (.mapIter (some b) since (seen.push e1.born) clock) H) := by
              rcases hw1 with rfl | rfl
              · exact step_obj S.has hr _
              · exact step_drew_obj S.has hr _
            obtain ⟨a1, a2, a3⟩ := hst
            refine wp_value (v := .tuple #[.bool true, e1.key, e1.val]) ?_ (hn β _ _ _ _ _ _ hk ((S.step a1 a2 a3).put _ rfl) (Eff.write a2 a3 rfl rfl))
            simp [execOp, ev_evalV S.env hiv, hrun]
        · exact h.elim
      · exact h.elim
  | _ =>
    refine wOp_pure hT S (K := K) ?_ hn
    exact h
end
end Go.Proofs.Ytibhpoikhkokiaa.Hs

/- The evaluator is sound for lists of operations. -/
set_option linter.unusedVariables false
set_option linter.unusedSimpArgs false
namespace Go.Proofs.Ytibhpoikhkokiaa.Hs
open Go

section
variable {c : Cx} {H0 : Hp} {w0 : World} {β : Nat → Nat} {e : Env} {V : VSt} {H : Hp} {a : Act} {w : World}
def CxOk (c : Cx) : Prop := (∀ t i, look t c.T = some i → TiOk c.P t i) ∧ ((∀ f ts, look f c.R = some ts → FnOk c.P f) ∧ ∀ g, elemN g c.overs = true → OverOk c.P g) ∧ c.P.follows .mixedOrders = true

/-- The machine is in a state of the evaluator's. -/
def St (c : Cx) (H0 : Hp) (w0 : World) (K : Env → VSt → Hp → Prop) (a : Act) (w : World) : Prop := ∃ β e V H, K e V H ∧ Sim c.n H0 w0 β e V H a w

theorem dstAt_eq {ops : List Oper} {j d : Nat} (h : dstAt ops j = some d) (tmps : Array Value) : yielded ops.toArray tmps j = (match tmps.getD d undef with | .bool b => some b | _ => none) := by
  unfold dstAt at h
  split at h
  · rename_i o ho
    have h1 : (ops.toArray)[j]? = some o := by simpa using ho
    simp only [yielded, h1, Option.bind_some, h, Array.getD_eq_getD_getElem?]
    cases tmps[d]? with
    | none => rfl
    | some v => cases v <;> rfl
  · cases h

theorem upd_self {α : Type} {t : Nat} {x : α} {e : Nat → Option α} (h : e t = some x) : upd t x e = e := by
  funext s
  by_cases hs : s = t
  · subst hs; rw [upd_same, h]
  · rw [upd_other hs]
/-- Is the operation wanted, it runs; else its slot holds nothing. -/
theorem wStep_cases {ops : List Oper} {o : Oper} {K : Env → VSt → Hp → Prop} (h : wStep c ops o K e V H) (E : EnvOk β e a) :
    (Region.wanted o (yielded ops.toArray a.tmps) = true ∧ wOp c o e V H fun x e V H => K (fin c.n o.dst x e) V H) ∨ (Region.wanted o (yielded ops.toArray a.tmps) = false ∧ K (fin c.n o.dst (some (.v undef)) e) V H) := by
  unfold wStep at h
  cases hg : o.guard with
  | none =>
    simp only [hg] at h
    exact .inl ⟨by simp [Region.wanted, hg], h⟩
  | some jw =>
    obtain ⟨j, want⟩ := jw
    simp only [hg] at h
    cases hd : dstAt ops j with
    | none => simp only [hd] at h
    | some d =>
      simp only [hd] at h
      have hy := dstAt_eq hd a.tmps
      split at h
      · rename_i b he
        rw [E d _ he] at hy
        have hy' : yielded ops.toArray a.tmps j = some b := hy
        have hw : Region.wanted o (yielded ops.toArray a.tmps) = (b == want) := by
          simp only [Region.wanted, hg, hy']
          cases b <;> cases want <;> rfl
        rw [hw]
        cases b <;> cases want <;> simp only [cnd, upd_self he] at h
        · exact .inl ⟨rfl, h⟩
        · exact .inr ⟨rfl, h⟩
        · exact .inr ⟨rfl, h⟩
        · exact .inl ⟨rfl, h⟩
      · rename_i ts he
        rw [E d _ he] at hy
        have hw : Region.wanted o (yielded ops.toArray a.tmps) = false := by
          simp only [Region.wanted, hg, hy]
          rfl
        exact .inr ⟨hw, h⟩
      · exact h.elim
theorem lenMap_run (hT : ∀ t i, look t c.T = some i → TiOk c.P t i) {o : Oper} {K : Value → Prop} (hl : lenMap c.T o = true) (h : lenMapF o.op e H K) (S : Sim c.n H0 w0 β e V H a w) :
    o.guard = none ∧ ∃ v, (execOp a.eval o).run c.P w = .ok (.value v) w ∧ K v := by
  obtain ⟨dst, op, ty, pos, af, g⟩ := o
  unfold lenMap at hl
  split at hl
  · rename_i args ts hop hg
    simp only at hop hg
    subst hop
    refine ⟨hg, ?_⟩
    split at hl
    · rename_i t hts
      split at hl
      · rename_i i hi
        split at hl
        · rename_i kt vt hkn
          obtain ⟨d, hd, hag, hk⟩ := (hT t i hi).desc
          rw [hkn] at hk
          cases (hk : d = .map kt vt)
          have hat : ts = #[t] := by apply Array.ext'; exact hts
          subst hat
          obtain ⟨vs, hvs, h⟩ := withVs_some S.env h
          have hm : args.map a.eval = vs.toArray := by apply Array.ext'; rw [Array.toList_map]; exact hvs
          split at h
          · rename_i r
            cases r with
            | none => exact ⟨.int .i64 (0 : Nat), by simp [execOp, resolve, hm, invoke, builtin, Builtin.len_, run_underlying hd, goInt], h⟩
            | some b =>
              obtain ⟨es, clock, hb, h⟩ := h
              exact ⟨.int .i64 es.size, by simp [execOp, resolve, hm, invoke, builtin, Builtin.len_, run_underlying hd, run_getMap (S.has b _ hb), goInt], h⟩
          · exact h.elim
        · cases hl
      · cases hl
    · cases hl
  · cases hl
theorem wOps_sound (hc : CxOk c) {ops : List Oper} {Q : Exit → Act → World → Prop} {K : Env → VSt → Hp → Prop} (hq : ∀ a w, St c H0 w0 K a w → Q .normal a w) : ∀ {l : List Oper} {β : Nat → Nat} {e : Env} {V : VSt} {H : Hp} {a : Act} {w : World},
    wOps c ops l K e V H → Sim c.n H0 w0 β e V H a w → wpList c.P ops.toArray Q l a w
  | [], β, e, V, H, a, w, h, S => hq a w ⟨β, e, V, H, h, S⟩
  | o :: r, β, e, V, H, a, w, h, S => by
    unfold wpList
    unfold wOps at h
    split at h
    · rename_i hl
      obtain ⟨hg, hx⟩ := lenMap_run hc.1 hl h S
      rw [if_pos (by simp [Region.wanted, hg])]
      obtain ⟨v, hr, hk⟩ := hx
      exact .inl (wp_value hr (wOps_sound hc hq hk (S.put o.dst rfl)))
    rcases wStep_cases h S.env with ⟨hw, h⟩ | ⟨hw, h⟩
    · rw [if_pos hw]
      exact .inl (wOp_sound hc.1 hc.2.1 S h fun β' av e' V' H' a' w' hk S' _ => wOps_sound hc hq hk S')
    · rw [if_neg (by rw [hw]; decide)]
      exact wOps_sound hc hq h (S.put o.dst rfl)

end
end Go.Proofs.Ytibhpoikhkokiaa.Hs
