/- The evaluator's operations that look neither at the heap nor at variables are sound: each comes to the value that the evaluator says. -/
import Derived.Test.YtkbancdmhcnhjaaHwDef
import Derived.Laws.Cover3
import Derived.Laws.Small
import Derived.Laws.StructEq
import Derived.ChangeKeysEq
import Derived.Lib.Overlaps
set_option linter.unusedVariables false
set_option linter.unusedSimpArgs false
namespace Go.Proofs.Ytkbancdmhcnhjaa.Hw
open Go

def isAggD : TypeDesc → Bool
  | .struct _ | .array _ _ => true
  | _ => false
def isAggT (P : Program) (t : Nat) : Bool := match P.underlying t with | some d => isAggD d | none => false
def fieldOk (P : Program) (f : Field) (x : Nat × Nat × Bool) : Prop := f.offset = x.1 ∧ (∃ j d, P.info? f.type = some j ∧ j.size = x.2.1 ∧ P.underlying f.type = some d ∧ isAggD d = x.2.2)
def fieldsOk (P : Program) : List Field → List (Nat × Nat × Bool) → Prop
  | [], [] => True
  | f :: r, x :: s => fieldOk P f x ∧ fieldsOk P r s
  | _, _ => False
def knOk (P : Program) (d : TypeDesc) (zs : List Value) : Kn → Prop
  | .scalar => (match zs with | [.bool _] => d = .bool | [.int k _] => d = .int k | _ => True)
  | .slice el esz eby => d = .slice el ∧ ∃ j z, P.info? el = some j ∧ j.size = esz ∧ j.bytes = eby ∧ j.zero = some z ∧ z.cells.size = esz
  | .array len esz eagg => ∃ el j du, d = .array len el ∧ P.info? el = some j ∧ j.size = esz ∧ P.underlying el = some du ∧ isAggD du = eagg
  | .struct fs => ∃ flds, d = .struct flds ∧ fieldsOk P flds.toList fs
  | .string => d = .string
  | .map k v => d = .map k v
def chkEq (P : Program) : Nat → List Field → List Value → Bool
  | _, [], [] => true
  | off, f :: r, z :: s => f.name != "_" && Nat.beq f.offset off && (match P.info? f.type with | some j => Nat.beq j.size 1 | none => false) &&
    (match z, P.underlying f.type with | .int _ _, some (.int _) => true | .bool _, some .bool => true | .string _, some .string => true | _, _ => false) && chkEq P (off + 1) r s
  | _, _, _ => false
def chkArr (P : Program) (n el : Nat) (zs : List Value) : Bool := Nat.beq n zs.length && (match P.underlying el, P.info? el with
  | some (.int k), some j => Nat.beq j.size 1 && zs.all fun z => (match z with | .int k' _ => sameK k k' | _ => false)
  | _, _ => false)
def eqOk (P : Program) (t : Nat) (zs : List Value) : Bool := (match P.underlying t with | some (.struct fs) => chkEq P 0 fs.toList zs | some (.array n el) => chkArr P n el zs | _ => false) && !P.stoodInHeld t && !P.eqGuardType P.depth t
structure TiOk (P : Program) (t : Nat) (i : TI) : Prop where
  info : ∃ j, P.info? t = some j ∧ j.zero = some (match i.agg with | true => .agg i.zs.toArray | false => i.zs.headD undef) ∧ j.size = i.zs.length
  one : i.agg = false → ∃ v, i.zs = [v] ∧ one1 v = true
  ones : allOne i.zs = true
  desc : ∃ d, P.underlying t = some d ∧ isAggD d = i.agg ∧ knOk P d i.zs i.kn
  eqs : i.eqs = true → eqOk P t i.zs = true

/-- A function that the model has by itself: whether two slices overlap. -/
def OverOk (P : Program) (g : FuncId) : Prop := ∃ fn tS tR e j, P.funcs[g]? = some fn ∧ (fn.name == "runtime.NumGoroutine") = false ∧ fn.body.isNone = true ∧ Extern.findNext fn = none ∧
  Extern.find fn = some (Extern.SlicesOverlaps.overlaps #[tS, tS] #[tR]) ∧ P.underlying tS = some (.slice e) ∧ P.info? e = some j
def AV.conc (β : Nat → Nat) : AV → Value
  | .v x => x
  | .loc k o => .pointer (some ⟨β k, o, none⟩)

theorem onAV_some {x : Option AV} {K : AV → Prop} (h : onAV x K) : ∃ a, x = some a ∧ K a := by
  cases x with
  | none => exact h.elim
  | some a => exact ⟨a, rfl, h⟩
theorem onV_some {x : Option AV} {K : Value → Prop} (h : onV x K) : ∃ a, x = some (.v a) ∧ K a := by
  cases x with
  | none => exact h.elim
  | some a => cases a with
    | v a => exact ⟨a, rfl, h⟩
    | loc k o => exact h.elim
theorem onPtr_some {p : Option Addr} {K : Nat → Nat → Prop} (h : onPtr p K) : ∃ b o, p = some ⟨b, o, none⟩ ∧ K b o := by
  rcases p with _ | ⟨b, o, s⟩
  · exact h.elim
  · cases s with
    | none => exact ⟨b, o, rfl, h⟩
    | some s => exact h.elim
theorem onTI_some {T : List (Nat × TI)} {t : Nat} {K : TI → Prop} (h : onTI T t K) : ∃ i, look t T = some i ∧ K i := by
  unfold onTI at h
  cases hl : look t T with
  | none => rw [hl] at h; exact h.elim
  | some i => rw [hl] at h; exact ⟨i, rfl, h⟩

/-- What the slots hold, the evaluator knows. -/
def EnvOk (β : Nat → Nat) (e : Env) (a : Act) : Prop := ∀ t av, e t = some av → a.tmps.getD t undef = av.conc β
theorem ev_eval {β : Nat → Nat} {e : Env} {a : Act} (h : EnvOk β e a) {x : Operand} {av : AV} (hx : ev e x = some av) : a.eval x = av.conc β := by
  cases x with
  | tmp t => exact h t av hx
  | const v => simp only [ev, Option.some.injEq] at hx; subst hx; rfl
  | func f => simp only [ev, Option.some.injEq] at hx; subst hx; rfl
  | global g => simp [ev] at hx
theorem ev_evalV {β : Nat → Nat} {e : Env} {a : Act} (h : EnvOk β e a) {x : Operand} {v : Value} (hx : ev e x = some (.v v)) : a.eval x = v := ev_eval h hx
theorem withVs_some {β : Nat → Nat} {e : Env} {a : Act} (h : EnvOk β e a) : ∀ {l : List Operand} {K : List Value → Prop}, withVs e l K → ∃ vs, l.map a.eval = vs ∧ K vs
  | [], K, hk => ⟨[], rfl, hk⟩
  | x :: r, K, hk => by
    obtain ⟨v, hv, hk⟩ := onV_some hk
    obtain ⟨vs, hvs, hk⟩ := withVs_some h hk
    exact ⟨v :: vs, by rw [List.map_cons, ev_evalV h hv, hvs], hk⟩
theorem pairVs_some {β : Nat → Nat} {e : Env} {a : Act} (h : EnvOk β e a) : ∀ {l : List (Nat × Operand)} {K : List (Nat × Value) → Prop}, pairVs e l K → ∃ vs, l.map (fun x => (x.1, a.eval x.2)) = vs ∧ K vs
  | [], K, hk => ⟨[], rfl, hk⟩
  | x :: r, K, hk => by
    obtain ⟨v, hv, hk⟩ := onV_some hk
    obtain ⟨vs, hvs, hk⟩ := pairVs_some h hk
    exact ⟨(x.1, v) :: vs, by rw [List.map_cons, ev_evalV h hv, hvs], hk⟩

theorem add_mk (b o n : Nat) : (⟨b, o, none⟩ : Addr).add n = ⟨b, o + n, none⟩ := by unfold Addr.add; split <;> simp_all
theorem sameK_eq {k k' : IntKind} (h : sameK k k' = true) : k = k' := of_decide_eq_true h
theorem mkV_some {g : Bool} {cs : List Value} {K : Value → Prop} (h : mkV g cs K) : ∃ v, ((g = true ∧ v = .agg cs.toArray) ∨ (g = false ∧ cs = [v])) ∧ K v := by
  cases g with
  | true => exact ⟨_, .inl ⟨rfl, rfl⟩, h⟩
  | false =>
    match cs, h with
    | [v], h => exact ⟨v, .inr ⟨rfl, rfl⟩, h⟩

section
variable {P : Program}
theorem run_isAgg {t : Nat} {d : TypeDesc} (h : P.underlying t = some d) (w : World) : (isAgg t).run P w = .ok (isAggD d) w := by
  unfold isAgg
  simp only [Sem.run_bind, run_underlying h, Result.andThen_ok]
  cases d <;> rfl
theorem run_sizeOf {t : Nat} {j : TypeInfo} (h : P.info? t = some j) (w : World) : (sizeOf t).run P w = .ok j.size w := by
  simp [sizeOf, typeInfo, h]
theorem run_zeroValue {t : Nat} {j : TypeInfo} {z : Value} (h : P.info? t = some j) (hz : j.zero = some z) (w : World) : (zeroValue t).run P w = .ok z w := by
  simp [zeroValue, typeInfo, h, hz]
theorem fieldsOk_get : ∀ {l : List Field} {fs : List (Nat × Nat × Bool)} {f : Nat} {x : Nat × Nat × Bool}, fieldsOk P l fs → fs[f]? = some x → ∃ g, l[f]? = some g ∧ fieldOk P g x
  | [], [], f, x, _, h => by simp at h
  | g :: r, y :: s, 0, x, hk, h => by simp at h; subst h; exact ⟨g, rfl, hk.1⟩
  | g :: r, y :: s, f + 1, x, hk, h => by
    obtain ⟨q, hq, ho⟩ := fieldsOk_get (l := r) (fs := s) (f := f) hk.2 (by simpa using h)
    exact ⟨q, by simpa using hq, ho⟩
  | [], _ :: _, _, _, hk, _ => hk.elim
  | _ :: _, [], _, _, hk, _ => hk.elim

theorem run_part {t : Nat} {j : TypeInfo} {d : TypeDesc} {cs : Array Value} {off : Nat} (hj : P.info? t = some j) (hd : P.underlying t = some d) (h : off + j.size ≤ cs.toList.length) {v : Value}
    (hv : (isAggD d = true ∧ v = .agg ((cs.toList.drop off).take j.size).toArray) ∨ (isAggD d = false ∧ (cs.toList.drop off).take j.size = [v])) (w : World) : (part t cs off).run P w = .ok v w := by
  unfold part
  simp only [Sem.run_bind, run_isAgg hd, Result.andThen_ok]
  rcases hv with ⟨h1, rfl⟩ | ⟨h1, h2⟩
  · simp only [h1, if_true, Sem.run_bind, run_sizeOf hj, Result.andThen_ok, Sem.run_pure]
    congr 2
    apply Array.ext'
    simp [Array.toList_extract, List.extract_eq_take_drop]
  · simp only [h1, Bool.false_eq_true, if_false]
    have h3 : cs[off]? = some v := by
      have h4 : ((cs.toList.drop off).take j.size)[0]? = some v := by rw [h2]; rfl
      have h5 : 0 < j.size := by
        rcases Nat.eq_zero_or_pos j.size with h0 | h0
        · rw [h0] at h2; simp at h2
        · exact h0
      rw [List.getElem?_take_of_lt h5, List.getElem?_drop] at h4
      simpa using h4
    simp [h3]
theorem run_eqLs {d : Nat} {xs ys : Array Value} {w : World} : ∀ {fs : List Field} {zs : List Value} {off : Nat} {b : Bool}, chkEq P off fs zs = true → eqLs zs (xs.toList.drop off) (ys.toList.drop off) = some b → (Op.eqFields (d + 1) xs ys fs).run P w = .ok b w
  | [], [], off, b, _, h => by
    have hb : b = true := by
      generalize xs.toList.drop off = l1 at h
      generalize ys.toList.drop off = l2 at h
      cases l1 <;> cases l2 <;> simp [eqLs] at h
      exact h.symm ▸ rfl
    subst hb
    simp [Op.eqFields]
  | f :: r, z :: s, off, b, hc, h => by
    simp only [chkEq, Bool.and_eq_true] at hc
    obtain ⟨⟨⟨⟨c1, c2⟩, c3⟩, c4⟩, c5⟩ := hc
    have hoff := Nat.eq_of_beq_eq_true c2
    cases hx : xs.toList.drop off with
    | nil => rw [hx] at h; simp [eqLs] at h
    | cons x xr =>
      cases hy : ys.toList.drop off with
      | nil => rw [hx, hy] at h; simp [eqLs] at h
      | cons y yr =>
        rw [hx, hy] at h
        have hxr : xs.toList.drop (off + 1) = xr := by rw [← List.drop_drop, hx]; rfl
        have hyr : ys.toList.drop (off + 1) = yr := by rw [← List.drop_drop, hy]; rfl
        have hxl : off + 1 ≤ xs.toList.length := by
          have := congrArg List.length hx
          rw [List.length_drop, List.length_cons] at this; omega
        have hyl : off + 1 ≤ ys.toList.length := by
          have := congrArg List.length hy
          rw [List.length_drop, List.length_cons] at this; omega
        cases hj : P.info? f.type with
        | none => rw [hj] at c3; cases c3
        | some j =>
          rw [hj] at c3
          have hsz := Nat.eq_of_beq_eq_true c3
          simp only [eqLs] at h
          split at h
          · rename_i p q hp hq
            cases h
            have ih := run_eqLs (d := d) (xs := xs) (ys := ys) (w := w) (fs := r) (zs := s) (off := off + 1) (b := q) c5 (by rw [hxr, hyr]; exact hq)
            have hstep : ∃ du, P.underlying f.type = some du ∧ isAggD du = false ∧ (Op.equalIn (d + 1) f.type x y).run P w = .ok p w := by
              unfold eq1F at hp
              split at hp
              · split at hp
                · rename_i hk
                  cases sameK_eq hk
                  cases hp
                  split at c4
                  all_goals first
                    | (rename_i hz hu; cases hz; refine ⟨_, hu, rfl, ?_⟩; exact run_equalIn_int w _ _ _ _ _ _ hu)
                    | (rename_i hz hu; cases hz; done)
                    | (cases c4; done)
                · cases hp
              · cases hp
                split at c4
                all_goals first
                  | (rename_i hz hu; cases hz; refine ⟨_, hu, rfl, ?_⟩; exact run_equalIn_bool w _ _ _ _ hu)
                  | (rename_i hz hu; cases hz; done)
                  | (cases c4; done)
              · cases hp
                split at c4
                all_goals first
                  | (rename_i hz hu; cases hz; refine ⟨_, hu, rfl, ?_⟩; exact run_equalIn_string w _ _ _ _ hu)
                  | (rename_i hz hu; cases hz; done)
                  | (cases c4; done)
              · cases hp
            obtain ⟨du, hu, hag, hrun⟩ := hstep
            have hpx : (part f.type xs f.offset).run P w = .ok x w := run_part hj hu (by rw [hoff, hsz]; exact hxl) (.inr ⟨hag, by rw [hoff, hsz, hx]; rfl⟩) w
            have hpy : (part f.type ys f.offset).run P w = .ok y w := run_part hj hu (by rw [hoff, hsz]; exact hyl) (.inr ⟨hag, by rw [hoff, hsz, hy]; rfl⟩) w
            have hn' : f.name ≠ "_" := by simpa using c1
            rw [Op.eqFields]
            simp only [if_pos hn', Sem.run_bind, hpx, hpy, hrun, Result.andThen_ok]
            cases p
            · simp
            · simpa using ih
          · cases h
  | [], _ :: _, _, _, hc, _ => by simp [chkEq] at hc
  | _ :: _, [], _, _, hc, _ => by simp [chkEq] at hc

theorem run_eqItems {d el : Nat} {k : IntKind} {j : TypeInfo} {xs ys : Array Value} {w : World} (he : P.underlying el = some (.int k)) (hj : P.info? el = some j) (hs : j.size = 1) : ∀ {zs : List Value} {off : Nat} {b : Bool},
    (∀ z ∈ zs, ∃ x : Int, z = .int k x) → eqLs zs (xs.toList.drop off) (ys.toList.drop off) = some b → (Op.eqItems (d + 1) el 1 xs ys (List.range' off zs.length)).run P w = .ok b w
  | [], off, b, _, h => by
    have hb : b = true := by
      generalize xs.toList.drop off = l1 at h
      generalize ys.toList.drop off = l2 at h
      cases l1 <;> cases l2 <;> simp [eqLs] at h
      exact h.symm ▸ rfl
    subst hb
    simp [Op.eqItems]
  | z :: s, off, b, hz, h => by
    cases hx : xs.toList.drop off with
    | nil => rw [hx] at h; simp [eqLs] at h
    | cons x xr =>
      cases hy : ys.toList.drop off with
      | nil => rw [hx, hy] at h; simp [eqLs] at h
      | cons y yr =>
        rw [hx, hy] at h
        have hxr : xs.toList.drop (off + 1) = xr := by rw [← List.drop_drop, hx]; rfl
        have hyr : ys.toList.drop (off + 1) = yr := by rw [← List.drop_drop, hy]; rfl
        have hxl : off + 1 ≤ xs.toList.length := by
          have := congrArg List.length hx
          rw [List.length_drop, List.length_cons] at this; omega
        have hyl : off + 1 ≤ ys.toList.length := by
          have := congrArg List.length hy
          rw [List.length_drop, List.length_cons] at this; omega
        obtain ⟨x0, rfl⟩ := hz z List.mem_cons_self
        simp only [eqLs] at h
        split at h
        · rename_i p q hp hq
          cases h
          have ih := run_eqItems (d := d) (xs := xs) (ys := ys) (w := w) he hj hs (zs := s) (off := off + 1) (b := q) (fun z h => hz z (List.mem_cons_of_mem _ h)) (by rw [hxr, hyr]; exact hq)
          have hrun : (Op.equalIn (d + 1) el x y).run P w = .ok p w := by
            unfold eq1F at hp
            split at hp
            · rename_i hz0
              split at hp
              · rename_i hk
                cases sameK_eq hk
                cases hp
                exact run_equalIn_int w _ _ _ _ _ _ he
              · cases hp
            · rename_i hz0; cases hz0
            · rename_i hz0; cases hz0
            · cases hp
          have hpx : (part el xs (off * 1)).run P w = .ok x w := run_part hj he (by rw [Nat.mul_one, hs]; exact hxl) (.inr ⟨rfl, by rw [Nat.mul_one, hs, hx]; rfl⟩) w
          have hpy : (part el ys (off * 1)).run P w = .ok y w := run_part hj he (by rw [Nat.mul_one, hs]; exact hyl) (.inr ⟨rfl, by rw [Nat.mul_one, hs, hy]; rfl⟩) w
          rw [List.length_cons, List.range'_succ, Op.eqItems]
          simp only [Sem.run_bind, hpx, hpy, hrun, Result.andThen_ok]
          cases p
          · simp
          · simpa using ih
        · cases h
theorem run_binF {T : List (Nat × TI)} (hT : ∀ t i, look t T = some i → TiOk P t i) {op : BinOp} {t : Nat} {a b : Value} {K : Value → Prop} (h : binF T op t a b K) (x y : Operand) :
    ∃ v, K v ∧ ∀ w, (do eqGuard op t x y a b; binOp op t a b : Sem Value).run P w = .ok v w := by
  unfold binF at h
  split at h
  · rename_i k m k' n
    split at h
    · rename_i hs
      unfold shF at h
      split at h
      all_goals first
        | (exact h.elim)
        | (obtain ⟨h0, h⟩ := h; refine ⟨_, h, fun w => ?_⟩; simp [eqGuard, binOp, Op.shift, Int.not_lt.2 h0]; done)
    split at h
    · rename_i hk
      cases sameK_eq hk
      unfold intF at h
      split at h
      all_goals first
        | (exact h.elim)
        | (refine ⟨_, h, fun w => ?_⟩; simp [eqGuard, binOp, Op.intArith, Op.intCmp, Op.intDiv]; done)
        | (obtain ⟨h0, h⟩ := h; refine ⟨_, h, ?_⟩; simp [eqGuard, binOp, Op.intDiv, h0]; done)
    · exact h.elim
  · rename_i m n
    obtain ⟨i, hi, h⟩ := onTI_some h
    split at h
    · rename_i hkn hzs
      obtain ⟨d, hd, hag, hk⟩ := (hT t i hi).desc
      rw [hkn, hzs] at hk
      have hd' : P.underlying t = some .bool := by rw [hd]; exact congrArg some hk
      unfold boolF at h
      split at h
      · refine ⟨_, h, fun w => ?_⟩
        simp [eqGuard, Sem.run_bind, run_eql_bool (P := P) w t m n hd']
      · refine ⟨_, h, fun w => ?_⟩
        simp [eqGuard, Sem.run_bind, run_neq_bool (P := P) w t m n hd']
      · exact h.elim
    · exact h.elim
  · rename_i m n
    unfold strF at h
    split at h
    all_goals first
      | (exact h.elim)
      | (refine ⟨_, h, fun w => ?_⟩; simp [eqGuard, binOp, Op.stringOp]; done)
  · rename_i A n c
    obtain ⟨i, hi, h⟩ := onTI_some h
    split at h
    · rename_i hkn
      obtain ⟨d, hd, hag, hk⟩ := (hT t i hi).desc
      rw [hkn] at hk
      have hd' := hd.trans (congrArg some hk.1)
      unfold nilF at h
      split at h
      · refine ⟨_, h, fun w => ?_⟩
        have h1 := run_equal_slice_nil (P := P) w t _ A n c hd'
        simp only [eqGuard, binOp]
        simp [h1]
      · refine ⟨_, h, fun w => ?_⟩
        have h1 := run_neq_slice_nil (P := P) w t _ A n c hd'
        simp [eqGuard, Sem.run_bind, h1]
      · exact h.elim
    · exact h.elim
  · rename_i xs ys
    obtain ⟨i, hi, h⟩ := onTI_some h
    split at h
    · rename_i heq
      split at h
      · rename_i b hb
        have hok := (hT t i hi).eqs heq
        unfold eqOk at hok
        simp only [Bool.and_eq_true, Bool.not_eq_true'] at hok
        obtain ⟨⟨h1, h2⟩, h3⟩ := hok
        split at h1
        · rename_i fs hu
          have hf : P.fieldsOf t = fs := by simp [Program.fieldsOf, hu]
          have hrun : ∀ w, (Op.equalIn 10000 t (.agg xs) (.agg ys)).run P w = .ok b w := fun w => by
            rw [run_equalIn_struct (P := P) w 9999 t xs ys (by rw [hf]; exact hu) h2, hf]
            exact run_eqLs (d := 9998) h1 hb
          unfold nilF at h
          split at h
          · refine ⟨_, h, fun w => ?_⟩
            simp [eqGuard, Sem.run_bind, h3, run_eql_struct, hrun]
          · refine ⟨_, h, fun w => ?_⟩
            simp [eqGuard, Sem.run_bind, h3, run_neq_struct, hrun]
          · exact h.elim
        · rename_i n el hu
          unfold chkArr at h1
          simp only [Bool.and_eq_true] at h1
          obtain ⟨hn, h1⟩ := h1
          split at h1
          · rename_i k j he hj
            simp only [Bool.and_eq_true, List.all_eq_true] at h1
            obtain ⟨hs, hz⟩ := h1
            have hs := Nat.eq_of_beq_eq_true hs
            have hn := Nat.eq_of_beq_eq_true hn
            have hz' : ∀ z ∈ i.zs, ∃ x : Int, z = .int k x := fun z hm => by
              have := hz z hm
              split at this
              · rename_i k' x
                exact ⟨x, by rw [sameK_eq this]⟩
              · cases this
            have hrun : ∀ w, (Op.equalIn 10000 t (.agg xs) (.agg ys)).run P w = .ok b w := fun w => by
              have h1c : P.cellsOf el = 1 := by unfold Program.cellsOf; rw [hj]; exact hs
              rw [run_equalIn_array (P := P) w 9999 xs ys hu hj, h1c, hn, List.range_eq_range']
              exact run_eqItems (d := 9998) he hj hs hz' (by simpa using hb)
            unfold nilF at h
            split at h
            · refine ⟨_, h, fun w => ?_⟩
              simp [eqGuard, Sem.run_bind, h3, run_eql_struct, hrun]
            · refine ⟨_, h, fun w => ?_⟩
              simp [eqGuard, Sem.run_bind, h3, run_neq_struct, hrun]
            · exact h.elim
          · cases h1
        · cases h1
      · exact h.elim
    · exact h.elim
  · exact h.elim
end

section
variable {P : Program} {T : List (Nat × TI)} {β : Nat → Nat} {e : Env} {a : Act}
/-- An operation comes to a value, and turns nothing. -/
def Gives (P : Program) (o : Op) (a : Act) (w : World) (v : Value) : Prop := ∀ (d : Option Tmp) (ty : TypeId) (pos : String) (af : Array Edge) (g : Option (Nat × Bool)), (execOp a.eval ⟨d, o, ty, pos, af, g⟩).run P w = .ok (.value v) w

theorem run_bound (v : Int) (k : IntKind) (y : Nat) (code : BoundsCode) (h0 : 0 ≤ v) (h1 : v ≤ y) (w : World) : (Instr.sliceBound (.int k v) y code).run P w = .ok v.toNat w := by
  simp [Instr.sliceBound, asIntOf, h0, h1]

def optV (a : Act) : Option Operand → Option Value := fun x => x.map a.eval
theorem opt_some (h : EnvOk β e a) {x : Option Operand} {i : Option Int} (hx : opt e x = some i) :
    (i = none ∧ x.map a.eval = none) ∨ ∃ j k, i = some j ∧ x.map a.eval = some (.int k j) := by
  cases x with
  | none => simp only [opt, Option.some.injEq] at hx; exact .inl ⟨hx.symm, rfl⟩
  | some x =>
    simp only [opt] at hx
    split at hx
    · rename_i k j he
      simp only [Option.some.injEq] at hx
      refine .inr ⟨j, k, hx.symm, ?_⟩
      simp [ev_evalV h he]
    · simp at hx
theorem run_bounds {n c : Nat} {lo hi mx : Option Int} {K : Nat → Nat → Nat → Prop} (h : sliceF n c lo hi mx K) {lv hv mv : Option Value}
    (h1 : (lo = none ∧ lv = none) ∨ ∃ j k, lo = some j ∧ lv = some (.int k j)) (h2 : (hi = none ∧ hv = none) ∨ ∃ j k, hi = some j ∧ hv = some (.int k j)) (h3 : (mx = none ∧ mv = none) ∨ ∃ j k, mx = some j ∧ mv = some (.int k j)) (g : Bool) :
    ∃ l hh m, (∀ w, (Instr.sliceBounds g n c lv hv mv).run P w = .ok (l, hh, m) w) ∧ K l hh m := by
  rcases h3 with ⟨rfl, rfl⟩ | ⟨m, km, rfl, rfl⟩ <;> rcases h2 with ⟨rfl, rfl⟩ | ⟨x, kx, rfl, rfl⟩ <;> rcases h1 with ⟨rfl, rfl⟩ | ⟨l, kl, rfl, rfl⟩ <;> simp only [sliceF] at h
  · exact ⟨0, n, c, fun w => by simp [Instr.sliceBounds], h⟩
  · obtain ⟨a1, a2, h⟩ := h
    exact ⟨_, _, _, fun w => by simp [Instr.sliceBounds, run_bound l kl n _ a1 a2], h⟩
  · obtain ⟨a1, a2, h⟩ := h
    exact ⟨_, _, _, fun w => by simp [Instr.sliceBounds, run_bound x kx c _ a1 a2], h⟩
  · obtain ⟨a1, a2, a3, a4, h⟩ := h
    have h4 := fun code => run_bound (P := P) l kl x.toNat code a3 (by omega)
    exact ⟨_, _, _, fun w => by simp [Instr.sliceBounds, run_bound x kx c _ a1 a2, h4], h⟩
  · obtain ⟨a1, a2, a3, a4, h⟩ := h
    have h4 := fun code => run_bound (P := P) x kx m.toNat code a3 (by omega)
    exact ⟨_, _, _, fun w => by simp [Instr.sliceBounds, run_bound m km c _ a1 a2, h4], h⟩
  · obtain ⟨a1, a2, a3, a4, a5, a6, h⟩ := h
    have h4 := fun code => run_bound (P := P) x kx m.toNat code a3 (by omega)
    have h5 := fun code => run_bound (P := P) l kl x.toNat code a5 (by omega)
    exact ⟨_, _, _, fun w => by simp [Instr.sliceBounds, run_bound m km c _ a1 a2, h4, h5], h⟩
theorem cutA_eq (A : Option Addr) (k l m : Nat) : (if m = l then A else A.map (·.add k)) = cutA A k (decide (m = l)) := by
  by_cases h : m = l <;> simp [cutA, h]
theorem setFold (vs : List Value) : ∀ (cs : List Value) (o i : Nat), o + i + vs.length ≤ cs.length →
    (vs.zipIdx i).foldl (fun (cs : Array Value) (x : Value × Nat) => cs.setIfInBounds (o + x.2) x.1) cs.toArray = (setR cs (o + i) vs).toArray := by
  induction vs with
  | nil => intro cs o i h; simp [setR]
  | cons v r ih =>
    intro cs o i h
    simp only [List.zipIdx_cons, List.foldl_cons, List.setIfInBounds_toArray]
    have hl : (v :: r).length = r.length + 1 := rfl
    rw [hl] at h
    rw [ih (cs.set (o + i) v) o (i + 1) (by rw [List.length_set]; omega)]
    congr 1
    unfold setR
    apply List.ext_getElem?
    intro j
    simp only [List.getElem?_append, List.length_append, List.length_take, List.length_set, List.getElem?_take, List.getElem?_drop, List.getElem?_set, List.length_cons]
    by_cases c1 : j < o + i
    · have e1 : j < min (o + (i + 1)) cs.length := by omega
      have e2 : j < min (o + (i + 1)) cs.length + r.length := by omega
      have e3 : j < min (o + i) cs.length := by omega
      have e4 : j < min (o + i) cs.length + (r.length + 1) := by omega
      have e5 : ¬ (o + i = j) := by omega
      have e6 : j < o + (i + 1) := by omega
      simp [e1, e2, e3, e4, e5, c1, e6]
    · by_cases c2 : j = o + i
      · subst c2
        have e1 : o + i < min (o + (i + 1)) cs.length := by omega
        have e2 : o + i < min (o + (i + 1)) cs.length + r.length := by omega
        have e3 : ¬ (o + i < min (o + i) cs.length) := by omega
        have e4 : o + i < min (o + i) cs.length + (r.length + 1) := by omega
        have e6 : o + i < o + (i + 1) := by omega
        have e7 : o + i < cs.length := by omega
        have e8 : o + i - min (o + i) cs.length = 0 := by omega
        simp [e1, e2, e3, e4, e6, e7, e8]
      · by_cases c3 : j < o + i + 1 + r.length
        · have e1 : ¬ (j < min (o + (i + 1)) cs.length) := by omega
          have e2 : j < min (o + (i + 1)) cs.length + r.length := by omega
          have e3 : ¬ (j < min (o + i) cs.length) := by omega
          have e4 : j < min (o + i) cs.length + (r.length + 1) := by omega
          have e5 : j - min (o + i) cs.length = (j - min (o + (i + 1)) cs.length) + 1 := by omega
          simp [e1, e2, e3, e4, e5]
        · have e1 : ¬ (j < min (o + (i + 1)) cs.length) := by omega
          have e2 : ¬ (j < min (o + (i + 1)) cs.length + r.length) := by omega
          have e3 : ¬ (j < min (o + i) cs.length) := by omega
          have e4 : ¬ (j < min (o + i) cs.length + (r.length + 1)) := by omega
          have e9 : o + (i + 1) + r.length + (j - (min (o + (i + 1)) cs.length + r.length)) = j := by omega
          have e10 : o + i + (r.length + 1) + (j - (min (o + i) cs.length + (r.length + 1))) = j := by omega
          have e11 : ¬ (o + i = j) := by omega
          simp only [e1, e2, e3, e4, if_false, e9, e10, e11]
theorem cellsL_eq (v : Value) : v.cells = (cellsL v).toArray := by cases v <;> rfl
theorem run_fill {fs : List (Nat × Nat × Bool)} {places : Nat → Option (Nat × Nat)} (hp : ∀ i f, fs[i]? = some f → places i = some (f.1, f.2.1)) : ∀ {ps : List (Nat × Value)} {cs out : List Value}, fillL fs cs ps = some out →
    Instr.fill places cs.toArray ps = some out.toArray
  | [], cs, out, h => by simp only [fillL, Option.some.injEq] at h; subst h; rfl
  | (i, v) :: r, cs, out, h => by
    simp only [fillL] at h
    split at h
    · rename_i f hf
      split at h
      · rename_i h1 h2
        have h1' := Nat.eq_of_beq_eq_true h1
        have h2' := Nat.le_of_ble_eq_true h2
        have hsz : v.cells.size = (cellsL v).length := by rw [cellsL_eq]; simp
        simp only [Instr.fill, hp i f hf]
        have hno : ¬ (v.cells.size ≠ f.2.1 ∨ f.1 + v.cells.size > cs.toArray.size) := by
          rw [hsz, List.size_toArray]
          omega
        rw [if_neg (by simpa using hno)]
        have h3 := setFold (cellsL v) cs f.1 0 (by omega)
        have h4 : v.cells.zipIdx.foldl (fun cs (x : Value × Nat) => cs.setIfInBounds (f.1 + x.2) x.1) cs.toArray = (setR cs f.1 (cellsL v)).toArray := by
          rw [cellsL_eq, ← Array.foldl_toList]
          simpa using h3
        have h5 := run_fill hp h
        rw [← h4] at h5
        exact h5
      · simp at h
    · simp at h
theorem run_fillA {len esz : Nat} {ps : List (Nat × Value)} {cs out : List Value} (h : fillL (fsA len esz) cs ps = some out) : Instr.fill (fun i => some (i * esz, esz)) cs.toArray ps = some out.toArray := by
  refine run_fill (fs := fsA len esz) (fun i f hf => ?_) h
  unfold fsA at hf
  rw [List.getElem?_map] at hf
  cases hr : (List.range len)[i]? with
  | none => rw [hr] at hf; simp at hf
  | some j =>
    rw [hr] at hf
    obtain ⟨hlt, hj⟩ := List.getElem?_eq_some_iff.1 hr
    rw [List.getElem_range] at hj
    subst hj
    simp only [Option.map_some, Option.some.injEq] at hf
    subst hf
    rfl
theorem run_mapM {l : List Field} {fs : List (Nat × Nat × Bool)} (h : fieldsOk P l fs) (w : World) : (l.mapM fun f => (do pure (f.offset, ← sizeOf f.type) : Sem (Nat × Nat))).run P w = .ok (fs.map fun x => (x.1, x.2.1)) w := by
  induction l generalizing fs with
  | nil =>
    cases fs with
    | nil => simp
    | cons x s => exact h.elim
  | cons f r ih =>
    cases fs with
    | nil => exact h.elim
    | cons x s =>
      obtain ⟨⟨h1, j, d, h2, h3, h4, h5⟩, h6⟩ := h
      simp only [List.mapM_cons, Sem.run_bind, run_sizeOf h2, Result.andThen_ok, Sem.run_pure, ih h6, List.map_cons, h1, h3]

theorem run_asIntOf (k : IntKind) (n : Int) (w : World) : (asIntOf (.int k n)).run P w = .ok (k, n) w := by simp [asIntOf]
/-- Each such operation is sound. -/
theorem wPure_sound (hT : ∀ t i, look t T = some i → TiOk P t i) {o : Op} {K : AV → Prop} (h : wPure T o e K) (E : EnvOk β e a) : ∃ av, K av ∧ ∀ w, Gives P o a w (av.conc β) := by
  cases o with
  | move x =>
    obtain ⟨av, hx, h⟩ := onAV_some h
    exact ⟨av, h, fun w _ _ _ _ _ => by simp [execOp, ev_eval E hx]⟩
  | assign x =>
    obtain ⟨av, hx, h⟩ := onAV_some h
    exact ⟨av, h, fun w _ _ _ _ _ => by simp [execOp, ev_eval E hx]⟩
  | pick c x y =>
    obtain ⟨cv, hc, h⟩ := onV_some h
    split at h
    · rename_i t
      cases t
      · obtain ⟨av, hx, h⟩ := onAV_some (h : onAV (ev e y) K)
        exact ⟨av, h, fun w _ _ _ _ _ => by simp [execOp, ev_evalV E hc, ev_eval E hx, asBool]⟩
      · obtain ⟨av, hx, h⟩ := onAV_some (h : onAV (ev e x) K)
        exact ⟨av, h, fun w _ _ _ _ _ => by simp [execOp, ev_evalV E hc, ev_eval E hx, asBool]⟩
    · exact h.elim
  | nilCheck x =>
    obtain ⟨av, hx, h⟩ := onAV_some h
    split at h
    · exact ⟨_, h, fun w _ _ _ _ _ => by simp [execOp, ev_eval E hx, AV.conc]⟩
    · obtain ⟨b, o, rfl, h⟩ := onPtr_some h
      exact ⟨_, h, fun w _ _ _ _ _ => by simp [execOp, ev_eval E hx, AV.conc]⟩
    · exact ⟨_, h, fun w _ _ _ _ _ => by simp [execOp, ev_eval E hx, AV.conc]⟩
    · exact h.elim
  | binOp op t x y u =>
    obtain ⟨va, ha, h⟩ := onV_some h
    obtain ⟨vb, hb, h⟩ := onV_some h
    obtain ⟨v, h, hr⟩ := run_binF hT h x y
    refine ⟨_, h, fun w _ _ _ _ _ => ?_⟩
    simp only [execOp, ev_evalV E ha, ev_evalV E hb]
    rw [Sem.run_bind, hr w]
    rfl
  | unOp op t x =>
    obtain ⟨va, ha, h⟩ := onV_some h
    unfold unF at h
    split at h
    · exact ⟨_, h, fun w _ _ _ _ _ => by simp [execOp, ev_evalV E ha, Op.unary, AV.conc]⟩
    · exact ⟨_, h, fun w _ _ _ _ _ => by simp [execOp, ev_evalV E ha, Op.unary, Op.intArith, AV.conc]⟩
    · exact h.elim
  | convert s d x =>
    obtain ⟨va, hx, h⟩ := onV_some h
    obtain ⟨si, hs, h⟩ := onTI_some h
    obtain ⟨di, hd, h⟩ := onTI_some h
    split at h
    · rename_i k m kk n hkn hz _ _
      obtain ⟨d1, hd1, hag1, hk1⟩ := (hT s si hs).desc
      obtain ⟨d2, hd2, hag2, hk2⟩ := (hT d di hd).desc
      rw [hkn, hz] at hk2
      cases (hk2 : d2 = .int k)
      refine ⟨_, h, fun w _ _ _ _ _ => ?_⟩
      cases d1 <;> simp [execOp, ev_evalV E hx, AV.conc, convert, run_underlying hd1, run_underlying hd2, Conv.intToInt]
    · exact h.elim
  | fieldAddr t x f =>
    obtain ⟨i, hi, h⟩ := onTI_some h
    split at h
    · rename_i fs hkn
      split at h
      · rename_i fi hfi
        split at h
        · exact h.elim
        · rename_i q hq
          obtain ⟨av, hx, h⟩ := onAV_some h
          obtain ⟨d, hd, hag, hk⟩ := (hT t i hi).desc
          rw [hkn] at hk
          obtain ⟨flds, rfl, hf⟩ := hk
          obtain ⟨g, hg, ho, j, dd, hj, hjs, _⟩ := fieldsOk_get hf hfi
          have hg' : flds[f]? = some g := by simpa using hg
          have hne : j.size ≠ 0 := by rw [hjs, hq]; omega
          split at h
          · exact ⟨_, h, fun w _ _ _ _ _ => by simp [execOp, ev_eval E hx, AV.conc, Instr.fieldAt, run_underlying hd, hg', Instr.sureAddr, fieldPlace, run_sizeOf hj, hne, ho, add_mk]⟩
          · obtain ⟨b, o, rfl, h⟩ := onPtr_some h
            exact ⟨_, h, fun w _ _ _ _ _ => by simp [execOp, ev_eval E hx, AV.conc, Instr.fieldAt, run_underlying hd, hg', Instr.sureAddr, fieldPlace, run_sizeOf hj, hne, ho, add_mk]⟩
          · exact h.elim
      · exact h.elim
    · exact h.elim
  | field t x f =>
    obtain ⟨i, hi, h⟩ := onTI_some h
    split at h
    · rename_i fs hkn
      split at h
      · rename_i fi hfi
        obtain ⟨va, hx, h⟩ := onV_some h
        split at h
        · rename_i cs
          split at h
          · rename_i hle
            obtain ⟨v, hv, h⟩ := mkV_some h
            obtain ⟨d, hd, hag, hk⟩ := (hT t i hi).desc
            rw [hkn] at hk
            obtain ⟨flds, rfl, hf⟩ := hk
            obtain ⟨g, hg, ho, j, dd, hj, hjs, hdd, hagg⟩ := fieldsOk_get hf hfi
            have hg' : flds[f]? = some g := by simpa using hg
            have hp := run_part (P := P) (cs := cs) (off := g.offset) (v := v) hj hdd (by rw [ho, hjs]; exact Nat.le_of_ble_eq_true hle) (by rw [ho, hjs, hagg]; exact hv)
            exact ⟨_, h, fun w _ _ _ _ _ => by simp [execOp, ev_evalV E hx, AV.conc, Instr.field, run_underlying hd, hg', asAgg, hp]⟩
          · exact h.elim
        · exact h.elim
      · exact h.elim
    · exact h.elim
  | indexAddr t x ix =>
    obtain ⟨i, hi, h⟩ := onTI_some h
    obtain ⟨iv, hix, h⟩ := onV_some h
    obtain ⟨d, hd, hag, hk⟩ := (hT t i hi).desc
    split at h
    · rename_i kk j
      split at h
      · rename_i el esz eby hkn
        rw [hkn] at hk
        obtain ⟨rfl, jj, z, hj, hjs, _⟩ := hk
        obtain ⟨va, hx, h⟩ := onV_some h
        split at h
        · rename_i A n c
          obtain ⟨h0, h1, h⟩ := h
          obtain ⟨b, o, rfl, h⟩ := onPtr_some h
          exact ⟨_, h, fun w _ _ _ _ _ => by simp [execOp, ev_evalV E hx, ev_evalV E hix, AV.conc, Instr.indexAt, run_underlying hd, run_asIntOf, h0, h1, run_sizeOf hj, hjs, add_mk]⟩
        · exact h.elim
      · rename_i len esz ag hkn
        rw [hkn] at hk
        obtain ⟨el, jj, du, rfl, hj, hjs, _⟩ := hk
        obtain ⟨av, hx, h⟩ := onAV_some h
        split at h
        · obtain ⟨h0, h1, h⟩ := h
          exact ⟨_, h, fun w _ _ _ _ _ => by simp [execOp, ev_eval E hx, ev_evalV E hix, AV.conc, Instr.indexAt, run_underlying hd, run_asIntOf, h0, h1, run_sizeOf hj, hjs, add_mk, Instr.sureAddr]⟩
        · obtain ⟨h0, h1, h⟩ := h
          obtain ⟨b, o, rfl, h⟩ := onPtr_some h
          exact ⟨_, h, fun w _ _ _ _ _ => by simp [execOp, ev_eval E hx, ev_evalV E hix, AV.conc, Instr.indexAt, run_underlying hd, run_asIntOf, h0, h1, run_sizeOf hj, hjs, add_mk, Instr.sureAddr]⟩
        · exact h.elim
      · exact h.elim
    · exact h.elim
  | index t x ix =>
    obtain ⟨i, hi, h⟩ := onTI_some h
    obtain ⟨iv, hix, h⟩ := onV_some h
    obtain ⟨d, hd, hag, hk⟩ := (hT t i hi).desc
    split at h
    · rename_i kk j
      obtain ⟨va, hx, h⟩ := onV_some h
      split at h
      · rename_i len esz ag cs hkn
        rw [hkn] at hk
        obtain ⟨el, jj, du, rfl, hj, hjs, hdu, hagg⟩ := hk
        obtain ⟨h0, h1, h⟩ := h
        split at h
        · rename_i hl
          have hl' := Nat.eq_of_beq_eq_true hl
          obtain ⟨v, hv, h⟩ := mkV_some h
          have hb : j.toNat * esz + jj.size ≤ cs.toList.length := by
            rw [hl', hjs]
            have h3 : j.toNat + 1 ≤ len := by omega
            have h4 := Nat.mul_le_mul_right esz h3
            rw [Nat.add_mul, Nat.one_mul] at h4
            exact h4
          have hp := run_part (P := P) (cs := cs) (off := j.toNat * jj.size) (v := v) hj hdu (by rw [hjs] at hb ⊢; exact hb) (by rw [hjs, hagg]; exact hv)
          rw [hjs] at hp
          exact ⟨_, h, fun w _ _ _ _ _ => by simp [execOp, ev_evalV E hx, ev_evalV E hix, AV.conc, Instr.index, run_underlying hd, run_asIntOf, h0, h1, run_sizeOf hj, hjs, hp]⟩
        · exact h.elim
      · rename_i s hkn
        rw [hkn] at hk
        cases (hk : d = .string)
        obtain ⟨h0, h1, h⟩ := h
        have hlt : j.toNat < s.size := by omega
        have hget : s[j.toNat]? = some s[j.toNat] := by simp [hlt]
        have hb : bAt s j = ((s[j.toNat]'hlt).toNat : Int) := by
          unfold bAt
          have h5 : j.toNat < s.data.toList.length := by simpa using hlt
          rw [List.getD_eq_getElem?_getD, List.getElem?_eq_getElem h5]
          rfl
        refine ⟨_, h, fun w _ _ _ _ _ => ?_⟩
        rw [hb]
        simp [execOp, ev_evalV E hx, ev_evalV E hix, AV.conc, Instr.index, run_underlying hd, run_asIntOf, h0, hget]
      · exact h.elim
    · exact h.elim
  | slice t x lo hi mx =>
    obtain ⟨i, hi0, h⟩ := onTI_some h
    obtain ⟨va, hx, h⟩ := onV_some h
    obtain ⟨d, hd, hag, hk⟩ := (hT t i hi0).desc
    split at h
    · rename_i a1 a2 a3 l1 l2 l3 e1 e2 e3
      have o1 := opt_some E e1
      have o2 := opt_some E e2
      have o3 := opt_some E e3
      split at h
      · rename_i el esz eby A n c hkn
        rw [hkn] at hk
        obtain ⟨rfl, jj, z, hj, hjs, _⟩ := hk
        obtain ⟨l, hh, m, hr, h⟩ := run_bounds (P := P) h o1 o2 o3 true
        refine ⟨_, h, fun w _ _ _ _ _ => ?_⟩
        simp only [execOp, ev_evalV E hx, AV.conc, Instr.sliceAt, Sem.run_bind, run_underlying hd, Result.andThen_ok, Instr.slice, hr, run_sizeOf hj, Sem.run_pure, hjs]
        rw [cutA_eq]
      · rename_i s hkn
        rw [hkn] at hk
        cases (hk : d = .string)
        split at h
        · rcases o3 with ⟨_, o3⟩ | ⟨_, _, o3, _⟩
          · obtain ⟨l, hh, m, hr, h⟩ := run_bounds (P := P) h o1 o2 (.inl ⟨rfl, rfl⟩) false
            refine ⟨_, h, fun w _ _ _ _ _ => ?_⟩
            simp [execOp, ev_evalV E hx, AV.conc, Instr.sliceAt, run_underlying hd, Instr.slice, o3, hr]
          · cases o3
        · exact h.elim
      · exact h.elim
    · exact h.elim
  | build t ps =>
    obtain ⟨i, hi, h⟩ := onTI_some h
    obtain ⟨vs, hvs, h⟩ := pairVs_some E h
    obtain ⟨d, hd, hag, hk⟩ := (hT t i hi).desc
    obtain ⟨jt, hjt, hjz, hjts⟩ := (hT t i hi).info
    have hps : (ps.map fun (p : Nat × Operand) => (p.1, a.eval p.2)).toList = vs := by rw [Array.toList_map]; exact hvs
    split at h
    · rename_i fs hkn
      rw [hkn] at hk
      obtain ⟨flds, rfl, hf⟩ := hk
      split at h
      · rename_i cs hcs
        have hag' : i.agg = true := hag.symm
        rw [hag'] at hjz
        refine ⟨_, h, fun w _ _ _ _ _ => ?_⟩
        have hm : (flds.mapM fun f => (do pure (f.offset, ← sizeOf f.type) : Sem (Nat × Nat))).run P w = .ok (fs.map fun x => (x.1, x.2.1)).toArray w := by
          rw [Array.mapM_eq_mapM_toList, Sem.run_map, run_mapM hf]
          rfl
        have hfill := run_fill (fs := fs) (places := fun k => ((fs.map fun x => (x.1, x.2.1)).toArray)[k]?) (fun k f hkf => by simp [hkf]) hcs
        simp only [execOp, AV.conc, Instr.build, Sem.run_bind, run_zeroValue hjt hjz, Result.andThen_ok, run_underlying hd, hm, hps, Value.cells, hfill, Sem.run_pure]
      · exact h.elim
    · rename_i len esz ag hkn
      rw [hkn] at hk
      obtain ⟨el, jj, du, rfl, hj, hjs, _⟩ := hk
      split at h
      · rename_i cs hcs
        have hag' : i.agg = true := hag.symm
        rw [hag'] at hjz
        refine ⟨_, h, fun w _ _ _ _ _ => ?_⟩
        have hfill := run_fillA hcs
        simp only [execOp, AV.conc, Instr.build, Sem.run_bind, run_zeroValue hjt hjz, Result.andThen_ok, run_underlying hd, run_sizeOf hj, hjs, hps, Value.cells, hfill, Sem.run_pure]
      · exact h.elim
    · exact h.elim
  | extract x ix =>
    obtain ⟨va, hx, h⟩ := onV_some h
    split at h
    · rename_i vs
      split at h
      · rename_i v hv
        have hv' : vs[ix]? = some v := by simpa using hv
        exact ⟨_, h, fun w _ _ _ _ _ => by simp [execOp, ev_evalV E hx, AV.conc, Instr.extract, hv']⟩
      · exact h.elim
    · exact h.elim
  | makeFunc fn first cap =>
    obtain ⟨vs, hvs, h⟩ := withVs_some E h
    obtain ⟨us, hus, h⟩ := withVs_some E h
    refine ⟨_, h, fun w _ _ _ _ _ => ?_⟩
    have h1 : first.map a.eval = vs.toArray := by apply Array.ext'; rw [Array.toList_map]; exact hvs
    have h2 : cap.map a.eval = us.toArray := by apply Array.ext'; rw [Array.toList_map]; exact hus
    simp [execOp, AV.conc, Instr.makeFunc, h1, h2]
  | _ => exact h.elim
end
end Go.Proofs.Ytkbancdmhcnhjaa.Hw
