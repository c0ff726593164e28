/- What the machine does with maps whose keys are whole numbers. -/
import Derived.Test.YtkbancdmhcnhjaaHwOp
set_option linter.unusedVariables false
set_option linter.unusedSimpArgs false
namespace Go.Proofs.Ytkbancdmhcnhjaa.Hw
open Go
open Go.ChangeMaps (setBlock)
section
variable {P : Program} {w : World} {H : Hp}
theorem blk_at {b : Nat} {o : Obj} (hb : w.heap[b]? = some o) (o' : Obj) (x : Nat) : (setBlock w b o').heap[x]? = if x = b then some o' else w.heap[x]? := by
  unfold setBlock
  have hlt : b < w.heap.size := (Array.getElem?_eq_some_iff.1 hb).1
  simp only [Array.getElem?_setIfInBounds]
  by_cases h : x = b
  · subst h; simp [hlt]
  · rw [if_neg (fun e => h e.symm), if_neg h]
theorem step_obj (h : Has w H) {b : Nat} {o : Obj} (hb : H b = some o) (o' : Obj) : Has (setBlock w b o') (upd b o' H) ∧ Fr H w (setBlock w b o') ∧ New H w (upd b o' H) := by
  have hw := h b o hb
  refine ⟨fun x p hx => ?_, ⟨rfl, rfl, rfl, by simp [setBlock], fun x hx hn => ?_⟩, fun x hx => ?_⟩
  · rw [blk_at hw]
    rcases upd_some hx with ⟨rfl, rfl⟩ | ⟨hne, hx⟩
    · rw [if_pos rfl]
    · rw [if_neg hne]; exact h x p hx
  · rw [blk_at hw, if_neg (fun e => by subst e; rw [hb] at hn; cases hn)]
  · by_cases hxb : x = b
    · subst hxb; left; rw [hb]; simp
    · rw [upd_other hxb] at hx; exact .inl hx
theorem step_drew_obj (h : Has w H) {b : Nat} {o : Obj} (hb : H b = some o) (o' : Obj) : Has (setBlock w.drew b o') (upd b o' H) ∧ Fr H w (setBlock w.drew b o') ∧ New H w (upd b o' H) :=
  step_obj (w := w.drew) h hb o'
theorem findNow_int {k : IntKind} {x : Int} : ∀ {es : List MapEntry} {i : Nat}, intKeys k es → Instr.findNow (.int k) (.int k x) es i = some ((es.findIdx? (isKey x)).map fun j => (i + j, (es[j]?.map (·.val)).getD undef))
  | [], i, _ => rfl
  | e :: r, i, h => by
    obtain ⟨y, hy⟩ := h e List.mem_cons_self
    have ih := findNow_int (x := x) (es := r) (i := i + 1) (fun e he => h e (List.mem_cons_of_mem _ he))
    unfold Instr.findNow
    rw [List.findIdx?_cons]
    have hs : Instr.sameNow (.int k) (.int k x) e.key = some (x == y) := by rw [hy]; simp [Instr.sameNow]
    have hi : isKey x e = (x == y) := by unfold isKey; rw [hy]; rfl
    rw [hs, hi]
    cases x == y with
    | true => simp
    | false =>
      simp only [Bool.false_eq_true, if_false]
      rw [ih, Option.map_map]
      congr 2
      funext j
      simp only [Function.comp, Prod.mk.injEq, List.getElem?_cons_succ, and_true]
      omega
theorem run_findKey {kt : TypeId} {k : IntKind} {x : Int} {es : List MapEntry} (hk : P.underlying kt = some (.int k)) (h : intKeys k es) :
    (Instr.findKey kt (.int k x) es).run P w = .ok ((es.findIdx? (isKey x)).map fun j => (j, (es[j]?.map (·.val)).getD undef)) w := by
  unfold Instr.findKey
  simp only [Sem.run_bind, run_underlying hk, Result.andThen_ok, findNow_int (x := x) h (i := 0), Nat.zero_add, Sem.run_pure]
theorem run_checkKey {kt : TypeId} {k : IntKind} {x : Int} {b : Bool} (hk : P.underlying kt = some (.int k)) : (Instr.checkKey b 10000 kt (.int k x)).run P w = .ok () w := by
  show (Instr.checkKey b (9999 + 1) kt (.int k x)).run P w = .ok () w
  unfold Instr.checkKey
  simp only [Sem.run_bind, run_underlying hk, Result.andThen_ok, Sem.run_pure]
theorem run_getMap {b : Nat} {es : Array MapEntry} {clock : Nat} (hb : w.heap[b]? = some (.map es clock)) : (getObj b).run P w = .ok (.map es clock) w := by
  simp [getObj, Sem.run, hb]
theorem run_setMap {b : Nat} {es : Array MapEntry} {clock : Nat} (hb : w.heap[b]? = some (.map es clock)) (o' : Obj) : (setObj b o').run P w = .ok () (setBlock w b o') := by
  simp [setObj, Sem.run, hb, setBlock]
theorem find_idx {x : Int} : ∀ {es : List MapEntry}, findE x es = (es.findIdx? (isKey x)).map fun j => (es[j]?.map (·.val)).getD undef
  | [] => rfl
  | e :: r => by
    have ih := find_idx (x := x) (es := r)
    unfold findE at ih ⊢
    rw [List.find?_cons, List.findIdx?_cons]
    cases isKey x e with
    | true => simp
    | false =>
      simp only [Bool.false_eq_true, if_false]
      rw [ih, Option.map_map]
      congr 1
theorem run_lookup {t kt vt : TypeId} {k : IntKind} {x : Int} {z : Value} {ok : Bool} (ht : P.underlying t = some (.map kt vt)) (hk : P.underlying kt = some (.int k)) (hz : (zeroValue vt).run P w = .ok z w)
    {b : Nat} {es : Array MapEntry} {clock : Nat} (hb : w.heap[b]? = some (.map es clock)) (h : intKeys k es.toList) :
    (Instr.lookup t (.map (some b)) (.int k x) ok).run P w = .ok (if ok then .tuple #[(findE x es.toList).getD z, .bool (findE x es.toList).isSome] else (findE x es.toList).getD z) w := by
  unfold Instr.lookup
  simp only [Sem.run_bind, run_underlying ht, Result.andThen_ok, run_getMap hb, Sem.run_pure, run_checkKey hk, run_findKey hk h]
  rw [find_idx]
  cases es.toList.findIdx? (isKey x) with
  | none => simp [hz]
  | some j => simp
theorem run_lookup_nil {t kt vt : TypeId} {k : IntKind} {x : Int} {z : Value} {ok : Bool} (ht : P.underlying t = some (.map kt vt)) (hk : P.underlying kt = some (.int k)) (hz : (zeroValue vt).run P w = .ok z w) :
    (Instr.lookup t (.map none) (.int k x) ok).run P w = .ok (if ok then .tuple #[z, .bool false] else z) w := by
  unfold Instr.lookup
  have h : intKeys k (#[] : Array MapEntry).toList := fun e he => by cases he
  simp only [Sem.run_bind, run_underlying ht, Result.andThen_ok, Sem.run_pure, run_checkKey hk, run_findKey hk h]
  simp [hz]
theorem findIdx_key {k : IntKind} {x : Int} {es : List MapEntry} {j : Nat} (h : intKeys k es) (hj : es.findIdx? (isKey x) = some j) : ∃ e, es[j]? = some e ∧ e.key = .int k x := by
  rw [List.findIdx?_eq_some_iff_getElem] at hj
  obtain ⟨hlt, hp, _⟩ := hj
  refine ⟨_, List.getElem?_eq_getElem hlt, ?_⟩
  obtain ⟨y, hy⟩ := h _ (List.getElem_mem hlt)
  unfold isKey at hp
  rw [hy] at hp
  rw [hy, of_decide_eq_true hp]
theorem run_mapUpdate {t kt vt : TypeId} {k : IntKind} {x : Int} {v : Value} (ht : P.underlying t = some (.map kt vt)) (hk : P.underlying kt = some (.int k))
    {b : Nat} {es : Array MapEntry} {clock : Nat} (hb : w.heap[b]? = some (.map es clock)) (h : intKeys k es.toList) :
    (Instr.mapUpdate t (.map (some b)) (.int k x) v).run P w = .ok () (setBlock w b (putE k x v es clock)) := by
  unfold Instr.mapUpdate putE
  simp only [Sem.run_bind, run_underlying ht, Result.andThen_ok, run_getMap hb, run_checkKey hk, run_findKey hk h]
  cases hj : es.toList.findIdx? (isKey x) with
  | none => simp only [Option.map_none, run_setMap hb]
  | some j =>
    obtain ⟨e, he, hkey⟩ := findIdx_key h hj
    have he' : es[j]? = some e := by rw [← Array.getElem?_toList]; exact he
    have hstay : (Instr.keyThatStays (.int k x) (.int k x)).run P w = .ok (.int k x) w := by
      unfold Instr.keyThatStays
      have : Instr.sameBits 10000 (.int k x) (.int k x) = true := by
        show Instr.sameBits (9999 + 1) (.int k x) (.int k x) = true
        unfold Instr.sameBits
        simp
      rw [if_pos this]; rfl
    simp only [Option.map_some, he', Option.getD_some, hkey, Sem.run_bind, hstay, Result.andThen_ok, run_setMap hb]
theorem run_delete {t kt vt ty : TypeId} {us : List TypeId} {k : IntKind} {x : Int} (ht : P.underlying t = some (.map kt vt)) (hk : P.underlying kt = some (.int k))
    {b : Nat} {es : Array MapEntry} {clock : Nat} (hb : w.heap[b]? = some (.map es clock)) (h : intKeys k es.toList) :
    (Builtin.delete_ (t :: us).toArray ty #[.map (some b), .int k x]).run P w = .ok (.tuple #[]) (setBlock w b (delE x es clock)) := by
  unfold Builtin.delete_ delE
  simp only [List.getElem?_toArray, List.getElem?_cons_zero, List.getElem?_cons_succ, Sem.run_bind, run_underlying ht, Result.andThen_ok, run_getMap hb, run_checkKey hk, run_findKey hk h]
  cases hj : es.toList.findIdx? (isKey x) with
  | none => simp only [Option.map_none, run_setMap hb, Sem.run_bind, Result.andThen_ok, Sem.run_pure]
  | some j => simp only [Option.map_some, run_setMap hb, Sem.run_bind, Result.andThen_ok, Sem.run_pure]
end
end Go.Proofs.Ytkbancdmhcnhjaa.Hw
