/- Every operation of the evaluator is sound. -/
import Derived.Test.YtkbancdmhcnhjaaHwMo
set_option linter.unusedVariables false
set_option linter.unusedSimpArgs false
namespace Go.Proofs.Ytkbancdmhcnhjaa.Hw
open Go
open Go.ChangeMaps (setBlock)

section
variable {P : Program} {w : World} {H : Hp}
theorem cellsAt_w (h : Has w H) {A : Option Addr} {l : List Value} (hc : cellsAt H A l) (size n len cap : Nat) (hl : l.length = n * size) :
    (Builtin.firstCells size n (.slice A len cap)).run P w = .ok l.toArray w := by
  rcases hc with rfl | ⟨b, o, rfl, hc⟩
  · have h0 : n * size = 0 := by simpa using hl.symm
    cases A with
    | none => simp [Builtin.firstCells]
    | some a => simp [Builtin.firstCells, h0, loadCells, loadCellsFrom]
  · exact run_firstCells_some (P := P) w size n ⟨b, o, none⟩ len cap l hl (fun j v hv => by rw [add_mk]; exact has_cell h (hc j v hv))
theorem run_append_all {t el ty : TypeId} {j : TypeInfo} {z : Value} {esz eby : Nat} (hd : P.underlying t = some (.slice el)) (hj : P.info? el = some j) (hz : j.zero = some z) (hjs : j.size = esz) (hjb : j.bytes = eby) (hzs : z.cells.size = esz)
    {A B : Option Addr} {n c m cb : Nat} {K : Option Addr → Nat → Nat → Hp → Prop} (hs : 0 < esz) (hh : Has w H) (h : appendF H el esz eby A n c B m K) :
    ∃ A' n' c' w' H', (Builtin.append_ #[t, t] ty #[.slice A n c, .slice B m cb]).run P w = .ok (.slice A' n' c') w' ∧ K A' n' c' H' ∧ Has w' H' ∧ Fr H w w' ∧ New H w H' := by
  obtain ⟨hb1, hb2, new, hnl, hnc, hn1, hroom, hgrow⟩ := h
  have hfn := cellsAt_w (P := P) hh hnc esz m m cb hnl
  have hsl : (match (TypeDesc.slice el) with | .int _ => true | _ => false) = false := rfl
  by_cases hle : n + m ≤ c
  · obtain ⟨h0, h1⟩ := hroom hle
    rcases Nat.eq_zero_or_pos m with hm | hm
    · subst hm
      have hnil : new = [] := List.eq_nil_of_length_eq_zero (by simpa using hnl)
      subst hnil
      have hle' : n ≤ c := hle
      refine ⟨A, n, c, w, H, ?_, h0 rfl, hh, ⟨rfl, rfl, rfl, Nat.le_refl _, fun _ _ _ => rfl⟩, fun b hb => .inl hb⟩
      cases A with
      | none => simp [Builtin.append_, run_underlying hd, sizeOf, typeInfo, hj, hjs, Builtin.lenOf, hfn, hle']
      | some a => simp [Builtin.append_, run_underlying hd, sizeOf, typeInfo, hj, hjs, Builtin.lenOf, hfn, hle', storeCells]
    · obtain ⟨b, o, cs, ty', rfl, hb, hfit, hk⟩ := h1 hm
      have hst := run_storeCells_at (P := P) b (o + n * esz) ty' new 0 cs.toArray w (hh b _ hb) (by rw [List.size_toArray, hnl]; rw [Nat.add_mul] at hfit; omega) hn1
      obtain ⟨a1, a2, a3⟩ := step_set (cs' := (setR cs (o + n * esz) new).toArray) hh hb
      refine ⟨_, _, _, _, _, ?_, hk, a1, a2, a3⟩
      simp only [Nat.add_zero] at hst
      simp [Builtin.append_, run_underlying hd, sizeOf, typeInfo, hj, hjs, Builtin.lenOf, hfn, hle, add_mk, hst, setR]
  · obtain ⟨old, hol, hoc, hk⟩ := hgrow (by omega)
    have hml : (9223372036854775807 : Nat) = maxLen := by simp only [maxLen]
    have hcm : grownCap w (n + m) c el ≤ maxLen := grownCap_le_maxLen w (n + m) c el (by rw [← hml]; omega)
    have hge := grownCap_ge w (n + m) c el
    have hdr : Has w.drew H := hh
    have hfo := cellsAt_w (P := P) hdr hoc esz n n c hol
    have hfn' := cellsAt_w (P := P) hdr hnc esz m m cb hnl
    have hrl : (Builtin.zeroCells z.cells (grownCap w (n + m) c el - (n + m))).toList.length = (grownCap w (n + m) c el - (n + m)) * esz := by
      rw [Array.length_toList, size_zeroCells, hzs]
    have hkk := hk w.heap.size (grownCap w (n + m) c el) (Builtin.zeroCells z.cells (grownCap w (n + m) c el - (n + m))).toList (has_none hh (Nat.le_refl _)) hge hcm hrl
    obtain ⟨a1, a2, a3⟩ := step_drew_new hh (.cells (old ++ new ++ (Builtin.zeroCells z.cells (grownCap w (n + m) c el - (n + m))).toList).toArray el (0, 0))
    refine ⟨_, _, _, _, _, ?_, hkk, a1, a2, a3⟩
    have hfit : ¬ (281474976710656 < Builtin.nextslicecap (n + m) c * eby) := by
      have := growslice_fits (need := n + m) (old := c) (by omega) hb1
      omega
    have h63 : ¬ (9223372036854775807 < ((n : Int) + (m : Int))) := by omega
    simp [Builtin.append_, run_underlying hd, sizeOf, typeInfo, hj, hjs, hjb, Builtin.lenOf, hle, hfit, h63, Question.forced, zeroValue, hz, newRow, hfo, hfn', grownCap]
    congr 2
    apply Array.ext'
    simp [List.append_assoc]
theorem range_flat (z : List Value) : ∀ n, ((Array.range (n * z.length)).map fun i => z.toArray[i % z.toArray.size]!).toList = (List.replicate n z).flatten := by
  intro n
  rw [Array.toList_map, Array.toList_range]
  induction n with
  | zero => simp
  | succ n ih =>
    rw [Nat.add_mul, Nat.one_mul, List.range_add, List.map_append, ih, List.replicate_succ', List.flatten_append]
    congr 1
    simp only [List.flatten_cons, List.flatten_nil, List.append_nil, List.map_map]
    apply List.ext_getElem
    · simp
    · intro i h1 h2
      simp only [List.getElem_map, List.getElem_range, Function.comp, List.size_toArray]
      rw [Nat.mul_comm n, Nat.mul_add_mod, Nat.mod_eq_of_lt h2]
      simp [h2]
theorem run_append_zeros {t u el ty : TypeId} {ud : TypeDesc} {uk : IntKind} {j : TypeInfo} {z : Value} {esz eby : Nat} {zs : List Value} (hd : P.underlying t = some (.slice el)) (hud : P.underlying u = some ud) (huk : ud = .int uk) (hj : P.info? el = some j) (hz : j.zero = some z) (hjs : j.size = esz) (hjb : j.bytes = eby)
    (hzc : z.cells = zs.toArray) (hzl : zs.length = esz) {A : Option Addr} {n c : Nat} {k : Int} {K : Option Addr → Nat → Nat → Hp → Prop} (hs : 0 < esz) (hh : Has w H) (h : appendZF H el esz eby zs A n c k K) :
    ∃ A' n' c' w' H', (Builtin.append_ #[t, u] ty #[.slice A n c, .int .i64 k]).run P w = .ok (.slice A' n' c') w' ∧ K A' n' c' H' ∧ Has w' H' ∧ Fr H w w' ∧ New H w H' := by
  obtain ⟨hk0, hgt, hb1, hb2, old, hol, hoc, hk⟩ := h
  subst huk
  have hwr : IntKind.i64.wrap k = k := by
    unfold IntKind.wrap
    simp [IntKind.bits, IntKind.signed]
    omega
  obtain ⟨m, rfl⟩ : ∃ m : Nat, k = m := ⟨k.toNat, by omega⟩
  rw [Int.toNat_natCast] at hgt hb1 hb2 hk
  have hml : (9223372036854775807 : Nat) = maxLen := by simp only [maxLen]
  have hcm : grownCap w (n + m) c el ≤ maxLen := grownCap_le_maxLen w (n + m) c el (by rw [← hml]; omega)
  have hge := grownCap_ge w (n + m) c el
  have hdr : Has w.drew H := hh
  have hfo := cellsAt_w (P := P) hdr hoc esz n n c hol
  have hzs : z.cells.size = esz := by rw [hzc, List.size_toArray]; exact hzl
  have hrl : (Builtin.zeroCells z.cells (grownCap w (n + m) c el - (n + m))).toList.length = (grownCap w (n + m) c el - (n + m)) * esz := by
    rw [Array.length_toList, size_zeroCells, hzs]
  have hflat : (Builtin.zeroCells z.cells m).toList = (List.replicate m zs).flatten := by
    rw [hzc]
    unfold Builtin.zeroCells
    have := range_flat zs m
    rw [List.size_toArray]
    exact this
  have hkk := hk w.heap.size (grownCap w (n + m) c el) (Builtin.zeroCells z.cells (grownCap w (n + m) c el - (n + m))).toList (has_none hh (Nat.le_refl _)) hge hcm hrl
  obtain ⟨a1, a2, a3⟩ := step_drew_new hh (.cells (old ++ (List.replicate m zs).flatten ++ (Builtin.zeroCells z.cells (grownCap w (n + m) c el - (n + m))).toList).toArray el (0, 0))
  refine ⟨_, _, _, _, _, ?_, hkk, a1, a2, a3⟩
  have hfit : ¬ (281474976710656 < Builtin.nextslicecap (n + m) c * eby) := by
    have := growslice_fits (need := n + m) (old := c) (by omega) hb1
    omega
  have hle : ¬ (n + m ≤ c) := by omega
  have h63 : ¬ (9223372036854775807 < ((n : Int) + (m : Int))) := by omega
  have hmul : (m : Int) * (eby : Int) ≤ 140737488355328 := by
    have h1 : m * eby ≤ (n + m) * eby := Nat.mul_le_mul_right _ (by omega)
    have h2 : m * eby ≤ 140737488355328 := Nat.le_trans h1 hb1
    rw [← Int.natCast_mul]; omega
  have h48 : ¬ (281474976710656 < (m : Int) * (eby : Int)) := by omega
  have hm0 : ¬ (m = 0) := by omega
  have hneg : ¬ ((m : Int) < 0) := by omega
  have hme : ¬ (m * esz = 0) := fun h => by rcases Nat.mul_eq_zero.1 h with h | h <;> omega
  have hai : (asInt (.int .i64 (m : Int))).run P w = .ok (m : Int) w := by simp [asInt, asIntOf]
  simp [Builtin.append_, run_underlying hd, run_underlying hud, sizeOf, typeInfo, hj, hjs, hjb, hle, hfit, h63, h48, hai, hwr, hneg, hme, Question.forced, zeroValue, hz, newRow, hfo, grownCap]
  congr 2
  apply Array.ext'
  simp [List.append_assoc, hflat]
theorem run_newRow (el : TypeId) (cs : Array Value) (w : World) : (newRow el cs).run P w = .ok ⟨w.heap.size, 0, none⟩ (w.alloc (.cells cs el)) := by
  simp [newRow]
theorem run_newVar (el : TypeId) (v : Value) (w : World) : (newVar el v).run P w = .ok ⟨w.heap.size, 0, none⟩ (w.alloc (.cells v.cells el)) := by
  simp [newVar, run_newRow]
theorem shape1_some {T : List (Nat × TI)} {t : Nat} {K : Value → Prop} (h : shape1 T t K) : ∃ v, K v := by
  obtain ⟨i, _, h⟩ := onTI_some h
  obtain ⟨vs, h⟩ := leafEs_some h
  obtain ⟨v, _, h⟩ := mkV_some h
  exact ⟨v, h⟩
theorem shapes_some {T : List (Nat × TI)} : ∀ {ts : List Nat} {K : List Value → Prop}, shapes T ts K → ∃ vs, K vs
  | [], K, h => ⟨_, h⟩
  | t :: r, K, h => by
    obtain ⟨v, h⟩ := shape1_some h
    obtain ⟨vs, h⟩ := shapes_some h
    exact ⟨_, h⟩
theorem shapeR_some {T : List (Nat × TI)} {ts : List Nat} {K : Value → Prop} (h : shapeR T ts K) : ∃ v, K v := by
  unfold shapeR at h
  split at h
  · exact shape1_some h
  · obtain ⟨vs, h⟩ := shapes_some h
    exact ⟨_, h⟩
end

section
variable {c : Cx} {H0 : Hp} {w0 : World} {β : Nat → Nat} {e : Env} {V : VSt} {H : Hp} {a : Act} {w : World} {o : Oper}
/-- A new variable beside the heap. -/
theorem Sim.alloc (S : Sim c.n H0 w0 β e V H a w) (d : Nat) (rw_ : Bool) (cs : List Value) (ty : Nat) :
    Sim c.n H0 w0 (fun x => if x = d then w.heap.size else β x) (fin c.n (some d) (some (.loc d 0)) (forget d e)) (upd d (rw_, cs) V) H (a.put (some d) (.pointer (some ⟨w.heap.size, 0, none⟩))) (w.alloc (.cells cs.toArray ty)) := by
  have hE : EnvOk (fun x => if x = d then w.heap.size else β x) (forget d e) a := by
    intro t av ht
    obtain ⟨h1, h2⟩ := forget_some ht
    rw [S.env t av h1]
    cases av with
    | v x => rfl
    | loc k o =>
      have hk : k ≠ d := fun hk => h2 o (by rw [hk])
      simp [AV.conc, hk]
  have hlt : ∀ k x, V k = some x → β k < w.heap.size := fun k x hx => by
    obtain ⟨⟨ty, h1⟩, _, _⟩ := S.box k x hx
    exact (Array.getElem?_eq_some_iff.1 h1).1
  have hsz : w.heap.size ≤ (w.alloc (.cells cs.toArray ty)).heap.size := by simp
  refine ⟨(put_size a _ _).trans S.size, fin_env hE S.size (some d) (by simp [AV.conc]), fun k x hx => ?_, fun k k' hk hk' hb => ?_, fun b p hb => ?_, (put_defers a _ _).trans S.defers, ?_, S.new⟩
  · rcases upd_some hx with ⟨rfl, rfl⟩ | ⟨hne, hx⟩
    · refine ⟨⟨ty, ?_⟩, ?_, ?_⟩
      · simp only [if_true]; exact heap_alloc_new w _
      · simp only [if_true]; exact has_none S.has (Nat.le_refl _)
      · simp only [if_true]; exact S.fr.2.2.2.1
    · obtain ⟨⟨ty', h1⟩, h2, h3⟩ := S.box k x hx
      simp only [hne, if_false]
      exact ⟨⟨ty', by rw [heap_alloc_old w _ (hlt k x hx)]; exact h1⟩, h2, h3⟩
  · by_cases h1 : k = d
    · by_cases h2 : k' = d
      · rw [h1, h2]
      · exfalso
        rw [upd_other h2] at hk'
        cases hv : V k' with
        | none => exact hk' hv
        | some x =>
          have := hlt k' x hv
          simp only [h1, if_true, h2, if_false] at hb
          omega
    · rw [upd_other h1] at hk
      by_cases h2 : k' = d
      · exfalso
        cases hv : V k with
        | none => exact hk hv
        | some x =>
          have := hlt k x hv
          simp only [h1, if_false, h2, if_true] at hb
          omega
      · rw [upd_other h2] at hk'
        simp only [h1, h2, if_false] at hb
        exact S.inj k k' hk hk' hb
  · rw [heap_alloc_old w _ (has_lt S.has hb)]; exact S.has b p hb
  · obtain ⟨a1, a2, a3, a4, a5⟩ := S.fr
    exact ⟨a1, a2, a3, Nat.le_trans a4 hsz, fun b hb h0 => by rw [heap_alloc_old w _ (Nat.lt_of_lt_of_le hb a4)]; exact a5 b hb h0⟩
/-- A store into a variable beside the heap. -/
theorem Sim.vstore (S : Sim c.n H0 w0 β e V H a w) {k : Nat} {r : Bool} {cs cs' : List Value} (hk : V k = some (r, cs)) :
    Sim c.n H0 w0 β e (upd k (r, cs') V) H a (w.setRow (β k) cs'.toArray) := by
  obtain ⟨⟨ty, h1⟩, h2, h3⟩ := S.box k _ hk
  have hne : ∀ b p, H b = some p → b ≠ β k := fun b p hb e => by rw [e, h2] at hb; cases hb
  refine { S with box := fun k' x hx => ?_, inj := fun x y hx hy hb => ?_, has := fun b p hb => ?_, fr := ?_ }
  · rcases upd_some hx with ⟨rfl, rfl⟩ | ⟨hn, hx⟩
    · exact ⟨⟨ty, setRow_heap w _ _ _ _ _ h1⟩, h2, h3⟩
    · obtain ⟨⟨ty', g1⟩, g2, g3⟩ := S.box k' x hx
      have hb : β k' ≠ β k := fun he => hn (S.inj k' k (by rw [hx]; simp) (by rw [hk]; simp) he)
      exact ⟨⟨ty', by rw [setRow_other _ _ _ _ hb]; exact g1⟩, g2, g3⟩
  · refine S.inj x y ?_ ?_ hb
    · by_cases h : x = k
      · rw [h, hk]; simp
      · rw [upd_other h] at hx; exact hx
    · by_cases h : y = k
      · rw [h, hk]; simp
      · rw [upd_other h] at hy; exact hy
  · rw [setRow_other _ _ _ _ (hne b p hb)]; exact S.has b p hb
  · obtain ⟨a1, a2, a3, a4, a5⟩ := S.fr
    exact ⟨a1, a2, a3, by simpa using a4, fun b hb h0 => by rw [setRow_other _ _ _ _ (by omega)]; exact a5 b hb h0⟩

theorem wp_value {K : Act → World → Prop} {Q : Exit → Act → World → Prop} {v : Value} {w' : World} (h : (execOp a.eval o).run c.P w = .ok (.value v) w') (hk : K (a.put o.dst v) w') : o.wp c.P a w K Q := by
  unfold Oper.wp; rw [h]; exact hk
theorem wp_skipv {K : Act → World → Prop} {Q : Exit → Act → World → Prop} {w' : World} (h : (execOp a.eval o).run c.P w = .ok .skip w') (hk : K (a.put o.dst undef) w') : o.wp c.P a w K Q := by
  unfold Oper.wp; rw [h]; exact hk

theorem run_callFunc {P : Program} {f : FuncId} (h : FnOk P f) (args : Array Value) (w : World) : (callFunc f args).run P w = .ok (.enter f args) w := by
  obtain ⟨fn, h1, h2, h3⟩ := h
  simp only [callFunc, Sem.run_bind, run_program, Result.andThen_ok, h1, h2, h3, Bool.false_eq_true, if_false, Sem.run_pure]

/-- What an operation leaves alone. -/
structure Eff (o : Oper) (e : Env) (β : Nat → Nat) (V : VSt) (H : Hp) (w : World) (β' : Nat → Nat) (e' : Env) (V' : VSt) (H' : Hp) (w' : World) : Prop where
  size : w.heap.size ≤ w'.heap.size
  env : ∀ t av, e' t = some av → e t = some av
  beside : ∀ b, b < w.heap.size → H b = none → (∀ k, vstK e o.op = some k → V k ≠ none → b ≠ β k) → w'.heap[b]? = w.heap[b]?
  none' : ∀ b, b < w.heap.size → H b = none → H' b = none
  heap : (efOf o.op = .write → vstK e o.op ≠ none) → ∀ b, H b ≠ none → w'.heap[b]? = w.heap[b]? ∧ H' b ≠ none
  beta : ∀ k, V' k ≠ none → (V k ≠ none ∧ β' k = β k) ∨ w.heap.size ≤ β' k
theorem Eff.same {β β' : Nat → Nat} (hb : β' = β) : Eff o e β V H w β' e V H w := by
  subst hb
  exact ⟨Nat.le_refl _, fun _ _ h => h, fun _ _ _ _ => rfl, fun _ _ h => h, fun _ _ h => ⟨rfl, h⟩, fun k hk => .inl ⟨hk, rfl⟩⟩
theorem Eff.write {w' : World} {H' : Hp} (hf : Fr H w w') (hn : New H w H') (hw : efOf o.op = .write) (hv : vstK e o.op = none) : Eff o e β V H w β e V H' w' := by
  refine ⟨hf.2.2.2.1, fun _ _ h => h, fun b hb h0 _ => hf.2.2.2.2 b hb h0, fun b hb h0 => ?_, fun h => absurd hv (h hw), fun k hk => .inl ⟨hk, rfl⟩⟩
  cases hh : H' b with
  | none => rfl
  | some p =>
    rcases hn b (by rw [hh]; simp) with h1 | h1
    · exact absurd h0 h1
    · omega
theorem Eff.new (hs : Has w H) (p : Obj) : Eff o e β V H w β e V (upd w.heap.size p H) (w.alloc p) := by
  refine ⟨by simp, fun _ _ h => h, fun b hb _ _ => heap_alloc_old w p hb, fun b hb h0 => ?_, fun _ b hb => ?_, fun k hk => .inl ⟨hk, rfl⟩⟩
  · rw [upd_other (by omega)]; exact h0
  · cases hh : H b with
    | none => exact absurd hh hb
    | some q =>
      have := has_lt hs hh
      refine ⟨heap_alloc_old w p this, ?_⟩
      rw [upd_other (by omega), hh]
      simp
theorem Eff.valloc (hs : Has w H) (d : Nat) (x : Bool × List Value) (p : Obj) : Eff o e β V H w (fun x => if x = d then w.heap.size else β x) (forget d e) (upd d x V) H (w.alloc p) := by
  refine ⟨by simp, fun _ _ h => (forget_some h).1, fun b hb _ _ => heap_alloc_old w p hb, fun _ _ h => h, fun _ b hb => ⟨?_, hb⟩, fun k hk => ?_⟩
  · cases hh : H b with
    | none => exact absurd hh hb
    | some q => exact heap_alloc_old w p (has_lt hs hh)
  · by_cases h : k = d
    · right; simp [h]
    · rw [upd_other h] at hk
      exact .inl ⟨hk, by simp [h]⟩
theorem Eff.vstore (S : Sim c.n H0 w0 β e V H a w) {k : Nat} {x y : Bool × List Value} (hk : V k = some x) (hv : vstK e o.op = some k) (cs : Array Value) : Eff o e β V H w β e (upd k y V) H (w.setRow (β k) cs) := by
  obtain ⟨_, h2, _⟩ := S.box k _ hk
  refine ⟨by simp, fun _ _ h => h, fun b _ _ h => setRow_other _ _ _ _ (h k hv (by rw [hk]; simp)), fun _ _ h => h, fun _ b hb => ⟨setRow_other _ _ _ _ (fun he => hb (by rw [he]; exact h2)), hb⟩, fun j hj => .inl ⟨?_, rfl⟩⟩
  by_cases h : j = k
  · rw [h, hk]; simp
  · rw [upd_other h] at hj; exact hj

theorem wOp_pure (hT : ∀ t i, look t c.T = some i → TiOk c.P t i) (S : Sim c.n H0 w0 β e V H a w) {K : Option AV → Env → VSt → Hp → Prop} (h : wPure c.T o.op e fun av => K (some av) e V H) {next : Act → World → Prop} {Q : Exit → Act → World → Prop}
    (hn : ∀ β' av e' V' H' a' w', K av e' V' H' → Sim c.n H0 w0 β' (fin c.n o.dst av e') V' H' a' w' → Eff o e β V H w β' e' V' H' w' → next a' w') : o.wp c.P a w next Q := by
  obtain ⟨av, hk, hg⟩ := wPure_sound hT h S.env
  exact wp_value (hg w o.dst o.type o.pos o.after o.guard) (hn β _ _ _ _ _ _ hk (S.put o.dst rfl) (Eff.same rfl))

theorem TiOk.zero {P : Program} {t : Nat} {i : TI} (h : TiOk P t i) : ∃ j z, P.info? t = some j ∧ j.zero = some z ∧ z.cells = i.zs.toArray ∧ j.size = i.zs.length := by
  obtain ⟨j, hj, hjz, hjs⟩ := h.info
  refine ⟨j, _, hj, hjz, ?_, hjs⟩
  cases hag : i.agg with
  | true => rfl
  | false =>
    obtain ⟨v, hv, h1⟩ := h.one hag
    rw [hv]
    simp only [List.headD_cons]
    rw [cellsL_eq]
    cases v <;> first | rfl | simp [one1] at h1

theorem wOp_builtin (hT : ∀ t i, look t c.T = some i → TiOk c.P t i) {dst : Option Tmp} {b : Builtin} {args : Array Operand} {ats : Array TypeId} {ty : TypeId} {pos : String} {af : Array Edge} {g : Option (Nat × Bool)}
    (S : Sim c.n H0 w0 β e V H a w) {K : Option AV → Env → VSt → Hp → Prop} (hw : wOp c ⟨dst, .call ⟨.builtin b, args, ats⟩, ty, pos, af, g⟩ e V H K) {next : Act → World → Prop} {Q : Exit → Act → World → Prop}
    (hn : ∀ β' av e' V' H' a' w', K av e' V' H' → Sim c.n H0 w0 β' (fin c.n dst av e') V' H' a' w' → Eff ⟨dst, .call ⟨.builtin b, args, ats⟩, ty, pos, af, g⟩ e β V H w β' e' V' H' w' → next a' w') : Oper.wp c.P ⟨dst, .call ⟨.builtin b, args, ats⟩, ty, pos, af, g⟩ a w next Q := by
  cases b with
  | len =>
    obtain ⟨vs, hvs, h⟩ := withVs_some S.env hw
    have hm : args.map a.eval = vs.toArray := by apply Array.ext'; rw [Array.toList_map]; exact hvs
    split at h
    · rename_i t v hts
      obtain ⟨i, hi, h⟩ := onTI_some h
      obtain ⟨d, hd, hag, hk⟩ := (hT t i hi).desc
      have hat : ats = #[t] := by apply Array.ext'; exact hts
      subst hat
      split at h
      · rename_i el esz eby A n cp hkn _
        rw [hkn] at hk
        cases hk.1
        refine wp_value (w' := w) ?_ (hn β _ _ _ _ _ _ h (S.put dst rfl) (Eff.same rfl))
        simp [execOp, resolve, hm, invoke, builtin, Builtin.len_, run_underlying hd, goInt, AV.conc]
      · rename_i s hkn _
        rw [hkn] at hk
        cases (hk : d = .string)
        refine wp_value (w' := w) ?_ (hn β _ _ _ _ _ _ h (S.put dst rfl) (Eff.same rfl))
        simp [execOp, resolve, hm, invoke, builtin, Builtin.len_, run_underlying hd, goInt, AV.conc]
      · exact h.elim
    · exact h.elim
  | append =>
    obtain ⟨vs, hvs, h⟩ := withVs_some S.env hw
    have hm : args.map a.eval = vs.toArray := by apply Array.ext'; rw [Array.toList_map]; exact hvs
    split at h
    · rename_i t u A n cp B m cb hts
      split at h
      · rename_i htu
        cases Nat.eq_of_beq_eq_true htu
        obtain ⟨i, hi, h⟩ := onTI_some h
        obtain ⟨d, hd, hag, hk⟩ := (hT t i hi).desc
        have hat : ats = #[t, t] := by apply Array.ext'; exact hts
        subst hat
        split at h
        · rename_i el esz eby hkn
          rw [hkn] at hk
          obtain ⟨rfl, jj, zz, hj, hjs, hjb, hjz, hzs⟩ := hk
          split at h
          · exact h.elim
          · rename_i q hq
            obtain ⟨A', n', c', w', H', hr, hk, g1, g2, g3⟩ := run_append_all (P := c.P) (ty := ty) (cb := cb) hd hj hjz hjs hjb hzs (by omega) S.has h
            refine wp_value (v := .slice A' n' c') (w' := w') ?_ (hn β _ _ _ _ _ _ hk ((S.step g1 g2 g3).put dst rfl) (Eff.write g2 g3 rfl rfl))
            simp [execOp, resolve, hm, invoke, builtin, hr]
        · exact h.elim
      · exact h.elim
    · rename_i t u A n cp k hts
      obtain ⟨i, hi, h⟩ := onTI_some h
      obtain ⟨ui, hui, h⟩ := onTI_some h
      obtain ⟨d, hd, hag, hk⟩ := (hT t i hi).desc
      obtain ⟨ud, hud, huag, huk⟩ := (hT u ui hui).desc
      have hat : ats = #[t, u] := by apply Array.ext'; exact hts
      subst hat
      split at h
      · rename_i el esz eby uk _ hkn hukn huzs
        rw [hkn] at hk
        rw [hukn, huzs] at huk
        obtain ⟨rfl, jj, zz, hj, hjs, hjb, hjz, hzs⟩ := hk
        obtain ⟨ei, hei, h⟩ := onTI_some h
        obtain ⟨j2, z2, hj2, hjz2, hzc2, hjs2⟩ := (hT el ei hei).zero
        rw [hj] at hj2
        cases hj2
        rw [hjz] at hjz2
        cases hjz2
        split at h
        · exact h.elim
        · rename_i q hq
          obtain ⟨A', n', c', w', H', hr, hk, g1, g2, g3⟩ := run_append_zeros (P := c.P) (ty := ty) (u := u) (ud := ud) hd hud huk hj hjz hjs hjb hzc2 (by rw [← hjs2, hjs]) (by omega) S.has h
          refine wp_value (v := .slice A' n' c') (w' := w') ?_ (hn β _ _ _ _ _ _ hk ((S.step g1 g2 g3).put dst rfl) (Eff.write g2 g3 rfl rfl))
          simp [execOp, resolve, hm, invoke, builtin, hr]
      · exact h.elim
    · exact h.elim
  | clear =>
    obtain ⟨vs, hvs, h⟩ := withVs_some S.env hw
    have hm : args.map a.eval = vs.toArray := by apply Array.ext'; rw [Array.toList_map]; exact hvs
    split at h
    · rename_i t A n cp hts
      obtain ⟨i, hi, h⟩ := onTI_some h
      obtain ⟨d, hd, hag, hk⟩ := (hT t i hi).desc
      have hat : ats = #[t] := by apply Array.ext'; exact hts
      subst hat
      split at h
      · rename_i el esz eby hkn
        rw [hkn] at hk
        obtain ⟨rfl, jj, zz, hj, hjs, hjb, hjz, hzs⟩ := hk
        obtain ⟨ei, hei, h⟩ := onTI_some h
        obtain ⟨j2, z2, hj2, hjz2, hzc2, hjs2⟩ := (hT el ei hei).zero
        rcases Nat.eq_zero_or_pos n with hn0 | hn0
        · subst hn0
          refine wp_value (v := .tuple #[]) (w' := w) ?_ (hn β _ _ _ _ _ _ (h.1 rfl) (S.put dst rfl) (Eff.same rfl))
          cases A <;> simp [execOp, resolve, hm, invoke, builtin, Builtin.clear_, run_underlying hd]
        · obtain ⟨b, o, rfl, cs, ty', hb, hfit, hk⟩ := onPtr_some (h.2 hn0)
          have hz : (Builtin.zeroCells z2.cells n).toList = (List.replicate n ei.zs).flatten := by
            rw [hzc2]
            unfold Builtin.zeroCells
            have := range_flat ei.zs n
            rw [List.size_toArray]
            exact this
          have hone : ∀ v ∈ (List.replicate n ei.zs).flatten, v.oneCell' = true := by
            intro v hv
            obtain ⟨l, hl, hv⟩ := List.mem_flatten.1 hv
            rw [List.eq_of_mem_replicate hl] at hv
            exact allOne_mem (hT el ei hei).ones v hv
          have hst := run_storeCells_at (P := c.P) b o ty' (List.replicate n ei.zs).flatten 0 cs.toArray w (S.has b _ hb) (by rw [List.size_toArray]; omega) hone
          obtain ⟨a1, a2, a3⟩ := step_set (cs' := (setR cs o (List.replicate n ei.zs).flatten).toArray) S.has hb
          refine wp_value (v := .tuple #[]) (w' := w.setRow b (setR cs o (List.replicate n ei.zs).flatten).toArray) ?_ (hn β _ _ _ _ _ _ hk ((S.step a1 a2 a3).put dst rfl) (Eff.write a2 a3 rfl rfl))
          have hne : ∀ (x : Addr) (y : Nat), (match (TypeDesc.slice el), (Value.slice (some x) n y) with | _, .slice _ 0 _ => true | _, _ => false) = false := by
            intro x y
            obtain ⟨q, rfl⟩ : ∃ q, n = q + 1 := ⟨n - 1, by omega⟩
            rfl
          obtain ⟨q, rfl⟩ : ∃ q, n = q + 1 := ⟨n - 1, by omega⟩
          simp only [Nat.add_zero] at hst
          simp [execOp, resolve, hm, invoke, builtin, Builtin.clear_, run_underlying hd, run_zeroValue hj2 hjz2, hz, hst, setR]
      · exact h.elim
    · exact h.elim
  | cap =>
    obtain ⟨vs, hvs, h⟩ := withVs_some S.env hw
    have hm : args.map a.eval = vs.toArray := by apply Array.ext'; rw [Array.toList_map]; exact hvs
    split at h
    · rename_i t A n cp hts
      obtain ⟨i, hi, h⟩ := onTI_some h
      obtain ⟨d, hd, hag, hk⟩ := (hT t i hi).desc
      have hat : ats = #[t] := by apply Array.ext'; exact hts
      subst hat
      split at h
      · rename_i el esz eby hkn
        rw [hkn] at hk
        cases hk.1
        refine wp_value (w' := w) ?_ (hn β _ _ _ _ _ _ h (S.put dst rfl) (Eff.same rfl))
        simp [execOp, resolve, hm, invoke, builtin, Builtin.cap_, run_underlying hd, goInt, AV.conc]
      · exact h.elim
    · exact h.elim
  | copy =>
    obtain ⟨vs, hvs, h⟩ := withVs_some S.env hw
    have hm : args.map a.eval = vs.toArray := by apply Array.ext'; rw [Array.toList_map]; exact hvs
    split at h
    · rename_i t u A n cp B m cb hts
      obtain ⟨i, hi, h⟩ := onTI_some h
      obtain ⟨d, hd, hag, hk⟩ := (hT t i hi).desc
      have hat : ats = #[t, u] := by apply Array.ext'; exact hts
      subst hat
      split at h
      · rename_i el esz eby hkn
        rw [hkn] at hk
        obtain ⟨rfl, jj, zz, hj, hjs, hjb, hjz, hzs⟩ := hk
        rcases Nat.eq_zero_or_pos (min m n) with h0 | h0
        · have hk := h.1 h0
          refine wp_value (v := .int .i64 (min m n)) (w' := w) ?_ (hn β _ _ _ _ _ _ hk (S.put dst rfl) (Eff.same rfl))
          have hf := cellsAt_w (P := c.P) (w := w) S.has (A := B) (l := []) (.inl rfl) esz 0 m cb (by simp)
          have h0' : Nat.min m n = 0 := h0
          cases A with
          | none => simp [execOp, resolve, hm, invoke, builtin, Builtin.copy_, run_underlying hd, Builtin.lenOf, h0, h0', sizeOf, typeInfo, hj, hjs, hf, goInt]; omega
          | some x => simp [execOp, resolve, hm, invoke, builtin, Builtin.copy_, run_underlying hd, Builtin.lenOf, h0, h0', sizeOf, typeInfo, hj, hjs, hf, goInt, storeCells]; omega
        · obtain ⟨new, hnl, hnc, hn1, h⟩ := h.2 h0
          obtain ⟨b, o, rfl, cs, ty', hb, hfit, hk⟩ := onPtr_some h
          have hf := cellsAt_w (P := c.P) S.has hnc esz (min m n) m cb hnl
          have hst := run_storeCells_at (P := c.P) b o ty' new 0 cs.toArray w (S.has b _ hb) (by rw [List.size_toArray]; omega) hn1
          obtain ⟨a1, a2, a3⟩ := step_set (cs' := (setR cs o new).toArray) S.has hb
          refine wp_value (v := .int .i64 (min m n)) (w' := w.setRow b (setR cs o new).toArray) ?_ (hn β _ _ _ _ _ _ hk ((S.step a1 a2 a3).put dst rfl) (Eff.write a2 a3 rfl rfl))
          simp only [Nat.add_zero] at hst
          have hmn : Nat.min m n = min m n := rfl
          simp [execOp, resolve, hm, invoke, builtin, Builtin.copy_, run_underlying hd, Builtin.lenOf, hmn, sizeOf, typeInfo, hj, hjs, hf, goInt, hst, setR]; omega
      · exact h.elim
    · exact h.elim
  | delete =>
    obtain ⟨vs, hvs, h⟩ := withVs_some S.env hw
    have hm : args.map a.eval = vs.toArray := by apply Array.ext'; rw [Array.toList_map]; exact hvs
    split at h
    · rename_i t us r k x hts
      obtain ⟨i, hi, h⟩ := onTI_some h
      obtain ⟨d, hd, hag, hk⟩ := (hT t i hi).desc
      have hat : ats = (t :: us).toArray := by apply Array.ext'; exact hts
      subst hat
      split at h
      · rename_i kt vt hkn
        rw [hkn] at hk
        cases (hk : d = .map kt vt)
        obtain ⟨ki, hki, h⟩ := onTI_some h
        obtain ⟨kd, hkd, hkag, hkk⟩ := (hT kt ki hki).desc
        split at h
        · rename_i k' _ hkkn hkzs
          split at h
          · rename_i hsame
            cases sameK_eq hsame
            rw [hkkn, hkzs] at hkk
            cases (hkk : kd = .int k)
            obtain ⟨b, es, clock, rfl, hb, hint, h⟩ := h
            obtain ⟨a1, a2, a3⟩ := step_obj S.has hb (delE x es clock)
            refine wp_value (v := .tuple #[]) (w' := setBlock w b (delE x es clock)) ?_ (hn β _ _ _ _ _ _ h ((S.step a1 a2 a3).put dst rfl) (Eff.write a2 a3 rfl rfl))
            simp [execOp, resolve, hm, invoke, builtin, run_delete hd hkd (S.has b _ hb) hint]
          · exact h.elim
        · exact h.elim
      · exact h.elim
    · exact h.elim
  | _ => exact hw.elim

theorem updF_sound (hT : ∀ t i, look t c.T = some i → TiOk c.P t i) (S : Sim c.n H0 w0 β e V H a w) {K : Option AV → Env → VSt → Hp → Prop} {t : Nat} {m x y : Operand} {dst : Option Tmp} {op : Op} {ty : TypeId} {pos : String} {af : Array Edge} {g : Option (Nat × Bool)} (h : updF c e H t m x y fun H' => K none e V H')
    (ho : ∀ v m' k', a.eval m = m' → a.eval x = k' → a.eval y = v → (execOp a.eval ⟨dst, op, ty, pos, af, g⟩ : Sem Next) = (do Instr.mapUpdate t m' k' v; pure .skip)) (hw : efOf op = .write) (hv : vstK e op = none) {next : Act → World → Prop} {Q : Exit → Act → World → Prop}
    (hn : ∀ β' av e' V' H' a' w', K av e' V' H' → Sim c.n H0 w0 β' (fin c.n dst av e') V' H' a' w' → Eff ⟨dst, op, ty, pos, af, g⟩ e β V H w β' e' V' H' w' → next a' w') : Oper.wp c.P ⟨dst, op, ty, pos, af, g⟩ a w next Q := by
  obtain ⟨i, hi, h⟩ := onTI_some h
  obtain ⟨d, hd, hag, hk⟩ := (hT t i hi).desc
  split at h
  · rename_i kt vt hkn
    rw [hkn] at hk
    cases (hk : d = .map kt vt)
    obtain ⟨ki, hki, h⟩ := onTI_some h
    obtain ⟨kd, hkd, hkag, hkk⟩ := (hT kt ki hki).desc
    split at h
    · rename_i k' _ hkkn hkzs
      obtain ⟨mv, hmv, h⟩ := onV_some h
      obtain ⟨xv, hxv, h⟩ := onV_some h
      obtain ⟨v, hyv, h⟩ := onV_some h
      cases mv with
      | map r =>
       cases xv with
       | int k n =>
        dsimp only at h
        split at h
        · rename_i hsame
          cases sameK_eq hsame
          rw [hkkn, hkzs] at hkk
          cases (hkk : kd = .int k')
          obtain ⟨b, es, clock, rfl, hb, hint, h⟩ := h
          obtain ⟨a1, a2, a3⟩ := step_obj S.has hb (putE k' n v es clock)
          refine wp_skipv (w' := setBlock w b (putE k' n v es clock)) ?_ (hn β _ _ _ _ _ _ h ((S.step a1 a2 a3).putN dst undef) (Eff.write a2 a3 hw hv))
          rw [ho _ _ _ (ev_evalV S.env hmv) (ev_evalV S.env hxv) (ev_evalV S.env hyv)]
          simp [run_mapUpdate hd hkd (S.has b _ hb) hint]
        · exact h.elim
       | _ => exact False.elim h
      | _ => exact False.elim h
    · exact h.elim
  · exact h.elim
set_option maxHeartbeats 1000000 in
theorem wOp_sound (hT : ∀ t i, look t c.T = some i → TiOk c.P t i) (hR : (∀ f ts, look f c.R = some ts → FnOk c.P f) ∧ ∀ g, elemN g c.overs = true → OverOk c.P g) (S : Sim c.n H0 w0 β e V H a w) {K : Option AV → Env → VSt → Hp → Prop} (h : wOp c o e V H K) {next : Act → World → Prop} {Q : Exit → Act → World → Prop}
    (hn : ∀ β' av e' V' H' a' w', K av e' V' H' → Sim c.n H0 w0 β' (fin c.n o.dst av e') V' H' a' w' → Eff o e β V H w β' e' V' H' w' → next a' w') : o.wp c.P a w next Q := by
  obtain ⟨dst, op, ty, pos, af, g⟩ := o
  cases op with
  | load t x =>
    obtain ⟨i, hi, h⟩ := onTI_some h
    obtain ⟨p, hp, h⟩ := onAV_some h
    have hTi := hT t i hi
    split at h
    · rename_i k o
      split at h
      · rename_i x' hV
        split at h
        · rename_i hle
          have hle' := Nat.le_of_ble_eq_true hle
          obtain ⟨v, hv, h⟩ := mkV_some h
          obtain ⟨⟨ty', h1⟩, h2, h3⟩ := S.box k x' hV
          have hr := run_loadVar_ok (P := c.P) (w := w) hTi (b := β k) (o := o) (vs := (x'.2.drop o).take i.zs.length) (by rw [List.length_take, List.length_drop]; omega) (fun j u hj => by
            rw [cl_of w h1]
            rw [List.getElem?_take] at hj
            split at hj
            · rw [List.getElem?_drop] at hj; exact hj
            · cases hj) hv
          refine wp_value (v := v) (w' := w) ?_ (hn β _ _ _ _ _ _ h (S.put dst rfl) (Eff.same rfl))
          simp [execOp, ev_eval S.env hp, AV.conc, Instr.loadAt, Instr.sureAddr, hr]
        · exact h.elim
      · exact h.elim
    · obtain ⟨b, o, rfl, h⟩ := onPtr_some h
      split at h
      · exact h.elim
      rename_i hzs
      rw [← hzs] at h
      obtain ⟨vs, hl, hc, h⟩ := loadL_some h
      obtain ⟨v, hv, h⟩ := mkV_some h
      have hr := run_loadVar_ok (P := c.P) (w := w) hTi (b := b) (o := o) hl (fun j u hj => has_cell S.has (hc j u hj)) hv
      refine wp_value (v := v) (w' := w) ?_ (hn β _ _ _ _ _ _ h (S.put dst rfl) (Eff.same rfl))
      simp [execOp, ev_eval S.env hp, AV.conc, Instr.loadAt, Instr.sureAddr, hr]
    · exact h.elim
  | store t x y =>
    obtain ⟨i, hi, h⟩ := onTI_some h
    obtain ⟨v, hv, h⟩ := onV_some h
    have hTi := hT t i hi
    split at h
    · rename_i hl h1
      have hl' := Nat.eq_of_beq_eq_true hl
      obtain ⟨p, hp, h⟩ := onAV_some h
      split at h
      · rename_i k o
        split at h
        · rename_i cs hV
          split at h
          · rename_i hle
            have hle' := Nat.le_of_ble_eq_true hle
            obtain ⟨⟨ty', g1⟩, g2, g3⟩ := S.box k _ hV
            have hr := run_storeVar_ok (P := c.P) (w := w) hTi (b := β k) (o := o) g1 hl' h1 hle'
            refine wp_skipv (w' := w.setRow (β k) (setR cs o (cellsL v)).toArray) ?_ (hn β _ _ _ _ _ _ h ((S.vstore hV).putN dst undef) (Eff.vstore S hV (by simp [vstK, hp]) _))
            simp [execOp, ev_eval S.env hp, ev_evalV S.env hv, AV.conc, Instr.storeAt, Instr.sureAddr, hr]
          · exact h.elim
        · exact h.elim
      · obtain ⟨b, o, rfl, h⟩ := onPtr_some h
        obtain ⟨cs, ty', hb, hfit, h⟩ := h
        have hr := run_storeVar_ok (P := c.P) (w := w) hTi (b := b) (o := o) (S.has b _ hb) hl' h1 hfit
        obtain ⟨a1, a2, a3⟩ := step_set (cs' := (setR cs o (cellsL v)).toArray) S.has hb
        refine wp_skipv (w' := w.setRow b (setR cs o (cellsL v)).toArray) ?_ (hn β _ _ _ _ _ _ h ((S.step a1 a2 a3).putN dst undef) (Eff.write a2 a3 rfl (by simp [vstK, hp])))
        simp [execOp, ev_eval S.env hp, ev_evalV S.env hv, AV.conc, Instr.storeAt, Instr.sureAddr, hr]
      · exact h.elim
    · exact h.elim
  | alloc t =>
    obtain ⟨i, hi, h⟩ := onTI_some h
    obtain ⟨j, z, hj, hjz, hzc, hjs⟩ := (hT t i hi).zero
    have hrun : (execOp a.eval ⟨dst, .alloc t, ty, pos, af, g⟩).run c.P w = .ok (.value (.pointer (some ⟨w.heap.size, 0, none⟩))) (w.alloc (.cells i.zs.toArray t)) := by
      simp only [execOp, Instr.alloc, Sem.run_bind, run_zeroValue hj hjz, Result.andThen_ok, run_newVar, hzc, Sem.run_pure]
    cases dst with
    | none => exact h.elim
    | some d =>
      cases hl : look d c.virt with
      | some rw_ =>
        simp only [hl] at h
        exact wp_value hrun (hn _ _ _ _ _ _ _ h (S.alloc d _ i.zs t) (Eff.valloc S.has d _ _))
      | none =>
        simp only [hl] at h
        have hk := h w.heap.size (has_none S.has (Nat.le_refl _))
        obtain ⟨a1, a2, a3⟩ := step_new S.has (.cells i.zs.toArray t (0, 0))
        exact wp_value hrun (hn _ _ _ _ _ _ _ hk ((S.step a1 a2 a3).put (some d) rfl) (Eff.new S.has _))
  | box t x =>
    obtain ⟨i, hi, h⟩ := onTI_some h
    obtain ⟨v, hv, h⟩ := onV_some h
    have hrun : (execOp a.eval ⟨dst, .box t x, ty, pos, af, g⟩).run c.P w = .ok (.value (.pointer (some ⟨w.heap.size, 0, none⟩))) (w.alloc (.cells (cellsL v).toArray t)) := by
      simp only [execOp, Instr.box, Sem.run_bind, ev_evalV S.env hv, run_newVar, Result.andThen_ok, cellsL_eq, Sem.run_pure]
    cases dst with
    | none =>
      simp only at h
      split at h
      · rename_i hh; cases hh
      · exact h.elim
    | some d =>
      simp only at h
      split at h
      · rename_i d' _ _ hd
        cases hd
        cases hl : look d c.virt with
        | some rw_ =>
          simp only [hl] at h
          exact wp_value hrun (hn _ _ _ _ _ _ _ h (S.alloc d _ (cellsL v) t) (Eff.valloc S.has d _ _))
        | none =>
          simp only [hl] at h
          have hk := h w.heap.size (has_none S.has (Nat.le_refl _))
          obtain ⟨a1, a2, a3⟩ := step_new S.has (.cells (cellsL v).toArray t (0, 0))
          exact wp_value hrun (hn _ _ _ _ _ _ _ hk ((S.step a1 a2 a3).put (some d) rfl) (Eff.new S.has _))
      · exact h.elim
  | buildSlice t len ps =>
    obtain ⟨i, hi, h⟩ := onTI_some h
    obtain ⟨vs, hvs, h⟩ := pairVs_some S.env h
    obtain ⟨d, hd, hag, hk⟩ := (hT t i hi).desc
    have hps : (ps.map fun (p : Nat × Operand) => (p.1, a.eval p.2)).toList = vs := by rw [Array.toList_map]; exact hvs
    split at h
    · rename_i el esz eby hkn
      rw [hkn] at hk
      obtain ⟨rfl, jj, zz, hj, hjs, hjb, hjz, hzs⟩ := hk
      obtain ⟨ei, hei, h⟩ := onTI_some h
      obtain ⟨j2, z2, hj2, hjz2, hzc2, hjs2⟩ := (hT el ei hei).zero
      rw [hj] at hj2
      cases hj2
      rw [hjz] at hjz2
      cases hjz2
      split at h
      · rename_i cs hcs hle
        have hle' := Nat.le_of_ble_eq_true hle
        have hlen : ei.zs.length = esz := by rw [← hjs2, hjs]
        have hk := h w.heap.size (has_none S.has (Nat.le_refl _))
        obtain ⟨a1, a2, a3⟩ := step_new S.has (.cells cs.toArray el (0, 0))
        have hfill := run_fillA hcs
        have hflat := range_flat ei.zs len
        rw [hlen] at hflat
        refine wp_value ?_ (hn _ _ _ _ _ _ _ hk ((S.step a1 a2 a3).put dst rfl) (Eff.new S.has _))
        have hno : ¬ (len * esz > 2 ^ 24) := by omega
        have harr : ((Array.range (len * esz)).map fun i => ei.zs.toArray[i % ei.zs.toArray.size]!) = (List.replicate len ei.zs).flatten.toArray := by
          apply Array.ext'; rw [hflat]
        simp only [execOp, Instr.buildSlice, Sem.run_bind, run_underlying hd, Result.andThen_ok, run_sizeOf hj, hjs, hno, if_false, Sem.run_pure, hps]
        by_cases h0 : len * esz = 0
        · have hnil : (List.replicate len ei.zs).flatten = [] := List.eq_nil_of_length_eq_zero (by rw [← hflat]; simp [h0])
          rw [hnil] at hfill
          have h00 : ∀ f : Nat → Value, Array.map f (Array.range 0) = #[] := fun f => Array.ext' (by rw [Array.toList_map, Array.toList_range]; rfl)
          simp only [h0, if_true, Sem.run_pure, Result.andThen_ok, h00]
          simp only [hfill, Sem.run_bind, run_newRow, Result.andThen_ok, Sem.run_pure, AV.conc]
        · simp only [h0, if_false, Sem.run_bind, run_zeroValue hj hjz, Result.andThen_ok, Sem.run_pure, hzc2, harr, hfill, run_newRow, AV.conc]
      · exact h.elim
    · exact h.elim
  | call cc =>
    obtain ⟨callee, args, ats⟩ := cc
    cases callee with
    | value f =>
      obtain ⟨fv, hf, h⟩ := onV_some h
      obtain ⟨vs, hvs, h⟩ := withVs_some S.env h
      split at h
      · rename_i g' first cap _
        have hm : args.map a.eval = vs.toArray := by apply Array.ext'; rw [Array.toList_map]; exact hvs
        have ha : (first ++ vs.toArray) ++ cap = (first.toList ++ vs ++ cap.toList).toArray := by apply Array.ext'; simp
        have hrun : FnOk c.P g' → (execOp a.eval ⟨dst, .call ⟨.value f, args, ats⟩, ty, pos, af, g⟩).run c.P w = .ok (.enter g' (first.toList ++ vs ++ cap.toList).toArray) w := fun hok => by
          simp only [execOp, resolve, ev_evalV S.env hf, hm, Deferred.ofValue, Sem.run_bind, Sem.run_pure, Result.andThen_ok, invoke, ha]
          exact run_callFunc hok _ w
        have key : ∀ {R : Value → Hp → Prop}, FnOk c.P g' → HCalls c.P g' (first.toList ++ vs ++ cap.toList) H R → (∀ v H', R v H' → K (some (.v v)) e V H') → Oper.wp c.P ⟨dst, .call ⟨.value f, args, ats⟩, ty, pos, af, g⟩ a w next Q := fun hok hcall hR => by
          unfold Oper.wp
          rw [hrun hok]
          refine Calls.mono (hcall w S.has) ?_
          rintro e1 w1 ⟨v, H', rfl, hq, g1, g2, g3⟩
          exact hn _ _ _ _ _ _ _ (hR v H' hq) ((S.step g1 g2 g3).put dst rfl) (Eff.write g2 g3 rfl rfl)
        split at h
        · obtain ⟨hok, h⟩ := h
          split at h
          · refine key hok h fun v H' hq => ?_
            obtain ⟨us, hq⟩ := leafEs_some hq
            obtain ⟨v', _, rfl, hq⟩ := mkV_some hq
            exact hq
          · exact key hok h fun v H' hq => hq
        split at h
        · rename_i hov
          obtain ⟨fn, tS, tR, el, j, h1, h2, h3, h4, h5, h6, h7⟩ := hR.2 g' hov
          split at h
          · rename_i A _ _ B _ _ hargs
            obtain ⟨ba, oa, hA, h'⟩ := onPtr_some h
            obtain ⟨bb, ob, hB, h''⟩ := onPtr_some h'
            obtain ⟨hne, ⟨csa, tya, ha'⟩, ⟨csb, tyb, hb', hpos⟩, hk⟩ := h''
            rw [hA, hB] at hargs
            have g1 := S.has ba _ ha'
            have g2 := S.has bb _ hb'
            refine wp_value (v := .bool false) (w' := w) ?_ (hn β _ _ _ _ _ _ hk (S.put dst rfl) (Eff.same rfl))
            simp only [execOp, resolve, ev_evalV S.env hf, hm, Deferred.ofValue, Sem.run_bind, Sem.run_pure, Result.andThen_ok, invoke, ha]
            rw [hargs, run_callFunc_extern h1 h2 h3 h4 h5]
            have := Go.Lib.run_overlaps_apart (P := c.P) w tS tR el h6 j.size (fun w => run_sizeOf h7 w) ⟨ba, oa, none⟩ ⟨bb, ob, none⟩
            rw [this _ _ _ _ hne tya tyb csa.size csb.size (by simp [World.shape?, g1]) (by simp [World.shape?, g2]) (by omega) (frz_of w g1) (frz_of w g1)]
            rfl
          · exact h.elim
        · unfold callF at h
          split at h
          · rename_i ts hts
            refine key (hR.1 g' ts hts) h fun v H' hq => ?_
            obtain ⟨v', rfl, hq⟩ := shapeR_some hq
            exact hq
          · exact h.elim
      · exact h.elim
    | invoke r m => exact h.elim
    | builtin b => exact wOp_builtin hT S h hn
  | makeMap t r =>
    cases r with
    | some x => exact wOp_pure hT S (K := K) (o := ⟨dst, .makeMap t (some x), ty, pos, af, g⟩) h hn
    | none =>
      have hk := h w.heap.size (has_none S.has (Nat.le_refl _))
      obtain ⟨a1, a2, a3⟩ := step_new S.has (.map #[] 0)
      refine wp_value (w' := w.alloc (.map #[] 0)) ?_ (hn _ _ _ _ _ _ _ hk ((S.step a1 a2 a3).put dst rfl) (Eff.new S.has _))
      rfl
  | lookup t m x ok =>
    obtain ⟨i, hi, h⟩ := onTI_some h
    obtain ⟨d, hd, hag, hk⟩ := (hT t i hi).desc
    split at h
    · rename_i kt vt hkn
      rw [hkn] at hk
      cases (hk : d = .map kt vt)
      obtain ⟨ki, hki, h⟩ := onTI_some h
      obtain ⟨vi, hvi, h⟩ := onTI_some h
      obtain ⟨kd, hkd, hkag, hkk⟩ := (hT kt ki hki).desc
      obtain ⟨j2, z2, hj2, hjz2, hzc2, hjs2⟩ := (hT vt vi hvi).zero
      split at h
      · rename_i k' _ hkkn hkzs
        obtain ⟨mv, hmv, h⟩ := onV_some h
        obtain ⟨xv, hxv, h⟩ := onV_some h
        cases mv with
        | map r =>
         cases xv with
         | int k y =>
          dsimp only at h
          split at h
          · rename_i hsame
            cases sameK_eq hsame
            rw [hkkn, hkzs] at hkk
            cases (hkk : kd = .int k')
            obtain ⟨z, hz, h⟩ := mkV_some h
            have hz' : (zeroValue vt).run c.P w = .ok z w := by
              obtain ⟨j, hj, hjz, hjs⟩ := (hT vt vi hvi).info
              rw [run_zeroValue hj hjz]
              congr 1
              rcases hz with ⟨h1, rfl⟩ | ⟨h1, h2⟩
              · rw [h1]
              · rw [h1, h2]; rfl
            have fin : ∀ (v : Value) (b : Bool), (execOp a.eval ⟨dst, .lookup t m x ok, ty, pos, af, g⟩).run c.P w = .ok (.value (okV ok v b)) w →
                (leafEs vi.zs fun us => mkV vi.agg us fun v' => v = v' ∧ K (some (.v (okV ok v' b))) e V H) → Oper.wp c.P ⟨dst, .lookup t m x ok, ty, pos, af, g⟩ a w next Q := fun v b hr hl => by
              obtain ⟨us, hl⟩ := leafEs_some hl
              obtain ⟨v', _, rfl, hl⟩ := mkV_some hl
              exact wp_value hr (hn β _ _ _ _ _ _ hl (S.put dst rfl) (Eff.same rfl))
            cases r with
            | none =>
              refine fin z false ?_ h
              simp [execOp, ev_evalV S.env hmv, ev_evalV S.env hxv, run_lookup_nil hd hkd hz', okV]
              cases ok <;> rfl
            | some b =>
              obtain ⟨es, clock, hb, hint, h⟩ := h
              refine fin _ _ ?_ h
              simp [execOp, ev_evalV S.env hmv, ev_evalV S.env hxv, run_lookup hd hkd hz' (S.has b _ hb) hint, okV]
              cases ok <;> rfl
          · exact h.elim
         | _ => exact False.elim h
        | _ => exact False.elim h
      · exact h.elim
    · exact h.elim
  | mapUpdate t m x y => exact updF_sound hT S h (fun v m' k' h1 h2 h3 => by subst h1 h2 h3; rfl) rfl rfl hn
  | insert t m x y => exact updF_sound hT S h (fun v m' k' h1 h2 h3 => by subst h1 h2 h3; rfl) rfl rfl hn
  | entry it =>
    obtain ⟨iv, hiv, h⟩ := onV_some h
    split at h
    · rename_i p d _
      split at h
      · rename_i zz _
        obtain ⟨b0, off, rfl, h⟩ := onPtr_some h
        obtain ⟨rfl, b, since, seen, es, clock, e1, hr, hb, he, hnd, hk⟩ := h
        obtain ⟨k', hk', hk⟩ := leafE_some hk
        obtain ⟨v', hv', hk⟩ := leafE_some hk
        subst hk'
        subst hv'
        refine wp_value (v := .tuple #[e1.key, e1.val]) (w' := w) ?_ (hn β _ _ _ _ _ _ hk (S.put _ rfl) (Eff.same rfl))
        simp [execOp, ev_evalV S.env hiv, run_entry_at (P := c.P) w b0 b since seen es clock e1 (S.has b0 _ hr) (S.has b _ hb) he hnd]
      · exact h.elim
    · exact h.elim
  | range t m =>
    obtain ⟨i, hi, h⟩ := onTI_some h
    obtain ⟨d, hd, hag, hk⟩ := (hT t i hi).desc
    split at h
    · rename_i kt vt hkn
      rw [hkn] at hk
      cases (hk : d = .map kt vt)
      obtain ⟨mv, hmv, h⟩ := onV_some h
      split at h
      · obtain ⟨b, es, clock, rfl, hb, h⟩ := h
        have hk := h w.heap.size (has_none S.has (Nat.le_refl _))
        obtain ⟨a1, a2, a3⟩ := step_new S.has (.mapIter (some b) clock #[] clock)
        refine wp_value (w' := w.alloc (.mapIter (some b) clock #[] clock)) ?_ (hn _ _ _ _ _ _ _ hk ((S.step a1 a2 a3).put dst rfl) (Eff.new S.has _))
        simp [execOp, ev_evalV S.env hmv, run_range_map w t kt vt b es clock hd (S.has b _ hb), AV.conc]
      · exact h.elim
    · exact h.elim
  | next it str =>
    cases str with
    | true => exact wOp_pure hT S (K := K) (o := ⟨dst, .next it true, ty, pos, af, g⟩) h hn
    | false =>
      obtain ⟨iv, hiv, h⟩ := onV_some h
      split at h
      · rename_i p d _
        split at h
        · rename_i zz _
          obtain ⟨b0, off, rfl, h⟩ := onPtr_some h
          obtain ⟨rfl, b, since, seen, c0, es, clock, hr, hb, hold, hsc, h1, h2⟩ := h
          rcases run_next_at (P := c.P) w ty b0 b since c0 seen es clock (S.has b0 _ hr) (S.has b _ hb) hold hsc with ⟨hz, hrun⟩ | ⟨e1, he, w1, hw1, hrun⟩
          · refine wp_value (v := .tuple #[.bool false]) (w' := w) ?_ (hn β _ _ _ _ _ _ (h1 hz) (S.put _ rfl) (Eff.same rfl))
            simp [execOp, ev_evalV S.env hiv, hrun]
          · have hk := h2 e1 he
            obtain ⟨k', hk', hk⟩ := leafE_some hk
            obtain ⟨v', hv', hk⟩ := leafE_some hk
            subst hk'
            subst hv'
            have hst : Has (setBlock w1 b0 (.mapIter (some b) since (seen.push e1.born) clock)) (upd b0 (.mapIter (some b) since (seen.push e1.born) clock) H) ∧ Fr H w (setBlock w1 b0 (.mapIter (some b) since (seen.push e1.born) clock)) ∧ New H w (upd b0 (.mapIter (some b) since (seen.push e1.born) clock) H) := by
              rcases hw1 with rfl | rfl
              · exact step_obj S.has hr _
              · exact step_drew_obj S.has hr _
            obtain ⟨a1, a2, a3⟩ := hst
            refine wp_value (v := .tuple #[.bool true, e1.key, e1.val]) ?_ (hn β _ _ _ _ _ _ hk ((S.step a1 a2 a3).put _ rfl) (Eff.write a2 a3 rfl rfl))
            simp [execOp, ev_evalV S.env hiv, hrun]
        · exact h.elim
      · exact h.elim
  | _ =>
    refine wOp_pure hT S (K := K) ?_ hn
    exact h
end
end Go.Proofs.Ytkbancdmhcnhjaa.Hw
