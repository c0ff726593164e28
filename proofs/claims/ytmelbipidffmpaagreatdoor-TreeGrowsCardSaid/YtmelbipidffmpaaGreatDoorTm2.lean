/- HwStep HwList HwDraw (joined by merge.py) -/
import Derived.Test.YtmelbipidffmpaaGreatDoorTm1
import Derived.Deep.LoopGhost
import Derived.Orders
/- Every operation of the evaluator is sound. -/
set_option linter.unusedVariables false
set_option linter.unusedSimpArgs false
namespace Go.Proofs.YtmelbipidffmpaaGreatDoor.Hw
open Go
open Go.ChangeMaps (setBlock)

section
variable {P : Program} {w : World} {H : Hp}
theorem cellsAt_w (h : Has w H) {A : Option Addr} {l : List Value} (hc : cellsAt H A l) (size n len cap : Nat) (hl : l.length = n * size) :
    (Builtin.firstCells size n (.slice A len cap)).run P w = .ok l.toArray w := by
  rcases hc with rfl | ⟨b, o, rfl, hc⟩
  · have h0 : n * size = 0 := by simpa using hl.symm
    cases A with
    | none => simp [Builtin.firstCells]
    | some a => simp [Builtin.firstCells, h0, loadCells, loadCellsFrom]
  · exact run_firstCells_some (P := P) w size n ⟨b, o, none⟩ len cap l hl (fun j v hv => by rw [add_mk]; exact has_cell h (hc j v hv))
theorem nextcap_wide {need old : Nat} (h : old < need) : Builtin.nextslicecap need old ≤ need + need / 4 + 192 := by
  unfold Builtin.nextslicecap
  split
  · omega
  · split
    · omega
    · rw [growBy_four]
      repeat' split
      all_goals omega
theorem room_fits {need old bytes : Nat} (h : old < need) (hb : RoomOk need bytes) : Builtin.nextslicecap need old * bytes ≤ 281474976710656 := by
  rcases hb with hb | hb
  · exact growslice_fits h hb
  · exact Nat.le_trans (Nat.mul_le_mul_right _ (nextcap_wide h)) hb
theorem run_append_all {t el ty : TypeId} {j : TypeInfo} {z : Value} {esz eby : Nat} (hd : P.underlying t = some (.slice el)) (hj : P.info? el = some j) (hz : j.zero = some z) (hjs : j.size = esz) (hjb : j.bytes = eby) (hzs : z.cells.size = esz)
    {A B : Option Addr} {n c m cb : Nat} {K : Option Addr → Nat → Nat → Hp → Prop} (hs : 0 < esz) (hh : Has w H) (h : appendF H el esz eby A n c B m K) :
    ∃ A' n' c' w' H', (Builtin.append_ #[t, t] ty #[.slice A n c, .slice B m cb]).run P w = .ok (.slice A' n' c') w' ∧ K A' n' c' H' ∧ Has w' H' ∧ Fr true H w w' ∧ New H w H' := by
  obtain ⟨hb1, hb2, new, hnl, hnc, hn1, hroom, hgrow⟩ := h
  have hfn := cellsAt_w (P := P) hh hnc esz m m cb hnl
  have hsl : (match (TypeDesc.slice el) with | .int _ => true | _ => false) = false := rfl
  by_cases hle : n + m ≤ c
  · obtain ⟨h0, h1⟩ := hroom hle
    rcases Nat.eq_zero_or_pos m with hm | hm
    · subst hm
      have hnil : new = [] := List.eq_nil_of_length_eq_zero (by simpa using hnl)
      subst hnil
      have hle' : n ≤ c := hle
      refine ⟨A, n, c, w, H, ?_, h0 rfl, hh, ⟨rfl, rfl, rfl, Nat.le_refl _, fun _ _ _ => rfl, fun _ => Nat.le_refl _⟩, fun b hb => .inl hb⟩
      cases A with
      | none => simp [Builtin.append_, run_underlying hd, sizeOf, typeInfo, hj, hjs, Builtin.lenOf, hfn, hle']
      | some a => simp [Builtin.append_, run_underlying hd, sizeOf, typeInfo, hj, hjs, Builtin.lenOf, hfn, hle', storeCells]
    · obtain ⟨b, o, cs, ty', rfl, hb, hfit, hk⟩ := h1 hm
      have hst := run_storeCells_at (P := P) b (o + n * esz) ty' new 0 cs.toArray w (hh b _ hb) (by rw [List.size_toArray, hnl]; rw [Nat.add_mul] at hfit; omega) hn1
      obtain ⟨a1, a2, a3⟩ := step_set (cs' := (setR cs (o + n * esz) new).toArray) hh hb
      refine ⟨_, _, _, _, _, ?_, hk, a1, a2, a3⟩
      simp only [Nat.add_zero] at hst
      simp [Builtin.append_, run_underlying hd, sizeOf, typeInfo, hj, hjs, Builtin.lenOf, hfn, hle, add_mk, hst, setR]
  · obtain ⟨old, hol, hoc, hk⟩ := hgrow (by omega)
    have hml : (9223372036854775807 : Nat) = maxLen := by simp only [maxLen]
    have hcm : grownCap w (n + m) c el ≤ maxLen := grownCap_le_maxLen w (n + m) c el (by rw [← hml]; omega)
    have hge := grownCap_ge w (n + m) c el
    have hdr : Has w.drew H := hh
    have hfo := cellsAt_w (P := P) hdr hoc esz n n c hol
    have hfn' := cellsAt_w (P := P) hdr hnc esz m m cb hnl
    have hrl : (Builtin.zeroCells z.cells (grownCap w (n + m) c el - (n + m))).toList.length = (grownCap w (n + m) c el - (n + m)) * esz := by
      rw [Array.length_toList, size_zeroCells, hzs]
    have hkk := hk w.heap.size (grownCap w (n + m) c el) (Builtin.zeroCells z.cells (grownCap w (n + m) c el - (n + m))).toList (has_none hh (Nat.le_refl _)) hge hcm hrl
    obtain ⟨a1, a2, a3⟩ := step_drew_new hh (.cells (old ++ new ++ (Builtin.zeroCells z.cells (grownCap w (n + m) c el - (n + m))).toList).toArray el (0, 0))
    refine ⟨_, _, _, _, _, ?_, hkk, a1, a2, a3⟩
    have hfit : ¬ (281474976710656 < Builtin.nextslicecap (n + m) c * eby) := by
      have := room_fits (need := n + m) (old := c) (by omega) hb1
      omega
    have h63 : ¬ (9223372036854775807 < ((n : Int) + (m : Int))) := by omega
    simp [Builtin.append_, run_underlying hd, sizeOf, typeInfo, hj, hjs, hjb, Builtin.lenOf, hle, hfit, h63, Question.forced, zeroValue, hz, newRow, hfo, hfn', grownCap]
    congr 2
    apply Array.ext'
    simp [List.append_assoc]
theorem range_flat (z : List Value) : ∀ n, ((Array.range (n * z.length)).map fun i => z.toArray[i % z.toArray.size]!).toList = (List.replicate n z).flatten := by
  intro n
  rw [Array.toList_map, Array.toList_range]
  induction n with
  | zero => simp
  | succ n ih =>
    rw [Nat.add_mul, Nat.one_mul, List.range_add, List.map_append, ih, List.replicate_succ', List.flatten_append]
    congr 1
    simp only [List.flatten_cons, List.flatten_nil, List.append_nil, List.map_map]
    apply List.ext_getElem
    · simp
    · intro i h1 h2
      simp only [List.getElem_map, List.getElem_range, Function.comp, List.size_toArray]
      rw [Nat.mul_comm n, Nat.mul_add_mod, Nat.mod_eq_of_lt h2]
      simp [h2]
theorem run_append_zeros {t u el ty : TypeId} {ud : TypeDesc} {uk : IntKind} {j : TypeInfo} {z : Value} {esz eby : Nat} {zs : List Value} (hd : P.underlying t = some (.slice el)) (hud : P.underlying u = some ud) (huk : ud = .int uk) (hj : P.info? el = some j) (hz : j.zero = some z) (hjs : j.size = esz) (hjb : j.bytes = eby)
    (hzc : z.cells = zs.toArray) (hzl : zs.length = esz) {A : Option Addr} {n c : Nat} {k : Int} {K : Option Addr → Nat → Nat → Hp → Prop} (hs : 0 < esz) (hh : Has w H) (h : appendZF H el esz eby zs A n c k K) :
    ∃ A' n' c' w' H', (Builtin.append_ #[t, u] ty #[.slice A n c, .int .i64 k]).run P w = .ok (.slice A' n' c') w' ∧ K A' n' c' H' ∧ Has w' H' ∧ Fr true H w w' ∧ New H w H' := by
  obtain ⟨hk0, hgt, hb1, hb2, old, hol, hoc, hk⟩ := h
  subst huk
  have hwr : IntKind.i64.wrap k = k := by
    unfold IntKind.wrap
    simp [IntKind.bits, IntKind.signed]
    omega
  obtain ⟨m, rfl⟩ : ∃ m : Nat, k = m := ⟨k.toNat, by omega⟩
  rw [Int.toNat_natCast] at hgt hb1 hb2 hk
  have hml : (9223372036854775807 : Nat) = maxLen := by simp only [maxLen]
  have hcm : grownCap w (n + m) c el ≤ maxLen := grownCap_le_maxLen w (n + m) c el (by rw [← hml]; omega)
  have hge := grownCap_ge w (n + m) c el
  have hdr : Has w.drew H := hh
  have hfo := cellsAt_w (P := P) hdr hoc esz n n c hol
  have hzs : z.cells.size = esz := by rw [hzc, List.size_toArray]; exact hzl
  have hrl : (Builtin.zeroCells z.cells (grownCap w (n + m) c el - (n + m))).toList.length = (grownCap w (n + m) c el - (n + m)) * esz := by
    rw [Array.length_toList, size_zeroCells, hzs]
  have hflat : (Builtin.zeroCells z.cells m).toList = (List.replicate m zs).flatten := by
    rw [hzc]
    unfold Builtin.zeroCells
    have := range_flat zs m
    rw [List.size_toArray]
    exact this
  have hkk := hk w.heap.size (grownCap w (n + m) c el) (Builtin.zeroCells z.cells (grownCap w (n + m) c el - (n + m))).toList (has_none hh (Nat.le_refl _)) hge hcm hrl
  obtain ⟨a1, a2, a3⟩ := step_drew_new hh (.cells (old ++ (List.replicate m zs).flatten ++ (Builtin.zeroCells z.cells (grownCap w (n + m) c el - (n + m))).toList).toArray el (0, 0))
  refine ⟨_, _, _, _, _, ?_, hkk, a1, a2, a3⟩
  have hfit : ¬ (281474976710656 < Builtin.nextslicecap (n + m) c * eby) := by
    have := growslice_fits (need := n + m) (old := c) (by omega) hb1
    omega
  have hle : ¬ (n + m ≤ c) := by omega
  have h63 : ¬ (9223372036854775807 < ((n : Int) + (m : Int))) := by omega
  have hmul : (m : Int) * (eby : Int) ≤ 140737488355328 := by
    have h1 : m * eby ≤ (n + m) * eby := Nat.mul_le_mul_right _ (by omega)
    have h2 : m * eby ≤ 140737488355328 := Nat.le_trans h1 hb1
    rw [← Int.natCast_mul]; omega
  have h48 : ¬ (281474976710656 < (m : Int) * (eby : Int)) := by omega
  have hm0 : ¬ (m = 0) := by omega
  have hneg : ¬ ((m : Int) < 0) := by omega
  have hme : ¬ (m * esz = 0) := fun h => by rcases Nat.mul_eq_zero.1 h with h | h <;> omega
  have hai : (asInt (.int .i64 (m : Int))).run P w = .ok (m : Int) w := by simp [asInt, asIntOf]
  simp [Builtin.append_, run_underlying hd, run_underlying hud, sizeOf, typeInfo, hj, hjs, hjb, hle, hfit, h63, h48, hai, hwr, hneg, hme, Question.forced, zeroValue, hz, newRow, hfo, grownCap]
  congr 2
  apply Array.ext'
  simp [List.append_assoc, hflat]
theorem run_newRow (el : TypeId) (cs : Array Value) (w : World) : (newRow el cs).run P w = .ok ⟨w.heap.size, 0, none⟩ (w.alloc (.cells cs el)) := by
  simp [newRow]
theorem run_makeSlice {t el : TypeId} {j : TypeInfo} {z : Value} {zs : List Value} {k1 k2 : IntKind} {x : Int} {w : World} (hd : P.underlying t = some (.slice el)) (hj : P.info? el = some j) (hz : j.zero = some z) (hzc : z.cells = zs.toArray) (hjs : j.size = zs.length) (hby : j.bytes ≤ 1000000) (h0 : 0 ≤ x) (hx : x ≤ 16777216) :
    (Instr.makeSlice t (.int k1 x) (.int k2 x)).run P w = .ok (.slice (some ⟨w.heap.size, 0, none⟩) x.toNat x.toNat) (w.alloc (.cells (List.replicate x.toNat zs).flatten.toArray el)) := by
  have hw : IntKind.i64.wrap x = x := by
    unfold IntKind.wrap
    simp [IntKind.bits, IntKind.signed]
    omega
  have hm : (j.bytes : Int) * x ≤ 1000000 * 16777216 := Int.mul_le_mul (by omega) hx h0 (by omega)
  have hbig : ((j.bytes : Int) * x > 2 ^ 48) = False := eq_false (by omega)
  have hneg : (x < 0) = False := eq_false (by omega)
  have hgt : (x > x) = False := eq_false (by omega)
  have hi : (typeInfo el).run P w = .ok j w := by simp [typeInfo, hj, Sem.run_bind]
  unfold Instr.makeSlice
  simp only [Sem.run_bind, run_underlying hd, Result.andThen_ok, asInt, asIntOf, Sem.run_pure, hi, hw, hbig, hneg, hgt, decide_false, Bool.or_self, Bool.false_eq_true, if_false, run_askRoom, run_sizeOf hj, hjs]
  have hflat := range_flat zs x.toNat
  have harr : ((Array.range (x.toNat * zs.length)).map fun i => zs.toArray[i % zs.toArray.size]!) = (List.replicate x.toNat zs).flatten.toArray := by
    apply Array.ext'; rw [hflat]
  by_cases hn : x.toNat * zs.length = 0
  · have hnil : (List.replicate x.toNat zs).flatten = [] := List.eq_nil_of_length_eq_zero (by rw [← hflat]; simp [hn])
    have h00 : ∀ f : Nat → Value, Array.map f (Array.range 0) = #[] := fun f => Array.ext' (by rw [Array.toList_map, Array.toList_range]; rfl)
    simp only [hn, if_true, Sem.run_bind, Sem.run_pure, Result.andThen_ok, h00, run_newRow, hnil]
  · simp only [hn, if_false, Sem.run_bind, run_zeroValue hj hz, Result.andThen_ok, Sem.run_pure, hzc, harr, run_newRow]
theorem run_newVar (el : TypeId) (v : Value) (w : World) : (newVar el v).run P w = .ok ⟨w.heap.size, 0, none⟩ (w.alloc (.cells v.cells el)) := by
  simp [newVar, run_newRow]
theorem shape1_some {T : List (Nat × TI)} {t : Nat} {K : Value → Prop} (h : shape1 T t K) : ∃ v, K v := by
  obtain ⟨i, _, h⟩ := onTI_some h
  obtain ⟨vs, h⟩ := leafEs_some h
  obtain ⟨v, _, h⟩ := mkV_some h
  exact ⟨v, h⟩
theorem shapes_some {T : List (Nat × TI)} : ∀ {ts : List Nat} {K : List Value → Prop}, shapes T ts K → ∃ vs, K vs
  | [], K, h => ⟨_, h⟩
  | t :: r, K, h => by
    obtain ⟨v, h⟩ := shape1_some h
    obtain ⟨vs, h⟩ := shapes_some h
    exact ⟨_, h⟩
theorem shapeR_some {T : List (Nat × TI)} {ts : List Nat} {K : Value → Prop} (h : shapeR T ts K) : ∃ v, K v := by
  unfold shapeR at h
  split at h
  · exact shape1_some h
  · obtain ⟨vs, h⟩ := shapes_some h
    exact ⟨_, h⟩
end

section
variable {c : Cx} {H0 : Hp} {w0 : World} {β : Nat → Nat} {e : Env} {V : VSt} {H : Hp} {a : Act} {w : World} {o : Oper}
/-- A new variable beside the heap. -/
theorem Sim.alloc (S : Sim c.D c.n H0 w0 β e V H a w) (d : Nat) (rw_ : Bool) (cs : List Value) (ty : Nat) :
    Sim c.D c.n H0 w0 (fun x => if x = d then w.heap.size else β x) (fin c.n (some d) (some (.loc d 0)) (forget d e)) (upd d (rw_, cs) V) H (a.put (some d) (.pointer (some ⟨w.heap.size, 0, none⟩))) (w.alloc (.cells cs.toArray ty)) := by
  have hE : EnvOk (fun x => if x = d then w.heap.size else β x) (forget d e) a := by
    intro t av ht
    obtain ⟨h1, h2⟩ := forget_some ht
    rw [S.env t av h1]
    cases av with
    | v x => rfl
    | loc k o =>
      have hk : k ≠ d := fun hk => h2 o (by rw [hk])
      simp [AV.conc, hk]
  have hlt : ∀ k x, V k = some x → β k < w.heap.size := fun k x hx => by
    obtain ⟨⟨ty, h1⟩, _, _⟩ := S.box k x hx
    exact (Array.getElem?_eq_some_iff.1 h1).1
  have hsz : w.heap.size ≤ (w.alloc (.cells cs.toArray ty)).heap.size := by simp
  refine ⟨(put_size a _ _).trans S.size, fin_env hE S.size (some d) (by simp [AV.conc]), fun k x hx => ?_, fun k k' hk hk' hb => ?_, fun b p hb => ?_, (put_defers a _ _).trans S.defers, ?_, S.new⟩
  · rcases upd_some hx with ⟨rfl, rfl⟩ | ⟨hne, hx⟩
    · refine ⟨⟨ty, ?_⟩, ?_, ?_⟩
      · simp only [if_true]; exact heap_alloc_new w _
      · simp only [if_true]; exact has_none S.has (Nat.le_refl _)
      · simp only [if_true]; exact S.fr.2.2.2.1
    · obtain ⟨⟨ty', h1⟩, h2, h3⟩ := S.box k x hx
      simp only [hne, if_false]
      exact ⟨⟨ty', by rw [heap_alloc_old w _ (hlt k x hx)]; exact h1⟩, h2, h3⟩
  · by_cases h1 : k = d
    · by_cases h2 : k' = d
      · rw [h1, h2]
      · exfalso
        rw [upd_other h2] at hk'
        cases hv : V k' with
        | none => exact hk' hv
        | some x =>
          have := hlt k' x hv
          simp only [h1, if_true, h2, if_false] at hb
          omega
    · rw [upd_other h1] at hk
      by_cases h2 : k' = d
      · exfalso
        cases hv : V k with
        | none => exact hk hv
        | some x =>
          have := hlt k x hv
          simp only [h1, if_false, h2, if_true] at hb
          omega
      · rw [upd_other h2] at hk'
        simp only [h1, h2, if_false] at hb
        exact S.inj k k' hk hk' hb
  · rw [heap_alloc_old w _ (has_lt S.has hb)]; exact S.has b p hb
  · obtain ⟨a1, a2, a3, a4, a5, a6⟩ := S.fr
    exact ⟨a1, a2, a3, Nat.le_trans a4 hsz, fun b hb h0 => by rw [heap_alloc_old w _ (Nat.lt_of_lt_of_le hb a4)]; exact a5 b hb h0, a6⟩
/-- A store into a variable beside the heap. -/
theorem Sim.vstore (S : Sim c.D c.n H0 w0 β e V H a w) {k : Nat} {r : Bool} {cs cs' : List Value} (hk : V k = some (r, cs)) :
    Sim c.D c.n H0 w0 β e (upd k (r, cs') V) H a (w.setRow (β k) cs'.toArray) := by
  obtain ⟨⟨ty, h1⟩, h2, h3⟩ := S.box k _ hk
  have hne : ∀ b p, H b = some p → b ≠ β k := fun b p hb e => by rw [e, h2] at hb; cases hb
  refine { S with box := fun k' x hx => ?_, inj := fun x y hx hy hb => ?_, has := fun b p hb => ?_, fr := ?_ }
  · rcases upd_some hx with ⟨rfl, rfl⟩ | ⟨hn, hx⟩
    · exact ⟨⟨ty, setRow_heap w _ _ _ _ _ h1⟩, h2, h3⟩
    · obtain ⟨⟨ty', g1⟩, g2, g3⟩ := S.box k' x hx
      have hb : β k' ≠ β k := fun he => hn (S.inj k' k (by rw [hx]; simp) (by rw [hk]; simp) he)
      exact ⟨⟨ty', by rw [setRow_other _ _ _ _ hb]; exact g1⟩, g2, g3⟩
  · refine S.inj x y ?_ ?_ hb
    · by_cases h : x = k
      · rw [h, hk]; simp
      · rw [upd_other h] at hx; exact hx
    · by_cases h : y = k
      · rw [h, hk]; simp
      · rw [upd_other h] at hy; exact hy
  · rw [setRow_other _ _ _ _ (hne b p hb)]; exact S.has b p hb
  · obtain ⟨a1, a2, a3, a4, a5, a6⟩ := S.fr
    exact ⟨a1, a2, a3, by simpa using a4, fun b hb h0 => by rw [setRow_other _ _ _ _ (by omega)]; exact a5 b hb h0, a6⟩

theorem wp_value {K : Act → World → Prop} {Q : Exit → Act → World → Prop} {v : Value} {w' : World} (h : (execOp a.eval o).run c.P w = .ok (.value v) w') (hk : K (a.put o.dst v) w') : o.wp c.P a w K Q := by
  unfold Oper.wp; rw [h]; exact hk
theorem wp_skipv {K : Act → World → Prop} {Q : Exit → Act → World → Prop} {w' : World} (h : (execOp a.eval o).run c.P w = .ok .skip w') (hk : K (a.put o.dst undef) w') : o.wp c.P a w K Q := by
  unfold Oper.wp; rw [h]; exact hk

theorem run_callFunc {P : Program} {f : FuncId} (h : FnOk P f) (args : Array Value) (w : World) : (callFunc f args).run P w = .ok (.enter f args) w := by
  obtain ⟨fn, h1, h2, h3⟩ := h
  simp only [callFunc, Sem.run_bind, run_program, Result.andThen_ok, h1, h2, h3, Bool.false_eq_true, if_false, Sem.run_pure]

/-- What an operation leaves alone. -/
structure Eff (o : Oper) (e : Env) (β : Nat → Nat) (V : VSt) (H : Hp) (w : World) (β' : Nat → Nat) (e' : Env) (V' : VSt) (H' : Hp) (w' : World) : Prop where
  size : w.heap.size ≤ w'.heap.size
  env : ∀ t av, e' t = some av → e t = some av
  beside : ∀ b, b < w.heap.size → H b = none → (∀ k, vstK e o.op = some k → V k ≠ none → b ≠ β k) → w'.heap[b]? = w.heap[b]?
  none' : ∀ b, b < w.heap.size → H b = none → H' b = none
  heap : (efOf o.op = .write → vstK e o.op ≠ none) → ∀ b, H b ≠ none → w'.heap[b]? = w.heap[b]? ∧ H' b ≠ none
  beta : ∀ k, V' k ≠ none → (V k ≠ none ∧ β' k = β k) ∨ w.heap.size ≤ β' k
theorem Eff.same {β β' : Nat → Nat} (hb : β' = β) : Eff o e β V H w β' e V H w := by
  subst hb
  exact ⟨Nat.le_refl _, fun _ _ h => h, fun _ _ _ _ => rfl, fun _ _ h => h, fun _ _ h => ⟨rfl, h⟩, fun k hk => .inl ⟨hk, rfl⟩⟩
theorem Eff.write {D : Bool} {w' : World} {H' : Hp} (hf : Fr D H w w') (hn : New H w H') (hw : efOf o.op = .write) (hv : vstK e o.op = none) : Eff o e β V H w β e V H' w' := by
  refine ⟨hf.2.2.2.1, fun _ _ h => h, fun b hb h0 _ => hf.2.2.2.2.1 b hb h0, fun b hb h0 => ?_, fun h => absurd hv (h hw), fun k hk => .inl ⟨hk, rfl⟩⟩
  cases hh : H' b with
  | none => rfl
  | some p =>
    rcases hn b (by rw [hh]; simp) with h1 | h1
    · exact absurd h0 h1
    · omega
theorem Eff.new (hs : Has w H) (p : Obj) : Eff o e β V H w β e V (upd w.heap.size p H) (w.alloc p) := by
  refine ⟨by simp, fun _ _ h => h, fun b hb _ _ => heap_alloc_old w p hb, fun b hb h0 => ?_, fun _ b hb => ?_, fun k hk => .inl ⟨hk, rfl⟩⟩
  · rw [upd_other (by omega)]; exact h0
  · cases hh : H b with
    | none => exact absurd hh hb
    | some q =>
      have := has_lt hs hh
      refine ⟨heap_alloc_old w p this, ?_⟩
      rw [upd_other (by omega), hh]
      simp
theorem Eff.valloc (hs : Has w H) (d : Nat) (x : Bool × List Value) (p : Obj) : Eff o e β V H w (fun x => if x = d then w.heap.size else β x) (forget d e) (upd d x V) H (w.alloc p) := by
  refine ⟨by simp, fun _ _ h => (forget_some h).1, fun b hb _ _ => heap_alloc_old w p hb, fun _ _ h => h, fun _ b hb => ⟨?_, hb⟩, fun k hk => ?_⟩
  · cases hh : H b with
    | none => exact absurd hh hb
    | some q => exact heap_alloc_old w p (has_lt hs hh)
  · by_cases h : k = d
    · right; simp [h]
    · rw [upd_other h] at hk
      exact .inl ⟨hk, by simp [h]⟩
theorem Eff.vstore (S : Sim c.D c.n H0 w0 β e V H a w) {k : Nat} {x y : Bool × List Value} (hk : V k = some x) (hv : vstK e o.op = some k) (cs : Array Value) : Eff o e β V H w β e (upd k y V) H (w.setRow (β k) cs) := by
  obtain ⟨_, h2, _⟩ := S.box k _ hk
  refine ⟨by simp, fun _ _ h => h, fun b _ _ h => setRow_other _ _ _ _ (h k hv (by rw [hk]; simp)), fun _ _ h => h, fun _ b hb => ⟨setRow_other _ _ _ _ (fun he => hb (by rw [he]; exact h2)), hb⟩, fun j hj => .inl ⟨?_, rfl⟩⟩
  by_cases h : j = k
  · rw [h, hk]; simp
  · rw [upd_other h] at hj; exact hj

theorem wOp_pure (hT : ∀ t i, look t c.T = some i → TiOk c.P t i) (S : Sim c.D c.n H0 w0 β e V H a w) {K : Option AV → Env → VSt → Hp → Prop} (h : wPure c.T o.op e fun av => K (some av) e V H) {next : Act → World → Prop} {Q : Exit → Act → World → Prop}
    (hn : ∀ β' av e' V' H' a' w', K av e' V' H' → Sim c.D c.n H0 w0 β' (fin c.n o.dst av e') V' H' a' w' → Eff o e β V H w β' e' V' H' w' → next a' w') : o.wp c.P a w next Q := by
  obtain ⟨av, hk, hg⟩ := wPure_sound hT h S.env
  exact wp_value (hg w o.dst o.type o.pos o.after o.guard) (hn β _ _ _ _ _ _ hk (S.put o.dst rfl) (Eff.same rfl))

theorem TiOk.zero {P : Program} {t : Nat} {i : TI} (h : TiOk P t i) : ∃ j z, P.info? t = some j ∧ j.zero = some z ∧ z.cells = i.zs.toArray ∧ j.size = i.zs.length := by
  obtain ⟨j, hj, hjz, hjs⟩ := h.info
  refine ⟨j, _, hj, hjz, ?_, hjs⟩
  cases hag : i.agg with
  | true => rfl
  | false =>
    obtain ⟨v, hv, h1⟩ := h.one hag
    rw [hv]
    simp only [List.headD_cons]
    rw [cellsL_eq]
    cases v <;> first | rfl | simp [one1] at h1

theorem wOp_builtin (hT : ∀ t i, look t c.T = some i → TiOk c.P t i) {dst : Option Tmp} {b : Builtin} {args : Array Operand} {ats : Array TypeId} {ty : TypeId} {pos : String} {af : Array Edge} {g : Option (Nat × Bool)}
    (S : Sim c.D c.n H0 w0 β e V H a w) {K : Option AV → Env → VSt → Hp → Prop} (hw : wOp c ⟨dst, .call ⟨.builtin b, args, ats⟩, ty, pos, af, g⟩ e V H K) {next : Act → World → Prop} {Q : Exit → Act → World → Prop}
    (hn : ∀ β' av e' V' H' a' w', K av e' V' H' → Sim c.D c.n H0 w0 β' (fin c.n dst av e') V' H' a' w' → Eff ⟨dst, .call ⟨.builtin b, args, ats⟩, ty, pos, af, g⟩ e β V H w β' e' V' H' w' → next a' w') : Oper.wp c.P ⟨dst, .call ⟨.builtin b, args, ats⟩, ty, pos, af, g⟩ a w next Q := by
  cases b with
  | len =>
    obtain ⟨vs, hvs, h⟩ := withVs_some S.env hw
    have hm : args.map a.eval = vs.toArray := by apply Array.ext'; rw [Array.toList_map]; exact hvs
    split at h
    · rename_i t v hts
      obtain ⟨i, hi, h⟩ := onTI_some h
      obtain ⟨d, hd, hag, hk⟩ := (hT t i hi).desc
      have hat : ats = #[t] := by apply Array.ext'; exact hts
      subst hat
      split at h
      · rename_i el esz eby A n cp hkn _
        rw [hkn] at hk
        cases hk.1
        refine wp_value (w' := w) ?_ (hn β _ _ _ _ _ _ h (S.put dst rfl) (Eff.same rfl))
        simp [execOp, resolve, hm, invoke, builtin, Builtin.len_, run_underlying hd, goInt, AV.conc]
      · rename_i s hkn _
        rw [hkn] at hk
        cases (hk : d = .string)
        refine wp_value (w' := w) ?_ (hn β _ _ _ _ _ _ h (S.put dst rfl) (Eff.same rfl))
        simp [execOp, resolve, hm, invoke, builtin, Builtin.len_, run_underlying hd, goInt, AV.conc]
      · exact h.elim
    · exact h.elim
  | append =>
    obtain ⟨vs, hvs, h⟩ := withVs_some S.env hw
    have hm : args.map a.eval = vs.toArray := by apply Array.ext'; rw [Array.toList_map]; exact hvs
    split at h
    · rename_i t u A n cp B m cb hts
      split at h
      · rename_i htu
        cases Nat.eq_of_beq_eq_true htu
        obtain ⟨i, hi, h⟩ := onTI_some h
        obtain ⟨d, hd, hag, hk⟩ := (hT t i hi).desc
        have hat : ats = #[t, t] := by apply Array.ext'; exact hts
        subst hat
        split at h
        · rename_i el esz eby hkn
          rw [hkn] at hk
          obtain ⟨rfl, jj, zz, hj, hjs, hjb, hjz, hzs⟩ := hk
          split at h
          · exact h.elim
          · rename_i q hq
            obtain ⟨A', n', c', w', H', hr, hk, g1, g2, g3⟩ := run_append_all (P := c.P) (ty := ty) (cb := cb) hd hj hjz hjs hjb hzs (by omega) S.has h
            refine wp_value (v := .slice A' n' c') (w' := w') ?_ (hn β _ _ _ _ _ _ hk ((S.step g1 g2 g3).put dst rfl) (Eff.write g2 g3 rfl rfl))
            simp [execOp, resolve, hm, invoke, builtin, hr]
        · exact h.elim
      · exact h.elim
    · rename_i t u A n cp k hts
      obtain ⟨i, hi, h⟩ := onTI_some h
      obtain ⟨ui, hui, h⟩ := onTI_some h
      obtain ⟨d, hd, hag, hk⟩ := (hT t i hi).desc
      obtain ⟨ud, hud, huag, huk⟩ := (hT u ui hui).desc
      have hat : ats = #[t, u] := by apply Array.ext'; exact hts
      subst hat
      split at h
      · rename_i el esz eby uk _ hkn hukn huzs
        rw [hkn] at hk
        rw [hukn, huzs] at huk
        obtain ⟨rfl, jj, zz, hj, hjs, hjb, hjz, hzs⟩ := hk
        obtain ⟨ei, hei, h⟩ := onTI_some h
        obtain ⟨j2, z2, hj2, hjz2, hzc2, hjs2⟩ := (hT el ei hei).zero
        rw [hj] at hj2
        cases hj2
        rw [hjz] at hjz2
        cases hjz2
        split at h
        · exact h.elim
        · rename_i q hq
          obtain ⟨A', n', c', w', H', hr, hk, g1, g2, g3⟩ := run_append_zeros (P := c.P) (ty := ty) (u := u) (ud := ud) hd hud huk hj hjz hjs hjb hzc2 (by rw [← hjs2, hjs]) (by omega) S.has h
          refine wp_value (v := .slice A' n' c') (w' := w') ?_ (hn β _ _ _ _ _ _ hk ((S.step g1 g2 g3).put dst rfl) (Eff.write g2 g3 rfl rfl))
          simp [execOp, resolve, hm, invoke, builtin, hr]
      · exact h.elim
    · exact h.elim
  | clear =>
    obtain ⟨vs, hvs, h⟩ := withVs_some S.env hw
    have hm : args.map a.eval = vs.toArray := by apply Array.ext'; rw [Array.toList_map]; exact hvs
    split at h
    · rename_i t A n cp hts
      obtain ⟨i, hi, h⟩ := onTI_some h
      obtain ⟨d, hd, hag, hk⟩ := (hT t i hi).desc
      have hat : ats = #[t] := by apply Array.ext'; exact hts
      subst hat
      split at h
      · rename_i el esz eby hkn
        rw [hkn] at hk
        obtain ⟨rfl, jj, zz, hj, hjs, hjb, hjz, hzs⟩ := hk
        obtain ⟨ei, hei, h⟩ := onTI_some h
        obtain ⟨j2, z2, hj2, hjz2, hzc2, hjs2⟩ := (hT el ei hei).zero
        rcases Nat.eq_zero_or_pos n with hn0 | hn0
        · subst hn0
          refine wp_value (v := .tuple #[]) (w' := w) ?_ (hn β _ _ _ _ _ _ (h.1 rfl) (S.put dst rfl) (Eff.same rfl))
          cases A <;> simp [execOp, resolve, hm, invoke, builtin, Builtin.clear_, run_underlying hd]
        · obtain ⟨b, o, rfl, cs, ty', hb, hfit, hk⟩ := onPtr_some (h.2 hn0)
          have hz : (Builtin.zeroCells z2.cells n).toList = (List.replicate n ei.zs).flatten := by
            rw [hzc2]
            unfold Builtin.zeroCells
            have := range_flat ei.zs n
            rw [List.size_toArray]
            exact this
          have hone : ∀ v ∈ (List.replicate n ei.zs).flatten, v.oneCell' = true := by
            intro v hv
            obtain ⟨l, hl, hv⟩ := List.mem_flatten.1 hv
            rw [List.eq_of_mem_replicate hl] at hv
            exact allOne_mem (hT el ei hei).ones v hv
          have hst := run_storeCells_at (P := c.P) b o ty' (List.replicate n ei.zs).flatten 0 cs.toArray w (S.has b _ hb) (by rw [List.size_toArray]; omega) hone
          obtain ⟨a1, a2, a3⟩ := step_set (cs' := (setR cs o (List.replicate n ei.zs).flatten).toArray) S.has hb
          refine wp_value (v := .tuple #[]) (w' := w.setRow b (setR cs o (List.replicate n ei.zs).flatten).toArray) ?_ (hn β _ _ _ _ _ _ hk ((S.step a1 a2 a3).put dst rfl) (Eff.write a2 a3 rfl rfl))
          have hne : ∀ (x : Addr) (y : Nat), (match (TypeDesc.slice el), (Value.slice (some x) n y) with | _, .slice _ 0 _ => true | _, _ => false) = false := by
            intro x y
            obtain ⟨q, rfl⟩ : ∃ q, n = q + 1 := ⟨n - 1, by omega⟩
            rfl
          obtain ⟨q, rfl⟩ : ∃ q, n = q + 1 := ⟨n - 1, by omega⟩
          simp only [Nat.add_zero] at hst
          simp [execOp, resolve, hm, invoke, builtin, Builtin.clear_, run_underlying hd, run_zeroValue hj2 hjz2, hz, hst, setR]
      · exact h.elim
    · exact h.elim
  | max =>
    obtain ⟨vs, hvs, h⟩ := withVs_some S.env hw
    have hm : args.map a.eval = vs.toArray := by apply Array.ext'; rw [Array.toList_map]; exact hvs
    split at h
    · rename_i k x k' y
      split at h
      · rename_i hsame
        cases sameK_eq hsame
        refine wp_value (w' := w) ?_ (hn β _ _ _ _ _ _ h (S.put dst rfl) (Eff.same rfl))
        simp [execOp, resolve, hm, invoke, builtin, Builtin.max_, Builtin.max2, AV.conc]
      · exact h.elim
    · exact h.elim
  | cap =>
    obtain ⟨vs, hvs, h⟩ := withVs_some S.env hw
    have hm : args.map a.eval = vs.toArray := by apply Array.ext'; rw [Array.toList_map]; exact hvs
    split at h
    · rename_i t A n cp hts
      obtain ⟨i, hi, h⟩ := onTI_some h
      obtain ⟨d, hd, hag, hk⟩ := (hT t i hi).desc
      have hat : ats = #[t] := by apply Array.ext'; exact hts
      subst hat
      split at h
      · rename_i el esz eby hkn
        rw [hkn] at hk
        cases hk.1
        refine wp_value (w' := w) ?_ (hn β _ _ _ _ _ _ h (S.put dst rfl) (Eff.same rfl))
        simp [execOp, resolve, hm, invoke, builtin, Builtin.cap_, run_underlying hd, goInt, AV.conc]
      · exact h.elim
    · exact h.elim
  | copy =>
    obtain ⟨vs, hvs, h⟩ := withVs_some S.env hw
    have hm : args.map a.eval = vs.toArray := by apply Array.ext'; rw [Array.toList_map]; exact hvs
    split at h
    · rename_i t u A n cp B m cb hts
      obtain ⟨i, hi, h⟩ := onTI_some h
      obtain ⟨d, hd, hag, hk⟩ := (hT t i hi).desc
      have hat : ats = #[t, u] := by apply Array.ext'; exact hts
      subst hat
      split at h
      · rename_i el esz eby hkn
        rw [hkn] at hk
        obtain ⟨rfl, jj, zz, hj, hjs, hjb, hjz, hzs⟩ := hk
        rcases Nat.eq_zero_or_pos (min m n) with h0 | h0
        · have hk := h.1 h0
          refine wp_value (v := .int .i64 (min m n)) (w' := w) ?_ (hn β _ _ _ _ _ _ hk (S.put dst rfl) (Eff.same rfl))
          have hf := cellsAt_w (P := c.P) (w := w) S.has (A := B) (l := []) (.inl rfl) esz 0 m cb (by simp)
          have h0' : Nat.min m n = 0 := h0
          cases A with
          | none => simp [execOp, resolve, hm, invoke, builtin, Builtin.copy_, run_underlying hd, Builtin.lenOf, h0, h0', sizeOf, typeInfo, hj, hjs, hf, goInt]; omega
          | some x => simp [execOp, resolve, hm, invoke, builtin, Builtin.copy_, run_underlying hd, Builtin.lenOf, h0, h0', sizeOf, typeInfo, hj, hjs, hf, goInt, storeCells]; omega
        · obtain ⟨new, hnl, hnc, hn1, h⟩ := h.2 h0
          obtain ⟨b, o, rfl, cs, ty', hb, hfit, hk⟩ := onPtr_some h
          have hf := cellsAt_w (P := c.P) S.has hnc esz (min m n) m cb hnl
          have hst := run_storeCells_at (P := c.P) b o ty' new 0 cs.toArray w (S.has b _ hb) (by rw [List.size_toArray]; omega) hn1
          obtain ⟨a1, a2, a3⟩ := step_set (cs' := (setR cs o new).toArray) S.has hb
          refine wp_value (v := .int .i64 (min m n)) (w' := w.setRow b (setR cs o new).toArray) ?_ (hn β _ _ _ _ _ _ hk ((S.step a1 a2 a3).put dst rfl) (Eff.write a2 a3 rfl rfl))
          simp only [Nat.add_zero] at hst
          have hmn : Nat.min m n = min m n := rfl
          simp [execOp, resolve, hm, invoke, builtin, Builtin.copy_, run_underlying hd, Builtin.lenOf, hmn, sizeOf, typeInfo, hj, hjs, hf, goInt, hst, setR]; omega
      · exact h.elim
    · exact h.elim
  | delete =>
    obtain ⟨vs, hvs, h⟩ := withVs_some S.env hw
    have hm : args.map a.eval = vs.toArray := by apply Array.ext'; rw [Array.toList_map]; exact hvs
    split at h
    · rename_i t us r k x hts
      obtain ⟨i, hi, h⟩ := onTI_some h
      obtain ⟨d, hd, hag, hk⟩ := (hT t i hi).desc
      have hat : ats = (t :: us).toArray := by apply Array.ext'; exact hts
      subst hat
      split at h
      · rename_i kt vt hkn
        rw [hkn] at hk
        cases (hk : d = .map kt vt)
        obtain ⟨ki, hki, h⟩ := onTI_some h
        obtain ⟨kd, hkd, hkag, hkk⟩ := (hT kt ki hki).desc
        split at h
        · rename_i k' _ hkkn hkzs
          split at h
          · rename_i hsame
            cases sameK_eq hsame
            rw [hkkn, hkzs] at hkk
            cases (hkk : kd = .int k)
            obtain ⟨b, es, clock, rfl, hb, hint, h⟩ := h
            obtain ⟨a1, a2, a3⟩ := step_obj S.has hb (delE x es clock)
            refine wp_value (v := .tuple #[]) (w' := setBlock w b (delE x es clock)) ?_ (hn β _ _ _ _ _ _ h ((S.step a1 a2 a3).put dst rfl) (Eff.write a2 a3 rfl rfl))
            simp [execOp, resolve, hm, invoke, builtin, run_delete hd hkd (S.has b _ hb) hint]
          · exact h.elim
        · exact h.elim
      · exact h.elim
    · exact h.elim
  | _ => exact hw.elim

theorem pairT_of {P : Program} {kt : Nat} {ki : TI} {l1 l2 : Nat} {ea : Bool} {k1 k2 k3 k4 : IntKind} {a1 a2 p q : Int} {cs : Array Value} (hok : TiOk P kt ki) (hkn : ki.kn = .array l1 l2 ea) (hzs : ki.zs = [.int k1 a1, .int k2 a2]) (hcs : cs.toList = [.int k3 p, .int k4 q])
    (hs : (ki.eqs && (sameK k1 .i64 && (sameK k2 .i64 && (sameK k3 .i64 && sameK k4 .i64)))) = true) : PairT P kt ∧ cs = #[.int .i64 p, .int .i64 q] := by
  simp only [Bool.and_eq_true] at hs
  obtain ⟨he, h1, h2, h3, h4⟩ := hs
  cases sameK_eq h1; cases sameK_eq h2; cases sameK_eq h3; cases sameK_eq h4
  obtain ⟨d, hd, hag, hk⟩ := hok.desc
  rw [hkn] at hk
  obtain ⟨el, j, du, rfl, hj, hjs, hdu, _⟩ := hk
  have hz := hok.eqs he
  obtain ⟨hn, ⟨j', hj', hs'⟩, hel, _⟩ := run_eq_key2 (x := 0) (y := 0) (a := 0) (b := 0) hz hzs hd
  refine ⟨⟨el, j', by rw [hd, hn], hj', hs', hel, fun x y a b w => (run_eq_key2 hz hzs hd).2.2.2 w⟩, ?_⟩
  have : cs.toList = (#[.int .i64 p, .int .i64 q] : Array Value).toList := hcs
  exact Array.ext' this
theorem updF_sound (hT : ∀ t i, look t c.T = some i → TiOk c.P t i) (S : Sim c.D c.n H0 w0 β e V H a w) {K : Option AV → Env → VSt → Hp → Prop} {t : Nat} {m x y : Operand} {dst : Option Tmp} {op : Op} {ty : TypeId} {pos : String} {af : Array Edge} {g : Option (Nat × Bool)} (h : updF c e H t m x y fun H' => K none e V H')
    (ho : ∀ v m' k', a.eval m = m' → a.eval x = k' → a.eval y = v → (execOp a.eval ⟨dst, op, ty, pos, af, g⟩ : Sem Next) = (do Instr.mapUpdate t m' k' v; pure .skip)) (hw : efOf op = .write) (hv : vstK e op = none) {next : Act → World → Prop} {Q : Exit → Act → World → Prop}
    (hn : ∀ β' av e' V' H' a' w', K av e' V' H' → Sim c.D c.n H0 w0 β' (fin c.n dst av e') V' H' a' w' → Eff ⟨dst, op, ty, pos, af, g⟩ e β V H w β' e' V' H' w' → next a' w') : Oper.wp c.P ⟨dst, op, ty, pos, af, g⟩ a w next Q := by
  obtain ⟨i, hi, h⟩ := onTI_some h
  obtain ⟨d, hd, hag, hk⟩ := (hT t i hi).desc
  split at h
  · rename_i kt vt hkn
    rw [hkn] at hk
    cases (hk : d = .map kt vt)
    obtain ⟨ki, hki, h⟩ := onTI_some h
    obtain ⟨kd, hkd, hkag, hkk⟩ := (hT kt ki hki).desc
    split at h
    · rename_i k' _ hkkn hkzs
      obtain ⟨mv, hmv, h⟩ := onV_some h
      obtain ⟨xv, hxv, h⟩ := onV_some h
      obtain ⟨v, hyv, h⟩ := onV_some h
      cases mv with
      | map r =>
       cases xv with
       | int k n =>
        dsimp only at h
        split at h
        · rename_i hsame
          cases sameK_eq hsame
          rw [hkkn, hkzs] at hkk
          cases (hkk : kd = .int k')
          obtain ⟨b, es, clock, rfl, hb, hint, h⟩ := h
          obtain ⟨a1, a2, a3⟩ := step_obj S.has hb (putE k' n v es clock)
          refine wp_skipv (w' := setBlock w b (putE k' n v es clock)) ?_ (hn β _ _ _ _ _ _ h ((S.step a1 a2 a3).putN dst undef) (Eff.write a2 a3 hw hv))
          rw [ho _ _ _ (ev_evalV S.env hmv) (ev_evalV S.env hxv) (ev_evalV S.env hyv)]
          simp [run_mapUpdate hd hkd (S.has b _ hb) hint]
        · exact h.elim
       | _ => exact False.elim h
      | _ => exact False.elim h
    · rename_i k1 a1 k2 a2 hkkn hkzs
      obtain ⟨mv, hmv, h1⟩ := onV_some h
      obtain ⟨xv, hxv, h2⟩ := onV_some h1
      obtain ⟨v, hyv, h3⟩ := onV_some h2
      clear h h1 h2
      have h := h3
      clear h3
      cases mv with
      | map r =>
       cases xv with
       | agg cs =>
        dsimp only at h
        split at h
        · rename_i k3 p k4 q hcs
          split at h
          · rename_i hsame
            obtain ⟨hPT, hcs'⟩ := pairT_of (hT kt ki hki) hkkn hkzs hcs hsame
            subst hcs'
            obtain ⟨b, es, clock, rfl, hb, hint, h⟩ := h
            obtain ⟨a1, a2, a3⟩ := step_obj S.has hb (putE2 p q v es clock)
            refine wp_skipv (w' := setBlock w b (putE2 p q v es clock)) ?_ (hn β _ _ _ _ _ _ h ((S.step a1 a2 a3).putN dst undef) (Eff.write a2 a3 hw hv))
            rw [ho _ _ _ (ev_evalV S.env hmv) (ev_evalV S.env hxv) (ev_evalV S.env hyv)]
            have := run_mapUpdate2 (x := p) (y := q) (v := v) hd hPT (S.has b _ hb) hint
            unfold key2 at this
            simp [this]
          · exact h.elim
        · exact h.elim
       | _ => exact False.elim h
      | _ => exact False.elim h
    · exact h.elim
  · exact h.elim
set_option maxHeartbeats 1000000 in
theorem wOp_sound (hT : ∀ t i, look t c.T = some i → TiOk c.P t i) (hR : (∀ f ts, look f c.R = some ts → FnOk c.P f) ∧ ∀ g, elemN g c.overs = true → OverOk c.P g) (S : Sim c.D c.n H0 w0 β e V H a w) {K : Option AV → Env → VSt → Hp → Prop} (h : wOp c o e V H K) {next : Act → World → Prop} {Q : Exit → Act → World → Prop}
    (hn : ∀ β' av e' V' H' a' w', K av e' V' H' → Sim c.D c.n H0 w0 β' (fin c.n o.dst av e') V' H' a' w' → Eff o e β V H w β' e' V' H' w' → next a' w') : o.wp c.P a w next Q := by
  obtain ⟨dst, op, ty, pos, af, g⟩ := o
  cases op with
  | load t x =>
    obtain ⟨i, hi, h⟩ := onTI_some h
    obtain ⟨p, hp, h⟩ := onAV_some h
    have hTi := hT t i hi
    split at h
    · rename_i k o
      split at h
      · rename_i x' hV
        split at h
        · rename_i hle
          have hle' := Nat.le_of_ble_eq_true hle
          obtain ⟨v, hv, h⟩ := mkV_some h
          obtain ⟨⟨ty', h1⟩, h2, h3⟩ := S.box k x' hV
          have hr := run_loadVar_ok (P := c.P) (w := w) hTi (b := β k) (o := o) (vs := (x'.2.drop o).take i.zs.length) (by rw [List.length_take, List.length_drop]; omega) (fun j u hj => by
            rw [cl_of w h1]
            rw [List.getElem?_take] at hj
            split at hj
            · rw [List.getElem?_drop] at hj; exact hj
            · cases hj) hv
          refine wp_value (v := v) (w' := w) ?_ (hn β _ _ _ _ _ _ h (S.put dst rfl) (Eff.same rfl))
          simp [execOp, ev_eval S.env hp, AV.conc, Instr.loadAt, Instr.sureAddr, hr]
        · exact h.elim
      · exact h.elim
    · obtain ⟨b, o, rfl, h⟩ := onPtr_some h
      split at h
      · exact h.elim
      rename_i hzs
      rw [← hzs] at h
      obtain ⟨vs, hl, hc, h⟩ := loadL_some h
      obtain ⟨v, hv, h⟩ := mkV_some h
      have hr := run_loadVar_ok (P := c.P) (w := w) hTi (b := b) (o := o) hl (fun j u hj => has_cell S.has (hc j u hj)) hv
      refine wp_value (v := v) (w' := w) ?_ (hn β _ _ _ _ _ _ h (S.put dst rfl) (Eff.same rfl))
      simp [execOp, ev_eval S.env hp, AV.conc, Instr.loadAt, Instr.sureAddr, hr]
    · exact h.elim
  | store t x y =>
    obtain ⟨i, hi, h⟩ := onTI_some h
    obtain ⟨v, hv, h⟩ := onV_some h
    have hTi := hT t i hi
    split at h
    · rename_i hl h1
      have hl' := Nat.eq_of_beq_eq_true hl
      obtain ⟨p, hp, h⟩ := onAV_some h
      split at h
      · rename_i k o
        split at h
        · rename_i cs hV
          split at h
          · rename_i hle
            have hle' := Nat.le_of_ble_eq_true hle
            obtain ⟨⟨ty', g1⟩, g2, g3⟩ := S.box k _ hV
            have hr := run_storeVar_ok (P := c.P) (w := w) hTi (b := β k) (o := o) g1 hl' h1 hle'
            refine wp_skipv (w' := w.setRow (β k) (setR cs o (cellsL v)).toArray) ?_ (hn β _ _ _ _ _ _ h ((S.vstore hV).putN dst undef) (Eff.vstore S hV (by simp [vstK, hp]) _))
            simp [execOp, ev_eval S.env hp, ev_evalV S.env hv, AV.conc, Instr.storeAt, Instr.sureAddr, hr]
          · exact h.elim
        · exact h.elim
      · obtain ⟨b, o, rfl, h⟩ := onPtr_some h
        obtain ⟨cs, ty', hb, hfit, h⟩ := h
        have hr := run_storeVar_ok (P := c.P) (w := w) hTi (b := b) (o := o) (S.has b _ hb) hl' h1 hfit
        obtain ⟨a1, a2, a3⟩ := step_set (cs' := (setR cs o (cellsL v)).toArray) S.has hb
        refine wp_skipv (w' := w.setRow b (setR cs o (cellsL v)).toArray) ?_ (hn β _ _ _ _ _ _ h ((S.step a1 a2 a3).putN dst undef) (Eff.write a2 a3 rfl (by simp [vstK, hp])))
        simp [execOp, ev_eval S.env hp, ev_evalV S.env hv, AV.conc, Instr.storeAt, Instr.sureAddr, hr]
      · exact h.elim
    · exact h.elim
  | alloc t =>
    obtain ⟨i, hi, h⟩ := onTI_some h
    obtain ⟨j, z, hj, hjz, hzc, hjs⟩ := (hT t i hi).zero
    have hrun : (execOp a.eval ⟨dst, .alloc t, ty, pos, af, g⟩).run c.P w = .ok (.value (.pointer (some ⟨w.heap.size, 0, none⟩))) (w.alloc (.cells i.zs.toArray t)) := by
      simp only [execOp, Instr.alloc, Sem.run_bind, run_zeroValue hj hjz, Result.andThen_ok, run_newVar, hzc, Sem.run_pure]
    cases dst with
    | none => exact h.elim
    | some d =>
      cases hl : look d c.virt with
      | some rw_ =>
        simp only [hl] at h
        exact wp_value hrun (hn _ _ _ _ _ _ _ h (S.alloc d _ i.zs t) (Eff.valloc S.has d _ _))
      | none =>
        simp only [hl] at h
        have hk := h w.heap.size (has_none S.has (Nat.le_refl _))
        obtain ⟨a1, a2, a3⟩ := step_new S.has (.cells i.zs.toArray t (0, 0))
        exact wp_value hrun (hn _ _ _ _ _ _ _ hk ((S.step a1 a2 a3).put (some d) rfl) (Eff.new S.has _))
  | box t x =>
    obtain ⟨i, hi, h⟩ := onTI_some h
    obtain ⟨v, hv, h⟩ := onV_some h
    have hrun : (execOp a.eval ⟨dst, .box t x, ty, pos, af, g⟩).run c.P w = .ok (.value (.pointer (some ⟨w.heap.size, 0, none⟩))) (w.alloc (.cells (cellsL v).toArray t)) := by
      simp only [execOp, Instr.box, Sem.run_bind, ev_evalV S.env hv, run_newVar, Result.andThen_ok, cellsL_eq, Sem.run_pure]
    cases dst with
    | none =>
      simp only at h
      split at h
      · rename_i hh; cases hh
      · exact h.elim
    | some d =>
      simp only at h
      split at h
      · rename_i d' _ _ hd
        cases hd
        cases hl : look d c.virt with
        | some rw_ =>
          simp only [hl] at h
          exact wp_value hrun (hn _ _ _ _ _ _ _ h (S.alloc d _ (cellsL v) t) (Eff.valloc S.has d _ _))
        | none =>
          simp only [hl] at h
          have hk := h w.heap.size (has_none S.has (Nat.le_refl _))
          obtain ⟨a1, a2, a3⟩ := step_new S.has (.cells (cellsL v).toArray t (0, 0))
          exact wp_value hrun (hn _ _ _ _ _ _ _ hk ((S.step a1 a2 a3).put (some d) rfl) (Eff.new S.has _))
      · exact h.elim
  | buildSlice t len ps =>
    obtain ⟨i, hi, h⟩ := onTI_some h
    obtain ⟨vs, hvs, h⟩ := pairVs_some S.env h
    obtain ⟨d, hd, hag, hk⟩ := (hT t i hi).desc
    have hps : (ps.map fun (p : Nat × Operand) => (p.1, a.eval p.2)).toList = vs := by rw [Array.toList_map]; exact hvs
    split at h
    · rename_i el esz eby hkn
      rw [hkn] at hk
      obtain ⟨rfl, jj, zz, hj, hjs, hjb, hjz, hzs⟩ := hk
      obtain ⟨ei, hei, h⟩ := onTI_some h
      obtain ⟨j2, z2, hj2, hjz2, hzc2, hjs2⟩ := (hT el ei hei).zero
      rw [hj] at hj2
      cases hj2
      rw [hjz] at hjz2
      cases hjz2
      split at h
      · rename_i cs hcs hle
        have hle' := Nat.le_of_ble_eq_true hle
        have hlen : ei.zs.length = esz := by rw [← hjs2, hjs]
        have hk := h w.heap.size (has_none S.has (Nat.le_refl _))
        obtain ⟨a1, a2, a3⟩ := step_new S.has (.cells cs.toArray el (0, 0))
        have hfill := run_fillA hcs
        have hflat := range_flat ei.zs len
        rw [hlen] at hflat
        refine wp_value ?_ (hn _ _ _ _ _ _ _ hk ((S.step a1 a2 a3).put dst rfl) (Eff.new S.has _))
        have hno : ¬ (len * esz > 2 ^ 24) := by omega
        have harr : ((Array.range (len * esz)).map fun i => ei.zs.toArray[i % ei.zs.toArray.size]!) = (List.replicate len ei.zs).flatten.toArray := by
          apply Array.ext'; rw [hflat]
        simp only [execOp, Instr.buildSlice, Sem.run_bind, run_underlying hd, Result.andThen_ok, run_sizeOf hj, hjs, hno, if_false, Sem.run_pure, hps]
        by_cases h0 : len * esz = 0
        · have hnil : (List.replicate len ei.zs).flatten = [] := List.eq_nil_of_length_eq_zero (by rw [← hflat]; simp [h0])
          rw [hnil] at hfill
          have h00 : ∀ f : Nat → Value, Array.map f (Array.range 0) = #[] := fun f => Array.ext' (by rw [Array.toList_map, Array.toList_range]; rfl)
          simp only [h0, if_true, Sem.run_pure, Result.andThen_ok, h00]
          simp only [hfill, Sem.run_bind, run_newRow, Result.andThen_ok, Sem.run_pure, AV.conc]
        · simp only [h0, if_false, Sem.run_bind, run_zeroValue hj hjz, Result.andThen_ok, Sem.run_pure, hzc2, harr, hfill, run_newRow, AV.conc]
      · exact h.elim
    · exact h.elim
  | call cc =>
    obtain ⟨callee, args, ats⟩ := cc
    cases callee with
    | value f =>
      obtain ⟨fv, hf, h⟩ := onV_some h
      obtain ⟨vs, hvs, h⟩ := withVs_some S.env h
      split at h
      · rename_i g' first cap _
        have hm : args.map a.eval = vs.toArray := by apply Array.ext'; rw [Array.toList_map]; exact hvs
        have ha : (first ++ vs.toArray) ++ cap = (first.toList ++ vs ++ cap.toList).toArray := by apply Array.ext'; simp
        have hrun : FnOk c.P g' → (execOp a.eval ⟨dst, .call ⟨.value f, args, ats⟩, ty, pos, af, g⟩).run c.P w = .ok (.enter g' (first.toList ++ vs ++ cap.toList).toArray) w := fun hok => by
          simp only [execOp, resolve, ev_evalV S.env hf, hm, Deferred.ofValue, Sem.run_bind, Sem.run_pure, Result.andThen_ok, invoke, ha]
          exact run_callFunc hok _ w
        have key : ∀ {R : Value → Hp → Prop}, FnOk c.P g' → HCallsG c.D c.P g' (first.toList ++ vs ++ cap.toList) H R → (∀ v H', R v H' → K (some (.v v)) e V H') → Oper.wp c.P ⟨dst, .call ⟨.value f, args, ats⟩, ty, pos, af, g⟩ a w next Q := fun hok hcall hR => by
          unfold Oper.wp
          rw [hrun hok]
          refine Calls.mono (hcall w S.has) ?_
          rintro e1 w1 ⟨v, H', rfl, hq, g1, g2, g3⟩
          exact hn _ _ _ _ _ _ _ (hR v H' hq) ((S.stepD g1 g2 g3).put dst rfl) (Eff.write g2 g3 rfl rfl)
        split at h
        · obtain ⟨hok, h⟩ := h
          split at h
          · refine key hok h fun v H' hq => ?_
            obtain ⟨us, hq⟩ := leafEs_some hq
            obtain ⟨v', _, rfl, hq⟩ := mkV_some hq
            exact hq
          · exact key hok h fun v H' hq => hq
        split at h
        · rename_i hov
          obtain ⟨fn, tS, tR, el, j, h1, h2, h3, h4, h5, h6, h7⟩ := hR.2 g' hov
          split at h
          · rename_i A _ _ B _ _ hargs
            obtain ⟨ba, oa, hA, h'⟩ := onPtr_some h
            obtain ⟨bb, ob, hB, h''⟩ := onPtr_some h'
            obtain ⟨hne, ⟨csa, tya, ha'⟩, ⟨csb, tyb, hb', hpos⟩, hk⟩ := h''
            rw [hA, hB] at hargs
            have g1 := S.has ba _ ha'
            have g2 := S.has bb _ hb'
            refine wp_value (v := .bool false) (w' := w) ?_ (hn β _ _ _ _ _ _ hk (S.put dst rfl) (Eff.same rfl))
            simp only [execOp, resolve, ev_evalV S.env hf, hm, Deferred.ofValue, Sem.run_bind, Sem.run_pure, Result.andThen_ok, invoke, ha]
            rw [hargs, run_callFunc_extern h1 h2 h3 h4 h5]
            have := Go.Lib.run_overlaps_apart (P := c.P) w tS tR el h6 j.size (fun w => run_sizeOf h7 w) ⟨ba, oa, none⟩ ⟨bb, ob, none⟩
            rw [this _ _ _ _ hne tya tyb csa.size csb.size (by simp [World.shape?, g1]) (by simp [World.shape?, g2]) (by omega) (frz_of w g1) (frz_of w g1)]
            rfl
          · exact h.elim
        · unfold callF at h
          split at h
          · rename_i ts hts
            refine key (hR.1 g' ts hts) h fun v H' hq => ?_
            obtain ⟨v', rfl, hq⟩ := shapeR_some hq
            exact hq
          · exact h.elim
      · exact h.elim
    | invoke r m => exact h.elim
    | builtin b => exact wOp_builtin hT S h hn
  | makeSlice t l cp =>
    obtain ⟨i, hi, h⟩ := onTI_some h
    obtain ⟨lv, hl, h⟩ := onV_some h
    obtain ⟨cv, hcv, h⟩ := onV_some h
    obtain ⟨d, hd, hag, hk⟩ := (hT t i hi).desc
    split at h
    · rename_i el esz eby k1 x k2 y hkn _
      rw [hkn] at hk
      obtain ⟨rfl, jj, zz, hj, hjs, hjb, hjz, hzs⟩ := hk
      split at h
      · rename_i hby
        obtain ⟨ei, hei, h⟩ := onTI_some h
        obtain ⟨rfl, h0, hle, h⟩ := h
        obtain ⟨j2, z2, hj2, hjz2, hzc2, hjs2⟩ := (hT el ei hei).zero
        have hk := h w.heap.size (has_none S.has (Nat.le_refl _))
        obtain ⟨a1, a2, a3⟩ := step_new S.has (.cells (List.replicate x.toNat ei.zs).flatten.toArray el (0, 0))
        refine wp_value ?_ (hn _ _ _ _ _ _ _ hk ((S.step a1 a2 a3).put dst rfl) (Eff.new S.has _))
        have := run_makeSlice (P := c.P) (w := w) (k1 := k1) (k2 := k2) hd hj2 hjz2 hzc2 hjs2 (by rw [hj] at hj2; cases hj2; rw [hjb]; exact Nat.le_of_ble_eq_true hby) h0 hle
        simp only [execOp, ev_evalV S.env hl, ev_evalV S.env hcv, Sem.run_bind, this, Result.andThen_ok, Sem.run_pure, AV.conc]
      · exact h.elim
    · exact h.elim
  | makeMap t r =>
    cases r with
    | some x => exact wOp_pure hT S (K := K) (o := ⟨dst, .makeMap t (some x), ty, pos, af, g⟩) h hn
    | none =>
      have hk := h w.heap.size (has_none S.has (Nat.le_refl _))
      obtain ⟨a1, a2, a3⟩ := step_new S.has (.map #[] 0)
      refine wp_value (w' := w.alloc (.map #[] 0)) ?_ (hn _ _ _ _ _ _ _ hk ((S.step a1 a2 a3).put dst rfl) (Eff.new S.has _))
      rfl
  | lookup t m x ok =>
    obtain ⟨i, hi, h⟩ := onTI_some h
    obtain ⟨d, hd, hag, hk⟩ := (hT t i hi).desc
    split at h
    · rename_i kt vt hkn
      rw [hkn] at hk
      cases (hk : d = .map kt vt)
      obtain ⟨ki, hki, h⟩ := onTI_some h
      obtain ⟨vi, hvi, h⟩ := onTI_some h
      obtain ⟨kd, hkd, hkag, hkk⟩ := (hT kt ki hki).desc
      obtain ⟨j2, z2, hj2, hjz2, hzc2, hjs2⟩ := (hT vt vi hvi).zero
      split at h
      · rename_i k' _ hkkn hkzs
        obtain ⟨mv, hmv, h⟩ := onV_some h
        obtain ⟨xv, hxv, h⟩ := onV_some h
        cases mv with
        | map r =>
         cases xv with
         | int k y =>
          dsimp only at h
          split at h
          · rename_i hsame
            cases sameK_eq hsame
            rw [hkkn, hkzs] at hkk
            cases (hkk : kd = .int k')
            obtain ⟨z, hz, h⟩ := mkV_some h
            have hz' : (zeroValue vt).run c.P w = .ok z w := by
              obtain ⟨j, hj, hjz, hjs⟩ := (hT vt vi hvi).info
              rw [run_zeroValue hj hjz]
              congr 1
              rcases hz with ⟨h1, rfl⟩ | ⟨h1, h2⟩
              · rw [h1]
              · rw [h1, h2]; rfl
            have fin : ∀ (v : Value) (b : Bool), (execOp a.eval ⟨dst, .lookup t m x ok, ty, pos, af, g⟩).run c.P w = .ok (.value (okV ok v b)) w →
                (leafEs vi.zs fun us => mkV vi.agg us fun v' => v = v' ∧ K (some (.v (okV ok v' b))) e V H) → Oper.wp c.P ⟨dst, .lookup t m x ok, ty, pos, af, g⟩ a w next Q := fun v b hr hl => by
              obtain ⟨us, hl⟩ := leafEs_some hl
              obtain ⟨v', _, rfl, hl⟩ := mkV_some hl
              exact wp_value hr (hn β _ _ _ _ _ _ hl (S.put dst rfl) (Eff.same rfl))
            cases r with
            | none =>
              refine fin z false ?_ h
              simp [execOp, ev_evalV S.env hmv, ev_evalV S.env hxv, run_lookup_nil hd hkd hz', okV]
              cases ok <;> rfl
            | some b =>
              obtain ⟨es, clock, hb, hint, h⟩ := h
              refine fin _ _ ?_ h
              simp [execOp, ev_evalV S.env hmv, ev_evalV S.env hxv, run_lookup hd hkd hz' (S.has b _ hb) hint, okV]
              cases ok <;> rfl
          · exact h.elim
         | _ => exact False.elim h
        | _ => exact False.elim h
      · rename_i k1 a1 k2 a2 hkkn hkzs
        obtain ⟨mv, hmv, h1⟩ := onV_some h
        obtain ⟨xv, hxv, h2⟩ := onV_some h1
        clear h h1
        have h := h2
        clear h2
        cases mv with
        | map r =>
         cases xv with
         | agg cs =>
          dsimp only at h
          split at h
          · rename_i k3 p k4 q hcs
            split at h
            · rename_i hsame
              obtain ⟨hPT, hcs'⟩ := pairT_of (hT kt ki hki) hkkn hkzs hcs hsame
              subst hcs'
              obtain ⟨z, hz, h⟩ := mkV_some h
              have hz' : (zeroValue vt).run c.P w = .ok z w := by
                obtain ⟨j, hj, hjz, hjs⟩ := (hT vt vi hvi).info
                rw [run_zeroValue hj hjz]
                congr 1
                rcases hz with ⟨h1, rfl⟩ | ⟨h1, h2⟩
                · rw [h1]
                · rw [h1, h2]; rfl
              have fin : ∀ (v : Value) (b : Bool), (execOp a.eval ⟨dst, .lookup t m x ok, ty, pos, af, g⟩).run c.P w = .ok (.value (okV ok v b)) w →
                  (leafEs vi.zs fun us => mkV vi.agg us fun v' => v = v' ∧ K (some (.v (okV ok v' b))) e V H) → Oper.wp c.P ⟨dst, .lookup t m x ok, ty, pos, af, g⟩ a w next Q := fun v b hr hl => by
                obtain ⟨us, hl⟩ := leafEs_some hl
                obtain ⟨v', _, rfl, hl⟩ := mkV_some hl
                exact wp_value hr (hn β _ _ _ _ _ _ hl (S.put dst rfl) (Eff.same rfl))
              cases r with
              | none =>
                refine fin z false ?_ h
                have := run_lookup2_nil (x := p) (y := q) (ok := ok) hd hPT hz'
                unfold key2 at this
                simp [execOp, ev_evalV S.env hmv, ev_evalV S.env hxv, this, okV]
                cases ok <;> rfl
              | some b =>
                obtain ⟨es, clock, hb, hint, h⟩ := h
                refine fin _ _ ?_ h
                have := run_lookup2 (x := p) (y := q) (ok := ok) hd hPT hz' (S.has b _ hb) hint
                unfold key2 at this
                simp [execOp, ev_evalV S.env hmv, ev_evalV S.env hxv, this, okV]
                cases ok <;> rfl
            · exact h.elim
          · exact h.elim
         | _ => exact False.elim h
        | _ => exact False.elim h
      · exact h.elim
    · exact h.elim
  | mapUpdate t m x y => exact updF_sound hT S h (fun v m' k' h1 h2 h3 => by subst h1 h2 h3; rfl) rfl rfl hn
  | insert t m x y => exact updF_sound hT S h (fun v m' k' h1 h2 h3 => by subst h1 h2 h3; rfl) rfl rfl hn
  | entry it =>
    obtain ⟨iv, hiv, h⟩ := onV_some h
    split at h
    · rename_i p d _
      split at h
      · rename_i zz _
        obtain ⟨b0, off, rfl, h⟩ := onPtr_some h
        obtain ⟨rfl, b, since, seen, es, clock, e1, hr, hb, he, hnd, hk⟩ := h
        obtain ⟨k', hk', hk⟩ := leafE_some hk
        obtain ⟨v', hv', hk⟩ := leafE_some hk
        subst hk'
        subst hv'
        refine wp_value (v := .tuple #[e1.key, e1.val]) (w' := w) ?_ (hn β _ _ _ _ _ _ hk (S.put _ rfl) (Eff.same rfl))
        simp [execOp, ev_evalV S.env hiv, run_entry_at (P := c.P) w b0 b since seen es clock e1 (S.has b0 _ hr) (S.has b _ hb) he hnd]
      · exact h.elim
    · exact h.elim
  | range t m =>
    obtain ⟨i, hi, h⟩ := onTI_some h
    obtain ⟨d, hd, hag, hk⟩ := (hT t i hi).desc
    split at h
    · rename_i kt vt hkn
      rw [hkn] at hk
      cases (hk : d = .map kt vt)
      obtain ⟨mv, hmv, h⟩ := onV_some h
      split at h
      · obtain ⟨b, es, clock, rfl, hb, h⟩ := h
        have hk := h w.heap.size (has_none S.has (Nat.le_refl _))
        obtain ⟨a1, a2, a3⟩ := step_new S.has (.mapIter (some b) clock #[] clock)
        refine wp_value (w' := w.alloc (.mapIter (some b) clock #[] clock)) ?_ (hn _ _ _ _ _ _ _ hk ((S.step a1 a2 a3).put dst rfl) (Eff.new S.has _))
        simp [execOp, ev_evalV S.env hmv, run_range_map w t kt vt b es clock hd (S.has b _ hb), AV.conc]
      · exact h.elim
    · exact h.elim
  | next it str =>
    cases str with
    | true => exact wOp_pure hT S (K := K) (o := ⟨dst, .next it true, ty, pos, af, g⟩) h hn
    | false =>
      obtain ⟨iv, hiv, h⟩ := onV_some h
      split at h
      · rename_i p d _
        split at h
        · rename_i zz _
          obtain ⟨b0, off, rfl, h⟩ := onPtr_some h
          obtain ⟨rfl, b, since, seen, c0, es, clock, hr, hb, hold, hsc, h1, h2⟩ := h
          rcases run_next_at (P := c.P) w ty b0 b since c0 seen es clock (S.has b0 _ hr) (S.has b _ hb) hold hsc with ⟨hz, hrun⟩ | ⟨e1, he, w1, hw1, hrun⟩
          · refine wp_value (v := .tuple #[.bool false]) (w' := w) ?_ (hn β _ _ _ _ _ _ (h1 hz) (S.put _ rfl) (Eff.same rfl))
            simp [execOp, ev_evalV S.env hiv, hrun]
          · have hk := h2 e1 he
            obtain ⟨k', hk', hk⟩ := leafE_some hk
            obtain ⟨v', hv', hk⟩ := leafE_some hk
            subst hk'
            subst hv'
            have hst : Has (setBlock w1 b0 (.mapIter (some b) since (seen.push e1.born) clock)) (upd b0 (.mapIter (some b) since (seen.push e1.born) clock) H) ∧ Fr true H w (setBlock w1 b0 (.mapIter (some b) since (seen.push e1.born) clock)) ∧ New H w (upd b0 (.mapIter (some b) since (seen.push e1.born) clock) H) := by
              rcases hw1 with rfl | rfl
              · exact step_obj S.has hr _
              · exact step_drew_obj S.has hr _
            obtain ⟨a1, a2, a3⟩ := hst
            refine wp_value (v := .tuple #[.bool true, e1.key, e1.val]) ?_ (hn β _ _ _ _ _ _ hk ((S.step a1 a2 a3).put _ rfl) (Eff.write a2 a3 rfl rfl))
            simp [execOp, ev_evalV S.env hiv, hrun]
        · exact h.elim
      · exact h.elim
  | _ =>
    refine wOp_pure hT S (K := K) ?_ hn
    exact h
end
end Go.Proofs.YtmelbipidffmpaaGreatDoor.Hw

/- The evaluator is sound for lists of operations. -/
set_option linter.unusedVariables false
set_option linter.unusedSimpArgs false
namespace Go.Proofs.YtmelbipidffmpaaGreatDoor.Hw
open Go

section
variable {c : Cx} {H0 : Hp} {w0 : World} {β : Nat → Nat} {e : Env} {V : VSt} {H : Hp} {a : Act} {w : World}
def CxOk (c : Cx) : Prop := (∀ t i, look t c.T = some i → TiOk c.P t i) ∧ ((∀ f ts, look f c.R = some ts → FnOk c.P f) ∧ ∀ g, elemN g c.overs = true → OverOk c.P g) ∧ c.P.follows .mixedOrders = true

/-- The machine is in a state of the evaluator's. -/
def St (c : Cx) (H0 : Hp) (w0 : World) (K : Env → VSt → Hp → Prop) (a : Act) (w : World) : Prop := ∃ β e V H, K e V H ∧ Sim c.D c.n H0 w0 β e V H a w

theorem dstAt_eq {ops : List Oper} {j d : Nat} (h : dstAt ops j = some d) (tmps : Array Value) : yielded ops.toArray tmps j = (match tmps.getD d undef with | .bool b => some b | _ => none) := by
  unfold dstAt at h
  split at h
  · rename_i o ho
    have h1 : (ops.toArray)[j]? = some o := by simpa using ho
    simp only [yielded, h1, Option.bind_some, h, Array.getD_eq_getD_getElem?]
    cases tmps[d]? with
    | none => rfl
    | some v => cases v <;> rfl
  · cases h

theorem upd_self {α : Type} {t : Nat} {x : α} {e : Nat → Option α} (h : e t = some x) : upd t x e = e := by
  funext s
  by_cases hs : s = t
  · subst hs; rw [upd_same, h]
  · rw [upd_other hs]
/-- Is the operation wanted, it runs; else its slot holds nothing. -/
theorem wStep_cases {ops : List Oper} {o : Oper} {K : Env → VSt → Hp → Prop} (h : wStep c ops o K e V H) (E : EnvOk β e a) :
    (Region.wanted o (yielded ops.toArray a.tmps) = true ∧ wOp c o e V H fun x e V H => K (fin c.n o.dst x e) V H) ∨ (Region.wanted o (yielded ops.toArray a.tmps) = false ∧ K (fin c.n o.dst (some (.v undef)) e) V H) := by
  unfold wStep at h
  cases hg : o.guard with
  | none =>
    simp only [hg] at h
    exact .inl ⟨by simp [Region.wanted, hg], h⟩
  | some jw =>
    obtain ⟨j, want⟩ := jw
    simp only [hg] at h
    cases hd : dstAt ops j with
    | none => simp only [hd] at h
    | some d =>
      simp only [hd] at h
      have hy := dstAt_eq hd a.tmps
      split at h
      · rename_i b he
        rw [E d _ he] at hy
        have hy' : yielded ops.toArray a.tmps j = some b := hy
        have hw : Region.wanted o (yielded ops.toArray a.tmps) = (b == want) := by
          simp only [Region.wanted, hg, hy']
          cases b <;> cases want <;> rfl
        rw [hw]
        cases b <;> cases want <;> simp only [cnd, upd_self he] at h
        · exact .inl ⟨rfl, h⟩
        · exact .inr ⟨rfl, h⟩
        · exact .inr ⟨rfl, h⟩
        · exact .inl ⟨rfl, h⟩
      · rename_i ts he
        rw [E d _ he] at hy
        have hw : Region.wanted o (yielded ops.toArray a.tmps) = false := by
          simp only [Region.wanted, hg, hy]
          rfl
        exact .inr ⟨hw, h⟩
      · exact h.elim
theorem lenMap_run (hT : ∀ t i, look t c.T = some i → TiOk c.P t i) {o : Oper} {K : Value → Prop} (hl : lenMap c.T o = true) (h : lenMapF o.op e H K) (S : Sim c.D c.n H0 w0 β e V H a w) :
    o.guard = none ∧ ∃ v, (execOp a.eval o).run c.P w = .ok (.value v) w ∧ K v := by
  obtain ⟨dst, op, ty, pos, af, g⟩ := o
  unfold lenMap at hl
  split at hl
  · rename_i args ts hop hg
    simp only at hop hg
    subst hop
    refine ⟨hg, ?_⟩
    split at hl
    · rename_i t hts
      split at hl
      · rename_i i hi
        split at hl
        · rename_i kt vt hkn
          obtain ⟨d, hd, hag, hk⟩ := (hT t i hi).desc
          rw [hkn] at hk
          cases (hk : d = .map kt vt)
          have hat : ts = #[t] := by apply Array.ext'; exact hts
          subst hat
          obtain ⟨vs, hvs, h⟩ := withVs_some S.env h
          have hm : args.map a.eval = vs.toArray := by apply Array.ext'; rw [Array.toList_map]; exact hvs
          split at h
          · rename_i r
            cases r with
            | none => exact ⟨.int .i64 (0 : Nat), by simp [execOp, resolve, hm, invoke, builtin, Builtin.len_, run_underlying hd, goInt], h⟩
            | some b =>
              obtain ⟨es, clock, hb, h⟩ := h
              exact ⟨.int .i64 es.size, by simp [execOp, resolve, hm, invoke, builtin, Builtin.len_, run_underlying hd, run_getMap (S.has b _ hb), goInt], h⟩
          · exact h.elim
        · cases hl
      · cases hl
    · cases hl
  · cases hl
theorem wOps_sound (hc : CxOk c) {ops : List Oper} {Q : Exit → Act → World → Prop} {K : Env → VSt → Hp → Prop} (hq : ∀ a w, St c H0 w0 K a w → Q .normal a w) : ∀ {l : List Oper} {β : Nat → Nat} {e : Env} {V : VSt} {H : Hp} {a : Act} {w : World},
    wOps c ops l K e V H → Sim c.D c.n H0 w0 β e V H a w → wpList c.P ops.toArray Q l a w
  | [], β, e, V, H, a, w, h, S => hq a w ⟨β, e, V, H, h, S⟩
  | o :: r, β, e, V, H, a, w, h, S => by
    unfold wpList
    unfold wOps at h
    split at h
    · rename_i hl
      obtain ⟨hg, hx⟩ := lenMap_run hc.1 hl h S
      rw [if_pos (by simp [Region.wanted, hg])]
      obtain ⟨v, hr, hk⟩ := hx
      exact .inl (wp_value hr (wOps_sound hc hq hk (S.put o.dst rfl)))
    rcases wStep_cases h S.env with ⟨hw, h⟩ | ⟨hw, h⟩
    · rw [if_pos hw]
      exact .inl (wOp_sound hc.1 hc.2.1 S h fun β' av e' V' H' a' w' hk S' _ => wOps_sound hc hq hk S')
    · rw [if_neg (by rw [hw]; decide)]
      exact wOps_sound hc hq h (S.put o.dst rfl)

end
end Go.Proofs.YtmelbipidffmpaaGreatDoor.Hw

/- The evaluator is sound for a region whose order is open: it goes through the region in one order, in which all that only looks comes early. -/
set_option linter.unusedVariables false
set_option linter.unusedSimpArgs false
namespace Go.Proofs.YtmelbipidffmpaaGreatDoor.Hw
open Go

/-! ### what must come before what -/
theorem maskOf_bit {acc : List Nat} {j : Nat} : ∀ {l : List Nat}, (maskOf acc l).testBit j = true → ∃ z ∈ l, z = j ∨ (acc.getD z 0).testBit j = true
  | [], h => by simp [maskOf] at h
  | z :: r, h => by
    simp only [maskOf, Nat.testBit_or, Bool.or_eq_true] at h
    rcases h with (h | h) | h
    · rw [Nat.testBit_two_pow] at h
      exact ⟨z, List.mem_cons_self, .inl (of_decide_eq_true h)⟩
    · exact ⟨z, List.mem_cons_self, .inr h⟩
    · obtain ⟨y, hy, h⟩ := maskOf_bit h
      exact ⟨y, List.mem_cons_of_mem _ hy, h⟩
theorem masks_pre : ∀ (l : List Oper) (acc : List Nat), ∃ r, masks acc l = acc ++ r ∧ r.length = l.length
  | [], acc => ⟨[], by simp [masks], rfl⟩
  | o :: l, acc => by
    obtain ⟨r, h1, h2⟩ := masks_pre l (acc ++ [maskOf acc (dirOf o)])
    exact ⟨maskOf acc (dirOf o) :: r, by rw [masks, h1]; simp, by simp [h2]⟩
theorem masks_at : ∀ (l : List Oper) (acc : List Nat) (i : Nat) (o : Oper), l[i]? = some o → ∃ acc', (masks acc l).getD (acc.length + i) 0 = maskOf acc' (dirOf o) ∧ acc'.length = acc.length + i ∧ ∃ r, masks acc l = acc' ++ r
  | [], _, i, o, h => by simp at h
  | x :: l, acc, 0, o, h => by
    simp at h
    subst h
    obtain ⟨r, h1, h2⟩ := masks_pre l (acc ++ [maskOf acc (dirOf x)])
    refine ⟨acc, ?_, rfl, maskOf acc (dirOf x) :: r, by rw [masks, h1]; simp⟩
    rw [masks, h1, List.append_assoc]
    simp [List.getD_eq_getElem?_getD]
  | x :: l, acc, i + 1, o, h => by
    obtain ⟨acc', h1, h2, r, h3⟩ := masks_at l (acc ++ [maskOf acc (dirOf x)]) i o (by simpa using h)
    refine ⟨acc', ?_, by simp at h2; omega, r, by rw [masks, h3]⟩
    rw [masks, show acc.length + (i + 1) = (acc ++ [maskOf acc (dirOf x)]).length + i by simp; omega]
    exact h1
/-- One step back. -/
theorem befB_step {ops : List Oper} {i j : Nat} {o : Oper} (ho : ops[i]? = some o) (hlt : ∀ z ∈ dirOf o, z < i) (h : befB (masks [] ops) i j = true) : ∃ z ∈ dirOf o, z = j ∨ befB (masks [] ops) z j = true := by
  obtain ⟨acc', h1, h2, r, h3⟩ := masks_at ops [] i o ho
  unfold befB at h
  simp only [List.length_nil, Nat.zero_add] at h1 h2
  rw [h1] at h
  obtain ⟨z, hz, h⟩ := maskOf_bit h
  refine ⟨z, hz, h.imp id fun h => ?_⟩
  unfold befB
  have hz' := hlt z hz
  rw [h3, List.getD_eq_getElem?_getD, List.getElem?_append_left (by omega), ← List.getD_eq_getElem?_getD]
  exact h
theorem befB_listed {ops : List Oper} (hdir : ∀ i o, ops[i]? = some o → ∀ z ∈ dirOf o, z < i) {S : Nat → Prop} (hcl : ∀ i o, S i → ops[i]? = some o → ∀ z ∈ dirOf o, S z) (hin : ∀ i, S i → i < ops.length) :
    ∀ i j, S i → befB (masks [] ops) i j = true → S j := by
  intro i
  induction i using Nat.strongRecOn with
  | _ i ih =>
    intro j hi hb
    have ho : ops[i]? = some (ops[i]'(hin i hi)) := List.getElem?_eq_getElem _
    obtain ⟨z, hz, h⟩ := befB_step ho (hdir i _ ho) hb
    have hS := hcl i _ hi ho z hz
    rcases h with rfl | h
    · exact hS
    · exact ih z (hdir i _ ho z hz) j hS h
theorem befB_ready {ops : List Oper} (hdir : ∀ i o, ops[i]? = some o → ∀ z ∈ dirOf o, z < i) {S : Nat → Prop} (hcl : ∀ i o, S i → ops[i]? = some o → ∀ z ∈ dirOf o, S z) (hin : ∀ i, S i → i < ops.length)
    {i j : Nat} {o : Oper} (ho : ops[i]? = some o) (hr : ∀ z ∈ dirOf o, S z) (hb : befB (masks [] ops) i j = true) : S j := by
  obtain ⟨z, hz, h⟩ := befB_step ho (hdir i _ ho) hb
  rcases h with rfl | h
  · exact hr _ hz
  · exact befB_listed hdir hcl hin z j (hr z hz) h

theorem elemN_mem {t : Nat} : ∀ {l : List Nat}, elemN t l = true ↔ t ∈ l
  | [] => by simp [elemN]
  | x :: r => by
    unfold elemN
    cases hb : Nat.beq x t with
    | true => simp [Nat.eq_of_beq_eq_true hb]
    | false =>
      have hne : t ≠ x := fun h => by subst h; simp at hb
      simp [hne, elemN_mem (l := r)]

/-! ### what has been gone through ahead of the machine -/
def fillA (ops : List Oper) (a : Act) : List (Nat × Value) → Act
  | [] => a
  | z :: r => fillA ops (a.put (dstAt ops z.1) z.2) r
def dsts (ops : List Oper) (pd : List (Nat × Value)) (d : Nat) : Prop := ∃ z ∈ pd, dstAt ops z.1 = some d
theorem fillA_getD (ops : List Oper) {t : Nat} : ∀ {pd : List (Nat × Value)} {a : Act}, ¬ dsts ops pd t → (fillA ops a pd).tmps.getD t undef = a.tmps.getD t undef
  | [], a, _ => rfl
  | z :: r, a, h => by
    rw [fillA, fillA_getD ops (fun ⟨y, hy, hd⟩ => h ⟨y, List.mem_cons_of_mem _ hy, hd⟩)]
    cases hd : dstAt ops z.1 with
    | none => rfl
    | some d => exact put_getD_ne a (fun e => h ⟨z, List.mem_cons_self, by rw [hd, e]⟩) _
theorem fillA_put (ops : List Oper) {d : Option Tmp} {v : Value} : ∀ {pd : List (Nat × Value)} {a : Act}, (∀ t, d = some t → ¬ dsts ops pd t) → fillA ops (a.put d v) pd = (fillA ops a pd).put d v
  | [], a, _ => rfl
  | z :: r, a, h => by
    rw [fillA, fillA, Act.put_comm a _ _ (fun t ht hz => h t ht ⟨z, List.mem_cons_self, hz⟩), fillA_put ops (fun t ht ⟨y, hy, hd⟩ => h t ht ⟨y, List.mem_cons_of_mem _ hy, hd⟩)]
theorem fillA_take (ops : List Oper) {z : Nat × Value} : ∀ {l1 l2 : List (Nat × Value)} {a : Act}, (∀ t, dstAt ops z.1 = some t → ¬ dsts ops l1 t) → fillA ops a (l1 ++ z :: l2) = fillA ops (a.put (dstAt ops z.1) z.2) (l1 ++ l2)
  | [], l2, a, _ => rfl
  | y :: l1, l2, a, h => by
    rw [List.cons_append, fillA, fillA_take ops (fun t ht ⟨x, hx, hd⟩ => h t ht ⟨x, List.mem_cons_of_mem _ hx, hd⟩), List.cons_append, fillA, Act.put_comm a _ _ (fun t hy ht => h t ht ⟨y, List.mem_cons_self, hy⟩)]

def opdOk (a b : Act) (ops : List Oper) (o : Oper) : Prop := ∀ t ∈ namesOf ops o, a.tmps.getD t undef = b.tmps.getD t undef
theorem opdOk_eval {a b : Act} {ops : List Oper} {o : Oper} (h : opdOk a b ops o) : ∀ x ∈ o.op.operands, a.eval x = b.eval x := by
  intro x hx
  cases x with
  | tmp t => exact h t (List.mem_append_left _ (List.mem_filterMap.2 ⟨.tmp t, by simpa using hx, rfl⟩))
  | _ => rfl
theorem opdOk_wanted {a b : Act} {ops : List Oper} {o : Oper} (h : opdOk a b ops o) : Region.wanted o (yielded ops.toArray a.tmps) = Region.wanted o (yielded ops.toArray b.tmps) := by
  cases hg : o.guard with
  | none => simp [Region.wanted, hg]
  | some jw =>
    obtain ⟨j, want⟩ := jw
    simp only [Region.wanted, hg]
    cases hd : dstAt ops j with
    | none =>
      have : ∀ t : Array Value, yielded ops.toArray t j = none := fun t => by
        unfold dstAt at hd
        unfold yielded
        split at hd
        · rename_i o' ho
          have h1 : (ops.toArray)[j]? = some o' := by simpa using ho
          rw [h1, Option.bind_some, hd]
          rfl
        · rename_i ho
          have h1 : (ops.toArray)[j]? = none := by simpa using ho
          rw [h1]
          rfl
      rw [this, this]
    | some d =>
      rw [dstAt_eq hd, dstAt_eq hd, h d (List.mem_append_right _ (by simp [hg, hd]))]

section
variable {c : Cx} {H0 : Hp} {w0 : World} {β : Nat → Nat} {e : Env} {V : VSt} {H : Hp} {a : Act} {w : World} {o : Oper}
theorem wOp_pureRun (hT : ∀ t i, look t c.T = some i → TiOk c.P t i) (ho : efOf o.op = .pure) {K : Option AV → Env → VSt → Hp → Prop} (h : wOp c o e V H K) (E : EnvOk β e a) :
    ∃ av, K (some av) e V H ∧ ∀ w, (execOp a.eval o).run c.P w = .ok (.value (av.conc β)) w := by
  have gen : wPure c.T o.op e (fun av => K (some av) e V H) → ∃ av, K (some av) e V H ∧ ∀ w, (execOp a.eval o).run c.P w = .ok (.value (av.conc β)) w := fun h => by
    obtain ⟨av, hk, hg⟩ := wPure_sound hT h E
    exact ⟨av, hk, fun w => hg w o.dst o.type o.pos o.after o.guard⟩
  obtain ⟨dst, op, ty, pos, af, g⟩ := o
  cases op with
  | call cc =>
    obtain ⟨callee, args, ats⟩ := cc
    cases callee with
    | value f => cases ho
    | invoke r m => cases ho
    | builtin b =>
      cases b with
      | len =>
        obtain ⟨vs, hvs, h⟩ := withVs_some E h
        have hm : args.map a.eval = vs.toArray := by apply Array.ext'; rw [Array.toList_map]; exact hvs
        split at h
        · rename_i t v hts
          obtain ⟨i, hi, h⟩ := onTI_some h
          obtain ⟨d, hd, hag, hk⟩ := (hT t i hi).desc
          have hat : ats = #[t] := by apply Array.ext'; exact hts
          split at h
          · rename_i el esz eby A n cp hkn _
            rw [hkn] at hk
            cases hk.1
            exact ⟨_, h, fun w => by simp [execOp, resolve, hm, invoke, builtin, hat, Builtin.len_, run_underlying hd, goInt, AV.conc]⟩
          · rename_i s hkn _
            rw [hkn] at hk
            cases (hk : d = .string)
            exact ⟨_, h, fun w => by simp [execOp, resolve, hm, invoke, builtin, hat, Builtin.len_, run_underlying hd, goInt, AV.conc]⟩
          · exact h.elim
        · exact h.elim
      | _ => cases ho
  | load t x => cases ho
  | store t x y => cases ho
  | alloc t => cases ho
  | box t x => cases ho
  | buildSlice t l ps => cases ho
  | makeMap t r => cases ho
  | makeSlice t l cp => cases ho
  | lookup t m x ok => cases ho
  | mapUpdate t m x y => cases ho
  | range t m => cases ho
  | next it st => cases ho
  | insert t m x y => cases ho
  | entry it => cases ho
  | _ => exact gen h
/-- Of which block a load is, and that it looks at no other. -/
theorem wOp_loadRun (hT : ∀ t i, look t c.T = some i → TiOk c.P t i) {t : TypeId} {x : Operand} (ho : o.op = .load t x) {K : Option AV → Env → VSt → Hp → Prop} (h : wOp c o e V H K) (S : Sim c.D c.n H0 w0 β e V H a w) :
    ∃ v b, K (some (.v v)) e V H ∧ b < w.heap.size ∧ (∀ w', w'.heap[b]? = w.heap[b]? → (execOp a.eval o).run c.P w' = .ok (.value v) w') ∧
      (∀ k1 o1, ev e x = some (.loc k1 o1) → H b = none ∧ ∀ k, V k ≠ none → β k = b → k = k1) ∧ (∀ u, ev e x = some (.v u) → H b ≠ none ∧ ∃ o1, u = .pointer (some ⟨b, o1, none⟩)) := by
  obtain ⟨dst, op, ty, pos, af, g⟩ := o
  cases ho
  obtain ⟨i, hi, h⟩ := onTI_some h
  obtain ⟨p, hp, h⟩ := onAV_some h
  have hTi := hT t i hi
  split at h
  · rename_i k o
    split at h
    · rename_i x' hV
      split at h
      · rename_i hle
        have hle' := Nat.le_of_ble_eq_true hle
        obtain ⟨v, hv, h⟩ := mkV_some h
        obtain ⟨⟨ty', h1⟩, h2, h3⟩ := S.box k x' hV
        refine ⟨v, β k, h, (Array.getElem?_eq_some_iff.1 h1).1, fun w' hw' => ?_, fun k1 o1 h4 => ?_, fun u h4 => ?_⟩
        · have hr := run_loadVar_ok (P := c.P) (w := w') hTi (b := β k) (o := o) (vs := (x'.2.drop o).take i.zs.length) (by rw [List.length_take, List.length_drop]; omega) (fun j u hj => by
            rw [cl_of w' (hw'.trans h1)]
            rw [List.getElem?_take] at hj
            split at hj
            · rw [List.getElem?_drop] at hj; exact hj
            · cases hj) hv
          simp [execOp, ev_eval S.env hp, AV.conc, Instr.loadAt, Instr.sureAddr, hr]
        · rw [hp] at h4
          cases h4
          exact ⟨h2, fun k' hk' hb => S.inj k' k hk' (by rw [hV]; simp) hb⟩
        · rw [hp] at h4; cases h4
      · exact h.elim
    · exact h.elim
  · obtain ⟨b, o, rfl, h⟩ := onPtr_some h
    split at h
    · exact h.elim
    rename_i hzs
    rw [← hzs] at h
    obtain ⟨vs, hl, hc, h⟩ := loadL_some h
    obtain ⟨v, hv, h⟩ := mkV_some h
    -- a value has a cell, so that its block is known
    have hb : ∃ p, H b = some p := by
      cases vs with
      | nil => rw [hzs] at hl; cases hl
      | cons u r =>
        have h1 := hc 0 u rfl
        unfold cl at h1
        cases hb : H b with
        | none => simp only [Nat.add_zero, hb] at h1; cases h1
        | some p => exact ⟨p, rfl⟩
    obtain ⟨p, hb⟩ := hb
    refine ⟨v, b, h, has_lt S.has hb, ?_, ?_, ?_⟩
    rotate_left
    · intro k1 o1 h4; rw [hp] at h4; cases h4
    · intro u hu
      rw [hp] at hu
      cases hu
      exact ⟨by rw [hb]; simp, o, rfl⟩
    intro w' hw'
    have hH : ∀ j u, cl H b j = some u → w'.cell? ⟨b, j, none⟩ = some u := fun j u hj => by
      have := has_cell S.has hj
      unfold World.cell? at this ⊢
      simp only [hw']
      exact this
    have hr := run_loadVar_ok (P := c.P) (w := w') hTi (b := b) (o := o) hl (fun j u hj => hH _ _ (hc j u hj)) hv
    simp [execOp, ev_eval S.env hp, AV.conc, Instr.loadAt, Instr.sureAddr, hr]
  · exact h.elim

/-- What is known of an operation that the evaluator has gone through and the machine has not. -/
def PK (c : Cx) (ops : List Oper) (fl : Act) (e : Env) (β : Nat → Nat) (V : VSt) (H : Hp) (w : World) (z : Nat × Value) : Prop := ∃ o, ops[z.1]? = some o ∧
  ((Region.wanted o (yielded ops.toArray fl.tmps) = false ∧ z.2 = undef) ∨
   (Region.wanted o (yielded ops.toArray fl.tmps) = true ∧
    ((efOf o.op = .pure ∧ ∀ w', (execOp fl.eval o).run c.P w' = .ok (.value z.2) w') ∨
     ∃ t x b, o.op = .load t x ∧ b < w.heap.size ∧ (∀ w', w'.heap[b]? = w.heap[b]? → (execOp fl.eval o).run c.P w' = .ok (.value z.2) w') ∧
       (∀ k1 o1, ev e x = some (.loc k1 o1) → H b = none ∧ ∀ k, V k ≠ none → β k = b → k = k1) ∧ (∀ u, ev e x = some (.v u) → H b ≠ none ∧ ∃ o1, u = .pointer (some ⟨b, o1, none⟩)))))

def okP (ops : List Oper) (bf : List Nat) (x y : Nat) : Prop := x ≠ y ∧ slotOk ops bf x y = true ∧ slotOk ops bf y x = true
def bfP (ops : List Oper) (bf : List Nat) (x y : Nat) : Prop := befB bf x y = false
theorem without_mem {x y : Nat} : ∀ {l : List Nat}, y ∈ without x l ↔ y ∈ l ∧ y ≠ x
  | [] => by simp [without]
  | z :: r => by
    unfold without
    cases hb : Nat.beq x z with
    | true =>
      have := Nat.eq_of_beq_eq_true hb
      subst this
      simp only [without_mem (l := r), List.mem_cons]
      constructor
      · rintro ⟨h1, h2⟩; exact ⟨.inr h1, h2⟩
      · rintro ⟨h1 | h1, h2⟩
        · exact absurd h1 h2
        · exact ⟨h1, h2⟩
    | false =>
      have := Nat.ne_of_beq_eq_false hb
      simp only [List.mem_cons, without_mem (l := r)]
      constructor
      · rintro (h | ⟨h1, h2⟩)
        · subst h; exact ⟨.inl rfl, fun h => this h.symm⟩
        · exact ⟨.inr h1, h2⟩
      · rintro ⟨h1 | h1, h2⟩
        · exact .inl h1
        · exact .inr ⟨h1, h2⟩
theorem without_id {x : Nat} : ∀ {l : List Nat}, x ∉ l → without x l = l
  | [], _ => rfl
  | z :: r, h => by
    unfold without
    cases hb : Nat.beq x z with
    | true => exact absurd (by rw [Nat.eq_of_beq_eq_true hb]; exact List.mem_cons_self) h
    | false => simp only; rw [without_id (fun hh => h (List.mem_cons_of_mem _ hh))]
theorem without_nodup {x : Nat} : ∀ {l : List Nat}, l.Nodup → (without x l).Nodup
  | [], _ => by simp [without]
  | z :: r, h => by
    rw [List.nodup_cons] at h
    unfold without
    cases hb : Nat.beq x z with
    | true => exact without_nodup h.2
    | false => exact List.nodup_cons.2 ⟨fun hh => h.1 (without_mem.1 hh).1, without_nodup h.2⟩
theorem without_length {x : Nat} : ∀ {l : List Nat}, l.Nodup → x ∈ l → (without x l).length + 1 = l.length
  | [], _, h => by cases h
  | z :: r, h, hx => by
    rw [List.nodup_cons] at h
    unfold without
    cases hb : Nat.beq x z with
    | true =>
      have := Nat.eq_of_beq_eq_true hb
      subst this
      simp only
      rw [without_id h.1]; rfl
    | false =>
      have := Nat.ne_of_beq_eq_false hb
      simp only [List.length_cons]
      rw [without_length h.2 ((List.mem_cons.1 hx).resolve_left this)]
theorem pairB_spec {ops : List Oper} {bf : List Nat} {x : Nat} {S : List Nat} (h : pairB ops bf x S = true) : ∀ y ∈ S, y ≠ x → okP ops bf x y ∧ bfP ops bf x y := by
  intro y hy hne
  unfold pairB at h
  have := List.all_eq_true.1 h y (without_mem.2 ⟨hy, hne⟩)
  simp only [Bool.and_eq_true, Bool.not_eq_true'] at this
  exact ⟨⟨hne.symm, this.1.2, this.2⟩, this.1.1⟩
theorem emptyB_spec : ∀ {l : List Nat}, emptyB l = true → l = []
  | [], _ => rfl
  | _ :: _, h => by cases h

theorem slotOk_use {ops : List Oper} {bf : List Nat} {x y : Nat} (h : slotOk ops bf x y = true) {ox : Oper} (hx : ops[x]? = some ox) {d : Nat} (hd : dstAt ops y = some d) (hu : d ∈ namesOf ops ox ∨ ox.dst = some d) :
    befB bf x y = true ∨ (efAt ops y = true ∧ befB bf y x = true) := by
  unfold dstAt at hd
  split at hd
  · rename_i oy hy
    unfold slotOk at h
    simp only [hx, hy, hd, Bool.or_eq_true, Bool.and_eq_true] at h
    rcases h with (⟨h1, h2⟩ | h) | ⟨h1, h2⟩
    · rcases hu with hu | hu
      · rw [elemN_mem.2 hu] at h1; cases h1
      · rw [hu] at h2
        simp at h2
    · exact .inl h
    · right
      refine ⟨?_, h2⟩
      unfold efAt
      rw [hy]
      exact h1
  · cases hd

/-- The state in the midst of such a region. -/
structure RInv (c : Cx) (ops : List Oper) (K : Env → VSt → Hp → Prop) (H0 : Hp) (w0 : World) (listed : Array Bool) (t : OT) (ρ tried : List Nat) (pd : List (Nat × Value)) (a : Act) (w : World) : Prop where
  size : listed.size = ops.length
  closed : ∀ i o, listed.getD i false = true → ops[i]? = some o → ∀ z ∈ dirOf o, listed.getD z false = true
  mem : ∀ i, i < ops.length → (listed.getD i false = false ↔ i ∈ ρ ∨ i ∈ pd.map (·.1))
  lt : ∀ i, i ∈ ρ ∨ i ∈ pd.map (·.1) → i < ops.length
  nd : pd.Pairwise (fun x y => okP ops (masks [] ops) x.1 y.1)
  pl : ∀ x ∈ pd, efAt ops x.1 = false
  ord : tOk ops (masks [] ops) t ρ tried = true
  uniq : ρ.Nodup
  both : ∀ x ∈ pd, ∀ y ∈ ρ, okP ops (masks [] ops) x.1 y ∧ bfP ops (masks [] ops) x.1 y
  sim : (tried = [] ∨ t.isDone = false) → ∃ β e V H, wOpsD c ops (masks [] ops) t ρ K e V H ∧ Sim c.D c.n H0 w0 β e V H (fillA ops a pd) w ∧ ∀ x ∈ pd, PK c ops (fillA ops a pd) e β V H w x

/-- What is asked of a region once. -/
structure ROk (ops : List Oper) : Prop where
  dir : ∀ (i : Nat) (o : Oper), ops[i]? = some o → ∀ z ∈ dirOf o, z < i
  self : ∀ (i : Nat) (o : Oper) (d : Nat), ops[i]? = some o → o.dst = some d → d ∉ namesOf ops o
theorem okP.symm {ops : List Oper} {bf : List Nat} {x y : Nat} (h : okP ops bf x y) : okP ops bf y x := ⟨Ne.symm h.1, h.2.2, h.2.1⟩
theorem getD_set {l : Array Bool} {i j : Nat} (hi : i < l.size) : (l.setIfInBounds i true).getD j false = if j = i then true else l.getD j false := by
  simp only [Array.getD_eq_getD_getElem?, Array.getElem?_setIfInBounds]
  by_cases h : i = j
  · subst h; simp [hi]
  · simp [h, Ne.symm h]
theorem ready_iff {ops : List Oper} {listed : Array Bool} (hs : listed.size = ops.length) {i : Nat} (h : i ∈ Region.ready .any ops.toArray listed) :
    i < ops.length ∧ listed.getD i false = false ∧ ∃ o, ops[i]? = some o ∧ ∀ z ∈ dirOf o, listed.getD z false = true := by
  unfold Region.ready at h
  rw [List.mem_filter, List.mem_range] at h
  obtain ⟨h1, h2⟩ := h
  have h1' : i < ops.length := by simpa using h1
  rw [Bool.and_eq_true] at h2
  have hi : ops[i]? = some (ops[i]'h1') := List.getElem?_eq_getElem _
  refine ⟨h1', ?_, _, hi, ?_⟩
  · have h3 := h2.1
    rw [Array.getD_eq_getD_getElem?] at h3 ⊢
    rw [Array.getElem?_eq_getElem (by omega)] at h3 ⊢
    simpa using h3
  · have h3 := h2.2
    have h4 : (ops.toArray)[i]? = some (ops[i]'h1') := by simp
    rw [h4, Option.map_some, Option.getD_some] at h3
    intro z hz
    unfold dirOf at hz
    obtain ⟨x, hx, rfl⟩ := List.mem_map.1 hz
    obtain ⟨hx1, hx2⟩ := List.mem_filter.1 hx
    have h5 := (Array.all_eq_true_iff_forall_mem.1 h3) x (by simpa using hx1)
    rw [hx2] at h5
    simpa using h5

section
variable {ops : List Oper} {K : Env → VSt → Hp → Prop} {listed : Array Bool} {t : OT} {ρ tried : List Nat} {pd : List (Nat × Value)}
theorem RInv.notyet (R : RInv c ops K H0 w0 listed t ρ tried pd a w) {z : Nat} (h : z ∈ ρ ∨ z ∈ pd.map (·.1)) : listed.getD z false = false := (R.mem z (R.lt z h)).2 h
theorem RInv.bef (O : ROk ops) (R : RInv c ops K H0 w0 listed t ρ tried pd a w) {i j : Nat} {o : Oper} (ho : ops[i]? = some o) (hr : ∀ z ∈ dirOf o, listed.getD z false = true) (hb : befB (masks [] ops) i j = true) : listed.getD j false = true :=
  befB_ready O.dir (S := fun i => listed.getD i false = true) (fun i o hi ho => R.closed i o hi ho) (fun i hi => by
    have : i < listed.size := by
      by_cases h : i < listed.size
      · exact h
      · rw [Array.getD_eq_getD_getElem?, Array.getElem?_eq_none (by omega)] at hi; cases hi
    rw [R.size] at this; exact this) ho hr hb
/-- Nothing that an operation looks at is still to come. -/
theorem RInv.opd (O : ROk ops) (R : RInv c ops K H0 w0 listed t ρ tried pd a w) {i : Nat} {o : Oper} (ho : ops[i]? = some o) (hr : ∀ z ∈ dirOf o, listed.getD z false = true) {pd' : List (Nat × Value)} (hp : ∀ z ∈ pd', z ∈ pd ∧ okP ops (masks [] ops) i z.1) : ∀ d, d ∈ namesOf ops o ∨ o.dst = some d → ¬ dsts ops pd' d := by
  rintro d hd ⟨z, hz, hzd⟩
  obtain ⟨hz1, hz2⟩ := hp z hz
  have hm : z.1 ∈ pd.map (·.1) := List.mem_map_of_mem hz1
  rcases slotOk_use hz2.2.1 ho hzd hd with h | ⟨h, _⟩
  · have := R.bef O ho hr h
    rw [R.notyet (.inr hm)] at this
    cases this
  · rw [R.pl z hz1] at h; cases h

/-- The machine takes what the evaluator has gone through already. -/
theorem RInv.take (O : ROk ops) (R : RInv c ops K H0 w0 listed t ρ [] pd a w) {i : Nat} {v : Value} (hi : (i, v) ∈ pd) {o : Oper} (ho : ops[i]? = some o) (hr : ∀ z ∈ dirOf o, listed.getD z false = true)
    {next : Act → World → Prop} {Q : Exit → Act → World → Prop} (hn : ∀ pd', pd'.length + 1 = pd.length → RInv c ops K H0 w0 (listed.setIfInBounds i true) t ρ [] pd' (a.put o.dst v) w → next (a.put o.dst v) w) : wpOp c.P ops.toArray Q i next a w := by
  obtain ⟨l1, l2, rfl⟩ := List.append_of_mem hi
  have hlen : (l1 ++ l2).length + 1 = (l1 ++ (i, v) :: l2).length := by simp; omega
  have hnd := R.nd
  rw [List.pairwise_append] at hnd
  obtain ⟨n1, n2, n3⟩ := hnd
  rw [List.pairwise_cons] at n2
  have hother : ∀ z ∈ l1 ++ l2, z ∈ l1 ++ (i, v) :: l2 ∧ okP ops (masks [] ops) i z.1 := fun z hz => by
    rcases List.mem_append.1 hz with h | h
    · exact ⟨List.mem_append_left _ h, (n3 z h _ List.mem_cons_self).symm⟩
    · exact ⟨List.mem_append_right _ (List.mem_cons_of_mem _ h), n2.1 z h⟩
  have hclean := R.opd O ho hr hother
  have hdst : dstAt ops i = o.dst := by unfold dstAt; rw [ho]
  have hfill : fillA ops a (l1 ++ (i, v) :: l2) = fillA ops (a.put o.dst v) (l1 ++ l2) := by
    rw [fillA_take ops (fun t ht ⟨z, hz, hd⟩ => hclean t (.inr (hdst.symm.trans ht)) ⟨z, List.mem_append_left _ hz, hd⟩), hdst]
  have hil : i < listed.size := by rw [R.size]; exact R.lt i (.inr (by simp))
  have Rn : RInv c ops K H0 w0 (listed.setIfInBounds i true) t ρ [] (l1 ++ l2) (a.put o.dst v) w := by
    obtain ⟨β, e, V, H, hw, S, hpk⟩ := R.sim (.inl rfl)
    rw [hfill] at S hpk
    refine ⟨by simpa using R.size, fun j oj hj hoj z hz => ?_, fun j hj => ?_, fun j hj => R.lt j (hj.imp id (fun h => by
      obtain ⟨z, hz, rfl⟩ := List.mem_map.1 h
      exact List.mem_map_of_mem (hother z hz).1)), ?_, fun x hx => R.pl x (hother x hx).1, R.ord, R.uniq, fun x hx => R.both x (hother x hx).1, fun _ => ⟨β, e, V, H, hw, S, fun x hx => hpk x (hother x hx).1⟩⟩
    · rw [getD_set hil] at hj ⊢
      by_cases hji : j = i
      · subst hji; rw [ho] at hoj; cases hoj
        rw [hr z hz]; simp
      · simp only [hji, if_false] at hj
        rw [R.closed j oj hj hoj z hz]; simp
    · rw [getD_set hil]
      by_cases hji : j = i
      · subst hji
        simp only [if_true, Bool.true_eq_false, false_iff, not_or]
        refine ⟨fun h => (R.both _ hi j h).1.1 rfl, fun h => ?_⟩
        obtain ⟨z, hz, hzj⟩ := List.mem_map.1 h
        exact (hother z hz).2.1 hzj.symm
      · simp only [hji, if_false]
        rw [R.mem j hj]
        simp [hji]
    · rw [List.pairwise_append]
      exact ⟨n1, n2.2, fun x hx y hy => n3 x hx y (List.mem_cons_of_mem _ hy)⟩
  obtain ⟨β, e, V, H, hw, S, hpk⟩ := R.sim (.inl rfl)
  obtain ⟨o', ho', hk⟩ := hpk _ hi
  rw [ho] at ho'
  cases ho'
  have hop : opdOk a (fillA ops a (l1 ++ (i, v) :: l2)) ops o := fun t ht => by
    rw [hfill]
    have hne : ∀ d, o.dst = some d → t ≠ d := fun d hd he => O.self i o d ho hd (he ▸ ht)
    rw [fillA_getD ops (hclean t (.inl ht))]
    cases hd : o.dst with
    | none => rfl
    | some d => rw [put_getD_ne a (hne d hd)]
  have hoA : (ops.toArray)[i]? = some o := by simpa using ho
  unfold wpOp
  rw [hoA]
  simp only
  rw [opdOk_wanted hop]
  rcases hk with ⟨h1, h2⟩ | ⟨h1, h2⟩
  · rw [if_neg (by rw [h1]; decide)]
    have := hn _ hlen Rn
    rw [show v = undef from h2] at this
    exact this
  · rw [if_pos h1]
    left
    have hns : ∀ cs b, o.op ≠ .select cs b := by
      intro cs b hs
      rcases h2 with ⟨h3, _⟩ | ⟨t, x, b', h3, _⟩
      · rw [hs] at h3; cases h3
      · rw [hs] at h3; cases h3
    have hex : execOp a.eval o = execOp (fillA ops a (l1 ++ (i, v) :: l2)).eval o := execOp_congr o hns (opdOk_eval hop)
    refine wp_value (v := v) (w' := w) ?_ (hn _ hlen Rn)
    rw [hex]
    rcases h2 with ⟨_, h3⟩ | ⟨t, x, b, _, _, h3, _⟩
    · exact h3 w
    · exact h3 w rfl

/-- The evaluator goes ahead. -/
theorem RInv.ahead (hc : CxOk c) (O : ROk ops) {x : Nat} (R : RInv c ops K H0 w0 listed (.look x t) ρ [] pd a w) : ∃ v, RInv c ops K H0 w0 listed t (without x ρ) [] ((x, v) :: pd) a w := by
  obtain ⟨β, e, V, H, hw, S, hpk⟩ := R.sim (.inl rfl)
  have hord := R.ord
  simp only [tOk, Bool.and_eq_true, Bool.not_eq_true'] at hord
  obtain ⟨⟨⟨⟨_, hin⟩, hx⟩, hpair⟩, hrest⟩ := hord
  replace hin := elemN_mem.1 hin
  replace hpair := pairB_spec hpair
  unfold wOpsD at hw
  cases ho : ops[x]? with
  | none => simp only [ho] at hw
  | some o =>
    simp only [ho] at hw
    have hef : isEf (efOf o.op) = false := by unfold efAt at hx; rw [ho] at hx; exact hx
    · have hdst : dstAt ops x = o.dst := by unfold dstAt; rw [ho]
      -- the slot is no other's
      have hfree : ∀ z ∈ pd, ∀ d, o.dst = some d → ∀ oz, ops[z.1]? = some oz → d ∉ namesOf ops oz ∧ oz.dst ≠ some d := by
        intro z hz d hd oz hoz
        obtain ⟨h1, h2⟩ := R.both z hz x hin
        have key : ∀ (_ : d ∈ namesOf ops oz ∨ oz.dst = some d), False := fun hu => by
          rcases slotOk_use h1.2.1 hoz (hdst.trans hd) hu with h | ⟨h, _⟩
          · rw [show befB (masks [] ops) z.1 x = false from h2] at h; cases h
          · rw [hx] at h; cases h
        exact ⟨fun h => key (.inl h), fun h => key (.inr h)⟩
      have hnod : ∀ t, o.dst = some t → ¬ dsts ops pd t := by
        rintro t ht ⟨z, hz, hzd⟩
        unfold dstAt at hzd
        split at hzd
        · rename_i oz hoz
          exact (hfree z hz t ht oz hoz).2 hzd
        · cases hzd
      have build : ∀ (v : Value) (e' : Env), wOpsD c ops (masks [] ops) t (without x ρ) K e' V H → Sim c.D c.n H0 w0 β e' V H ((fillA ops a pd).put o.dst v) w → (∀ t av, some t ≠ o.dst → e' t = some av → e t = some av) → PK c ops ((fillA ops a pd).put o.dst v) e' β V H w (x, v) → RInv c ops K H0 w0 listed t (without x ρ) [] ((x, v) :: pd) a w := by
        intro v e' hw' S' he' hpkx
        have hf : fillA ops a ((x, v) :: pd) = (fillA ops a pd).put o.dst v := by
          rw [fillA, hdst, fillA_put ops (fun t ht => hnod t ht)]
        refine ⟨R.size, R.closed, fun j hj => ?_, fun j hj => R.lt j ?_, ?_, fun y hy => ?_, hrest, without_nodup R.uniq, fun y hy z hz => ?_, fun _ => ⟨β, e', V, H, hw', by rw [hf]; exact S', fun y hy => ?_⟩⟩
        · rw [R.mem j hj]
          simp only [List.mem_cons, List.map_cons, without_mem]
          constructor
          · rintro (h | h)
            · by_cases hjx : j = x
              · exact .inr (.inl hjx)
              · exact .inl ⟨h, hjx⟩
            · exact .inr (.inr h)
          · rintro (h | h | h)
            · exact .inl h.1
            · exact .inl (h ▸ hin)
            · exact .inr h
        · simp only [List.mem_cons, List.map_cons, without_mem] at hj ⊢
          rcases hj with h | h | h
          · exact .inl h.1
          · exact .inl (h ▸ hin)
          · exact .inr h
        · rw [List.pairwise_cons]
          exact ⟨fun y hy => (R.both y hy x hin).1.symm, R.nd⟩
        · rcases List.mem_cons.1 hy with rfl | hy
          · exact hx
          · exact R.pl y hy
        · rcases List.mem_cons.1 hy with rfl | hy
          · exact hpair z (without_mem.1 hz).1 (without_mem.1 hz).2
          · exact R.both y hy z (without_mem.1 hz).1
        · rw [hf]
          rcases List.mem_cons.1 hy with rfl | hy
          · exact hpkx
          · obtain ⟨oy, hoy, hk⟩ := hpk y hy
            refine ⟨oy, hoy, ?_⟩
            have hop : opdOk ((fillA ops a pd).put o.dst v) (fillA ops a pd) ops oy := fun t ht => by
              cases hd : o.dst with
              | none => rfl
              | some d => rw [put_getD_ne _ (fun h => (hfree y hy d hd oy hoy).1 (by rw [← h]; exact ht))]
            rw [opdOk_wanted hop]
            rcases hk with hk | ⟨h1, hk⟩
            · exact .inl hk
            · refine .inr ⟨h1, ?_⟩
              have hns : ∀ cs b, oy.op ≠ .select cs b := by
                intro cs b hs
                rcases hk with ⟨h3, _⟩ | ⟨t, x', b', h3, _⟩
                · rw [hs] at h3; cases h3
                · rw [hs] at h3; cases h3
              rw [execOp_congr oy hns (opdOk_eval hop)]
              rcases hk with hk | ⟨t, x', b, h2, h3, h4, h5, h6⟩
              · exact .inl hk
              · refine .inr ⟨t, x', b, h2, h3, h4, ?_, ?_⟩
                · intro k1 o1 hev
                  refine h5 k1 o1 ?_
                  cases x' with
                  | tmp s =>
                    refine he' s _ (fun hs => ?_) hev
                    exact (hfree y hy s hs.symm oy hoy).1 (List.mem_append_left _ (List.mem_filterMap.2 ⟨.tmp s, by rw [h2]; simp [Op.operands], rfl⟩))
                  | _ => exact hev
                · intro u hev
                  refine h6 u ?_
                  cases x' with
                  | tmp s =>
                    refine he' s _ (fun hs => ?_) hev
                    exact (hfree y hy s hs.symm oy hoy).1 (List.mem_append_left _ (List.mem_filterMap.2 ⟨.tmp s, by rw [h2]; simp [Op.operands], rfl⟩))
                  | _ => exact hev
      have hself : ∀ v, opdOk ((fillA ops a pd).put o.dst v) (fillA ops a pd) ops o := fun v t ht => by
        cases hd : o.dst with
        | none => rfl
        | some d => rw [put_getD_ne _ (fun h => O.self x o d ho hd (by rw [← h]; exact ht))]
      have hfin : ∀ (av : Option AV) t b, some t ≠ o.dst → fin c.n o.dst av e t = some b → e t = some b := by
        intro av t b hne hb
        cases hd : o.dst with
        | none => rw [hd] at hb; exact hb
        | some d =>
          rw [hd] at hb hne
          have hne' : t ≠ d := fun h => hne (by rw [h])
          cases av with
          | none => exact (del_some hb).2
          | some y =>
            cases hn : Nat.blt d c.n with
            | true => simp only [fin, hn] at hb; rw [upd_other hne'] at hb; exact hb
            | false => simp only [fin, hn] at hb; exact (del_some hb).2
      have hevx : ∀ (av : Option AV) (y : Operand) b, y ∈ o.op.operands → ev (fin c.n o.dst av e) y = some b → ev e y = some b := by
        intro av y b hy hb
        cases y with
        | tmp s =>
          refine hfin av s b (fun hs => ?_) hb
          exact O.self x o s ho hs.symm (List.mem_append_left _ (List.mem_filterMap.2 ⟨.tmp s, by simpa using hy, rfl⟩))
        | _ => exact hb
      rcases wStep_cases hw S.env with ⟨hwant, h⟩ | ⟨hwant, h⟩
      · cases hop : efOf o.op with
        | pure =>
          obtain ⟨av, hk, hrun⟩ := wOp_pureRun hc.1 hop h S.env
          refine ⟨av.conc β, build _ _ hk (S.put o.dst rfl) (hfin _) ⟨o, ho, .inr ⟨by rw [opdOk_wanted (hself _)]; exact hwant, .inl ⟨hop, fun w' => ?_⟩⟩⟩⟩
          have hns : ∀ cs b, o.op ≠ .select cs b := fun cs b hs => by rw [hs] at hop; cases hop
          rw [execOp_congr o hns (opdOk_eval (hself _))]
          exact hrun w'
        | load =>
          have hl : ∃ t y, o.op = .load t y := by
            cases hoo : o.op <;> rw [hoo] at hop <;> first | (cases hop; done) | exact ⟨_, _, rfl⟩ | skip
            rename_i cc
            obtain ⟨callee, args, ats⟩ := cc
            cases callee with
            | builtin b => cases b <;> cases hop
            | _ => cases hop
          obtain ⟨t, y, hty⟩ := hl
          obtain ⟨v, b, hk, hb, hrun, hc1, hc2⟩ := wOp_loadRun hc.1 hty h S
          have hy : y ∈ o.op.operands := by rw [hty]; simp [Op.operands]
          refine ⟨v, build _ _ hk (S.put o.dst rfl) (hfin _) ⟨o, ho, .inr ⟨by rw [opdOk_wanted (hself _)]; exact hwant, .inr ⟨t, y, b, hty, hb, fun w' hw' => ?_, fun k1 o1 hev => hc1 k1 o1 (hevx _ y _ hy hev), fun u hev => hc2 u (hevx _ y _ hy hev)⟩⟩⟩⟩
          have hns : ∀ cs b, o.op ≠ .select cs b := fun cs b hs => by rw [hs] at hty; cases hty
          rw [execOp_congr o hns (opdOk_eval (hself _))]
          exact hrun w' hw'
        | quiet => rw [hop] at hef; cases hef
        | write => rw [hop] at hef; cases hef
      · exact ⟨undef, build _ _ h (S.put o.dst rfl) (hfin _) ⟨o, ho, .inl ⟨by rw [opdOk_wanted (hself _)]; exact hwant, rfl⟩⟩⟩

theorem wp_fill {fl : Act} {N next : Act → World → Prop} {Q : Exit → Act → World → Prop} (he : execOp a.eval o = execOp fl.eval o) (hn : ∀ v w', N (fl.put o.dst v) w' → next (a.put o.dst v) w')
    (hd : ∀ d v w', ¬ N (({ fl with defers := d :: fl.defers } : Act).put o.dst v) w') (h : o.wp c.P fl w N (fun _ _ _ => False)) : o.wp c.P a w next Q := by
  unfold Oper.wp at h ⊢
  rw [he]
  generalize (execOp fl.eval o).run c.P w = r at h ⊢
  cases r with
  | halt x w' => cases x <;> simp only [Oper.upon] at h ⊢
  | ok n w' =>
    cases n <;> simp only [Oper.upon] at h ⊢
    all_goals first
      | exact hn _ _ h
      | exact (hd _ _ _ h).elim
      | exact Calls.mono h (fun e w'' he => by
          cases e with
          | returned v => exact hn _ _ he
          | panicked ch => exact he.elim
          | outgrown => obtain ⟨_, _, he⟩ := he; exact he.elim)
      | exact Rows.mono h (fun _ _ he => hn _ _ he)

/-- What a load that has been gone through is told of an operation that writes. -/
def lateAt (e : Env) (H H' : Hp) (w : Bool) (k : Option Nat) (x : Operand) : Prop := match ev e x with
  | none => False
  | some (.loc k1 _) => (match k with | none => True | some k2 => k1 ≠ k2)
  | some (.v v) => (match k with
    | some _ => True
    | none => w = true → ∀ p, v = .pointer (some p) → H' p.block = H p.block)
theorem lateL_P {bf S : List Nat} {i : Nat} {wr : Bool} {k : Option Nat} {e : Env} {H H' : Hp} {P : Prop} : ∀ {l : List Oper} {n : Nat}, lateL bf S i wr k e H H' n l P → P
  | [], _, h => h
  | o :: r, n, h => by
    unfold lateL at h
    split at h
    · split at h
      · exact lateL_P h
      · split at h
        · exact h.elim
        · split at h
          · exact lateL_P h
          · split at h
            · exact h.elim
            · exact lateL_P h
        · split at h
          · exact lateL_P h
          · split at h
            · exact lateL_P h
            · split at h
              · exact lateL_P h.2
              · exact lateL_P h
    · exact lateL_P h
theorem lateL_at {bf S : List Nat} {i : Nat} {wr : Bool} {k : Option Nat} {e : Env} {H H' : Hp} {P : Prop} : ∀ {l : List Oper} {j n : Nat} {oj : Oper}, lateL bf S i wr k e H H' n l P → l[j]? = some oj → ∀ t x, oj.op = .load t x → befB bf i (n + j) = true ∨ n + j ∈ S ∨ lateAt e H H' wr k x
  | [], j, n, oj, _, hj, _, _, _ => by simp at hj
  | o :: r, j + 1, n, oj, h, hj, t, x, hx => by
    have hr : lateL bf S i wr k e H H' (n + 1) r P := by
      unfold lateL at h
      split at h
      · split at h
        · exact h
        · split at h
          · exact h.elim
          · split at h
            · exact h
            · split at h
              · exact h.elim
              · exact h
          · split at h
            · exact h
            · split at h
              · exact h
              · split at h
                · exact h.2
                · exact h
      · exact h
    have := lateL_at (l := r) (j := j) (n := n + 1) hr (by simpa using hj) t x hx
    rw [show n + (j + 1) = n + 1 + j by omega]
    exact this
  | y :: r, 0, n, oj, h, hj, t, x, hx => by
    simp at hj
    subst hj
    simp only [lateL, hx] at h
    split at h
    · rename_i hb
      rw [Bool.or_eq_true] at hb
      exact hb.imp id fun hb => .inl (elemN_mem.1 hb)
    · refine .inr (.inr ?_)
      unfold lateAt
      split at h
      · exact h.elim
      · rename_i k1 o1 hev
        rw [hev]
        split at h
        · trivial
        · rename_i k2
          split at h
          · exact h.elim
          · rename_i hb
            exact Nat.ne_of_beq_eq_false hb
      · rename_i v hev
        rw [hev]
        split at h
        · trivial
        · split at h
          · intro hw; cases hw
          · split at h
            · rename_i p0
              intro _ p hp
              cases hp
              exact h.1
            · rename_i hnp
              intro _ p hp
              exact absurd hp (hnp p)
theorem lateP_P {bf S : List Nat} {ops : List Oper} {i : Nat} {o : Oper} {e : Env} {H H' : Hp} {P : Prop} (h : lateP bf S ops i o e H H' P) : P := by
  unfold lateP at h
  split at h
  · split at h <;> exact lateL_P h
  · exact h

/-- The machine and the evaluator go on together. -/
theorem RInv.run (hc : CxOk c) (O : ROk ops) {i : Nat} {u : OT} (R : RInv c ops K H0 w0 listed (.act i t u) ρ tried pd a w) (ho : ops[i]? = some o) (hr : ∀ z ∈ dirOf o, listed.getD z false = true)
    {next : Act → World → Prop} {Q : Exit → Act → World → Prop} (hn : ∀ a' w', RInv c ops K H0 w0 (listed.setIfInBounds i true) t (without i ρ) [] pd a' w' → next a' w') : wpOp c.P ops.toArray Q i next a w := by
  obtain ⟨β, e, V, H, hw, S, hpk⟩ := R.sim (.inr rfl)
  have hord := R.ord
  simp only [tOk, Bool.and_eq_true, Bool.not_eq_true'] at hord
  obtain ⟨⟨⟨⟨hin, hi⟩, hpair⟩, hrest⟩, _⟩ := hord
  replace hin := elemN_mem.1 hin
  replace hpair := pairB_spec hpair
  have hdst : dstAt ops i = o.dst := by unfold dstAt; rw [ho]
  have hclean := R.opd O ho hr (pd' := pd) (fun z hz => ⟨hz, (R.both z hz i hin).1.symm⟩)
  have hnot : ∀ z ∈ pd, befB (masks [] ops) i z.1 = true → False := fun z hz h => by
    have := R.bef O ho hr h
    rw [R.notyet (.inr (List.mem_map_of_mem hz))] at this
    cases this
  have hfree : ∀ z ∈ pd, ∀ d, o.dst = some d → ∀ oz, ops[z.1]? = some oz → d ∉ namesOf ops oz := by
    intro z hz d hd oz hoz hu
    obtain ⟨h1, h2⟩ := R.both z hz i hin
    rcases slotOk_use h1.2.1 hoz (hdst.trans hd) (.inl hu) with h | ⟨_, h⟩
    · rw [show befB (masks [] ops) z.1 i = false from h2] at h; cases h
    · exact hnot z hz h
  have hop : opdOk a (fillA ops a pd) ops o := fun t ht => (fillA_getD ops (hclean t (.inl ht))).symm
  have hfill : ∀ v, fillA ops (a.put o.dst v) pd = (fillA ops a pd).put o.dst v := fun v => fillA_put ops (fun t ht => hclean t (.inr ht))
  have hil : i < listed.size := by rw [R.size]; exact R.lt i (.inl hin)
  have hoA : (ops.toArray)[i]? = some o := by simpa using ho
  unfold wOpsD at hw
  simp only [ho] at hw
  have hw : wStep c ops o (fun e' V' H' => lateP (masks [] ops) ρ ops i o e H H' (wOpsD c ops (masks [] ops) t (without i ρ) K e' V' H')) e V H := by
    split at hw
    · exact hw
    · exact hw.1
  · skip
    have build : ∀ (v : Value) (β' : Nat → Nat) (e1 e' : Env) (V' : VSt) (H' : Hp) (w' : World), wOpsD c ops (masks [] ops) t (without i ρ) K e' V' H' → Sim c.D c.n H0 w0 β' e' V' H' ((fillA ops a pd).put o.dst v) w' → (∀ t av, some t ≠ o.dst → e' t = some av → e1 t = some av) →
        (∀ t av, e1 t = some av → e t = some av) → (∀ b, b < w.heap.size → H b = none → H' b = none) → w.heap.size ≤ w'.heap.size → (∀ k, V' k ≠ none → (V k ≠ none ∧ β' k = β k) ∨ w.heap.size ≤ β' k) →
        (∀ z ∈ pd, ∀ t x b oz, ops[z.1]? = some oz → oz.op = .load t x → b < w.heap.size → (∀ k1 o1, ev e x = some (.loc k1 o1) → H b = none ∧ ∀ k, V k ≠ none → β k = b → k = k1) → (∀ u, ev e x = some (.v u) → H b ≠ none ∧ ∃ o1, u = .pointer (some ⟨b, o1, none⟩)) →
          w'.heap[b]? = w.heap[b]? ∧ (∀ u, ev e x = some (.v u) → H' b ≠ none ∧ ∃ o1, u = .pointer (some ⟨b, o1, none⟩))) → RInv c ops K H0 w0 (listed.setIfInBounds i true) t (without i ρ) [] pd (a.put o.dst v) w' := by
      intro v β' e1 e' V' H' w' hw' S' he1 he hnone hsz hbeta hload
      refine ⟨by simpa using R.size, fun j oj hj hoj z hz => ?_, fun j hj => ?_, fun j hj => R.lt j (hj.imp (fun h => (without_mem.1 h).1) id), R.nd, R.pl, hrest, without_nodup R.uniq, fun x hx y hy => R.both x hx y (without_mem.1 hy).1, fun _ => ⟨β', e', V', H', hw', by rw [hfill]; exact S', fun z hz => ?_⟩⟩
      · rw [getD_set hil] at hj ⊢
        by_cases hji : j = i
        · subst hji; rw [ho] at hoj; cases hoj
          rw [hr z hz]; simp
        · simp only [hji, if_false] at hj
          rw [R.closed j oj hj hoj z hz]; simp
      · rw [getD_set hil]
        by_cases hji : j = i
        · subst hji
          simp only [if_true, Bool.true_eq_false, false_iff, not_or]
          refine ⟨fun h => (without_mem.1 h).2 rfl, fun h => ?_⟩
          obtain ⟨z, hz, hzj⟩ := List.mem_map.1 h
          exact (R.both z hz j hin).1.1 hzj
        · simp only [hji, if_false]
          rw [R.mem j hj, without_mem]
          simp [hji]
      · rw [hfill]
        obtain ⟨oz, hoz, hk⟩ := hpk z hz
        refine ⟨oz, hoz, ?_⟩
        have hop' : opdOk ((fillA ops a pd).put o.dst v) (fillA ops a pd) ops oz := fun t ht => by
          cases hd : o.dst with
          | none => rfl
          | some d => rw [put_getD_ne _ (fun h => hfree z hz d hd oz hoz (by rw [← h]; exact ht))]
        rw [opdOk_wanted hop']
        rcases hk with hk | ⟨h1, hk⟩
        · exact .inl hk
        · refine .inr ⟨h1, ?_⟩
          have hns : ∀ cs b, oz.op ≠ .select cs b := by
            intro cs b hs
            rcases hk with ⟨h3, _⟩ | ⟨t, x', b', h3, _⟩
            · rw [hs] at h3; cases h3
            · rw [hs] at h3; cases h3
          rw [execOp_congr oz hns (opdOk_eval hop')]
          rcases hk with hk | ⟨t, x, b, h2, h3, h4, h5, h6⟩
          · exact .inl hk
          · obtain ⟨g1, g2⟩ := hload z hz t x b oz hoz h2 h3 h5 h6
            have hev : ∀ av, ev e' x = some av → ev e x = some av := by
              intro av hav
              cases x with
              | tmp s =>
                refine he s _ (he1 s _ (fun hs => ?_) hav)
                exact hfree z hz s hs.symm oz hoz (List.mem_append_left _ (List.mem_filterMap.2 ⟨.tmp s, by rw [h2]; simp [Op.operands], rfl⟩))
              | _ => exact hav
            refine .inr ⟨t, x, b, h2, Nat.lt_of_lt_of_le h3 hsz, fun w2 hw2 => h4 w2 (hw2.trans g1), fun k1 o1 hk1 => ?_, fun u hu => g2 u (hev _ hu)⟩
            obtain ⟨p1, p2⟩ := h5 k1 o1 (hev _ hk1)
            refine ⟨hnone b h3 p1, fun k hkk hb => ?_⟩
            rcases hbeta k hkk with ⟨q1, q2⟩ | q
            · exact p2 k q1 (q2 ▸ hb)
            · omega
    have hfin : ∀ (e1 : Env) (av : Option AV) t b, some t ≠ o.dst → fin c.n o.dst av e1 t = some b → e1 t = some b := by
      intro e1 av t b hne hb
      cases hd : o.dst with
      | none => rw [hd] at hb; exact hb
      | some d =>
        rw [hd] at hb hne
        have hne' : t ≠ d := fun h => hne (by rw [h])
        cases av with
        | none => exact (del_some hb).2
        | some y =>
          cases hn : Nat.blt d c.n with
          | true => simp only [fin, hn] at hb; rw [upd_other hne'] at hb; exact hb
          | false => simp only [fin, hn] at hb; exact (del_some hb).2
    unfold wpOp
    rw [hoA]
    simp only
    rw [opdOk_wanted hop]
    rcases wStep_cases hw S.env with ⟨hwant, h⟩ | ⟨hwant, h⟩
    · rw [if_pos hwant]
      left
      have hns : ∀ cs b, o.op ≠ .select cs b := by
        intro cs b hs
        unfold wOp at h
        rw [hs] at h
        exact h.elim
      refine wp_fill (execOp_congr o hns (opdOk_eval hop)) (N := fun a' w' => ∃ β' av e' V' H', lateP (masks [] ops) ρ ops i o e H H' (wOpsD c ops (masks [] ops) t (without i ρ) K (fin c.n o.dst av e') V' H') ∧ Sim c.D c.n H0 w0 β' (fin c.n o.dst av e') V' H' a' w' ∧ Eff o e β V H w β' e' V' H' w') ?_ ?_
        (wOp_sound hc.1 hc.2.1 S h fun β' av e' V' H' a' w' hk S' E => ⟨β', av, e', V', H', hk, S', E⟩)
      · rintro v w' ⟨β', av, e', V', H', hk, S', E⟩
        refine hn _ _ (build v β' e' _ V' H' w' (lateP_P hk) S' (hfin e' av) E.env E.none' E.size E.beta fun z hz t' x b oz hoz hx hb h5 h6 => ?_)
        have hadr : ∀ u, ev e x = some (.v u) → ∃ o1, u = .pointer (some ⟨b, o1, none⟩) := fun u hu => (h6 u hu).2
        have hpair : ∀ wr k, lateL (masks [] ops) ρ i wr k e H H' 0 ops (wOpsD c ops (masks [] ops) t (without i ρ) K (fin c.n o.dst av e') V' H') → lateAt e H H' wr k x := fun wr k hl => by
          have := lateL_at hl hoz t' x hx
          rw [Nat.zero_add] at this
          rcases this with h7 | h7 | h7
          · exact (hnot z hz h7).elim
          · exact absurd rfl (R.both z hz z.1 h7).1.1
          · exact h7
        have hsame : (efOf o.op = .write → vstK e o.op ≠ none) → w'.heap[b]? = w.heap[b]? ∧ (∀ u, ev e x = some (.v u) → H' b ≠ none ∧ ∃ o1, u = .pointer (some ⟨b, o1, none⟩)) := fun hq => by
          cases hHb : H b with
          | some p => exact ⟨(E.heap hq b (by rw [hHb]; simp)).1, fun u hu => ⟨(E.heap hq b (by rw [hHb]; simp)).2, hadr u hu⟩⟩
          | none =>
            refine ⟨E.beside b hb hHb fun k hk' hVk hbk => ?_, fun u hu => absurd hHb (h6 u hu).1⟩
            have hwr : efOf o.op = .write := by
              cases hoo : o.op <;> rw [hoo] at hk' <;> first | (cases hk'; done) | rfl
            unfold lateP at hk
            simp only [hwr, hk'] at hk
            have h8 := hpair _ _ hk
            unfold lateAt at h8
            cases hex : ev e x with
            | none => rw [hex] at h8; cases h8
            | some av' =>
              cases av' with
              | v u => exact absurd hHb (h6 u hex).1
              | loc k1 o1 =>
                rw [hex] at h8
                exact h8 ((h5 k1 o1 hex).2 k hVk hbk.symm).symm
        by_cases hq : efOf o.op = .write ∧ vstK e o.op = none
        · obtain ⟨hq1, hq2⟩ := hq
          unfold lateP at hk
          simp only [hq1, hq2] at hk
          have h8 := hpair _ _ hk
          unfold lateAt at h8
          cases hex : ev e x with
          | none => rw [hex] at h8; cases h8
          | some av' =>
            cases av' with
            | v u =>
              rw [hex] at h8
              obtain ⟨h9, o1, rfl⟩ := h6 u hex
              have h10 : H' b = H b := h8 rfl _ rfl
              refine ⟨?_, fun u' hu' => ⟨by rw [h10]; exact h9, hadr u' (hex.trans hu')⟩⟩
              cases hHb : H b with
              | none => exact absurd hHb h9
              | some p => rw [S'.has _ _ (h10.trans hHb), S.has _ _ hHb]
            | loc k1 o1 => exact ⟨E.beside b hb (h5 k1 o1 hex).1 (fun k hk => by rw [hq2] at hk; cases hk), fun u hu => by cases hu⟩
        · exact hsame fun h1 h2 => hq ⟨h1, h2⟩
      · rintro d v w' ⟨β', av, e', V', H', hk, S', E⟩
        have := S'.defers
        rw [put_defers] at this
        cases this
    · rw [if_neg (by rw [hwant]; decide)]
      refine hn _ _ (build undef β e _ V H w (lateP_P h) (S.put o.dst rfl) (hfin e _) (fun _ _ h => h) (fun _ _ h => h) (Nat.le_refl _) (fun k hk => .inl ⟨hk, rfl⟩) fun z hz t x b oz hoz hx hb h5 h6 => ⟨rfl, h6⟩)

/-- The operation that the machine takes next. -/
theorem RInv.next (hc : CxOk c) (O : ROk ops) {next : Act → World → Prop} {Q : Exit → Act → World → Prop} {i n : Nat} (ho : ops[i]? = some o) (hr : ∀ z ∈ dirOf o, listed.getD z false = true)
    (hn : ∀ t' ρ' pd' a' w', ρ'.length + pd'.length + 1 = n → RInv c ops K H0 w0 (listed.setIfInBounds i true) t' ρ' [] pd' a' w' → next a' w') :
    ∀ (t : OT) {ρ tried : List Nat} {pd : List (Nat × Value)} (R : RInv c ops K H0 w0 listed t ρ tried pd a w) (hl : ρ.length + pd.length = n) (hi : i ∈ ρ ∨ i ∈ pd.map (·.1)) (ht : i ∉ tried) (hp : tried ≠ [] → i ∉ pd.map (·.1)), wpOp c.P ops.toArray Q i next a w := by
  intro t
  induction t with
  | done =>
    intro ρ tried pd R hl hi ht hp
    have hord := R.ord
    cases tried with
    | nil =>
      have h0 := emptyB_spec (show emptyB ρ = true by simpa [tOk, emptyB] using hord)
      subst h0
      obtain ⟨z, hz, rfl⟩ := List.mem_map.1 (hi.resolve_left (by simp))
      exact R.take O (v := z.2) hz ho hr (fun pd' hl' h => hn _ _ _ _ _ (by omega) h)
    | cons y r =>
      exfalso
      have hi' := hi.resolve_right (hp (by simp))
      have : (elemN i (y :: r) || (without i ρ).any fun y => befB (masks [] ops) i y) = true := by
        have h1 : (ρ.all fun z => elemN z (y :: r) || (without z ρ).any fun y => befB (masks [] ops) z y) = true := by simpa [tOk, emptyB] using hord
        exact List.all_eq_true.1 h1 i hi'
      rw [Bool.or_eq_true] at this
      rcases this with h | h
      · exact ht (elemN_mem.1 h)
      · obtain ⟨z, hz, hb⟩ := List.any_eq_true.1 h
        have h2 := R.bef O ho hr hb
        rw [R.notyet (.inl (without_mem.1 hz).1)] at h2
        cases h2
  | look x t ih =>
    intro ρ tried pd R hl hi ht hp
    have hord := R.ord
    simp only [tOk, Bool.and_eq_true, Bool.not_eq_true'] at hord
    have h0 := emptyB_spec hord.1.1.1.1
    subst h0
    by_cases hpd : i ∈ pd.map (·.1)
    · obtain ⟨z, hz, rfl⟩ := List.mem_map.1 hpd
      exact R.take O (v := z.2) hz ho hr (fun pd' hl' h => hn _ _ _ _ _ (by omega) h)
    · obtain ⟨v, R'⟩ := R.ahead hc O
      have hlen := without_length R.uniq (elemN_mem.1 hord.1.1.1.2)
      refine ih R' (by simp only [List.length_cons]; omega) ?_ ht (fun h => absurd rfl h)
      by_cases hix : i = x
      · exact .inr (by simp [hix])
      · exact .inl (without_mem.2 ⟨hi.resolve_right hpd, hix⟩)
  | act x t u _ ihu =>
    intro ρ tried pd R hl hi ht hp
    by_cases hpd : i ∈ pd.map (·.1)
    · cases tried with
      | nil =>
        obtain ⟨z, hz, rfl⟩ := List.mem_map.1 hpd
        exact R.take O (v := z.2) hz ho hr (fun pd' hl' h => hn _ _ _ _ _ (by omega) h)
      | cons y r => exact absurd hpd (hp (by simp))
    · have hord := R.ord
      simp only [tOk, Bool.and_eq_true] at hord
      by_cases hix : i = x
      · subst hix
        have hlen := without_length R.uniq (elemN_mem.1 hord.1.1.1.1)
        exact R.run hc O ho hr (fun a' w' h => hn _ _ _ _ _ (by omega) h)
      · refine ihu (tried := x :: tried) { R with ord := hord.2, sim := fun hs => ?_ } hl hi (by simp [hix, ht]) (fun _ => hpd)
        have hnd : u.isDone = false := hs.resolve_left (by simp)
        obtain ⟨β, e, V, H, hw, S, hpk⟩ := R.sim (.inr rfl)
        unfold wOpsD at hw
        refine ⟨β, e, V, H, ?_, S, hpk⟩
        split at hw
        · rw [hnd] at hw
          exact hw.2
        · exact hw.elim

theorem ready_of {ops : List Oper} {listed : Array Bool} {i : Nat} {o : Oper} (hi : i < ops.length) (hl : listed.getD i false = false) (hs : listed.size = ops.length) (ho : ops[i]? = some o) (hr : ∀ z ∈ dirOf o, listed.getD z false = true) :
    i ∈ Region.ready .any ops.toArray listed := by
  unfold Region.ready
  rw [List.mem_filter, List.mem_range]
  refine ⟨by simpa using hi, ?_⟩
  rw [Bool.and_eq_true]
  refine ⟨?_, ?_⟩
  · rw [Array.getD_eq_getD_getElem?] at hl ⊢
    rw [Array.getElem?_eq_getElem (by omega)] at hl ⊢
    simpa using hl
  · have h4 : (ops.toArray)[i]? = some o := by simpa using ho
    rw [h4, Option.map_some, Option.getD_some]
    rw [Array.all_eq_true_iff_forall_mem]
    intro x hx
    cases hb : Region.binds .any x with
    | false => rfl
    | true =>
      have := hr x.on (List.mem_map.2 ⟨x, List.mem_filter.2 ⟨by simpa using hx, hb⟩, rfl⟩)
      simpa using this
theorem wAny_sound (hc : CxOk c) (O : ROk ops) {Q : Exit → Act → World → Prop} (hq : ∀ a w, St c H0 w0 K a w → Q .normal a w) : ∀ (fuel : Nat) {listed : Array Bool} {t : OT} {ρ : List Nat} {pd : List (Nat × Value)} {a : Act} {w : World},
    RInv c ops K H0 w0 listed t ρ [] pd a w → ρ.length + pd.length = fuel → wpAny c.P .any ops.toArray Q fuel listed a w
  | 0, listed, t, ρ, pd, a, w, R, hl => by
    have h1 : ρ = [] := List.length_eq_zero_iff.1 (by omega)
    have h2 : pd = [] := List.length_eq_zero_iff.1 (by omega)
    subst h1; subst h2
    refine ⟨?_, ?_⟩
    · apply List.eq_nil_iff_forall_not_mem.2
      intro i hi
      obtain ⟨g1, g2, _⟩ := ready_iff R.size hi
      simpa using (R.mem i g1).1 g2
    · obtain ⟨β, e, V, H, hw, S, _⟩ := R.sim (.inl rfl)
      have hord := R.ord
      cases t with
      | done => exact hq _ _ ⟨β, e, V, H, hw, S⟩
      | look x t => simp [tOk, elemN] at hord
      | act x t u => simp [tOk, elemN] at hord
  | fuel + 1, listed, t, ρ, pd, a, w, R, hl => by
    refine ⟨fun h0 => ?_, fun i hi => ?_⟩
    · exfalso
      have hall : ∀ i, i < ops.length → listed.getD i false = true := by
        intro i
        induction i using Nat.strongRecOn with
        | _ i ih =>
          intro hi
          cases hb : listed.getD i false with
          | true => rfl
          | false =>
            have ho : ops[i]? = some (ops[i]'hi) := List.getElem?_eq_getElem _
            have := ready_of hi hb R.size ho (fun z hz => ih z (O.dir i _ ho z hz) (Nat.lt_trans (O.dir i _ ho z hz) hi))
            rw [h0] at this
            cases this
      have : ∃ i, i ∈ ρ ∨ i ∈ pd.map (·.1) := by
        cases ρ with
        | cons x r => exact ⟨x, .inl List.mem_cons_self⟩
        | nil => cases pd with
          | cons z r => exact ⟨z.1, .inr (by simp)⟩
          | nil => simp at hl
      obtain ⟨i, hi⟩ := this
      have h1 := R.notyet hi
      rw [hall i (R.lt i hi)] at h1
      cases h1
    · obtain ⟨g1, g2, o, g3, g4⟩ := ready_iff R.size hi
      exact RInv.next hc O g3 g4 (fun t' ρ' pd' a' w' hl' R' => wAny_sound hc O hq fuel R' (by omega)) t R hl ((R.mem i g1).1 g2) (by simp) (fun h => absurd rfl h)

theorem rangeB_mem {i : Nat} : ∀ {n : Nat}, i ∈ rangeB n ↔ i < n
  | 0 => by simp [rangeB]
  | n + 1 => by
    simp only [rangeB, List.mem_cons, rangeB_mem (n := n)]
    omega
theorem rangeB_nodup : ∀ {n : Nat}, (rangeB n).Nodup
  | 0 => by simp [rangeB]
  | n + 1 => List.nodup_cons.2 ⟨fun h => absurd (rangeB_mem.1 h) (Nat.lt_irrefl _), rangeB_nodup⟩
theorem rangeB_length : ∀ {n : Nat}, (rangeB n).length = n
  | 0 => rfl
  | n + 1 => by simp [rangeB, rangeB_length (n := n)]
theorem wOpsD_sound (hc : CxOk c) {ops : Array Oper} {t : OT} (ho : (regOk ops.toList && tOk ops.toList (masks [] ops.toList) t (rangeB ops.toList.length) []) = true) {id : Nat} {Q : Exit → Act → World → Prop} (hq : ∀ a w, St c H0 w0 K a w → Q .normal a w)
    (h : wOpsD c ops.toList (masks [] ops.toList) t (rangeB ops.toList.length) K e V H) (S : Sim c.D c.n H0 w0 β e V H a w) : (Code.region id ops true).wp c.P Q a w := by
  rw [Bool.and_eq_true] at ho
  obtain ⟨o1, o2⟩ := ho
  unfold regOk at o1
  have o4 := List.all_eq_true.1 o1
  have hin : ∀ i o, ops.toList[i]? = some o → i < ops.toList.length := fun i o hi => by
    rcases Nat.lt_or_ge i ops.toList.length with h | h
    · exact h
    · rw [List.getElem?_eq_none h] at hi; cases hi
  refine wp_region_any hc.2.2 ?_
  have O : ROk ops.toList := by
    refine ⟨fun i o hi z hz => ?_, fun i o d hi hd hu => ?_⟩
    · have := o4 i (rangeB_mem.2 (hin i o hi))
      rw [hi] at this
      simp only [Bool.and_eq_true, List.all_eq_true] at this
      exact Nat.le_of_ble_eq_true (this.2 z hz)
    · have := o4 i (rangeB_mem.2 (hin i o hi))
      rw [hi] at this
      simp only [hd, Bool.and_eq_true] at this
      rw [elemN_mem.2 hu] at this
      simp at this
  have hl0 : ∀ i, (Array.replicate ops.size false).getD i false = false := fun i => by
    rw [Array.getD_eq_getD_getElem?, Array.getElem?_replicate]; split <;> rfl
  have R : RInv c ops.toList K H0 w0 (Array.replicate ops.size false) t (rangeB ops.toList.length) [] [] a { w with drawn := w.drawn + 1 } := by
    refine ⟨by simp, fun i o hi => ?_, fun i hi => ?_, fun i hi => rangeB_mem.1 (by simpa using hi), .nil, fun x hx => (by cases hx), o2, rangeB_nodup, fun x hx => (by cases hx), fun _ => ⟨β, e, V, H, h, ?_, fun x hx => (by cases hx)⟩⟩
    · rw [hl0] at hi; cases hi
    · rw [hl0]; simp only [List.map_nil, List.not_mem_nil, or_false, true_iff]; exact rangeB_mem.2 hi
    · exact { S with fr := ⟨S.fr.1, S.fr.2.1, S.fr.2.2.1, S.fr.2.2.2.1, S.fr.2.2.2.2.1, fun h => Nat.le_trans (S.fr.2.2.2.2.2 h) (Nat.le_succ _)⟩ }
  have := wAny_sound hc O hq (rangeB ops.toList.length).length R rfl
  rw [rangeB_length] at this
  simpa using this
end
end
end Go.Proofs.YtmelbipidffmpaaGreatDoor.Hw
