/- Each operation of the evaluator is sound: what it says of heap and slots holds of the machine. -/
import Derived.Test.YtkbancdmhcnhjaaHwPure
import Derived.Laws.IdiomCopy
import Derived.Laws.CopyRow
import Derived.ArgAppend
set_option linter.unusedVariables false
set_option linter.unusedSimpArgs false
namespace Go.Proofs.Ytkbancdmhcnhjaa.Hw
open Go

/-- The machine's slots and heap are those that the evaluator speaks of. H0, w0: where the call began. -/
structure Sim (n : Nat) (H0 : Hp) (w0 : World) (β : Nat → Nat) (e : Env) (V : VSt) (H : Hp) (a : Act) (w : World) : Prop where
  size : a.tmps.size = n
  env : EnvOk β e a
  box : ∀ k x, V k = some x → (∃ ty, w.heap[β k]? = some (.cells x.2.toArray ty (0, 0))) ∧ H (β k) = none ∧ w0.heap.size ≤ β k
  inj : ∀ k k', V k ≠ none → V k' ≠ none → β k = β k' → k = k'
  has : Has w H
  defers : a.defers = []
  fr : Fr H0 w0 w
  new : New H0 w0 H

theorem upd_same {α : Type} (t : Nat) (a : α) (e : Nat → Option α) : upd t a e t = some a := by simp [upd]
theorem upd_other {α : Type} {t x : Nat} (h : x ≠ t) (a : α) (e : Nat → Option α) : upd t a e x = e x := by
  have : Nat.beq x t = false := by
    cases hb : Nat.beq x t with
    | false => rfl
    | true => exact absurd (Nat.eq_of_beq_eq_true hb) h
  simp [upd, this]
theorem del_some {α : Type} {t x : Nat} {e : Nat → Option α} {a : α} (h : del t e x = some a) : x ≠ t ∧ e x = some a := by
  unfold del at h
  cases hb : Nat.beq x t with
  | true => rw [hb] at h; cases h
  | false => rw [hb] at h; exact ⟨fun hx => by subst hx; simp at hb, h⟩
theorem upd_some {α : Type} {t x : Nat} {a b : α} {e : Nat → Option α} (h : upd t a e x = some b) : (x = t ∧ a = b) ∨ (x ≠ t ∧ e x = some b) := by
  by_cases hx : x = t
  · subst hx; rw [upd_same] at h; exact .inl ⟨rfl, Option.some.inj h⟩
  · rw [upd_other hx] at h; exact .inr ⟨hx, h⟩
theorem forget_some {k x : Nat} {e : Env} {av : AV} (h : forget k e x = some av) : e x = some av ∧ ∀ o, av ≠ .loc k o := by
  unfold forget at h
  split at h
  · rename_i k' o he
    split at h
    · cases h
    · rename_i hb
      cases h
      refine ⟨he, fun o' => ?_⟩
      rintro h'
      cases h'
      simp at hb
  · rename_i hno
    refine ⟨h, ?_⟩
    rintro o rfl
    exact hno _ _ h

section
variable {n : Nat} {H0 : Hp} {w0 : World} {β : Nat → Nat} {e : Env} {V : VSt} {H : Hp} {a : Act} {w : World}
theorem put_size (a : Act) (d : Option Tmp) (v : Value) : (a.put d v).tmps.size = a.tmps.size := by cases d <;> simp [Act.put]
theorem put_defers (a : Act) (d : Option Tmp) (v : Value) : (a.put d v).defers = a.defers := by cases d <;> rfl
theorem put_getD_ne (a : Act) {d t : Nat} (h : t ≠ d) (v : Value) : (a.put (some d) v).tmps.getD t undef = a.tmps.getD t undef := by
  simp [Act.put, Array.getElem?_setIfInBounds_ne (Ne.symm h)]
theorem put_getD_eq (a : Act) {d : Nat} (h : d < a.tmps.size) (v : Value) : (a.put (some d) v).tmps.getD d undef = v := by
  simp [Act.put, h]
theorem fin_env (E : EnvOk β e a) (hs : a.tmps.size = n) (d : Option Tmp) {v : Value} {av : AV} (hv : av.conc β = v) : EnvOk β (fin n d (some av) e) (a.put d v) := by
  intro t b ht
  cases d with
  | none => exact E t b ht
  | some d =>
    cases hb : Nat.blt d n with
    | true =>
      simp only [fin, hb] at ht
      rcases upd_some ht with ⟨rfl, rfl⟩ | ⟨hne, ht⟩
      · rw [put_getD_eq a (by rw [hs]; exact Nat.le_of_ble_eq_true hb), hv]
      · rw [put_getD_ne a hne]; exact E t b ht
    | false =>
      simp only [fin, hb] at ht
      obtain ⟨hne, ht⟩ := del_some ht
      rw [put_getD_ne a hne]; exact E t b ht
theorem fin_none (E : EnvOk β e a) (d : Option Tmp) (v : Value) : EnvOk β (fin n d none e) (a.put d v) := by
  intro t b ht
  cases d with
  | none => exact E t b ht
  | some d =>
    unfold fin at ht
    simp only at ht
    obtain ⟨hne, ht⟩ := del_some ht
    rw [put_getD_ne a hne]
    exact E t b ht
theorem Sim.put (S : Sim n H0 w0 β e V H a w) (d : Option Tmp) {v : Value} {av : AV} (hv : av.conc β = v) : Sim n H0 w0 β (fin n d (some av) e) V H (a.put d v) w :=
  { S with size := (put_size a d v).trans S.size, env := fin_env S.env S.size d hv, defers := (put_defers a d v).trans S.defers }
theorem Sim.putN (S : Sim n H0 w0 β e V H a w) (d : Option Tmp) (v : Value) : Sim n H0 w0 β (fin n d none e) V H (a.put d v) w :=
  { S with size := (put_size a d v).trans S.size, env := fin_none S.env d v, defers := (put_defers a d v).trans S.defers }
theorem Sim.slot (S : Sim n H0 w0 β e V H a w) {d : Nat} {b b' : AV} (h : e d = some b) (hb : b = b') : Sim n H0 w0 β (upd d b' e) V H a w :=
  have h1 : EnvOk β (upd d b' e) a := by
    intro t x ht
    rcases upd_some ht with ⟨h1, h2⟩ | ⟨_, ht⟩
    · subst h1; subst h2; subst hb; exact S.env _ _ h
    · exact S.env t x ht
  { S with env := h1 }

theorem has_cell (h : Has w H) {b o : Nat} {v : Value} (hc : cl H b o = some v) : w.cell? ⟨b, o, none⟩ = some v := by
  unfold cl at hc
  split at hc
  · rename_i c ty fr hb
    simp [World.cell?, h b _ hb, hc]
  · cases hc
theorem cl_of (w : World) {b o : Nat} {cs : List Value} {ty : Nat} (h : w.heap[b]? = some (.cells cs.toArray ty (0, 0))) : w.cell? ⟨b, o, none⟩ = cs[o]? := by
  simp [World.cell?, h]
theorem frz_of (w : World) {b o : Nat} {cs : Array Value} {ty : Nat} (h : w.heap[b]? = some (.cells cs ty (0, 0))) : w.frozen? ⟨b, o, none⟩ = false := by
  simp [World.frozen?, h]
/-- A step that turns what the evaluator knows of, and makes what is new. -/
theorem Sim.step (S : Sim n H0 w0 β e V H a w) {w' : World} {H' : Hp} (hh : Has w' H') (hf : Fr H w w') (hn : New H w H') : Sim n H0 w0 β e V H' a w' := by
  refine { S with has := hh, box := fun k x hk => ?_, fr := ?_, new := ?_ }
  · obtain ⟨⟨ty, h1⟩, h2, h3⟩ := S.box k x hk
    have hlt : β k < w.heap.size := (Array.getElem?_eq_some_iff.1 h1).1
    refine ⟨⟨ty, (hf.2.2.2.2 _ hlt h2).trans h1⟩, ?_, h3⟩
    cases hb : H' (β k) with
    | none => rfl
    | some o =>
      rcases hn (β k) (by rw [hb]; simp) with h4 | h4
      · exact absurd h2 h4
      · omega
  · obtain ⟨a1, a2, a3, a4, a5⟩ := S.fr
    obtain ⟨b1, b2, b3, b4, b5⟩ := hf
    refine ⟨b1.trans a1, b2.trans a2, b3.trans a3, Nat.le_trans a4 b4, fun b hb h0 => ?_⟩
    have hnone : H b = none := by
      cases hb' : H b with
      | none => rfl
      | some o =>
        rcases S.new b (by rw [hb']; simp) with h4 | h4
        · exact absurd h0 h4
        · omega
    exact (b5 b (Nat.lt_of_lt_of_le hb a4) hnone).trans (a5 b hb h0)
  · intro b hb
    have h4 := S.fr.2.2.2.1
    rcases hn b hb with h | h
    · exact S.new b h
    · exact .inr (Nat.le_trans h4 h)
theorem has_lt (h : Has w H) {b : Nat} {o : Obj} (hb : H b = some o) : b < w.heap.size := (Array.getElem?_eq_some_iff.1 (h b o hb)).1
theorem has_none (h : Has w H) {b : Nat} (hb : w.heap.size ≤ b) : H b = none := by
  cases hh : H b with
  | none => rfl
  | some o => have := has_lt h hh; omega
theorem step_set (h : Has w H) {b : Nat} {cs cs' : Array Value} {ty : Nat} (hb : H b = some (.cells cs ty (0, 0))) :
    Has (w.setRow b cs') (upd b (.cells cs' ty (0, 0)) H) ∧ Fr H w (w.setRow b cs') ∧ New H w (upd b (.cells cs' ty (0, 0)) H) := by
  refine ⟨fun x o hx => ?_, ⟨rfl, rfl, rfl, by simp, fun x hx hn => setRow_other _ _ _ _ (fun e => by subst e; rw [hb] at hn; cases hn)⟩, fun x hx => ?_⟩
  · rcases upd_some hx with ⟨rfl, rfl⟩ | ⟨hne, hx⟩
    · exact setRow_heap w x cs cs' ty _ (h x _ hb)
    · rw [setRow_other _ _ _ _ hne]; exact h x o hx
  · by_cases hxb : x = b
    · subst hxb; left; rw [hb]; simp
    · rw [upd_other hxb] at hx; exact .inl hx
theorem step_new (h : Has w H) (o : Obj) : Has (w.alloc o) (upd w.heap.size o H) ∧ Fr H w (w.alloc o) ∧ New H w (upd w.heap.size o H) := by
  refine ⟨fun x p hx => ?_, ⟨rfl, rfl, rfl, by simp, fun x hx _ => heap_alloc_old w o hx⟩, fun x hx => ?_⟩
  · rcases upd_some hx with ⟨rfl, rfl⟩ | ⟨hne, hx⟩
    · exact heap_alloc_new w _
    · rw [heap_alloc_old w o (has_lt h hx)]; exact h x p hx
  · by_cases hxb : x = w.heap.size
    · subst hxb; exact .inr (Nat.le_refl _)
    · rw [upd_other hxb] at hx; exact .inl hx
theorem step_drew_new (h : Has w H) (o : Obj) : Has (w.drew.alloc o) (upd w.heap.size o H) ∧ Fr H w (w.drew.alloc o) ∧ New H w (upd w.heap.size o H) :=
  step_new (w := w.drew) h o

theorem one1_eq (v : Value) : v.oneCell' = one1 v := by cases v <;> rfl
theorem allOne_mem : ∀ {l : List Value}, allOne l = true → ∀ v ∈ l, v.oneCell' = true
  | [], _, v, hv => by simp at hv
  | x :: r, h, v, hv => by
    simp only [allOne] at h
    cases hx : one1 x with
    | false => rw [hx] at h; cases h
    | true =>
      rw [hx] at h
      rcases List.mem_cons.1 hv with rfl | hv
      · rw [one1_eq, hx]
      · exact allOne_mem h v hv
theorem leafE_some {z : Value} {K : Value → Prop} (h : leafE z K) : ∃ v, K v := by
  unfold leafE at h
  split at h
  all_goals first
    | (obtain ⟨x, h⟩ := h; exact ⟨_, h⟩)
    | (obtain ⟨x, y, z, h⟩ := h; exact ⟨_, h⟩)
theorem leafEs_some : ∀ {zs : List Value} {K : List Value → Prop}, leafEs zs K → ∃ vs, K vs
  | [], K, h => ⟨_, h⟩
  | z :: r, K, h => by
    obtain ⟨v, h⟩ := leafE_some h
    obtain ⟨vs, h⟩ := leafEs_some h
    exact ⟨_, h⟩
theorem loadL_some : ∀ {zs : List Value} {b o : Nat} {K : List Value → Prop}, loadL zs H b o K → ∃ vs : List Value, vs.length = zs.length ∧ (∀ j v, vs[j]? = some v → cl H b (o + j) = some v) ∧ K vs
  | [], b, o, K, h => ⟨[], rfl, fun j v hj => by simp at hj, h⟩
  | z :: r, b, o, K, h => by
    obtain ⟨v, hv, h⟩ := leafE_some h
    obtain ⟨vs, hl, hc, h⟩ := loadL_some h
    refine ⟨v :: vs, by simp [hl], fun j u hj => ?_, h⟩
    cases j with
    | zero => simp at hj; subst hj; exact hv
    | succ j => rw [show o + (j + 1) = o + 1 + j by omega]; exact hc j u (by simpa using hj)

section
variable {P : Program}
theorem run_loadVar_ok {t : Nat} {i : TI} (hi : TiOk P t i) {b o : Nat} {vs : List Value} (hl : vs.length = i.zs.length) (hc : ∀ j v, vs[j]? = some v → w.cell? ⟨b, o + j, none⟩ = some v) {v : Value}
    (hv : (i.agg = true ∧ v = .agg vs.toArray) ∨ (i.agg = false ∧ vs = [v])) : (loadVar t ⟨b, o, none⟩).run P w = .ok v w := by
  obtain ⟨d, hd, hag, _⟩ := hi.desc
  obtain ⟨j, hj, hjz, hjs⟩ := hi.info
  unfold loadVar
  simp only [Sem.run_bind, run_isAgg hd, Result.andThen_ok, hag]
  rcases hv with ⟨h1, rfl⟩ | ⟨h1, rfl⟩
  · simp only [h1, if_true, Sem.run_bind, run_sizeOf hj, Result.andThen_ok]
    have := run_loadCells_list (P := P) w ⟨b, o, none⟩ vs (fun j v hv => by rw [add_mk]; exact hc j v hv)
    rw [hjs, ← hl, this]
    rfl
  · have h2 := hc 0 v rfl
    simp only [Nat.add_zero] at h2
    simp [h1, h2]
theorem run_storeVar_ok {t : Nat} {i : TI} (hi : TiOk P t i) {b o : Nat} {cs : List Value} {ty : Nat} (hb : w.heap[b]? = some (.cells cs.toArray ty (0, 0))) {v : Value} (hl : (cellsL v).length = i.zs.length)
    (h1 : allOne (cellsL v) = true) (hfit : o + (cellsL v).length ≤ cs.length) : (storeVar t ⟨b, o, none⟩ v).run P w = .ok () (w.setRow b (setR cs o (cellsL v)).toArray) := by
  obtain ⟨j, hj, hjz, hjs⟩ := hi.info
  have hsz : v.cells.size = j.size := by rw [cellsL_eq, hjs]; simpa using hl
  have hst := run_storeCells_at (P := P) b o ty (cellsL v) 0 cs.toArray w hb (by simpa using hfit) (allOne_mem h1)
  have hcl : v.cells.toList = cellsL v := by rw [cellsL_eq]
  unfold storeVar
  simp only [Sem.run_bind, run_sizeOf hj, Result.andThen_ok, hsz, ne_eq, not_true, if_false, Sem.run_pure]
  simp only [hcl, hst]
  simp [setR]
end
end
end Go.Proofs.Ytkbancdmhcnhjaa.Hw
