/- The evaluator is sound for a region whose order is open: it goes through the region in one order, in which all that only looks comes early. -/
import Derived.Test.YtkbancdmhcnhjaaHwList
import Derived.Orders
set_option linter.unusedVariables false
set_option linter.unusedSimpArgs false
namespace Go.Proofs.Ytkbancdmhcnhjaa.Hw
open Go

/-! ### what must come before what -/
theorem maskOf_bit {acc : List Nat} {j : Nat} : ∀ {l : List Nat}, (maskOf acc l).testBit j = true → ∃ z ∈ l, z = j ∨ (acc.getD z 0).testBit j = true
  | [], h => by simp [maskOf] at h
  | z :: r, h => by
    simp only [maskOf, Nat.testBit_or, Bool.or_eq_true] at h
    rcases h with (h | h) | h
    · rw [Nat.testBit_two_pow] at h
      exact ⟨z, List.mem_cons_self, .inl (of_decide_eq_true h)⟩
    · exact ⟨z, List.mem_cons_self, .inr h⟩
    · obtain ⟨y, hy, h⟩ := maskOf_bit h
      exact ⟨y, List.mem_cons_of_mem _ hy, h⟩
theorem masks_pre : ∀ (l : List Oper) (acc : List Nat), ∃ r, masks acc l = acc ++ r ∧ r.length = l.length
  | [], acc => ⟨[], by simp [masks], rfl⟩
  | o :: l, acc => by
    obtain ⟨r, h1, h2⟩ := masks_pre l (acc ++ [maskOf acc (dirOf o)])
    exact ⟨maskOf acc (dirOf o) :: r, by rw [masks, h1]; simp, by simp [h2]⟩
theorem masks_at : ∀ (l : List Oper) (acc : List Nat) (i : Nat) (o : Oper), l[i]? = some o → ∃ acc', (masks acc l).getD (acc.length + i) 0 = maskOf acc' (dirOf o) ∧ acc'.length = acc.length + i ∧ ∃ r, masks acc l = acc' ++ r
  | [], _, i, o, h => by simp at h
  | x :: l, acc, 0, o, h => by
    simp at h
    subst h
    obtain ⟨r, h1, h2⟩ := masks_pre l (acc ++ [maskOf acc (dirOf x)])
    refine ⟨acc, ?_, rfl, maskOf acc (dirOf x) :: r, by rw [masks, h1]; simp⟩
    rw [masks, h1, List.append_assoc]
    simp [List.getD_eq_getElem?_getD]
  | x :: l, acc, i + 1, o, h => by
    obtain ⟨acc', h1, h2, r, h3⟩ := masks_at l (acc ++ [maskOf acc (dirOf x)]) i o (by simpa using h)
    refine ⟨acc', ?_, by simp at h2; omega, r, by rw [masks, h3]⟩
    rw [masks, show acc.length + (i + 1) = (acc ++ [maskOf acc (dirOf x)]).length + i by simp; omega]
    exact h1
/-- One step back. -/
theorem befB_step {ops : List Oper} {i j : Nat} {o : Oper} (ho : ops[i]? = some o) (hlt : ∀ z ∈ dirOf o, z < i) (h : befB (masks [] ops) i j = true) : ∃ z ∈ dirOf o, z = j ∨ befB (masks [] ops) z j = true := by
  obtain ⟨acc', h1, h2, r, h3⟩ := masks_at ops [] i o ho
  unfold befB at h
  simp only [List.length_nil, Nat.zero_add] at h1 h2
  rw [h1] at h
  obtain ⟨z, hz, h⟩ := maskOf_bit h
  refine ⟨z, hz, h.imp id fun h => ?_⟩
  unfold befB
  have hz' := hlt z hz
  rw [h3, List.getD_eq_getElem?_getD, List.getElem?_append_left (by omega), ← List.getD_eq_getElem?_getD]
  exact h
theorem befB_listed {ops : List Oper} (hdir : ∀ i o, ops[i]? = some o → ∀ z ∈ dirOf o, z < i) {S : Nat → Prop} (hcl : ∀ i o, S i → ops[i]? = some o → ∀ z ∈ dirOf o, S z) (hin : ∀ i, S i → i < ops.length) :
    ∀ i j, S i → befB (masks [] ops) i j = true → S j := by
  intro i
  induction i using Nat.strongRecOn with
  | _ i ih =>
    intro j hi hb
    have ho : ops[i]? = some (ops[i]'(hin i hi)) := List.getElem?_eq_getElem _
    obtain ⟨z, hz, h⟩ := befB_step ho (hdir i _ ho) hb
    have hS := hcl i _ hi ho z hz
    rcases h with rfl | h
    · exact hS
    · exact ih z (hdir i _ ho z hz) j hS h
theorem befB_ready {ops : List Oper} (hdir : ∀ i o, ops[i]? = some o → ∀ z ∈ dirOf o, z < i) {S : Nat → Prop} (hcl : ∀ i o, S i → ops[i]? = some o → ∀ z ∈ dirOf o, S z) (hin : ∀ i, S i → i < ops.length)
    {i j : Nat} {o : Oper} (ho : ops[i]? = some o) (hr : ∀ z ∈ dirOf o, S z) (hb : befB (masks [] ops) i j = true) : S j := by
  obtain ⟨z, hz, h⟩ := befB_step ho (hdir i _ ho) hb
  rcases h with rfl | h
  · exact hr _ hz
  · exact befB_listed hdir hcl hin z j (hr z hz) h

theorem elemN_mem {t : Nat} : ∀ {l : List Nat}, elemN t l = true ↔ t ∈ l
  | [] => by simp [elemN]
  | x :: r => by
    unfold elemN
    cases hb : Nat.beq x t with
    | true => simp [Nat.eq_of_beq_eq_true hb]
    | false =>
      have hne : t ≠ x := fun h => by subst h; simp at hb
      simp [hne, elemN_mem (l := r)]

/-! ### what has been gone through ahead of the machine -/
def fillA (ops : List Oper) (a : Act) : List (Nat × Value) → Act
  | [] => a
  | z :: r => fillA ops (a.put (dstAt ops z.1) z.2) r
def dsts (ops : List Oper) (pd : List (Nat × Value)) (d : Nat) : Prop := ∃ z ∈ pd, dstAt ops z.1 = some d
theorem fillA_defers (ops : List Oper) : ∀ (pd : List (Nat × Value)) (a : Act), (fillA ops a pd).defers = a.defers
  | [], a => rfl
  | z :: r, a => by rw [fillA, fillA_defers ops r, put_defers]
theorem fillA_getD (ops : List Oper) {t : Nat} : ∀ {pd : List (Nat × Value)} {a : Act}, ¬ dsts ops pd t → (fillA ops a pd).tmps.getD t undef = a.tmps.getD t undef
  | [], a, _ => rfl
  | z :: r, a, h => by
    rw [fillA, fillA_getD ops (fun ⟨y, hy, hd⟩ => h ⟨y, List.mem_cons_of_mem _ hy, hd⟩)]
    cases hd : dstAt ops z.1 with
    | none => rfl
    | some d => exact put_getD_ne a (fun e => h ⟨z, List.mem_cons_self, by rw [hd, e]⟩) _
theorem fillA_put (ops : List Oper) {d : Option Tmp} {v : Value} : ∀ {pd : List (Nat × Value)} {a : Act}, (∀ t, d = some t → ¬ dsts ops pd t) → fillA ops (a.put d v) pd = (fillA ops a pd).put d v
  | [], a, _ => rfl
  | z :: r, a, h => by
    rw [fillA, fillA, Act.put_comm a _ _ (fun t ht hz => h t ht ⟨z, List.mem_cons_self, hz⟩), fillA_put ops (fun t ht ⟨y, hy, hd⟩ => h t ht ⟨y, List.mem_cons_of_mem _ hy, hd⟩)]
theorem fillA_take (ops : List Oper) {z : Nat × Value} : ∀ {l1 l2 : List (Nat × Value)} {a : Act}, (∀ t, dstAt ops z.1 = some t → ¬ dsts ops l1 t) → fillA ops a (l1 ++ z :: l2) = fillA ops (a.put (dstAt ops z.1) z.2) (l1 ++ l2)
  | [], l2, a, _ => rfl
  | y :: l1, l2, a, h => by
    rw [List.cons_append, fillA, fillA_take ops (fun t ht ⟨x, hx, hd⟩ => h t ht ⟨x, List.mem_cons_of_mem _ hx, hd⟩), List.cons_append, fillA, Act.put_comm a _ _ (fun t hy ht => h t ht ⟨y, List.mem_cons_self, hy⟩)]

def opdOk (a b : Act) (ops : List Oper) (o : Oper) : Prop := ∀ t ∈ namesOf ops o, a.tmps.getD t undef = b.tmps.getD t undef
theorem opdOk_eval {a b : Act} {ops : List Oper} {o : Oper} (h : opdOk a b ops o) : ∀ x ∈ o.op.operands, a.eval x = b.eval x := by
  intro x hx
  cases x with
  | tmp t => exact h t (List.mem_append_left _ (List.mem_filterMap.2 ⟨.tmp t, by simpa using hx, rfl⟩))
  | _ => rfl
theorem opdOk_wanted {a b : Act} {ops : List Oper} {o : Oper} (h : opdOk a b ops o) : Region.wanted o (yielded ops.toArray a.tmps) = Region.wanted o (yielded ops.toArray b.tmps) := by
  cases hg : o.guard with
  | none => simp [Region.wanted, hg]
  | some jw =>
    obtain ⟨j, want⟩ := jw
    simp only [Region.wanted, hg]
    cases hd : dstAt ops j with
    | none =>
      have : ∀ t : Array Value, yielded ops.toArray t j = none := fun t => by
        unfold dstAt at hd
        unfold yielded
        split at hd
        · rename_i o' ho
          have h1 : (ops.toArray)[j]? = some o' := by simpa using ho
          rw [h1, Option.bind_some, hd]
          rfl
        · rename_i ho
          have h1 : (ops.toArray)[j]? = none := by simpa using ho
          rw [h1]
          rfl
      rw [this, this]
    | some d =>
      rw [dstAt_eq hd, dstAt_eq hd, h d (List.mem_append_right _ (by simp [hg, hd]))]

section
variable {c : Cx} {H0 : Hp} {w0 : World} {β : Nat → Nat} {e : Env} {V : VSt} {H : Hp} {a : Act} {w : World} {o : Oper}
theorem wOp_pureRun (hT : ∀ t i, look t c.T = some i → TiOk c.P t i) (ho : efOf o.op = .pure) {K : Option AV → Env → VSt → Hp → Prop} (h : wOp c o e V H K) (E : EnvOk β e a) :
    ∃ av, K (some av) e V H ∧ ∀ w, (execOp a.eval o).run c.P w = .ok (.value (av.conc β)) w := by
  have gen : wPure c.T o.op e (fun av => K (some av) e V H) → ∃ av, K (some av) e V H ∧ ∀ w, (execOp a.eval o).run c.P w = .ok (.value (av.conc β)) w := fun h => by
    obtain ⟨av, hk, hg⟩ := wPure_sound hT h E
    exact ⟨av, hk, fun w => hg w o.dst o.type o.pos o.after o.guard⟩
  obtain ⟨dst, op, ty, pos, af, g⟩ := o
  cases op with
  | call cc =>
    obtain ⟨callee, args, ats⟩ := cc
    cases callee with
    | value f => cases ho
    | invoke r m => cases ho
    | builtin b =>
      cases b with
      | len =>
        obtain ⟨vs, hvs, h⟩ := withVs_some E h
        have hm : args.map a.eval = vs.toArray := by apply Array.ext'; rw [Array.toList_map]; exact hvs
        split at h
        · rename_i t v hts
          obtain ⟨i, hi, h⟩ := onTI_some h
          obtain ⟨d, hd, hag, hk⟩ := (hT t i hi).desc
          have hat : ats = #[t] := by apply Array.ext'; exact hts
          split at h
          · rename_i el esz eby A n cp hkn _
            rw [hkn] at hk
            cases hk.1
            exact ⟨_, h, fun w => by simp [execOp, resolve, hm, invoke, builtin, hat, Builtin.len_, run_underlying hd, goInt, AV.conc]⟩
          · rename_i s hkn _
            rw [hkn] at hk
            cases (hk : d = .string)
            exact ⟨_, h, fun w => by simp [execOp, resolve, hm, invoke, builtin, hat, Builtin.len_, run_underlying hd, goInt, AV.conc]⟩
          · exact h.elim
        · exact h.elim
      | _ => cases ho
  | load t x => cases ho
  | store t x y => cases ho
  | alloc t => cases ho
  | box t x => cases ho
  | buildSlice t l ps => cases ho
  | makeMap t r => cases ho
  | lookup t m x ok => cases ho
  | mapUpdate t m x y => cases ho
  | range t m => cases ho
  | next it st => cases ho
  | insert t m x y => cases ho
  | entry it => cases ho
  | _ => exact gen h
/-- Of which block a load is, and that it looks at no other. -/
theorem wOp_loadRun (hT : ∀ t i, look t c.T = some i → TiOk c.P t i) {t : TypeId} {x : Operand} (ho : o.op = .load t x) {K : Option AV → Env → VSt → Hp → Prop} (h : wOp c o e V H K) (S : Sim c.n H0 w0 β e V H a w) :
    ∃ v b, K (some (.v v)) e V H ∧ b < w.heap.size ∧ (∀ w', w'.heap[b]? = w.heap[b]? → (execOp a.eval o).run c.P w' = .ok (.value v) w') ∧
      (∀ k1 o1, ev e x = some (.loc k1 o1) → H b = none ∧ ∀ k, V k ≠ none → β k = b → k = k1) ∧ (∀ u, ev e x = some (.v u) → H b ≠ none ∧ ∃ o1, u = .pointer (some ⟨b, o1, none⟩)) := by
  obtain ⟨dst, op, ty, pos, af, g⟩ := o
  cases ho
  obtain ⟨i, hi, h⟩ := onTI_some h
  obtain ⟨p, hp, h⟩ := onAV_some h
  have hTi := hT t i hi
  split at h
  · rename_i k o
    split at h
    · rename_i x' hV
      split at h
      · rename_i hle
        have hle' := Nat.le_of_ble_eq_true hle
        obtain ⟨v, hv, h⟩ := mkV_some h
        obtain ⟨⟨ty', h1⟩, h2, h3⟩ := S.box k x' hV
        refine ⟨v, β k, h, (Array.getElem?_eq_some_iff.1 h1).1, fun w' hw' => ?_, fun k1 o1 h4 => ?_, fun u h4 => ?_⟩
        · have hr := run_loadVar_ok (P := c.P) (w := w') hTi (b := β k) (o := o) (vs := (x'.2.drop o).take i.zs.length) (by rw [List.length_take, List.length_drop]; omega) (fun j u hj => by
            rw [cl_of w' (hw'.trans h1)]
            rw [List.getElem?_take] at hj
            split at hj
            · rw [List.getElem?_drop] at hj; exact hj
            · cases hj) hv
          simp [execOp, ev_eval S.env hp, AV.conc, Instr.loadAt, Instr.sureAddr, hr]
        · rw [hp] at h4
          cases h4
          exact ⟨h2, fun k' hk' hb => S.inj k' k hk' (by rw [hV]; simp) hb⟩
        · rw [hp] at h4; cases h4
      · exact h.elim
    · exact h.elim
  · obtain ⟨b, o, rfl, h⟩ := onPtr_some h
    split at h
    · exact h.elim
    rename_i hzs
    rw [← hzs] at h
    obtain ⟨vs, hl, hc, h⟩ := loadL_some h
    obtain ⟨v, hv, h⟩ := mkV_some h
    -- a value has a cell, so that its block is known
    have hb : ∃ p, H b = some p := by
      cases vs with
      | nil => rw [hzs] at hl; cases hl
      | cons u r =>
        have h1 := hc 0 u rfl
        unfold cl at h1
        cases hb : H b with
        | none => simp only [Nat.add_zero, hb] at h1; cases h1
        | some p => exact ⟨p, rfl⟩
    obtain ⟨p, hb⟩ := hb
    refine ⟨v, b, h, has_lt S.has hb, ?_, ?_, ?_⟩
    rotate_left
    · intro k1 o1 h4; rw [hp] at h4; cases h4
    · intro u hu
      rw [hp] at hu
      cases hu
      exact ⟨by rw [hb]; simp, o, rfl⟩
    intro w' hw'
    have hH : ∀ j u, cl H b j = some u → w'.cell? ⟨b, j, none⟩ = some u := fun j u hj => by
      have := has_cell S.has hj
      unfold World.cell? at this ⊢
      simp only [hw']
      exact this
    have hr := run_loadVar_ok (P := c.P) (w := w') hTi (b := b) (o := o) hl (fun j u hj => hH _ _ (hc j u hj)) hv
    simp [execOp, ev_eval S.env hp, AV.conc, Instr.loadAt, Instr.sureAddr, hr]
  · exact h.elim

/-- What is known of an operation that the evaluator has gone through and the machine has not. -/
def PK (c : Cx) (ops : List Oper) (fl : Act) (e : Env) (β : Nat → Nat) (V : VSt) (H : Hp) (w : World) (z : Nat × Value) : Prop := ∃ o, ops[z.1]? = some o ∧
  ((Region.wanted o (yielded ops.toArray fl.tmps) = false ∧ z.2 = undef) ∨
   (Region.wanted o (yielded ops.toArray fl.tmps) = true ∧
    ((efOf o.op = .pure ∧ ∀ w', (execOp fl.eval o).run c.P w' = .ok (.value z.2) w') ∨
     ∃ t x b, o.op = .load t x ∧ b < w.heap.size ∧ (∀ w', w'.heap[b]? = w.heap[b]? → (execOp fl.eval o).run c.P w' = .ok (.value z.2) w') ∧
       (∀ k1 o1, ev e x = some (.loc k1 o1) → H b = none ∧ ∀ k, V k ≠ none → β k = b → k = k1) ∧ (∀ u, ev e x = some (.v u) → H b ≠ none ∧ ∃ o1, u = .pointer (some ⟨b, o1, none⟩)))))

def okP (ops : List Oper) (bf : List Nat) (x y : Nat) : Prop := x ≠ y ∧ slotOk ops bf x y = true ∧ slotOk ops bf y x = true
def bfP (ops : List Oper) (bf : List Nat) (x y : Nat) : Prop := befB bf x y = false
theorem without_mem {x y : Nat} : ∀ {l : List Nat}, y ∈ without x l ↔ y ∈ l ∧ y ≠ x
  | [] => by simp [without]
  | z :: r => by
    unfold without
    cases hb : Nat.beq x z with
    | true =>
      have := Nat.eq_of_beq_eq_true hb
      subst this
      simp only [without_mem (l := r), List.mem_cons]
      constructor
      · rintro ⟨h1, h2⟩; exact ⟨.inr h1, h2⟩
      · rintro ⟨h1 | h1, h2⟩
        · exact absurd h1 h2
        · exact ⟨h1, h2⟩
    | false =>
      have := Nat.ne_of_beq_eq_false hb
      simp only [List.mem_cons, without_mem (l := r)]
      constructor
      · rintro (h | ⟨h1, h2⟩)
        · subst h; exact ⟨.inl rfl, fun h => this h.symm⟩
        · exact ⟨.inr h1, h2⟩
      · rintro ⟨h1 | h1, h2⟩
        · exact .inl h1
        · exact .inr ⟨h1, h2⟩
theorem without_id {x : Nat} : ∀ {l : List Nat}, x ∉ l → without x l = l
  | [], _ => rfl
  | z :: r, h => by
    unfold without
    cases hb : Nat.beq x z with
    | true => exact absurd (by rw [Nat.eq_of_beq_eq_true hb]; exact List.mem_cons_self) h
    | false => simp only; rw [without_id (fun hh => h (List.mem_cons_of_mem _ hh))]
theorem without_nodup {x : Nat} : ∀ {l : List Nat}, l.Nodup → (without x l).Nodup
  | [], _ => by simp [without]
  | z :: r, h => by
    rw [List.nodup_cons] at h
    unfold without
    cases hb : Nat.beq x z with
    | true => exact without_nodup h.2
    | false => exact List.nodup_cons.2 ⟨fun hh => h.1 (without_mem.1 hh).1, without_nodup h.2⟩
theorem without_length {x : Nat} : ∀ {l : List Nat}, l.Nodup → x ∈ l → (without x l).length + 1 = l.length
  | [], _, h => by cases h
  | z :: r, h, hx => by
    rw [List.nodup_cons] at h
    unfold without
    cases hb : Nat.beq x z with
    | true =>
      have := Nat.eq_of_beq_eq_true hb
      subst this
      simp only
      rw [without_id h.1]; rfl
    | false =>
      have := Nat.ne_of_beq_eq_false hb
      simp only [List.length_cons]
      rw [without_length h.2 ((List.mem_cons.1 hx).resolve_left this)]
theorem pairB_spec {ops : List Oper} {bf : List Nat} {x : Nat} {S : List Nat} (h : pairB ops bf x S = true) : ∀ y ∈ S, y ≠ x → okP ops bf x y ∧ bfP ops bf x y := by
  intro y hy hne
  unfold pairB at h
  have := List.all_eq_true.1 h y (without_mem.2 ⟨hy, hne⟩)
  simp only [Bool.and_eq_true, Bool.not_eq_true'] at this
  exact ⟨⟨hne.symm, this.1.2, this.2⟩, this.1.1⟩
theorem emptyB_spec : ∀ {l : List Nat}, emptyB l = true → l = []
  | [], _ => rfl
  | _ :: _, h => by cases h

theorem slotOk_use {ops : List Oper} {bf : List Nat} {x y : Nat} (h : slotOk ops bf x y = true) {ox : Oper} (hx : ops[x]? = some ox) {d : Nat} (hd : dstAt ops y = some d) (hu : d ∈ namesOf ops ox ∨ ox.dst = some d) :
    befB bf x y = true ∨ (efAt ops y = true ∧ befB bf y x = true) := by
  unfold dstAt at hd
  split at hd
  · rename_i oy hy
    unfold slotOk at h
    simp only [hx, hy, hd, Bool.or_eq_true, Bool.and_eq_true] at h
    rcases h with (⟨h1, h2⟩ | h) | ⟨h1, h2⟩
    · rcases hu with hu | hu
      · rw [elemN_mem.2 hu] at h1; cases h1
      · rw [hu] at h2
        simp at h2
    · exact .inl h
    · right
      refine ⟨?_, h2⟩
      unfold efAt
      rw [hy]
      exact h1
  · cases hd

/-- The state in the midst of such a region. -/
structure RInv (c : Cx) (ops : List Oper) (K : Env → VSt → Hp → Prop) (H0 : Hp) (w0 : World) (listed : Array Bool) (t : OT) (ρ tried : List Nat) (pd : List (Nat × Value)) (a : Act) (w : World) : Prop where
  size : listed.size = ops.length
  closed : ∀ i o, listed.getD i false = true → ops[i]? = some o → ∀ z ∈ dirOf o, listed.getD z false = true
  mem : ∀ i, i < ops.length → (listed.getD i false = false ↔ i ∈ ρ ∨ i ∈ pd.map (·.1))
  lt : ∀ i, i ∈ ρ ∨ i ∈ pd.map (·.1) → i < ops.length
  nd : pd.Pairwise (fun x y => okP ops (masks [] ops) x.1 y.1)
  pl : ∀ x ∈ pd, efAt ops x.1 = false
  ord : tOk ops (masks [] ops) t ρ tried = true
  uniq : ρ.Nodup
  both : ∀ x ∈ pd, ∀ y ∈ ρ, okP ops (masks [] ops) x.1 y ∧ bfP ops (masks [] ops) x.1 y
  sim : (tried = [] ∨ t.isDone = false) → ∃ β e V H, wOpsD c ops (masks [] ops) t ρ K e V H ∧ Sim c.n H0 w0 β e V H (fillA ops a pd) w ∧ ∀ x ∈ pd, PK c ops (fillA ops a pd) e β V H w x

/-- What is asked of a region once. -/
structure ROk (ops : List Oper) : Prop where
  dir : ∀ (i : Nat) (o : Oper), ops[i]? = some o → ∀ z ∈ dirOf o, z < i
  self : ∀ (i : Nat) (o : Oper) (d : Nat), ops[i]? = some o → o.dst = some d → d ∉ namesOf ops o
theorem okP.symm {ops : List Oper} {bf : List Nat} {x y : Nat} (h : okP ops bf x y) : okP ops bf y x := ⟨Ne.symm h.1, h.2.2, h.2.1⟩
theorem getD_set {l : Array Bool} {i j : Nat} (hi : i < l.size) : (l.setIfInBounds i true).getD j false = if j = i then true else l.getD j false := by
  simp only [Array.getD_eq_getD_getElem?, Array.getElem?_setIfInBounds]
  by_cases h : i = j
  · subst h; simp [hi]
  · simp [h, Ne.symm h]
theorem ready_iff {ops : List Oper} {listed : Array Bool} (hs : listed.size = ops.length) {i : Nat} (h : i ∈ Region.ready .any ops.toArray listed) :
    i < ops.length ∧ listed.getD i false = false ∧ ∃ o, ops[i]? = some o ∧ ∀ z ∈ dirOf o, listed.getD z false = true := by
  unfold Region.ready at h
  rw [List.mem_filter, List.mem_range] at h
  obtain ⟨h1, h2⟩ := h
  have h1' : i < ops.length := by simpa using h1
  rw [Bool.and_eq_true] at h2
  have hi : ops[i]? = some (ops[i]'h1') := List.getElem?_eq_getElem _
  refine ⟨h1', ?_, _, hi, ?_⟩
  · have h3 := h2.1
    rw [Array.getD_eq_getD_getElem?] at h3 ⊢
    rw [Array.getElem?_eq_getElem (by omega)] at h3 ⊢
    simpa using h3
  · have h3 := h2.2
    have h4 : (ops.toArray)[i]? = some (ops[i]'h1') := by simp
    rw [h4, Option.map_some, Option.getD_some] at h3
    intro z hz
    unfold dirOf at hz
    obtain ⟨x, hx, rfl⟩ := List.mem_map.1 hz
    obtain ⟨hx1, hx2⟩ := List.mem_filter.1 hx
    have h5 := (Array.all_eq_true_iff_forall_mem.1 h3) x (by simpa using hx1)
    rw [hx2] at h5
    simpa using h5

section
variable {ops : List Oper} {K : Env → VSt → Hp → Prop} {listed : Array Bool} {t : OT} {ρ tried : List Nat} {pd : List (Nat × Value)}
theorem RInv.notyet (R : RInv c ops K H0 w0 listed t ρ tried pd a w) {z : Nat} (h : z ∈ ρ ∨ z ∈ pd.map (·.1)) : listed.getD z false = false := (R.mem z (R.lt z h)).2 h
theorem RInv.bef (O : ROk ops) (R : RInv c ops K H0 w0 listed t ρ tried pd a w) {i j : Nat} {o : Oper} (ho : ops[i]? = some o) (hr : ∀ z ∈ dirOf o, listed.getD z false = true) (hb : befB (masks [] ops) i j = true) : listed.getD j false = true :=
  befB_ready O.dir (S := fun i => listed.getD i false = true) (fun i o hi ho => R.closed i o hi ho) (fun i hi => by
    have : i < listed.size := by
      by_cases h : i < listed.size
      · exact h
      · rw [Array.getD_eq_getD_getElem?, Array.getElem?_eq_none (by omega)] at hi; cases hi
    rw [R.size] at this; exact this) ho hr hb
/-- Nothing that an operation looks at is still to come. -/
theorem RInv.opd (O : ROk ops) (R : RInv c ops K H0 w0 listed t ρ tried pd a w) {i : Nat} {o : Oper} (ho : ops[i]? = some o) (hr : ∀ z ∈ dirOf o, listed.getD z false = true) {pd' : List (Nat × Value)} (hp : ∀ z ∈ pd', z ∈ pd ∧ okP ops (masks [] ops) i z.1) : ∀ d, d ∈ namesOf ops o ∨ o.dst = some d → ¬ dsts ops pd' d := by
  rintro d hd ⟨z, hz, hzd⟩
  obtain ⟨hz1, hz2⟩ := hp z hz
  have hm : z.1 ∈ pd.map (·.1) := List.mem_map_of_mem hz1
  rcases slotOk_use hz2.2.1 ho hzd hd with h | ⟨h, _⟩
  · have := R.bef O ho hr h
    rw [R.notyet (.inr hm)] at this
    cases this
  · rw [R.pl z hz1] at h; cases h

/-- The machine takes what the evaluator has gone through already. -/
theorem RInv.take (O : ROk ops) (R : RInv c ops K H0 w0 listed t ρ [] pd a w) {i : Nat} {v : Value} (hi : (i, v) ∈ pd) {o : Oper} (ho : ops[i]? = some o) (hr : ∀ z ∈ dirOf o, listed.getD z false = true)
    {next : Act → World → Prop} {Q : Exit → Act → World → Prop} (hn : ∀ pd', pd'.length + 1 = pd.length → RInv c ops K H0 w0 (listed.setIfInBounds i true) t ρ [] pd' (a.put o.dst v) w → next (a.put o.dst v) w) : wpOp c.P ops.toArray Q i next a w := by
  obtain ⟨l1, l2, rfl⟩ := List.append_of_mem hi
  have hlen : (l1 ++ l2).length + 1 = (l1 ++ (i, v) :: l2).length := by simp; omega
  have hnd := R.nd
  rw [List.pairwise_append] at hnd
  obtain ⟨n1, n2, n3⟩ := hnd
  rw [List.pairwise_cons] at n2
  have hother : ∀ z ∈ l1 ++ l2, z ∈ l1 ++ (i, v) :: l2 ∧ okP ops (masks [] ops) i z.1 := fun z hz => by
    rcases List.mem_append.1 hz with h | h
    · exact ⟨List.mem_append_left _ h, (n3 z h _ List.mem_cons_self).symm⟩
    · exact ⟨List.mem_append_right _ (List.mem_cons_of_mem _ h), n2.1 z h⟩
  have hclean := R.opd O ho hr hother
  have hdst : dstAt ops i = o.dst := by unfold dstAt; rw [ho]
  have hfill : fillA ops a (l1 ++ (i, v) :: l2) = fillA ops (a.put o.dst v) (l1 ++ l2) := by
    rw [fillA_take ops (fun t ht ⟨z, hz, hd⟩ => hclean t (.inr (hdst.symm.trans ht)) ⟨z, List.mem_append_left _ hz, hd⟩), hdst]
  have hil : i < listed.size := by rw [R.size]; exact R.lt i (.inr (by simp))
  have Rn : RInv c ops K H0 w0 (listed.setIfInBounds i true) t ρ [] (l1 ++ l2) (a.put o.dst v) w := by
    obtain ⟨β, e, V, H, hw, S, hpk⟩ := R.sim (.inl rfl)
    rw [hfill] at S hpk
    refine ⟨by simpa using R.size, fun j oj hj hoj z hz => ?_, fun j hj => ?_, fun j hj => R.lt j (hj.imp id (fun h => by
      obtain ⟨z, hz, rfl⟩ := List.mem_map.1 h
      exact List.mem_map_of_mem (hother z hz).1)), ?_, fun x hx => R.pl x (hother x hx).1, R.ord, R.uniq, fun x hx => R.both x (hother x hx).1, fun _ => ⟨β, e, V, H, hw, S, fun x hx => hpk x (hother x hx).1⟩⟩
    · rw [getD_set hil] at hj ⊢
      by_cases hji : j = i
      · subst hji; rw [ho] at hoj; cases hoj
        rw [hr z hz]; simp
      · simp only [hji, if_false] at hj
        rw [R.closed j oj hj hoj z hz]; simp
    · rw [getD_set hil]
      by_cases hji : j = i
      · subst hji
        simp only [if_true, Bool.true_eq_false, false_iff, not_or]
        refine ⟨fun h => (R.both _ hi j h).1.1 rfl, fun h => ?_⟩
        obtain ⟨z, hz, hzj⟩ := List.mem_map.1 h
        exact (hother z hz).2.1 hzj.symm
      · simp only [hji, if_false]
        rw [R.mem j hj]
        simp [hji]
    · rw [List.pairwise_append]
      exact ⟨n1, n2.2, fun x hx y hy => n3 x hx y (List.mem_cons_of_mem _ hy)⟩
  obtain ⟨β, e, V, H, hw, S, hpk⟩ := R.sim (.inl rfl)
  obtain ⟨o', ho', hk⟩ := hpk _ hi
  rw [ho] at ho'
  cases ho'
  have hop : opdOk a (fillA ops a (l1 ++ (i, v) :: l2)) ops o := fun t ht => by
    rw [hfill]
    have hne : ∀ d, o.dst = some d → t ≠ d := fun d hd he => O.self i o d ho hd (he ▸ ht)
    rw [fillA_getD ops (hclean t (.inl ht))]
    cases hd : o.dst with
    | none => rfl
    | some d => rw [put_getD_ne a (hne d hd)]
  have hoA : (ops.toArray)[i]? = some o := by simpa using ho
  unfold wpOp
  rw [hoA]
  simp only
  rw [opdOk_wanted hop]
  rcases hk with ⟨h1, h2⟩ | ⟨h1, h2⟩
  · rw [if_neg (by rw [h1]; decide)]
    have := hn _ hlen Rn
    rw [show v = undef from h2] at this
    exact this
  · rw [if_pos h1]
    left
    have hns : ∀ cs b, o.op ≠ .select cs b := by
      intro cs b hs
      rcases h2 with ⟨h3, _⟩ | ⟨t, x, b', h3, _⟩
      · rw [hs] at h3; cases h3
      · rw [hs] at h3; cases h3
    have hex : execOp a.eval o = execOp (fillA ops a (l1 ++ (i, v) :: l2)).eval o := execOp_congr o hns (opdOk_eval hop)
    refine wp_value (v := v) (w' := w) ?_ (hn _ hlen Rn)
    rw [hex]
    rcases h2 with ⟨_, h3⟩ | ⟨t, x, b, _, _, h3, _⟩
    · exact h3 w
    · exact h3 w rfl

/-- The evaluator goes ahead. -/
theorem RInv.ahead (hc : CxOk c) (O : ROk ops) {x : Nat} (R : RInv c ops K H0 w0 listed (.look x t) ρ [] pd a w) : ∃ v, RInv c ops K H0 w0 listed t (without x ρ) [] ((x, v) :: pd) a w := by
  obtain ⟨β, e, V, H, hw, S, hpk⟩ := R.sim (.inl rfl)
  have hord := R.ord
  simp only [tOk, Bool.and_eq_true, Bool.not_eq_true'] at hord
  obtain ⟨⟨⟨⟨_, hin⟩, hx⟩, hpair⟩, hrest⟩ := hord
  replace hin := elemN_mem.1 hin
  replace hpair := pairB_spec hpair
  unfold wOpsD at hw
  cases ho : ops[x]? with
  | none => simp only [ho] at hw
  | some o =>
    simp only [ho] at hw
    have hef : isEf (efOf o.op) = false := by unfold efAt at hx; rw [ho] at hx; exact hx
    · have hdst : dstAt ops x = o.dst := by unfold dstAt; rw [ho]
      -- the slot is no other's
      have hfree : ∀ z ∈ pd, ∀ d, o.dst = some d → ∀ oz, ops[z.1]? = some oz → d ∉ namesOf ops oz ∧ oz.dst ≠ some d := by
        intro z hz d hd oz hoz
        obtain ⟨h1, h2⟩ := R.both z hz x hin
        have key : ∀ (_ : d ∈ namesOf ops oz ∨ oz.dst = some d), False := fun hu => by
          rcases slotOk_use h1.2.1 hoz (hdst.trans hd) hu with h | ⟨h, _⟩
          · rw [show befB (masks [] ops) z.1 x = false from h2] at h; cases h
          · rw [hx] at h; cases h
        exact ⟨fun h => key (.inl h), fun h => key (.inr h)⟩
      have hnod : ∀ t, o.dst = some t → ¬ dsts ops pd t := by
        rintro t ht ⟨z, hz, hzd⟩
        unfold dstAt at hzd
        split at hzd
        · rename_i oz hoz
          exact (hfree z hz t ht oz hoz).2 hzd
        · cases hzd
      have build : ∀ (v : Value) (e' : Env), wOpsD c ops (masks [] ops) t (without x ρ) K e' V H → Sim c.n H0 w0 β e' V H ((fillA ops a pd).put o.dst v) w → (∀ t av, some t ≠ o.dst → e' t = some av → e t = some av) → PK c ops ((fillA ops a pd).put o.dst v) e' β V H w (x, v) → RInv c ops K H0 w0 listed t (without x ρ) [] ((x, v) :: pd) a w := by
        intro v e' hw' S' he' hpkx
        have hf : fillA ops a ((x, v) :: pd) = (fillA ops a pd).put o.dst v := by
          rw [fillA, hdst, fillA_put ops (fun t ht => hnod t ht)]
        refine ⟨R.size, R.closed, fun j hj => ?_, fun j hj => R.lt j ?_, ?_, fun y hy => ?_, hrest, without_nodup R.uniq, fun y hy z hz => ?_, fun _ => ⟨β, e', V, H, hw', by rw [hf]; exact S', fun y hy => ?_⟩⟩
        · rw [R.mem j hj]
          simp only [List.mem_cons, List.map_cons, without_mem]
          constructor
          · rintro (h | h)
            · by_cases hjx : j = x
              · exact .inr (.inl hjx)
              · exact .inl ⟨h, hjx⟩
            · exact .inr (.inr h)
          · rintro (h | h | h)
            · exact .inl h.1
            · exact .inl (h ▸ hin)
            · exact .inr h
        · simp only [List.mem_cons, List.map_cons, without_mem] at hj ⊢
          rcases hj with h | h | h
          · exact .inl h.1
          · exact .inl (h ▸ hin)
          · exact .inr h
        · rw [List.pairwise_cons]
          exact ⟨fun y hy => (R.both y hy x hin).1.symm, R.nd⟩
        · rcases List.mem_cons.1 hy with rfl | hy
          · exact hx
          · exact R.pl y hy
        · rcases List.mem_cons.1 hy with rfl | hy
          · exact hpair z (without_mem.1 hz).1 (without_mem.1 hz).2
          · exact R.both y hy z (without_mem.1 hz).1
        · rw [hf]
          rcases List.mem_cons.1 hy with rfl | hy
          · exact hpkx
          · obtain ⟨oy, hoy, hk⟩ := hpk y hy
            refine ⟨oy, hoy, ?_⟩
            have hop : opdOk ((fillA ops a pd).put o.dst v) (fillA ops a pd) ops oy := fun t ht => by
              cases hd : o.dst with
              | none => rfl
              | some d => rw [put_getD_ne _ (fun h => (hfree y hy d hd oy hoy).1 (by rw [← h]; exact ht))]
            rw [opdOk_wanted hop]
            rcases hk with hk | ⟨h1, hk⟩
            · exact .inl hk
            · refine .inr ⟨h1, ?_⟩
              have hns : ∀ cs b, oy.op ≠ .select cs b := by
                intro cs b hs
                rcases hk with ⟨h3, _⟩ | ⟨t, x', b', h3, _⟩
                · rw [hs] at h3; cases h3
                · rw [hs] at h3; cases h3
              rw [execOp_congr oy hns (opdOk_eval hop)]
              rcases hk with hk | ⟨t, x', b, h2, h3, h4, h5, h6⟩
              · exact .inl hk
              · refine .inr ⟨t, x', b, h2, h3, h4, ?_, ?_⟩
                · intro k1 o1 hev
                  refine h5 k1 o1 ?_
                  cases x' with
                  | tmp s =>
                    refine he' s _ (fun hs => ?_) hev
                    exact (hfree y hy s hs.symm oy hoy).1 (List.mem_append_left _ (List.mem_filterMap.2 ⟨.tmp s, by rw [h2]; simp [Op.operands], rfl⟩))
                  | _ => exact hev
                · intro u hev
                  refine h6 u ?_
                  cases x' with
                  | tmp s =>
                    refine he' s _ (fun hs => ?_) hev
                    exact (hfree y hy s hs.symm oy hoy).1 (List.mem_append_left _ (List.mem_filterMap.2 ⟨.tmp s, by rw [h2]; simp [Op.operands], rfl⟩))
                  | _ => exact hev
      have hself : ∀ v, opdOk ((fillA ops a pd).put o.dst v) (fillA ops a pd) ops o := fun v t ht => by
        cases hd : o.dst with
        | none => rfl
        | some d => rw [put_getD_ne _ (fun h => O.self x o d ho hd (by rw [← h]; exact ht))]
      have hfin : ∀ (av : Option AV) t b, some t ≠ o.dst → fin c.n o.dst av e t = some b → e t = some b := by
        intro av t b hne hb
        cases hd : o.dst with
        | none => rw [hd] at hb; exact hb
        | some d =>
          rw [hd] at hb hne
          have hne' : t ≠ d := fun h => hne (by rw [h])
          cases av with
          | none => exact (del_some hb).2
          | some y =>
            cases hn : Nat.blt d c.n with
            | true => simp only [fin, hn] at hb; rw [upd_other hne'] at hb; exact hb
            | false => simp only [fin, hn] at hb; exact (del_some hb).2
      have hevx : ∀ (av : Option AV) (y : Operand) b, y ∈ o.op.operands → ev (fin c.n o.dst av e) y = some b → ev e y = some b := by
        intro av y b hy hb
        cases y with
        | tmp s =>
          refine hfin av s b (fun hs => ?_) hb
          exact O.self x o s ho hs.symm (List.mem_append_left _ (List.mem_filterMap.2 ⟨.tmp s, by simpa using hy, rfl⟩))
        | _ => exact hb
      rcases wStep_cases hw S.env with ⟨hwant, h⟩ | ⟨hwant, h⟩
      · cases hop : efOf o.op with
        | pure =>
          obtain ⟨av, hk, hrun⟩ := wOp_pureRun hc.1 hop h S.env
          refine ⟨av.conc β, build _ _ hk (S.put o.dst rfl) (hfin _) ⟨o, ho, .inr ⟨by rw [opdOk_wanted (hself _)]; exact hwant, .inl ⟨hop, fun w' => ?_⟩⟩⟩⟩
          have hns : ∀ cs b, o.op ≠ .select cs b := fun cs b hs => by rw [hs] at hop; cases hop
          rw [execOp_congr o hns (opdOk_eval (hself _))]
          exact hrun w'
        | load =>
          have hl : ∃ t y, o.op = .load t y := by
            cases hoo : o.op <;> rw [hoo] at hop <;> first | (cases hop; done) | exact ⟨_, _, rfl⟩ | skip
            rename_i cc
            obtain ⟨callee, args, ats⟩ := cc
            cases callee with
            | builtin b => cases b <;> cases hop
            | _ => cases hop
          obtain ⟨t, y, hty⟩ := hl
          obtain ⟨v, b, hk, hb, hrun, hc1, hc2⟩ := wOp_loadRun hc.1 hty h S
          have hy : y ∈ o.op.operands := by rw [hty]; simp [Op.operands]
          refine ⟨v, build _ _ hk (S.put o.dst rfl) (hfin _) ⟨o, ho, .inr ⟨by rw [opdOk_wanted (hself _)]; exact hwant, .inr ⟨t, y, b, hty, hb, fun w' hw' => ?_, fun k1 o1 hev => hc1 k1 o1 (hevx _ y _ hy hev), fun u hev => hc2 u (hevx _ y _ hy hev)⟩⟩⟩⟩
          have hns : ∀ cs b, o.op ≠ .select cs b := fun cs b hs => by rw [hs] at hty; cases hty
          rw [execOp_congr o hns (opdOk_eval (hself _))]
          exact hrun w' hw'
        | quiet => rw [hop] at hef; cases hef
        | write => rw [hop] at hef; cases hef
      · exact ⟨undef, build _ _ h (S.put o.dst rfl) (hfin _) ⟨o, ho, .inl ⟨by rw [opdOk_wanted (hself _)]; exact hwant, rfl⟩⟩⟩

theorem wp_fill {fl : Act} {N next : Act → World → Prop} {Q : Exit → Act → World → Prop} (he : execOp a.eval o = execOp fl.eval o) (hn : ∀ v w', N (fl.put o.dst v) w' → next (a.put o.dst v) w')
    (hd : ∀ d v w', ¬ N (({ fl with defers := d :: fl.defers } : Act).put o.dst v) w') (h : o.wp c.P fl w N (fun _ _ _ => False)) : o.wp c.P a w next Q := by
  unfold Oper.wp at h ⊢
  rw [he]
  generalize (execOp fl.eval o).run c.P w = r at h ⊢
  cases r with
  | halt x w' => cases x <;> simp only [Oper.upon] at h ⊢
  | ok n w' =>
    cases n <;> simp only [Oper.upon] at h ⊢
    all_goals first
      | exact hn _ _ h
      | exact (hd _ _ _ h).elim
      | exact Calls.mono h (fun e w'' he => by
          cases e with
          | returned v => exact hn _ _ he
          | panicked ch => exact he.elim
          | outgrown => obtain ⟨_, _, he⟩ := he; exact he.elim)
      | exact Rows.mono h (fun _ _ he => hn _ _ he)

/-- What a load that has been gone through is told of an operation that writes. -/
def lateAt (e : Env) (H H' : Hp) (w : Bool) (k : Option Nat) (x : Operand) : Prop := match ev e x with
  | none => False
  | some (.loc k1 _) => (match k with | none => True | some k2 => k1 ≠ k2)
  | some (.v v) => (match k with
    | some _ => True
    | none => w = true → ∀ p, v = .pointer (some p) → H' p.block = H p.block)
theorem lateL_P {bf S : List Nat} {i : Nat} {wr : Bool} {k : Option Nat} {e : Env} {H H' : Hp} {P : Prop} : ∀ {l : List Oper} {n : Nat}, lateL bf S i wr k e H H' n l P → P
  | [], _, h => h
  | o :: r, n, h => by
    unfold lateL at h
    split at h
    · split at h
      · exact lateL_P h
      · split at h
        · exact h.elim
        · split at h
          · exact lateL_P h
          · split at h
            · exact h.elim
            · exact lateL_P h
        · split at h
          · exact lateL_P h
          · split at h
            · exact lateL_P h
            · split at h
              · exact lateL_P h.2
              · exact lateL_P h
    · exact lateL_P h
theorem lateL_at {bf S : List Nat} {i : Nat} {wr : Bool} {k : Option Nat} {e : Env} {H H' : Hp} {P : Prop} : ∀ {l : List Oper} {j n : Nat} {oj : Oper}, lateL bf S i wr k e H H' n l P → l[j]? = some oj → ∀ t x, oj.op = .load t x → befB bf i (n + j) = true ∨ n + j ∈ S ∨ lateAt e H H' wr k x
  | [], j, n, oj, _, hj, _, _, _ => by simp at hj
  | o :: r, j + 1, n, oj, h, hj, t, x, hx => by
    have hr : lateL bf S i wr k e H H' (n + 1) r P := by
      unfold lateL at h
      split at h
      · split at h
        · exact h
        · split at h
          · exact h.elim
          · split at h
            · exact h
            · split at h
              · exact h.elim
              · exact h
          · split at h
            · exact h
            · split at h
              · exact h
              · split at h
                · exact h.2
                · exact h
      · exact h
    have := lateL_at (l := r) (j := j) (n := n + 1) hr (by simpa using hj) t x hx
    rw [show n + (j + 1) = n + 1 + j by omega]
    exact this
  | y :: r, 0, n, oj, h, hj, t, x, hx => by
    simp at hj
    subst hj
    simp only [lateL, hx] at h
    split at h
    · rename_i hb
      rw [Bool.or_eq_true] at hb
      exact hb.imp id fun hb => .inl (elemN_mem.1 hb)
    · refine .inr (.inr ?_)
      unfold lateAt
      split at h
      · exact h.elim
      · rename_i k1 o1 hev
        rw [hev]
        split at h
        · trivial
        · rename_i k2
          split at h
          · exact h.elim
          · rename_i hb
            exact Nat.ne_of_beq_eq_false hb
      · rename_i v hev
        rw [hev]
        split at h
        · trivial
        · split at h
          · intro hw; cases hw
          · split at h
            · rename_i p0
              intro _ p hp
              cases hp
              exact h.1
            · rename_i hnp
              intro _ p hp
              exact absurd hp (hnp p)
theorem lateP_P {bf S : List Nat} {ops : List Oper} {i : Nat} {o : Oper} {e : Env} {H H' : Hp} {P : Prop} (h : lateP bf S ops i o e H H' P) : P := by
  unfold lateP at h
  split at h
  · split at h <;> exact lateL_P h
  · exact h

/-- The machine and the evaluator go on together. -/
theorem RInv.run (hc : CxOk c) (O : ROk ops) {i : Nat} {u : OT} (R : RInv c ops K H0 w0 listed (.act i t u) ρ tried pd a w) (ho : ops[i]? = some o) (hr : ∀ z ∈ dirOf o, listed.getD z false = true)
    {next : Act → World → Prop} {Q : Exit → Act → World → Prop} (hn : ∀ a' w', RInv c ops K H0 w0 (listed.setIfInBounds i true) t (without i ρ) [] pd a' w' → next a' w') : wpOp c.P ops.toArray Q i next a w := by
  obtain ⟨β, e, V, H, hw, S, hpk⟩ := R.sim (.inr rfl)
  have hord := R.ord
  simp only [tOk, Bool.and_eq_true, Bool.not_eq_true'] at hord
  obtain ⟨⟨⟨⟨hin, hi⟩, hpair⟩, hrest⟩, _⟩ := hord
  replace hin := elemN_mem.1 hin
  replace hpair := pairB_spec hpair
  have hdst : dstAt ops i = o.dst := by unfold dstAt; rw [ho]
  have hclean := R.opd O ho hr (pd' := pd) (fun z hz => ⟨hz, (R.both z hz i hin).1.symm⟩)
  have hnot : ∀ z ∈ pd, befB (masks [] ops) i z.1 = true → False := fun z hz h => by
    have := R.bef O ho hr h
    rw [R.notyet (.inr (List.mem_map_of_mem hz))] at this
    cases this
  have hfree : ∀ z ∈ pd, ∀ d, o.dst = some d → ∀ oz, ops[z.1]? = some oz → d ∉ namesOf ops oz := by
    intro z hz d hd oz hoz hu
    obtain ⟨h1, h2⟩ := R.both z hz i hin
    rcases slotOk_use h1.2.1 hoz (hdst.trans hd) (.inl hu) with h | ⟨_, h⟩
    · rw [show befB (masks [] ops) z.1 i = false from h2] at h; cases h
    · exact hnot z hz h
  have hop : opdOk a (fillA ops a pd) ops o := fun t ht => (fillA_getD ops (hclean t (.inl ht))).symm
  have hfill : ∀ v, fillA ops (a.put o.dst v) pd = (fillA ops a pd).put o.dst v := fun v => fillA_put ops (fun t ht => hclean t (.inr ht))
  have hil : i < listed.size := by rw [R.size]; exact R.lt i (.inl hin)
  have hoA : (ops.toArray)[i]? = some o := by simpa using ho
  unfold wOpsD at hw
  simp only [ho] at hw
  have hw : wStep c ops o (fun e' V' H' => lateP (masks [] ops) ρ ops i o e H H' (wOpsD c ops (masks [] ops) t (without i ρ) K e' V' H')) e V H := by
    split at hw
    · exact hw
    · exact hw.1
  · skip
    have build : ∀ (v : Value) (β' : Nat → Nat) (e1 e' : Env) (V' : VSt) (H' : Hp) (w' : World), wOpsD c ops (masks [] ops) t (without i ρ) K e' V' H' → Sim c.n H0 w0 β' e' V' H' ((fillA ops a pd).put o.dst v) w' → (∀ t av, some t ≠ o.dst → e' t = some av → e1 t = some av) →
        (∀ t av, e1 t = some av → e t = some av) → (∀ b, b < w.heap.size → H b = none → H' b = none) → w.heap.size ≤ w'.heap.size → (∀ k, V' k ≠ none → (V k ≠ none ∧ β' k = β k) ∨ w.heap.size ≤ β' k) →
        (∀ z ∈ pd, ∀ t x b oz, ops[z.1]? = some oz → oz.op = .load t x → b < w.heap.size → (∀ k1 o1, ev e x = some (.loc k1 o1) → H b = none ∧ ∀ k, V k ≠ none → β k = b → k = k1) → (∀ u, ev e x = some (.v u) → H b ≠ none ∧ ∃ o1, u = .pointer (some ⟨b, o1, none⟩)) →
          w'.heap[b]? = w.heap[b]? ∧ (∀ u, ev e x = some (.v u) → H' b ≠ none ∧ ∃ o1, u = .pointer (some ⟨b, o1, none⟩))) → RInv c ops K H0 w0 (listed.setIfInBounds i true) t (without i ρ) [] pd (a.put o.dst v) w' := by
      intro v β' e1 e' V' H' w' hw' S' he1 he hnone hsz hbeta hload
      refine ⟨by simpa using R.size, fun j oj hj hoj z hz => ?_, fun j hj => ?_, fun j hj => R.lt j (hj.imp (fun h => (without_mem.1 h).1) id), R.nd, R.pl, hrest, without_nodup R.uniq, fun x hx y hy => R.both x hx y (without_mem.1 hy).1, fun _ => ⟨β', e', V', H', hw', by rw [hfill]; exact S', fun z hz => ?_⟩⟩
      · rw [getD_set hil] at hj ⊢
        by_cases hji : j = i
        · subst hji; rw [ho] at hoj; cases hoj
          rw [hr z hz]; simp
        · simp only [hji, if_false] at hj
          rw [R.closed j oj hj hoj z hz]; simp
      · rw [getD_set hil]
        by_cases hji : j = i
        · subst hji
          simp only [if_true, Bool.true_eq_false, false_iff, not_or]
          refine ⟨fun h => (without_mem.1 h).2 rfl, fun h => ?_⟩
          obtain ⟨z, hz, hzj⟩ := List.mem_map.1 h
          exact (R.both z hz j hin).1.1 hzj
        · simp only [hji, if_false]
          rw [R.mem j hj, without_mem]
          simp [hji]
      · rw [hfill]
        obtain ⟨oz, hoz, hk⟩ := hpk z hz
        refine ⟨oz, hoz, ?_⟩
        have hop' : opdOk ((fillA ops a pd).put o.dst v) (fillA ops a pd) ops oz := fun t ht => by
          cases hd : o.dst with
          | none => rfl
          | some d => rw [put_getD_ne _ (fun h => hfree z hz d hd oz hoz (by rw [← h]; exact ht))]
        rw [opdOk_wanted hop']
        rcases hk with hk | ⟨h1, hk⟩
        · exact .inl hk
        · refine .inr ⟨h1, ?_⟩
          have hns : ∀ cs b, oz.op ≠ .select cs b := by
            intro cs b hs
            rcases hk with ⟨h3, _⟩ | ⟨t, x', b', h3, _⟩
            · rw [hs] at h3; cases h3
            · rw [hs] at h3; cases h3
          rw [execOp_congr oz hns (opdOk_eval hop')]
          rcases hk with hk | ⟨t, x, b, h2, h3, h4, h5, h6⟩
          · exact .inl hk
          · obtain ⟨g1, g2⟩ := hload z hz t x b oz hoz h2 h3 h5 h6
            have hev : ∀ av, ev e' x = some av → ev e x = some av := by
              intro av hav
              cases x with
              | tmp s =>
                refine he s _ (he1 s _ (fun hs => ?_) hav)
                exact hfree z hz s hs.symm oz hoz (List.mem_append_left _ (List.mem_filterMap.2 ⟨.tmp s, by rw [h2]; simp [Op.operands], rfl⟩))
              | _ => exact hav
            refine .inr ⟨t, x, b, h2, Nat.lt_of_lt_of_le h3 hsz, fun w2 hw2 => h4 w2 (hw2.trans g1), fun k1 o1 hk1 => ?_, fun u hu => g2 u (hev _ hu)⟩
            obtain ⟨p1, p2⟩ := h5 k1 o1 (hev _ hk1)
            refine ⟨hnone b h3 p1, fun k hkk hb => ?_⟩
            rcases hbeta k hkk with ⟨q1, q2⟩ | q
            · exact p2 k q1 (q2 ▸ hb)
            · omega
    have hfin : ∀ (e1 : Env) (av : Option AV) t b, some t ≠ o.dst → fin c.n o.dst av e1 t = some b → e1 t = some b := by
      intro e1 av t b hne hb
      cases hd : o.dst with
      | none => rw [hd] at hb; exact hb
      | some d =>
        rw [hd] at hb hne
        have hne' : t ≠ d := fun h => hne (by rw [h])
        cases av with
        | none => exact (del_some hb).2
        | some y =>
          cases hn : Nat.blt d c.n with
          | true => simp only [fin, hn] at hb; rw [upd_other hne'] at hb; exact hb
          | false => simp only [fin, hn] at hb; exact (del_some hb).2
    unfold wpOp
    rw [hoA]
    simp only
    rw [opdOk_wanted hop]
    rcases wStep_cases hw S.env with ⟨hwant, h⟩ | ⟨hwant, h⟩
    · rw [if_pos hwant]
      left
      have hns : ∀ cs b, o.op ≠ .select cs b := by
        intro cs b hs
        unfold wOp at h
        rw [hs] at h
        exact h.elim
      refine wp_fill (execOp_congr o hns (opdOk_eval hop)) (N := fun a' w' => ∃ β' av e' V' H', lateP (masks [] ops) ρ ops i o e H H' (wOpsD c ops (masks [] ops) t (without i ρ) K (fin c.n o.dst av e') V' H') ∧ Sim c.n H0 w0 β' (fin c.n o.dst av e') V' H' a' w' ∧ Eff o e β V H w β' e' V' H' w') ?_ ?_
        (wOp_sound hc.1 hc.2.1 S h fun β' av e' V' H' a' w' hk S' E => ⟨β', av, e', V', H', hk, S', E⟩)
      · rintro v w' ⟨β', av, e', V', H', hk, S', E⟩
        refine hn _ _ (build v β' e' _ V' H' w' (lateP_P hk) S' (hfin e' av) E.env E.none' E.size E.beta fun z hz t' x b oz hoz hx hb h5 h6 => ?_)
        have hadr : ∀ u, ev e x = some (.v u) → ∃ o1, u = .pointer (some ⟨b, o1, none⟩) := fun u hu => (h6 u hu).2
        have hpair : ∀ wr k, lateL (masks [] ops) ρ i wr k e H H' 0 ops (wOpsD c ops (masks [] ops) t (without i ρ) K (fin c.n o.dst av e') V' H') → lateAt e H H' wr k x := fun wr k hl => by
          have := lateL_at hl hoz t' x hx
          rw [Nat.zero_add] at this
          rcases this with h7 | h7 | h7
          · exact (hnot z hz h7).elim
          · exact absurd rfl (R.both z hz z.1 h7).1.1
          · exact h7
        have hsame : (efOf o.op = .write → vstK e o.op ≠ none) → w'.heap[b]? = w.heap[b]? ∧ (∀ u, ev e x = some (.v u) → H' b ≠ none ∧ ∃ o1, u = .pointer (some ⟨b, o1, none⟩)) := fun hq => by
          cases hHb : H b with
          | some p => exact ⟨(E.heap hq b (by rw [hHb]; simp)).1, fun u hu => ⟨(E.heap hq b (by rw [hHb]; simp)).2, hadr u hu⟩⟩
          | none =>
            refine ⟨E.beside b hb hHb fun k hk' hVk hbk => ?_, fun u hu => absurd hHb (h6 u hu).1⟩
            have hwr : efOf o.op = .write := by
              cases hoo : o.op <;> rw [hoo] at hk' <;> first | (cases hk'; done) | rfl
            unfold lateP at hk
            simp only [hwr, hk'] at hk
            have h8 := hpair _ _ hk
            unfold lateAt at h8
            cases hex : ev e x with
            | none => rw [hex] at h8; cases h8
            | some av' =>
              cases av' with
              | v u => exact absurd hHb (h6 u hex).1
              | loc k1 o1 =>
                rw [hex] at h8
                exact h8 ((h5 k1 o1 hex).2 k hVk hbk.symm).symm
        by_cases hq : efOf o.op = .write ∧ vstK e o.op = none
        · obtain ⟨hq1, hq2⟩ := hq
          unfold lateP at hk
          simp only [hq1, hq2] at hk
          have h8 := hpair _ _ hk
          unfold lateAt at h8
          cases hex : ev e x with
          | none => rw [hex] at h8; cases h8
          | some av' =>
            cases av' with
            | v u =>
              rw [hex] at h8
              obtain ⟨h9, o1, rfl⟩ := h6 u hex
              have h10 : H' b = H b := h8 rfl _ rfl
              refine ⟨?_, fun u' hu' => ⟨by rw [h10]; exact h9, hadr u' (hex.trans hu')⟩⟩
              cases hHb : H b with
              | none => exact absurd hHb h9
              | some p => rw [S'.has _ _ (h10.trans hHb), S.has _ _ hHb]
            | loc k1 o1 => exact ⟨E.beside b hb (h5 k1 o1 hex).1 (fun k hk => by rw [hq2] at hk; cases hk), fun u hu => by cases hu⟩
        · exact hsame fun h1 h2 => hq ⟨h1, h2⟩
      · rintro d v w' ⟨β', av, e', V', H', hk, S', E⟩
        have := S'.defers
        rw [put_defers] at this
        cases this
    · rw [if_neg (by rw [hwant]; decide)]
      refine hn _ _ (build undef β e _ V H w (lateP_P h) (S.put o.dst rfl) (hfin e _) (fun _ _ h => h) (fun _ _ h => h) (Nat.le_refl _) (fun k hk => .inl ⟨hk, rfl⟩) fun z hz t x b oz hoz hx hb h5 h6 => ⟨rfl, h6⟩)

/-- The operation that the machine takes next. -/
theorem RInv.next (hc : CxOk c) (O : ROk ops) {next : Act → World → Prop} {Q : Exit → Act → World → Prop} {i n : Nat} (ho : ops[i]? = some o) (hr : ∀ z ∈ dirOf o, listed.getD z false = true)
    (hn : ∀ t' ρ' pd' a' w', ρ'.length + pd'.length + 1 = n → RInv c ops K H0 w0 (listed.setIfInBounds i true) t' ρ' [] pd' a' w' → next a' w') :
    ∀ (t : OT) {ρ tried : List Nat} {pd : List (Nat × Value)} (R : RInv c ops K H0 w0 listed t ρ tried pd a w) (hl : ρ.length + pd.length = n) (hi : i ∈ ρ ∨ i ∈ pd.map (·.1)) (ht : i ∉ tried) (hp : tried ≠ [] → i ∉ pd.map (·.1)), wpOp c.P ops.toArray Q i next a w := by
  intro t
  induction t with
  | done =>
    intro ρ tried pd R hl hi ht hp
    have hord := R.ord
    cases tried with
    | nil =>
      have h0 := emptyB_spec (show emptyB ρ = true by simpa [tOk, emptyB] using hord)
      subst h0
      obtain ⟨z, hz, rfl⟩ := List.mem_map.1 (hi.resolve_left (by simp))
      exact R.take O (v := z.2) hz ho hr (fun pd' hl' h => hn _ _ _ _ _ (by omega) h)
    | cons y r =>
      exfalso
      have hi' := hi.resolve_right (hp (by simp))
      have : (elemN i (y :: r) || (without i ρ).any fun y => befB (masks [] ops) i y) = true := by
        have h1 : (ρ.all fun z => elemN z (y :: r) || (without z ρ).any fun y => befB (masks [] ops) z y) = true := by simpa [tOk, emptyB] using hord
        exact List.all_eq_true.1 h1 i hi'
      rw [Bool.or_eq_true] at this
      rcases this with h | h
      · exact ht (elemN_mem.1 h)
      · obtain ⟨z, hz, hb⟩ := List.any_eq_true.1 h
        have h2 := R.bef O ho hr hb
        rw [R.notyet (.inl (without_mem.1 hz).1)] at h2
        cases h2
  | look x t ih =>
    intro ρ tried pd R hl hi ht hp
    have hord := R.ord
    simp only [tOk, Bool.and_eq_true, Bool.not_eq_true'] at hord
    have h0 := emptyB_spec hord.1.1.1.1
    subst h0
    by_cases hpd : i ∈ pd.map (·.1)
    · obtain ⟨z, hz, rfl⟩ := List.mem_map.1 hpd
      exact R.take O (v := z.2) hz ho hr (fun pd' hl' h => hn _ _ _ _ _ (by omega) h)
    · obtain ⟨v, R'⟩ := R.ahead hc O
      have hlen := without_length R.uniq (elemN_mem.1 hord.1.1.1.2)
      refine ih R' (by simp only [List.length_cons]; omega) ?_ ht (fun h => absurd rfl h)
      by_cases hix : i = x
      · exact .inr (by simp [hix])
      · exact .inl (without_mem.2 ⟨hi.resolve_right hpd, hix⟩)
  | act x t u _ ihu =>
    intro ρ tried pd R hl hi ht hp
    by_cases hpd : i ∈ pd.map (·.1)
    · cases tried with
      | nil =>
        obtain ⟨z, hz, rfl⟩ := List.mem_map.1 hpd
        exact R.take O (v := z.2) hz ho hr (fun pd' hl' h => hn _ _ _ _ _ (by omega) h)
      | cons y r => exact absurd hpd (hp (by simp))
    · have hord := R.ord
      simp only [tOk, Bool.and_eq_true] at hord
      by_cases hix : i = x
      · subst hix
        have hlen := without_length R.uniq (elemN_mem.1 hord.1.1.1.1)
        exact R.run hc O ho hr (fun a' w' h => hn _ _ _ _ _ (by omega) h)
      · refine ihu (tried := x :: tried) { R with ord := hord.2, sim := fun hs => ?_ } hl hi (by simp [hix, ht]) (fun _ => hpd)
        have hnd : u.isDone = false := hs.resolve_left (by simp)
        obtain ⟨β, e, V, H, hw, S, hpk⟩ := R.sim (.inr rfl)
        unfold wOpsD at hw
        refine ⟨β, e, V, H, ?_, S, hpk⟩
        split at hw
        · rw [hnd] at hw
          exact hw.2
        · exact hw.elim

theorem ready_of {ops : List Oper} {listed : Array Bool} {i : Nat} {o : Oper} (hi : i < ops.length) (hl : listed.getD i false = false) (hs : listed.size = ops.length) (ho : ops[i]? = some o) (hr : ∀ z ∈ dirOf o, listed.getD z false = true) :
    i ∈ Region.ready .any ops.toArray listed := by
  unfold Region.ready
  rw [List.mem_filter, List.mem_range]
  refine ⟨by simpa using hi, ?_⟩
  rw [Bool.and_eq_true]
  refine ⟨?_, ?_⟩
  · rw [Array.getD_eq_getD_getElem?] at hl ⊢
    rw [Array.getElem?_eq_getElem (by omega)] at hl ⊢
    simpa using hl
  · have h4 : (ops.toArray)[i]? = some o := by simpa using ho
    rw [h4, Option.map_some, Option.getD_some]
    rw [Array.all_eq_true_iff_forall_mem]
    intro x hx
    cases hb : Region.binds .any x with
    | false => rfl
    | true =>
      have := hr x.on (List.mem_map.2 ⟨x, List.mem_filter.2 ⟨by simpa using hx, hb⟩, rfl⟩)
      simpa using this
theorem wAny_sound (hc : CxOk c) (O : ROk ops) {Q : Exit → Act → World → Prop} (hq : ∀ a w, St c H0 w0 K a w → Q .normal a w) : ∀ (fuel : Nat) {listed : Array Bool} {t : OT} {ρ : List Nat} {pd : List (Nat × Value)} {a : Act} {w : World},
    RInv c ops K H0 w0 listed t ρ [] pd a w → ρ.length + pd.length = fuel → wpAny c.P .any ops.toArray Q fuel listed a w
  | 0, listed, t, ρ, pd, a, w, R, hl => by
    have h1 : ρ = [] := List.length_eq_zero_iff.1 (by omega)
    have h2 : pd = [] := List.length_eq_zero_iff.1 (by omega)
    subst h1; subst h2
    refine ⟨?_, ?_⟩
    · apply List.eq_nil_iff_forall_not_mem.2
      intro i hi
      obtain ⟨g1, g2, _⟩ := ready_iff R.size hi
      simpa using (R.mem i g1).1 g2
    · obtain ⟨β, e, V, H, hw, S, _⟩ := R.sim (.inl rfl)
      have hord := R.ord
      cases t with
      | done => exact hq _ _ ⟨β, e, V, H, hw, S⟩
      | look x t => simp [tOk, elemN] at hord
      | act x t u => simp [tOk, elemN] at hord
  | fuel + 1, listed, t, ρ, pd, a, w, R, hl => by
    refine ⟨fun h0 => ?_, fun i hi => ?_⟩
    · exfalso
      have hall : ∀ i, i < ops.length → listed.getD i false = true := by
        intro i
        induction i using Nat.strongRecOn with
        | _ i ih =>
          intro hi
          cases hb : listed.getD i false with
          | true => rfl
          | false =>
            have ho : ops[i]? = some (ops[i]'hi) := List.getElem?_eq_getElem _
            have := ready_of hi hb R.size ho (fun z hz => ih z (O.dir i _ ho z hz) (Nat.lt_trans (O.dir i _ ho z hz) hi))
            rw [h0] at this
            cases this
      have : ∃ i, i ∈ ρ ∨ i ∈ pd.map (·.1) := by
        cases ρ with
        | cons x r => exact ⟨x, .inl List.mem_cons_self⟩
        | nil => cases pd with
          | cons z r => exact ⟨z.1, .inr (by simp)⟩
          | nil => simp at hl
      obtain ⟨i, hi⟩ := this
      have h1 := R.notyet hi
      rw [hall i (R.lt i hi)] at h1
      cases h1
    · obtain ⟨g1, g2, o, g3, g4⟩ := ready_iff R.size hi
      exact RInv.next hc O g3 g4 (fun t' ρ' pd' a' w' hl' R' => wAny_sound hc O hq fuel R' (by omega)) t R hl ((R.mem i g1).1 g2) (by simp) (fun h => absurd rfl h)

theorem rangeB_mem {i : Nat} : ∀ {n : Nat}, i ∈ rangeB n ↔ i < n
  | 0 => by simp [rangeB]
  | n + 1 => by
    simp only [rangeB, List.mem_cons, rangeB_mem (n := n)]
    omega
theorem rangeB_nodup : ∀ {n : Nat}, (rangeB n).Nodup
  | 0 => by simp [rangeB]
  | n + 1 => List.nodup_cons.2 ⟨fun h => absurd (rangeB_mem.1 h) (Nat.lt_irrefl _), rangeB_nodup⟩
theorem rangeB_length : ∀ {n : Nat}, (rangeB n).length = n
  | 0 => rfl
  | n + 1 => by simp [rangeB, rangeB_length (n := n)]
theorem wOpsD_sound (hc : CxOk c) {ops : Array Oper} {t : OT} (ho : (regOk ops.toList && tOk ops.toList (masks [] ops.toList) t (rangeB ops.toList.length) []) = true) {id : Nat} {Q : Exit → Act → World → Prop} (hq : ∀ a w, St c H0 w0 K a w → Q .normal a w)
    (h : wOpsD c ops.toList (masks [] ops.toList) t (rangeB ops.toList.length) K e V H) (S : Sim c.n H0 w0 β e V H a w) : (Code.region id ops true).wp c.P Q a w := by
  rw [Bool.and_eq_true] at ho
  obtain ⟨o1, o2⟩ := ho
  unfold regOk at o1
  have o4 := List.all_eq_true.1 o1
  have hin : ∀ i o, ops.toList[i]? = some o → i < ops.toList.length := fun i o hi => by
    rcases Nat.lt_or_ge i ops.toList.length with h | h
    · exact h
    · rw [List.getElem?_eq_none h] at hi; cases hi
  refine wp_region_any hc.2.2 ?_
  have O : ROk ops.toList := by
    refine ⟨fun i o hi z hz => ?_, fun i o d hi hd hu => ?_⟩
    · have := o4 i (rangeB_mem.2 (hin i o hi))
      rw [hi] at this
      simp only [Bool.and_eq_true, List.all_eq_true] at this
      exact Nat.le_of_ble_eq_true (this.2 z hz)
    · have := o4 i (rangeB_mem.2 (hin i o hi))
      rw [hi] at this
      simp only [hd, Bool.and_eq_true] at this
      rw [elemN_mem.2 hu] at this
      simp at this
  have hl0 : ∀ i, (Array.replicate ops.size false).getD i false = false := fun i => by
    rw [Array.getD_eq_getD_getElem?, Array.getElem?_replicate]; split <;> rfl
  have R : RInv c ops.toList K H0 w0 (Array.replicate ops.size false) t (rangeB ops.toList.length) [] [] a { w with drawn := w.drawn + 1 } := by
    refine ⟨by simp, fun i o hi => ?_, fun i hi => ?_, fun i hi => rangeB_mem.1 (by simpa using hi), .nil, fun x hx => (by cases hx), o2, rangeB_nodup, fun x hx => (by cases hx), fun _ => ⟨β, e, V, H, h, ?_, fun x hx => (by cases hx)⟩⟩
    · rw [hl0] at hi; cases hi
    · rw [hl0]; simp only [List.map_nil, List.not_mem_nil, or_false, true_iff]; exact rangeB_mem.2 hi
    · exact { S with }
  have := wAny_sound hc O hq (rangeB ops.toList.length).length R rfl
  rw [rangeB_length] at this
  simpa using this
end
end
end Go.Proofs.Ytkbancdmhcnhjaa.Hw
