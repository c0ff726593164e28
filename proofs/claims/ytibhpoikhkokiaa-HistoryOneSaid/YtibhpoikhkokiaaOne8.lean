/- HsDraw HsCode HsTab HsFa HsMem HsCmp Ts Tm (joined by merge.py) -/
import Derived.Test.YtibhpoikhkokiaaOne7
import Derived.Orders
import Derived.Deep.LoopGhost
import Derived.Test.YtibhpoikhkokiaaProg
import Derived.KernelRfl
import Derived.Sort.Grow
import Derived.Deep.Draws
import Derived.Test.YtibhpoikhkokiaaOne6
import Derived.Shelf.SlSortCmp.NoneTotal
/- The evaluator is sound for a region whose order is open: it goes through the region in one order, in which all that only looks comes early. -/
set_option linter.unusedVariables false
set_option linter.unusedSimpArgs false
namespace Go.Proofs.Ytibhpoikhkokiaa.Hs
open Go

/-! ### what must come before what -/
theorem maskOf_bit {acc : List Nat} {j : Nat} : ∀ {l : List Nat}, (maskOf acc l).testBit j = true → ∃ z ∈ l, z = j ∨ (acc.getD z 0).testBit j = true
  | [], h => by simp [maskOf] at h
  | z :: r, h => by
    simp only [maskOf, Nat.testBit_or, Bool.or_eq_true] at h
    rcases h with (h | h) | h
    · rw [Nat.testBit_two_pow] at h
      exact ⟨z, List.mem_cons_self, .inl (of_decide_eq_true h)⟩
    · exact ⟨z, List.mem_cons_self, .inr h⟩
    · obtain ⟨y, hy, h⟩ := maskOf_bit h
      exact ⟨y, List.mem_cons_of_mem _ hy, h⟩
theorem masks_pre : ∀ (l : List Oper) (acc : List Nat), ∃ r, masks acc l = acc ++ r ∧ r.length = l.length
  | [], acc => ⟨[], by simp [masks], rfl⟩
  | o :: l, acc => by
    obtain ⟨r, h1, h2⟩ := masks_pre l (acc ++ [maskOf acc (dirOf o)])
    exact ⟨maskOf acc (dirOf o) :: r, by rw [masks, h1]; simp, by simp [h2]⟩
theorem masks_at : ∀ (l : List Oper) (acc : List Nat) (i : Nat) (o : Oper), l[i]? = some o → ∃ acc', (masks acc l).getD (acc.length + i) 0 = maskOf acc' (dirOf o) ∧ acc'.length = acc.length + i ∧ ∃ r, masks acc l = acc' ++ r
  | [], _, i, o, h => by simp at h
  | x :: l, acc, 0, o, h => by
    simp at h
    subst h
    obtain ⟨r, h1, h2⟩ := masks_pre l (acc ++ [maskOf acc (dirOf x)])
    refine ⟨acc, ?_, rfl, maskOf acc (dirOf x) :: r, by rw [masks, h1]; simp⟩
    rw [masks, h1, List.append_assoc]
    simp [List.getD_eq_getElem?_getD]
  | x :: l, acc, i + 1, o, h => by
    obtain ⟨acc', h1, h2, r, h3⟩ := masks_at l (acc ++ [maskOf acc (dirOf x)]) i o (by simpa using h)
    refine ⟨acc', ?_, by simp at h2; omega, r, by rw [masks, h3]⟩
    rw [masks, show acc.length + (i + 1) = (acc ++ [maskOf acc (dirOf x)]).length + i by simp; omega]
    exact h1
/-- One step back. -/
theorem befB_step {ops : List Oper} {i j : Nat} {o : Oper} (ho : ops[i]? = some o) (hlt : ∀ z ∈ dirOf o, z < i) (h : befB (masks [] ops) i j = true) : ∃ z ∈ dirOf o, z = j ∨ befB (masks [] ops) z j = true := by
  obtain ⟨acc', h1, h2, r, h3⟩ := masks_at ops [] i o ho
  unfold befB at h
  simp only [List.length_nil, Nat.zero_add] at h1 h2
  rw [h1] at h
  obtain ⟨z, hz, h⟩ := maskOf_bit h
  refine ⟨z, hz, h.imp id fun h => ?_⟩
  unfold befB
  have hz' := hlt z hz
  rw [h3, List.getD_eq_getElem?_getD, List.getElem?_append_left (by omega), ← List.getD_eq_getElem?_getD]
  exact h
theorem befB_listed {ops : List Oper} (hdir : ∀ i o, ops[i]? = some o → ∀ z ∈ dirOf o, z < i) {S : Nat → Prop} (hcl : ∀ i o, S i → ops[i]? = some o → ∀ z ∈ dirOf o, S z) (hin : ∀ i, S i → i < ops.length) :
    ∀ i j, S i → befB (masks [] ops) i j = true → S j := by
  intro i
  induction i using Nat.strongRecOn with
  | _ i ih =>
    intro j hi hb
    have ho : ops[i]? = some (ops[i]'(hin i hi)) := List.getElem?_eq_getElem _
    obtain ⟨z, hz, h⟩ := befB_step ho (hdir i _ ho) hb
    have hS := hcl i _ hi ho z hz
    rcases h with rfl | h
    · exact hS
    · exact ih z (hdir i _ ho z hz) j hS h
theorem befB_ready {ops : List Oper} (hdir : ∀ i o, ops[i]? = some o → ∀ z ∈ dirOf o, z < i) {S : Nat → Prop} (hcl : ∀ i o, S i → ops[i]? = some o → ∀ z ∈ dirOf o, S z) (hin : ∀ i, S i → i < ops.length)
    {i j : Nat} {o : Oper} (ho : ops[i]? = some o) (hr : ∀ z ∈ dirOf o, S z) (hb : befB (masks [] ops) i j = true) : S j := by
  obtain ⟨z, hz, h⟩ := befB_step ho (hdir i _ ho) hb
  rcases h with rfl | h
  · exact hr _ hz
  · exact befB_listed hdir hcl hin z j (hr z hz) h

theorem elemN_mem {t : Nat} : ∀ {l : List Nat}, elemN t l = true ↔ t ∈ l
  | [] => by simp [elemN]
  | x :: r => by
    unfold elemN
    cases hb : Nat.beq x t with
    | true => simp [Nat.eq_of_beq_eq_true hb]
    | false =>
      have hne : t ≠ x := fun h => by subst h; simp at hb
      simp [hne, elemN_mem (l := r)]

/-! ### what has been gone through ahead of the machine -/
def fillA (ops : List Oper) (a : Act) : List (Nat × Value) → Act
  | [] => a
  | z :: r => fillA ops (a.put (dstAt ops z.1) z.2) r
def dsts (ops : List Oper) (pd : List (Nat × Value)) (d : Nat) : Prop := ∃ z ∈ pd, dstAt ops z.1 = some d
theorem fillA_getD (ops : List Oper) {t : Nat} : ∀ {pd : List (Nat × Value)} {a : Act}, ¬ dsts ops pd t → (fillA ops a pd).tmps.getD t undef = a.tmps.getD t undef
  | [], a, _ => rfl
  | z :: r, a, h => by
    rw [fillA, fillA_getD ops (fun ⟨y, hy, hd⟩ => h ⟨y, List.mem_cons_of_mem _ hy, hd⟩)]
    cases hd : dstAt ops z.1 with
    | none => rfl
    | some d => exact put_getD_ne a (fun e => h ⟨z, List.mem_cons_self, by rw [hd, e]⟩) _
theorem fillA_put (ops : List Oper) {d : Option Tmp} {v : Value} : ∀ {pd : List (Nat × Value)} {a : Act}, (∀ t, d = some t → ¬ dsts ops pd t) → fillA ops (a.put d v) pd = (fillA ops a pd).put d v
  | [], a, _ => rfl
  | z :: r, a, h => by
    rw [fillA, fillA, Act.put_comm a _ _ (fun t ht hz => h t ht ⟨z, List.mem_cons_self, hz⟩), fillA_put ops (fun t ht ⟨y, hy, hd⟩ => h t ht ⟨y, List.mem_cons_of_mem _ hy, hd⟩)]
theorem fillA_take (ops : List Oper) {z : Nat × Value} : ∀ {l1 l2 : List (Nat × Value)} {a : Act}, (∀ t, dstAt ops z.1 = some t → ¬ dsts ops l1 t) → fillA ops a (l1 ++ z :: l2) = fillA ops (a.put (dstAt ops z.1) z.2) (l1 ++ l2)
  | [], l2, a, _ => rfl
  | y :: l1, l2, a, h => by
    rw [List.cons_append, fillA, fillA_take ops (fun t ht ⟨x, hx, hd⟩ => h t ht ⟨x, List.mem_cons_of_mem _ hx, hd⟩), List.cons_append, fillA, Act.put_comm a _ _ (fun t hy ht => h t ht ⟨y, List.mem_cons_self, hy⟩)]

def opdOk (a b : Act) (ops : List Oper) (o : Oper) : Prop := ∀ t ∈ namesOf ops o, a.tmps.getD t undef = b.tmps.getD t undef
theorem opdOk_eval {a b : Act} {ops : List Oper} {o : Oper} (h : opdOk a b ops o) : ∀ x ∈ o.op.operands, a.eval x = b.eval x := by
  intro x hx
  cases x with
  | tmp t => exact h t (List.mem_append_left _ (List.mem_filterMap.2 ⟨.tmp t, by simpa using hx, rfl⟩))
  | _ => rfl
theorem opdOk_wanted {a b : Act} {ops : List Oper} {o : Oper} (h : opdOk a b ops o) : Region.wanted o (yielded ops.toArray a.tmps) = Region.wanted o (yielded ops.toArray b.tmps) := by
  cases hg : o.guard with
  | none => simp [Region.wanted, hg]
  | some jw =>
    obtain ⟨j, want⟩ := jw
    simp only [Region.wanted, hg]
    cases hd : dstAt ops j with
    | none =>
      have : ∀ t : Array Value, yielded ops.toArray t j = none := fun t => by
        unfold dstAt at hd
        unfold yielded
        split at hd
        · rename_i o' ho
          have h1 : (ops.toArray)[j]? = some o' := by simpa using ho
          rw [h1, Option.bind_some, hd]
          rfl
        · rename_i ho
          have h1 : (ops.toArray)[j]? = none := by simpa using ho
          rw [h1]
          rfl
      rw [this, this]
    | some d =>
      rw [dstAt_eq hd, dstAt_eq hd, h d (List.mem_append_right _ (by simp [hg, hd]))]

section
variable {c : Cx} {H0 : Hp} {w0 : World} {β : Nat → Nat} {e : Env} {V : VSt} {H : Hp} {a : Act} {w : World} {o : Oper}
theorem wOp_pureRun (hT : ∀ t i, look t c.T = some i → TiOk c.P t i) (ho : efOf o.op = .pure) {K : Option AV → Env → VSt → Hp → Prop} (h : wOp c o e V H K) (E : EnvOk β e a) :
    ∃ av, K (some av) e V H ∧ ∀ w, (execOp a.eval o).run c.P w = .ok (.value (av.conc β)) w := by
  have gen : wPure c.T o.op e (fun av => K (some av) e V H) → ∃ av, K (some av) e V H ∧ ∀ w, (execOp a.eval o).run c.P w = .ok (.value (av.conc β)) w := fun h => by
    obtain ⟨av, hk, hg⟩ := wPure_sound hT h E
    exact ⟨av, hk, fun w => hg w o.dst o.type o.pos o.after o.guard⟩
  obtain ⟨dst, op, ty, pos, af, g⟩ := o
  cases op with
  | call cc =>
    obtain ⟨callee, args, ats⟩ := cc
    cases callee with
    | value f => cases ho
    | invoke r m => cases ho
    | builtin b =>
      cases b with
      | len =>
        obtain ⟨vs, hvs, h⟩ := withVs_some E h
        have hm : args.map a.eval = vs.toArray := by apply Array.ext'; rw [Array.toList_map]; exact hvs
        split at h
        · rename_i t v hts
          obtain ⟨i, hi, h⟩ := onTI_some h
          obtain ⟨d, hd, hag, hk⟩ := (hT t i hi).desc
          have hat : ats = #[t] := by apply Array.ext'; exact hts
          split at h
          · rename_i el esz eby A n cp hkn _
            rw [hkn] at hk
            cases hk.1
            exact ⟨_, h, fun w => by simp [execOp, resolve, hm, invoke, builtin, hat, Builtin.len_, run_underlying hd, goInt, AV.conc]⟩
          · rename_i s hkn _
            rw [hkn] at hk
            cases (hk : d = .string)
            exact ⟨_, h, fun w => by simp [execOp, resolve, hm, invoke, builtin, hat, Builtin.len_, run_underlying hd, goInt, AV.conc]⟩
          · exact h.elim
        · exact h.elim
      | _ => cases ho
  | load t x => cases ho
  | store t x y => cases ho
  | alloc t => cases ho
  | box t x => cases ho
  | buildSlice t l ps => cases ho
  | makeMap t r => cases ho
  | lookup t m x ok => cases ho
  | mapUpdate t m x y => cases ho
  | range t m => cases ho
  | next it st => cases ho
  | insert t m x y => cases ho
  | entry it => cases ho
  | _ => exact gen h
/-- Of which block a load is, and that it looks at no other. -/
theorem wOp_loadRun (hT : ∀ t i, look t c.T = some i → TiOk c.P t i) {t : TypeId} {x : Operand} (ho : o.op = .load t x) {K : Option AV → Env → VSt → Hp → Prop} (h : wOp c o e V H K) (S : Sim c.n H0 w0 β e V H a w) :
    ∃ v b, K (some (.v v)) e V H ∧ b < w.heap.size ∧ (∀ w', w'.heap[b]? = w.heap[b]? → (execOp a.eval o).run c.P w' = .ok (.value v) w') ∧
      (∀ k1 o1, ev e x = some (.loc k1 o1) → H b = none ∧ ∀ k, V k ≠ none → β k = b → k = k1) ∧ (∀ u, ev e x = some (.v u) → H b ≠ none ∧ ∃ o1, u = .pointer (some ⟨b, o1, none⟩)) := by
  obtain ⟨dst, op, ty, pos, af, g⟩ := o
  cases ho
  obtain ⟨i, hi, h⟩ := onTI_some h
  obtain ⟨p, hp, h⟩ := onAV_some h
  have hTi := hT t i hi
  split at h
  · rename_i k o
    split at h
    · rename_i x' hV
      split at h
      · rename_i hle
        have hle' := Nat.le_of_ble_eq_true hle
        obtain ⟨v, hv, h⟩ := mkV_some h
        obtain ⟨⟨ty', h1⟩, h2, h3⟩ := S.box k x' hV
        refine ⟨v, β k, h, (Array.getElem?_eq_some_iff.1 h1).1, fun w' hw' => ?_, fun k1 o1 h4 => ?_, fun u h4 => ?_⟩
        · have hr := run_loadVar_ok (P := c.P) (w := w') hTi (b := β k) (o := o) (vs := (x'.2.drop o).take i.zs.length) (by rw [List.length_take, List.length_drop]; omega) (fun j u hj => by
            rw [cl_of w' (hw'.trans h1)]
            rw [List.getElem?_take] at hj
            split at hj
            · rw [List.getElem?_drop] at hj; exact hj
            · cases hj) hv
          simp [execOp, ev_eval S.env hp, AV.conc, Instr.loadAt, Instr.sureAddr, hr]
        · rw [hp] at h4
          cases h4
          exact ⟨h2, fun k' hk' hb => S.inj k' k hk' (by rw [hV]; simp) hb⟩
        · rw [hp] at h4; cases h4
      · exact h.elim
    · exact h.elim
  · obtain ⟨b, o, rfl, h⟩ := onPtr_some h
    split at h
    · exact h.elim
    rename_i hzs
    rw [← hzs] at h
    obtain ⟨vs, hl, hc, h⟩ := loadL_some h
    obtain ⟨v, hv, h⟩ := mkV_some h
    -- a value has a cell, so that its block is known
    have hb : ∃ p, H b = some p := by
      cases vs with
      | nil => rw [hzs] at hl; cases hl
      | cons u r =>
        have h1 := hc 0 u rfl
        unfold cl at h1
        cases hb : H b with
        | none => simp only [Nat.add_zero, hb] at h1; cases h1
        | some p => exact ⟨p, rfl⟩
    obtain ⟨p, hb⟩ := hb
    refine ⟨v, b, h, has_lt S.has hb, ?_, ?_, ?_⟩
    rotate_left
    · intro k1 o1 h4; rw [hp] at h4; cases h4
    · intro u hu
      rw [hp] at hu
      cases hu
      exact ⟨by rw [hb]; simp, o, rfl⟩
    intro w' hw'
    have hH : ∀ j u, cl H b j = some u → w'.cell? ⟨b, j, none⟩ = some u := fun j u hj => by
      have := has_cell S.has hj
      unfold World.cell? at this ⊢
      simp only [hw']
      exact this
    have hr := run_loadVar_ok (P := c.P) (w := w') hTi (b := b) (o := o) hl (fun j u hj => hH _ _ (hc j u hj)) hv
    simp [execOp, ev_eval S.env hp, AV.conc, Instr.loadAt, Instr.sureAddr, hr]
  · exact h.elim

/-- What is known of an operation that the evaluator has gone through and the machine has not. -/
def PK (c : Cx) (ops : List Oper) (fl : Act) (e : Env) (β : Nat → Nat) (V : VSt) (H : Hp) (w : World) (z : Nat × Value) : Prop := ∃ o, ops[z.1]? = some o ∧
  ((Region.wanted o (yielded ops.toArray fl.tmps) = false ∧ z.2 = undef) ∨
   (Region.wanted o (yielded ops.toArray fl.tmps) = true ∧
    ((efOf o.op = .pure ∧ ∀ w', (execOp fl.eval o).run c.P w' = .ok (.value z.2) w') ∨
     ∃ t x b, o.op = .load t x ∧ b < w.heap.size ∧ (∀ w', w'.heap[b]? = w.heap[b]? → (execOp fl.eval o).run c.P w' = .ok (.value z.2) w') ∧
       (∀ k1 o1, ev e x = some (.loc k1 o1) → H b = none ∧ ∀ k, V k ≠ none → β k = b → k = k1) ∧ (∀ u, ev e x = some (.v u) → H b ≠ none ∧ ∃ o1, u = .pointer (some ⟨b, o1, none⟩)))))

def okP (ops : List Oper) (bf : List Nat) (x y : Nat) : Prop := x ≠ y ∧ slotOk ops bf x y = true ∧ slotOk ops bf y x = true
def bfP (ops : List Oper) (bf : List Nat) (x y : Nat) : Prop := befB bf x y = false
theorem without_mem {x y : Nat} : ∀ {l : List Nat}, y ∈ without x l ↔ y ∈ l ∧ y ≠ x
  | [] => by simp [without]
  | z :: r => by
    unfold without
    cases hb : Nat.beq x z with
    | true =>
      have := Nat.eq_of_beq_eq_true hb
      subst this
      simp only [without_mem (l := r), List.mem_cons]
      constructor
      · rintro ⟨h1, h2⟩; exact ⟨.inr h1, h2⟩
      · rintro ⟨h1 | h1, h2⟩
        · exact absurd h1 h2
        · exact ⟨h1, h2⟩
    | false =>
      have := Nat.ne_of_beq_eq_false hb
      simp only [List.mem_cons, without_mem (l := r)]
      constructor
      · rintro (h | ⟨h1, h2⟩)
        · subst h; exact ⟨.inl rfl, fun h => this h.symm⟩
        · exact ⟨.inr h1, h2⟩
      · rintro ⟨h1 | h1, h2⟩
        · exact .inl h1
        · exact .inr ⟨h1, h2⟩
theorem without_id {x : Nat} : ∀ {l : List Nat}, x ∉ l → without x l = l
  | [], _ => rfl
  | z :: r, h => by
    unfold without
    cases hb : Nat.beq x z with
    | true => exact absurd (by rw [Nat.eq_of_beq_eq_true hb]; exact List.mem_cons_self) h
    | false => simp only; rw [without_id (fun hh => h (List.mem_cons_of_mem _ hh))]
theorem without_nodup {x : Nat} : ∀ {l : List Nat}, l.Nodup → (without x l).Nodup
  | [], _ => by simp [without]
  | z :: r, h => by
    rw [List.nodup_cons] at h
    unfold without
    cases hb : Nat.beq x z with
    | true => exact without_nodup h.2
    | false => exact List.nodup_cons.2 ⟨fun hh => h.1 (without_mem.1 hh).1, without_nodup h.2⟩
theorem without_length {x : Nat} : ∀ {l : List Nat}, l.Nodup → x ∈ l → (without x l).length + 1 = l.length
  | [], _, h => by cases h
  | z :: r, h, hx => by
    rw [List.nodup_cons] at h
    unfold without
    cases hb : Nat.beq x z with
    | true =>
      have := Nat.eq_of_beq_eq_true hb
      subst this
      simp only
      rw [without_id h.1]; rfl
    | false =>
      have := Nat.ne_of_beq_eq_false hb
      simp only [List.length_cons]
      rw [without_length h.2 ((List.mem_cons.1 hx).resolve_left this)]
theorem pairB_spec {ops : List Oper} {bf : List Nat} {x : Nat} {S : List Nat} (h : pairB ops bf x S = true) : ∀ y ∈ S, y ≠ x → okP ops bf x y ∧ bfP ops bf x y := by
  intro y hy hne
  unfold pairB at h
  have := List.all_eq_true.1 h y (without_mem.2 ⟨hy, hne⟩)
  simp only [Bool.and_eq_true, Bool.not_eq_true'] at this
  exact ⟨⟨hne.symm, this.1.2, this.2⟩, this.1.1⟩
theorem emptyB_spec : ∀ {l : List Nat}, emptyB l = true → l = []
  | [], _ => rfl
  | _ :: _, h => by cases h

theorem slotOk_use {ops : List Oper} {bf : List Nat} {x y : Nat} (h : slotOk ops bf x y = true) {ox : Oper} (hx : ops[x]? = some ox) {d : Nat} (hd : dstAt ops y = some d) (hu : d ∈ namesOf ops ox ∨ ox.dst = some d) :
    befB bf x y = true ∨ (efAt ops y = true ∧ befB bf y x = true) := by
  unfold dstAt at hd
  split at hd
  · rename_i oy hy
    unfold slotOk at h
    simp only [hx, hy, hd, Bool.or_eq_true, Bool.and_eq_true] at h
    rcases h with (⟨h1, h2⟩ | h) | ⟨h1, h2⟩
    · rcases hu with hu | hu
      · rw [elemN_mem.2 hu] at h1; cases h1
      · rw [hu] at h2
        simp at h2
    · exact .inl h
    · right
      refine ⟨?_, h2⟩
      unfold efAt
      rw [hy]
      exact h1
  · cases hd

/-- The state in the midst of such a region. -/
structure RInv (c : Cx) (ops : List Oper) (K : Env → VSt → Hp → Prop) (H0 : Hp) (w0 : World) (listed : Array Bool) (t : OT) (ρ tried : List Nat) (pd : List (Nat × Value)) (a : Act) (w : World) : Prop where
  size : listed.size = ops.length
  closed : ∀ i o, listed.getD i false = true → ops[i]? = some o → ∀ z ∈ dirOf o, listed.getD z false = true
  mem : ∀ i, i < ops.length → (listed.getD i false = false ↔ i ∈ ρ ∨ i ∈ pd.map (·.1))
  lt : ∀ i, i ∈ ρ ∨ i ∈ pd.map (·.1) → i < ops.length
  nd : pd.Pairwise (fun x y => okP ops (masks [] ops) x.1 y.1)
  pl : ∀ x ∈ pd, efAt ops x.1 = false
  ord : tOk ops (masks [] ops) t ρ tried = true
  uniq : ρ.Nodup
  both : ∀ x ∈ pd, ∀ y ∈ ρ, okP ops (masks [] ops) x.1 y ∧ bfP ops (masks [] ops) x.1 y
  sim : (tried = [] ∨ t.isDone = false) → ∃ β e V H, wOpsD c ops (masks [] ops) t ρ K e V H ∧ Sim c.n H0 w0 β e V H (fillA ops a pd) w ∧ ∀ x ∈ pd, PK c ops (fillA ops a pd) e β V H w x

/-- What is asked of a region once. -/
structure ROk (ops : List Oper) : Prop where
  dir : ∀ (i : Nat) (o : Oper), ops[i]? = some o → ∀ z ∈ dirOf o, z < i
  self : ∀ (i : Nat) (o : Oper) (d : Nat), ops[i]? = some o → o.dst = some d → d ∉ namesOf ops o
theorem okP.symm {ops : List Oper} {bf : List Nat} {x y : Nat} (h : okP ops bf x y) : okP ops bf y x := ⟨Ne.symm h.1, h.2.2, h.2.1⟩
theorem getD_set {l : Array Bool} {i j : Nat} (hi : i < l.size) : (l.setIfInBounds i true).getD j false = if j = i then true else l.getD j false := by
  simp only [Array.getD_eq_getD_getElem?, Array.getElem?_setIfInBounds]
  by_cases h : i = j
  · subst h; simp [hi]
  · simp [h, Ne.symm h]
theorem ready_iff {ops : List Oper} {listed : Array Bool} (hs : listed.size = ops.length) {i : Nat} (h : i ∈ Region.ready .any ops.toArray listed) :
    i < ops.length ∧ listed.getD i false = false ∧ ∃ o, ops[i]? = some o ∧ ∀ z ∈ dirOf o, listed.getD z false = true := by
  unfold Region.ready at h
  rw [List.mem_filter, List.mem_range] at h
  obtain ⟨h1, h2⟩ := h
  have h1' : i < ops.length := by simpa using h1
  rw [Bool.and_eq_true] at h2
  have hi : ops[i]? = some (ops[i]'h1') := List.getElem?_eq_getElem _
  refine ⟨h1', ?_, _, hi, ?_⟩
  · have h3 := h2.1
    rw [Array.getD_eq_getD_getElem?] at h3 ⊢
    rw [Array.getElem?_eq_getElem (by omega)] at h3 ⊢
    simpa using h3
  · have h3 := h2.2
    have h4 : (ops.toArray)[i]? = some (ops[i]'h1') := by simp
    rw [h4, Option.map_some, Option.getD_some] at h3
    intro z hz
    unfold dirOf at hz
    obtain ⟨x, hx, rfl⟩ := List.mem_map.1 hz
    obtain ⟨hx1, hx2⟩ := List.mem_filter.1 hx
    have h5 := (Array.all_eq_true_iff_forall_mem.1 h3) x (by simpa using hx1)
    rw [hx2] at h5
    simpa using h5

section
variable {ops : List Oper} {K : Env → VSt → Hp → Prop} {listed : Array Bool} {t : OT} {ρ tried : List Nat} {pd : List (Nat × Value)}
theorem RInv.notyet (R : RInv c ops K H0 w0 listed t ρ tried pd a w) {z : Nat} (h : z ∈ ρ ∨ z ∈ pd.map (·.1)) : listed.getD z false = false := (R.mem z (R.lt z h)).2 h
theorem RInv.bef (O : ROk ops) (R : RInv c ops K H0 w0 listed t ρ tried pd a w) {i j : Nat} {o : Oper} (ho : ops[i]? = some o) (hr : ∀ z ∈ dirOf o, listed.getD z false = true) (hb : befB (masks [] ops) i j = true) : listed.getD j false = true :=
  befB_ready O.dir (S := fun i => listed.getD i false = true) (fun i o hi ho => R.closed i o hi ho) (fun i hi => by
    have : i < listed.size := by
      by_cases h : i < listed.size
      · exact h
      · rw [Array.getD_eq_getD_getElem?, Array.getElem?_eq_none (by omega)] at hi; cases hi
    rw [R.size] at this; exact this) ho hr hb
/-- Nothing that an operation looks at is still to come. -/
theorem RInv.opd (O : ROk ops) (R : RInv c ops K H0 w0 listed t ρ tried pd a w) {i : Nat} {o : Oper} (ho : ops[i]? = some o) (hr : ∀ z ∈ dirOf o, listed.getD z false = true) {pd' : List (Nat × Value)} (hp : ∀ z ∈ pd', z ∈ pd ∧ okP ops (masks [] ops) i z.1) : ∀ d, d ∈ namesOf ops o ∨ o.dst = some d → ¬ dsts ops pd' d := by
  rintro d hd ⟨z, hz, hzd⟩
  obtain ⟨hz1, hz2⟩ := hp z hz
  have hm : z.1 ∈ pd.map (·.1) := List.mem_map_of_mem hz1
  rcases slotOk_use hz2.2.1 ho hzd hd with h | ⟨h, _⟩
  · have := R.bef O ho hr h
    rw [R.notyet (.inr hm)] at this
    cases this
  · rw [R.pl z hz1] at h; cases h

/-- The machine takes what the evaluator has gone through already. -/
theorem RInv.take (O : ROk ops) (R : RInv c ops K H0 w0 listed t ρ [] pd a w) {i : Nat} {v : Value} (hi : (i, v) ∈ pd) {o : Oper} (ho : ops[i]? = some o) (hr : ∀ z ∈ dirOf o, listed.getD z false = true)
    {next : Act → World → Prop} {Q : Exit → Act → World → Prop} (hn : ∀ pd', pd'.length + 1 = pd.length → RInv c ops K H0 w0 (listed.setIfInBounds i true) t ρ [] pd' (a.put o.dst v) w → next (a.put o.dst v) w) : wpOp c.P ops.toArray Q i next a w := by
  obtain ⟨l1, l2, rfl⟩ := List.append_of_mem hi
  have hlen : (l1 ++ l2).length + 1 = (l1 ++ (i, v) :: l2).length := by simp; omega
  have hnd := R.nd
  rw [List.pairwise_append] at hnd
  obtain ⟨n1, n2, n3⟩ := hnd
  rw [List.pairwise_cons] at n2
  have hother : ∀ z ∈ l1 ++ l2, z ∈ l1 ++ (i, v) :: l2 ∧ okP ops (masks [] ops) i z.1 := fun z hz => by
    rcases List.mem_append.1 hz with h | h
    · exact ⟨List.mem_append_left _ h, (n3 z h _ List.mem_cons_self).symm⟩
    · exact ⟨List.mem_append_right _ (List.mem_cons_of_mem _ h), n2.1 z h⟩
  have hclean := R.opd O ho hr hother
  have hdst : dstAt ops i = o.dst := by unfold dstAt; rw [ho]
  have hfill : fillA ops a (l1 ++ (i, v) :: l2) = fillA ops (a.put o.dst v) (l1 ++ l2) := by
    rw [fillA_take ops (fun t ht ⟨z, hz, hd⟩ => hclean t (.inr (hdst.symm.trans ht)) ⟨z, List.mem_append_left _ hz, hd⟩), hdst]
  have hil : i < listed.size := by rw [R.size]; exact R.lt i (.inr (by simp))
  have Rn : RInv c ops K H0 w0 (listed.setIfInBounds i true) t ρ [] (l1 ++ l2) (a.put o.dst v) w := by
    obtain ⟨β, e, V, H, hw, S, hpk⟩ := R.sim (.inl rfl)
    rw [hfill] at S hpk
    refine ⟨by simpa using R.size, fun j oj hj hoj z hz => ?_, fun j hj => ?_, fun j hj => R.lt j (hj.imp id (fun h => by
      obtain ⟨z, hz, rfl⟩ := List.mem_map.1 h
      exact List.mem_map_of_mem (hother z hz).1)), ?_, fun x hx => R.pl x (hother x hx).1, R.ord, R.uniq, fun x hx => R.both x (hother x hx).1, fun _ => ⟨β, e, V, H, hw, S, fun x hx => hpk x (hother x hx).1⟩⟩
    · rw [getD_set hil] at hj ⊢
      by_cases hji : j = i
      · subst hji; rw [ho] at hoj; cases hoj
        rw [hr z hz]; simp
      · simp only [hji, if_false] at hj
        rw [R.closed j oj hj hoj z hz]; simp
    · rw [getD_set hil]
      by_cases hji : j = i
      · subst hji
        simp only [if_true, Bool.true_eq_false, false_iff, not_or]
        refine ⟨fun h => (R.both _ hi j h).1.1 rfl, fun h => ?_⟩
        obtain ⟨z, hz, hzj⟩ := List.mem_map.1 h
        exact (hother z hz).2.1 hzj.symm
      · simp only [hji, if_false]
        rw [R.mem j hj]
        simp [hji]
    · rw [List.pairwise_append]
      exact ⟨n1, n2.2, fun x hx y hy => n3 x hx y (List.mem_cons_of_mem _ hy)⟩
  obtain ⟨β, e, V, H, hw, S, hpk⟩ := R.sim (.inl rfl)
  obtain ⟨o', ho', hk⟩ := hpk _ hi
  rw [ho] at ho'
  cases ho'
  have hop : opdOk a (fillA ops a (l1 ++ (i, v) :: l2)) ops o := fun t ht => by
    rw [hfill]
    have hne : ∀ d, o.dst = some d → t ≠ d := fun d hd he => O.self i o d ho hd (he ▸ ht)
    rw [fillA_getD ops (hclean t (.inl ht))]
    cases hd : o.dst with
    | none => rfl
    | some d => rw [put_getD_ne a (hne d hd)]
  have hoA : (ops.toArray)[i]? = some o := by simpa using ho
  unfold wpOp
  rw [hoA]
  simp only
  rw [opdOk_wanted hop]
  rcases hk with ⟨h1, h2⟩ | ⟨h1, h2⟩
  · rw [if_neg (by rw [h1]; decide)]
    have := hn _ hlen Rn
    rw [show v = undef from h2] at this
    exact this
  · rw [if_pos h1]
    left
    have hns : ∀ cs b, o.op ≠ .select cs b := by
      intro cs b hs
      rcases h2 with ⟨h3, _⟩ | ⟨t, x, b', h3, _⟩
      · rw [hs] at h3; cases h3
      · rw [hs] at h3; cases h3
    have hex : execOp a.eval o = execOp (fillA ops a (l1 ++ (i, v) :: l2)).eval o := execOp_congr o hns (opdOk_eval hop)
    refine wp_value (v := v) (w' := w) ?_ (hn _ hlen Rn)
    rw [hex]
    rcases h2 with ⟨_, h3⟩ | ⟨t, x, b, _, _, h3, _⟩
    · exact h3 w
    · exact h3 w rfl

/-- The evaluator goes ahead. -/
theorem RInv.ahead (hc : CxOk c) (O : ROk ops) {x : Nat} (R : RInv c ops K H0 w0 listed (.look x t) ρ [] pd a w) : ∃ v, RInv c ops K H0 w0 listed t (without x ρ) [] ((x, v) :: pd) a w := by
  obtain ⟨β, e, V, H, hw, S, hpk⟩ := R.sim (.inl rfl)
  have hord := R.ord
  simp only [tOk, Bool.and_eq_true, Bool.not_eq_true'] at hord
  obtain ⟨⟨⟨⟨_, hin⟩, hx⟩, hpair⟩, hrest⟩ := hord
  replace hin := elemN_mem.1 hin
  replace hpair := pairB_spec hpair
  unfold wOpsD at hw
  cases ho : ops[x]? with
  | none => simp only [ho] at hw
  | some o =>
    simp only [ho] at hw
    have hef : isEf (efOf o.op) = false := by unfold efAt at hx; rw [ho] at hx; exact hx
    · have hdst : dstAt ops x = o.dst := by unfold dstAt; rw [ho]
      -- the slot is no other's
      have hfree : ∀ z ∈ pd, ∀ d, o.dst = some d → ∀ oz, ops[z.1]? = some oz → d ∉ namesOf ops oz ∧ oz.dst ≠ some d := by
        intro z hz d hd oz hoz
        obtain ⟨h1, h2⟩ := R.both z hz x hin
        have key : ∀ (_ : d ∈ namesOf ops oz ∨ oz.dst = some d), False := fun hu => by
          rcases slotOk_use h1.2.1 hoz (hdst.trans hd) hu with h | ⟨h, _⟩
          · rw [show befB (masks [] ops) z.1 x = false from h2] at h; cases h
          · rw [hx] at h; cases h
        exact ⟨fun h => key (.inl h), fun h => key (.inr h)⟩
      have hnod : ∀ t, o.dst = some t → ¬ dsts ops pd t := by
        rintro t ht ⟨z, hz, hzd⟩
        unfold dstAt at hzd
        split at hzd
        · rename_i oz hoz
          exact (hfree z hz t ht oz hoz).2 hzd
        · cases hzd
      have build : ∀ (v : Value) (e' : Env), wOpsD c ops (masks [] ops) t (without x ρ) K e' V H → Sim c.n H0 w0 β e' V H ((fillA ops a pd).put o.dst v) w → (∀ t av, some t ≠ o.dst → e' t = some av → e t = some av) → PK c ops ((fillA ops a pd).put o.dst v) e' β V H w (x, v) → RInv c ops K H0 w0 listed t (without x ρ) [] ((x, v) :: pd) a w := by
        intro v e' hw' S' he' hpkx
        have hf : fillA ops a ((x, v) :: pd) = (fillA ops a pd).put o.dst v := by
          rw [fillA, hdst, fillA_put ops (fun t ht => hnod t ht)]
        refine ⟨R.size, R.closed, fun j hj => ?_, fun j hj => R.lt j ?_, ?_, fun y hy => ?_, hrest, without_nodup R.uniq, fun y hy z hz => ?_, fun _ => ⟨β, e', V, H, hw', by rw [hf]; exact S', fun y hy => ?_⟩⟩
        · rw [R.mem j hj]
          simp only [List.mem_cons, List.map_cons, without_mem]
          constructor
          · rintro (h | h)
            · by_cases hjx : j = x
              · exact .inr (.inl hjx)
              · exact .inl ⟨h, hjx⟩
            · exact .inr (.inr h)
          · rintro (h | h | h)
            · exact .inl h.1
            · exact .inl (h ▸ hin)
            · exact .inr h
        · simp only [List.mem_cons, List.map_cons, without_mem] at hj ⊢
          rcases hj with h | h | h
          · exact .inl h.1
          · exact .inl (h ▸ hin)
          · exact .inr h
        · rw [List.pairwise_cons]
          exact ⟨fun y hy => (R.both y hy x hin).1.symm, R.nd⟩
        · rcases List.mem_cons.1 hy with rfl | hy
          · exact hx
          · exact R.pl y hy
        · rcases List.mem_cons.1 hy with rfl | hy
          · exact hpair z (without_mem.1 hz).1 (without_mem.1 hz).2
          · exact R.both y hy z (without_mem.1 hz).1
        · rw [hf]
          rcases List.mem_cons.1 hy with rfl | hy
          · exact hpkx
          · obtain ⟨oy, hoy, hk⟩ := hpk y hy
            refine ⟨oy, hoy, ?_⟩
            have hop : opdOk ((fillA ops a pd).put o.dst v) (fillA ops a pd) ops oy := fun t ht => by
              cases hd : o.dst with
              | none => rfl
              | some d => rw [put_getD_ne _ (fun h => (hfree y hy d hd oy hoy).1 (by rw [← h]; exact ht))]
            rw [opdOk_wanted hop]
            rcases hk with hk | ⟨h1, hk⟩
            · exact .inl hk
            · refine .inr ⟨h1, ?_⟩
              have hns : ∀ cs b, oy.op ≠ .select cs b := by
                intro cs b hs
                rcases hk with ⟨h3, _⟩ | ⟨t, x', b', h3, _⟩
                · rw [hs] at h3; cases h3
                · rw [hs] at h3; cases h3
              rw [execOp_congr oy hns (opdOk_eval hop)]
              rcases hk with hk | ⟨t, x', b, h2, h3, h4, h5, h6⟩
              · exact .inl hk
              · refine .inr ⟨t, x', b, h2, h3, h4, ?_, ?_⟩
                · intro k1 o1 hev
                  refine h5 k1 o1 ?_
                  cases x' with
                  | tmp s =>
                    refine he' s _ (fun hs => ?_) hev
                    exact (hfree y hy s hs.symm oy hoy).1 (List.mem_append_left _ (List.mem_filterMap.2 ⟨.tmp s, by rw [h2]; simp [Op.operands], rfl⟩))
                  | _ => exact hev
                · intro u hev
                  refine h6 u ?_
                  cases x' with
                  | tmp s =>
                    refine he' s _ (fun hs => ?_) hev
                    exact (hfree y hy s hs.symm oy hoy).1 (List.mem_append_left _ (List.mem_filterMap.2 ⟨.tmp s, by rw [h2]; simp [Op.operands], rfl⟩))
                  | _ => exact hev
      have hself : ∀ v, opdOk ((fillA ops a pd).put o.dst v) (fillA ops a pd) ops o := fun v t ht => by
        cases hd : o.dst with
        | none => rfl
        | some d => rw [put_getD_ne _ (fun h => O.self x o d ho hd (by rw [← h]; exact ht))]
      have hfin : ∀ (av : Option AV) t b, some t ≠ o.dst → fin c.n o.dst av e t = some b → e t = some b := by
        intro av t b hne hb
        cases hd : o.dst with
        | none => rw [hd] at hb; exact hb
        | some d =>
          rw [hd] at hb hne
          have hne' : t ≠ d := fun h => hne (by rw [h])
          cases av with
          | none => exact (del_some hb).2
          | some y =>
            cases hn : Nat.blt d c.n with
            | true => simp only [fin, hn] at hb; rw [upd_other hne'] at hb; exact hb
            | false => simp only [fin, hn] at hb; exact (del_some hb).2
      have hevx : ∀ (av : Option AV) (y : Operand) b, y ∈ o.op.operands → ev (fin c.n o.dst av e) y = some b → ev e y = some b := by
        intro av y b hy hb
        cases y with
        | tmp s =>
          refine hfin av s b (fun hs => ?_) hb
          exact O.self x o s ho hs.symm (List.mem_append_left _ (List.mem_filterMap.2 ⟨.tmp s, by simpa using hy, rfl⟩))
        | _ => exact hb
      rcases wStep_cases hw S.env with ⟨hwant, h⟩ | ⟨hwant, h⟩
      · cases hop : efOf o.op with
        | pure =>
          obtain ⟨av, hk, hrun⟩ := wOp_pureRun hc.1 hop h S.env
          refine ⟨av.conc β, build _ _ hk (S.put o.dst rfl) (hfin _) ⟨o, ho, .inr ⟨by rw [opdOk_wanted (hself _)]; exact hwant, .inl ⟨hop, fun w' => ?_⟩⟩⟩⟩
          have hns : ∀ cs b, o.op ≠ .select cs b := fun cs b hs => by rw [hs] at hop; cases hop
          rw [execOp_congr o hns (opdOk_eval (hself _))]
          exact hrun w'
        | load =>
          have hl : ∃ t y, o.op = .load t y := by
            cases hoo : o.op <;> rw [hoo] at hop <;> first | (cases hop; done) | exact ⟨_, _, rfl⟩ | skip
            rename_i cc
            obtain ⟨callee, args, ats⟩ := cc
            cases callee with
            | builtin b => cases b <;> cases hop
            | _ => cases hop
          obtain ⟨t, y, hty⟩ := hl
          obtain ⟨v, b, hk, hb, hrun, hc1, hc2⟩ := wOp_loadRun hc.1 hty h S
          have hy : y ∈ o.op.operands := by rw [hty]; simp [Op.operands]
          refine ⟨v, build _ _ hk (S.put o.dst rfl) (hfin _) ⟨o, ho, .inr ⟨by rw [opdOk_wanted (hself _)]; exact hwant, .inr ⟨t, y, b, hty, hb, fun w' hw' => ?_, fun k1 o1 hev => hc1 k1 o1 (hevx _ y _ hy hev), fun u hev => hc2 u (hevx _ y _ hy hev)⟩⟩⟩⟩
          have hns : ∀ cs b, o.op ≠ .select cs b := fun cs b hs => by rw [hs] at hty; cases hty
          rw [execOp_congr o hns (opdOk_eval (hself _))]
          exact hrun w' hw'
        | quiet => rw [hop] at hef; cases hef
        | write => rw [hop] at hef; cases hef
      · exact ⟨undef, build _ _ h (S.put o.dst rfl) (hfin _) ⟨o, ho, .inl ⟨by rw [opdOk_wanted (hself _)]; exact hwant, rfl⟩⟩⟩

theorem wp_fill {fl : Act} {N next : Act → World → Prop} {Q : Exit → Act → World → Prop} (he : execOp a.eval o = execOp fl.eval o) (hn : ∀ v w', N (fl.put o.dst v) w' → next (a.put o.dst v) w')
    (hd : ∀ d v w', ¬ N (({ fl with defers := d :: fl.defers } : Act).put o.dst v) w') (h : o.wp c.P fl w N (fun _ _ _ => False)) : o.wp c.P a w next Q := by
  unfold Oper.wp at h ⊢
  rw [he]
  generalize (execOp fl.eval o).run c.P w = r at h ⊢
  cases r with
  | halt x w' => cases x <;> simp only [Oper.upon] at h ⊢
  | ok n w' =>
    cases n <;> simp only [Oper.upon] at h ⊢
    all_goals first
      | exact hn _ _ h
      | exact (hd _ _ _ h).elim
      | exact Calls.mono h (fun e w'' he => by
          cases e with
          | returned v => exact hn _ _ he
          | panicked ch => exact he.elim
          | outgrown => obtain ⟨_, _, he⟩ := he; exact he.elim)
      | exact Rows.mono h (fun _ _ he => hn _ _ he)

/-- What a load that has been gone through is told of an operation that writes. -/
def lateAt (e : Env) (H H' : Hp) (w : Bool) (k : Option Nat) (x : Operand) : Prop := match ev e x with
  | none => False
  | some (.loc k1 _) => (match k with | none => True | some k2 => k1 ≠ k2)
  | some (.v v) => (match k with
    | some _ => True
    | none => w = true → ∀ p, v = .pointer (some p) → H' p.block = H p.block)
theorem lateL_P {bf S : List Nat} {i : Nat} {wr : Bool} {k : Option Nat} {e : Env} {H H' : Hp} {P : Prop} : ∀ {l : List Oper} {n : Nat}, lateL bf S i wr k e H H' n l P → P
  | [], _, h => h
  | o :: r, n, h => by
    unfold lateL at h
    split at h
    · split at h
      · exact lateL_P h
      · split at h
        · exact h.elim
        · split at h
          · exact lateL_P h
          · split at h
            · exact h.elim
            · exact lateL_P h
        · split at h
          · exact lateL_P h
          · split at h
            · exact lateL_P h
            · split at h
              · exact lateL_P h.2
              · exact lateL_P h
    · exact lateL_P h
theorem lateL_at {bf S : List Nat} {i : Nat} {wr : Bool} {k : Option Nat} {e : Env} {H H' : Hp} {P : Prop} : ∀ {l : List Oper} {j n : Nat} {oj : Oper}, lateL bf S i wr k e H H' n l P → l[j]? = some oj → ∀ t x, oj.op = .load t x → befB bf i (n + j) = true ∨ n + j ∈ S ∨ lateAt e H H' wr k x
  | [], j, n, oj, _, hj, _, _, _ => by simp at hj
  | o :: r, j + 1, n, oj, h, hj, t, x, hx => by
    have hr : lateL bf S i wr k e H H' (n + 1) r P := by
      unfold lateL at h
      split at h
      · split at h
        · exact h
        · split at h
          · exact h.elim
          · split at h
            · exact h
            · split at h
              · exact h.elim
              · exact h
          · split at h
            · exact h
            · split at h
              · exact h
              · split at h
                · exact h.2
                · exact h
      · exact h
    have := lateL_at (l := r) (j := j) (n := n + 1) hr (by simpa using hj) t x hx
    rw [show n + (j + 1) = n + 1 + j by omega]
    exact this
  | y :: r, 0, n, oj, h, hj, t, x, hx => by
    simp at hj
    subst hj
    simp only [lateL, hx] at h
    split at h
    · rename_i hb
      rw [Bool.or_eq_true] at hb
      exact hb.imp id fun hb => .inl (elemN_mem.1 hb)
    · refine .inr (.inr ?_)
      unfold lateAt
      split at h
      · exact h.elim
      · rename_i k1 o1 hev
        rw [hev]
        split at h
        · trivial
        · rename_i k2
          split at h
          · exact h.elim
          · rename_i hb
            exact Nat.ne_of_beq_eq_false hb
      · rename_i v hev
        rw [hev]
        split at h
        · trivial
        · split at h
          · intro hw; cases hw
          · split at h
            · rename_i p0
              intro _ p hp
              cases hp
              exact h.1
            · rename_i hnp
              intro _ p hp
              exact absurd hp (hnp p)
theorem lateP_P {bf S : List Nat} {ops : List Oper} {i : Nat} {o : Oper} {e : Env} {H H' : Hp} {P : Prop} (h : lateP bf S ops i o e H H' P) : P := by
  unfold lateP at h
  split at h
  · split at h <;> exact lateL_P h
  · exact h

/-- The machine and the evaluator go on together. -/
theorem RInv.run (hc : CxOk c) (O : ROk ops) {i : Nat} {u : OT} (R : RInv c ops K H0 w0 listed (.act i t u) ρ tried pd a w) (ho : ops[i]? = some o) (hr : ∀ z ∈ dirOf o, listed.getD z false = true)
    {next : Act → World → Prop} {Q : Exit → Act → World → Prop} (hn : ∀ a' w', RInv c ops K H0 w0 (listed.setIfInBounds i true) t (without i ρ) [] pd a' w' → next a' w') : wpOp c.P ops.toArray Q i next a w := by
  obtain ⟨β, e, V, H, hw, S, hpk⟩ := R.sim (.inr rfl)
  have hord := R.ord
  simp only [tOk, Bool.and_eq_true, Bool.not_eq_true'] at hord
  obtain ⟨⟨⟨⟨hin, hi⟩, hpair⟩, hrest⟩, _⟩ := hord
  replace hin := elemN_mem.1 hin
  replace hpair := pairB_spec hpair
  have hdst : dstAt ops i = o.dst := by unfold dstAt; rw [ho]
  have hclean := R.opd O ho hr (pd' := pd) (fun z hz => ⟨hz, (R.both z hz i hin).1.symm⟩)
  have hnot : ∀ z ∈ pd, befB (masks [] ops) i z.1 = true → False := fun z hz h => by
    have := R.bef O ho hr h
    rw [R.notyet (.inr (List.mem_map_of_mem hz))] at this
    cases this
  have hfree : ∀ z ∈ pd, ∀ d, o.dst = some d → ∀ oz, ops[z.1]? = some oz → d ∉ namesOf ops oz := by
    intro z hz d hd oz hoz hu
    obtain ⟨h1, h2⟩ := R.both z hz i hin
    rcases slotOk_use h1.2.1 hoz (hdst.trans hd) (.inl hu) with h | ⟨_, h⟩
    · rw [show befB (masks [] ops) z.1 i = false from h2] at h; cases h
    · exact hnot z hz h
  have hop : opdOk a (fillA ops a pd) ops o := fun t ht => (fillA_getD ops (hclean t (.inl ht))).symm
  have hfill : ∀ v, fillA ops (a.put o.dst v) pd = (fillA ops a pd).put o.dst v := fun v => fillA_put ops (fun t ht => hclean t (.inr ht))
  have hil : i < listed.size := by rw [R.size]; exact R.lt i (.inl hin)
  have hoA : (ops.toArray)[i]? = some o := by simpa using ho
  unfold wOpsD at hw
  simp only [ho] at hw
  have hw : wStep c ops o (fun e' V' H' => lateP (masks [] ops) ρ ops i o e H H' (wOpsD c ops (masks [] ops) t (without i ρ) K e' V' H')) e V H := by
    split at hw
    · exact hw
    · exact hw.1
  · skip
    have build : ∀ (v : Value) (β' : Nat → Nat) (e1 e' : Env) (V' : VSt) (H' : Hp) (w' : World), wOpsD c ops (masks [] ops) t (without i ρ) K e' V' H' → Sim c.n H0 w0 β' e' V' H' ((fillA ops a pd).put o.dst v) w' → (∀ t av, some t ≠ o.dst → e' t = some av → e1 t = some av) →
        (∀ t av, e1 t = some av → e t = some av) → (∀ b, b < w.heap.size → H b = none → H' b = none) → w.heap.size ≤ w'.heap.size → (∀ k, V' k ≠ none → (V k ≠ none ∧ β' k = β k) ∨ w.heap.size ≤ β' k) →
        (∀ z ∈ pd, ∀ t x b oz, ops[z.1]? = some oz → oz.op = .load t x → b < w.heap.size → (∀ k1 o1, ev e x = some (.loc k1 o1) → H b = none ∧ ∀ k, V k ≠ none → β k = b → k = k1) → (∀ u, ev e x = some (.v u) → H b ≠ none ∧ ∃ o1, u = .pointer (some ⟨b, o1, none⟩)) →
          w'.heap[b]? = w.heap[b]? ∧ (∀ u, ev e x = some (.v u) → H' b ≠ none ∧ ∃ o1, u = .pointer (some ⟨b, o1, none⟩))) → RInv c ops K H0 w0 (listed.setIfInBounds i true) t (without i ρ) [] pd (a.put o.dst v) w' := by
      intro v β' e1 e' V' H' w' hw' S' he1 he hnone hsz hbeta hload
      refine ⟨by simpa using R.size, fun j oj hj hoj z hz => ?_, fun j hj => ?_, fun j hj => R.lt j (hj.imp (fun h => (without_mem.1 h).1) id), R.nd, R.pl, hrest, without_nodup R.uniq, fun x hx y hy => R.both x hx y (without_mem.1 hy).1, fun _ => ⟨β', e', V', H', hw', by rw [hfill]; exact S', fun z hz => ?_⟩⟩
      · rw [getD_set hil] at hj ⊢
        by_cases hji : j = i
        · subst hji; rw [ho] at hoj; cases hoj
          rw [hr z hz]; simp
        · simp only [hji, if_false] at hj
          rw [R.closed j oj hj hoj z hz]; simp
      · rw [getD_set hil]
        by_cases hji : j = i
        · subst hji
          simp only [if_true, Bool.true_eq_false, false_iff, not_or]
          refine ⟨fun h => (without_mem.1 h).2 rfl, fun h => ?_⟩
          obtain ⟨z, hz, hzj⟩ := List.mem_map.1 h
          exact (R.both z hz j hin).1.1 hzj
        · simp only [hji, if_false]
          rw [R.mem j hj, without_mem]
          simp [hji]
      · rw [hfill]
        obtain ⟨oz, hoz, hk⟩ := hpk z hz
        refine ⟨oz, hoz, ?_⟩
        have hop' : opdOk ((fillA ops a pd).put o.dst v) (fillA ops a pd) ops oz := fun t ht => by
          cases hd : o.dst with
          | none => rfl
          | some d => rw [put_getD_ne _ (fun h => hfree z hz d hd oz hoz (by rw [← h]; exact ht))]
        rw [opdOk_wanted hop']
        rcases hk with hk | ⟨h1, hk⟩
        · exact .inl hk
        · refine .inr ⟨h1, ?_⟩
          have hns : ∀ cs b, oz.op ≠ .select cs b := by
            intro cs b hs
            rcases hk with ⟨h3, _⟩ | ⟨t, x', b', h3, _⟩
            · rw [hs] at h3; cases h3
            · rw [hs] at h3; cases h3
          rw [execOp_congr oz hns (opdOk_eval hop')]
          rcases hk with hk | ⟨t, x, b, h2, h3, h4, h5, h6⟩
          · exact .inl hk
          · obtain ⟨g1, g2⟩ := hload z hz t x b oz hoz h2 h3 h5 h6
            have hev : ∀ av, ev e' x = some av → ev e x = some av := by
              intro av hav
              cases x with
              | tmp s =>
                refine he s _ (he1 s _ (fun hs => ?_) hav)
                exact hfree z hz s hs.symm oz hoz (List.mem_append_left _ (List.mem_filterMap.2 ⟨.tmp s, by rw [h2]; simp [Op.operands], rfl⟩))
              | _ => exact hav
            refine .inr ⟨t, x, b, h2, Nat.lt_of_lt_of_le h3 hsz, fun w2 hw2 => h4 w2 (hw2.trans g1), fun k1 o1 hk1 => ?_, fun u hu => g2 u (hev _ hu)⟩
            obtain ⟨p1, p2⟩ := h5 k1 o1 (hev _ hk1)
            refine ⟨hnone b h3 p1, fun k hkk hb => ?_⟩
            rcases hbeta k hkk with ⟨q1, q2⟩ | q
            · exact p2 k q1 (q2 ▸ hb)
            · omega
    have hfin : ∀ (e1 : Env) (av : Option AV) t b, some t ≠ o.dst → fin c.n o.dst av e1 t = some b → e1 t = some b := by
      intro e1 av t b hne hb
      cases hd : o.dst with
      | none => rw [hd] at hb; exact hb
      | some d =>
        rw [hd] at hb hne
        have hne' : t ≠ d := fun h => hne (by rw [h])
        cases av with
        | none => exact (del_some hb).2
        | some y =>
          cases hn : Nat.blt d c.n with
          | true => simp only [fin, hn] at hb; rw [upd_other hne'] at hb; exact hb
          | false => simp only [fin, hn] at hb; exact (del_some hb).2
    unfold wpOp
    rw [hoA]
    simp only
    rw [opdOk_wanted hop]
    rcases wStep_cases hw S.env with ⟨hwant, h⟩ | ⟨hwant, h⟩
    · rw [if_pos hwant]
      left
      have hns : ∀ cs b, o.op ≠ .select cs b := by
        intro cs b hs
        unfold wOp at h
        rw [hs] at h
        exact h.elim
      refine wp_fill (execOp_congr o hns (opdOk_eval hop)) (N := fun a' w' => ∃ β' av e' V' H', lateP (masks [] ops) ρ ops i o e H H' (wOpsD c ops (masks [] ops) t (without i ρ) K (fin c.n o.dst av e') V' H') ∧ Sim c.n H0 w0 β' (fin c.n o.dst av e') V' H' a' w' ∧ Eff o e β V H w β' e' V' H' w') ?_ ?_
        (wOp_sound hc.1 hc.2.1 S h fun β' av e' V' H' a' w' hk S' E => ⟨β', av, e', V', H', hk, S', E⟩)
      · rintro v w' ⟨β', av, e', V', H', hk, S', E⟩
        refine hn _ _ (build v β' e' _ V' H' w' (lateP_P hk) S' (hfin e' av) E.env E.none' E.size E.beta fun z hz t' x b oz hoz hx hb h5 h6 => ?_)
        have hadr : ∀ u, ev e x = some (.v u) → ∃ o1, u = .pointer (some ⟨b, o1, none⟩) := fun u hu => (h6 u hu).2
        have hpair : ∀ wr k, lateL (masks [] ops) ρ i wr k e H H' 0 ops (wOpsD c ops (masks [] ops) t (without i ρ) K (fin c.n o.dst av e') V' H') → lateAt e H H' wr k x := fun wr k hl => by
          have := lateL_at hl hoz t' x hx
          rw [Nat.zero_add] at this
          rcases this with h7 | h7 | h7
          · exact (hnot z hz h7).elim
          · exact absurd rfl (R.both z hz z.1 h7).1.1
          · exact h7
        have hsame : (efOf o.op = .write → vstK e o.op ≠ none) → w'.heap[b]? = w.heap[b]? ∧ (∀ u, ev e x = some (.v u) → H' b ≠ none ∧ ∃ o1, u = .pointer (some ⟨b, o1, none⟩)) := fun hq => by
          cases hHb : H b with
          | some p => exact ⟨(E.heap hq b (by rw [hHb]; simp)).1, fun u hu => ⟨(E.heap hq b (by rw [hHb]; simp)).2, hadr u hu⟩⟩
          | none =>
            refine ⟨E.beside b hb hHb fun k hk' hVk hbk => ?_, fun u hu => absurd hHb (h6 u hu).1⟩
            have hwr : efOf o.op = .write := by
              cases hoo : o.op <;> rw [hoo] at hk' <;> first | (cases hk'; done) | rfl
            unfold lateP at hk
            simp only [hwr, hk'] at hk
            have h8 := hpair _ _ hk
            unfold lateAt at h8
            cases hex : ev e x with
            | none => rw [hex] at h8; cases h8
            | some av' =>
              cases av' with
              | v u => exact absurd hHb (h6 u hex).1
              | loc k1 o1 =>
                rw [hex] at h8
                exact h8 ((h5 k1 o1 hex).2 k hVk hbk.symm).symm
        by_cases hq : efOf o.op = .write ∧ vstK e o.op = none
        · obtain ⟨hq1, hq2⟩ := hq
          unfold lateP at hk
          simp only [hq1, hq2] at hk
          have h8 := hpair _ _ hk
          unfold lateAt at h8
          cases hex : ev e x with
          | none => rw [hex] at h8; cases h8
          | some av' =>
            cases av' with
            | v u =>
              rw [hex] at h8
              obtain ⟨h9, o1, rfl⟩ := h6 u hex
              have h10 : H' b = H b := h8 rfl _ rfl
              refine ⟨?_, fun u' hu' => ⟨by rw [h10]; exact h9, hadr u' (hex.trans hu')⟩⟩
              cases hHb : H b with
              | none => exact absurd hHb h9
              | some p => rw [S'.has _ _ (h10.trans hHb), S.has _ _ hHb]
            | loc k1 o1 => exact ⟨E.beside b hb (h5 k1 o1 hex).1 (fun k hk => by rw [hq2] at hk; cases hk), fun u hu => by cases hu⟩
        · exact hsame fun h1 h2 => hq ⟨h1, h2⟩
      · rintro d v w' ⟨β', av, e', V', H', hk, S', E⟩
        have := S'.defers
        rw [put_defers] at this
        cases this
    · rw [if_neg (by rw [hwant]; decide)]
      refine hn _ _ (build undef β e _ V H w (lateP_P h) (S.put o.dst rfl) (hfin e _) (fun _ _ h => h) (fun _ _ h => h) (Nat.le_refl _) (fun k hk => .inl ⟨hk, rfl⟩) fun z hz t x b oz hoz hx hb h5 h6 => ⟨rfl, h6⟩)

/-- The operation that the machine takes next. -/
theorem RInv.next (hc : CxOk c) (O : ROk ops) {next : Act → World → Prop} {Q : Exit → Act → World → Prop} {i n : Nat} (ho : ops[i]? = some o) (hr : ∀ z ∈ dirOf o, listed.getD z false = true)
    (hn : ∀ t' ρ' pd' a' w', ρ'.length + pd'.length + 1 = n → RInv c ops K H0 w0 (listed.setIfInBounds i true) t' ρ' [] pd' a' w' → next a' w') :
    ∀ (t : OT) {ρ tried : List Nat} {pd : List (Nat × Value)} (R : RInv c ops K H0 w0 listed t ρ tried pd a w) (hl : ρ.length + pd.length = n) (hi : i ∈ ρ ∨ i ∈ pd.map (·.1)) (ht : i ∉ tried) (hp : tried ≠ [] → i ∉ pd.map (·.1)), wpOp c.P ops.toArray Q i next a w := by
  intro t
  induction t with
  | done =>
    intro ρ tried pd R hl hi ht hp
    have hord := R.ord
    cases tried with
    | nil =>
      have h0 := emptyB_spec (show emptyB ρ = true by simpa [tOk, emptyB] using hord)
      subst h0
      obtain ⟨z, hz, rfl⟩ := List.mem_map.1 (hi.resolve_left (by simp))
      exact R.take O (v := z.2) hz ho hr (fun pd' hl' h => hn _ _ _ _ _ (by omega) h)
    | cons y r =>
      exfalso
      have hi' := hi.resolve_right (hp (by simp))
      have : (elemN i (y :: r) || (without i ρ).any fun y => befB (masks [] ops) i y) = true := by
        have h1 : (ρ.all fun z => elemN z (y :: r) || (without z ρ).any fun y => befB (masks [] ops) z y) = true := by simpa [tOk, emptyB] using hord
        exact List.all_eq_true.1 h1 i hi'
      rw [Bool.or_eq_true] at this
      rcases this with h | h
      · exact ht (elemN_mem.1 h)
      · obtain ⟨z, hz, hb⟩ := List.any_eq_true.1 h
        have h2 := R.bef O ho hr hb
        rw [R.notyet (.inl (without_mem.1 hz).1)] at h2
        cases h2
  | look x t ih =>
    intro ρ tried pd R hl hi ht hp
    have hord := R.ord
    simp only [tOk, Bool.and_eq_true, Bool.not_eq_true'] at hord
    have h0 := emptyB_spec hord.1.1.1.1
    subst h0
    by_cases hpd : i ∈ pd.map (·.1)
    · obtain ⟨z, hz, rfl⟩ := List.mem_map.1 hpd
      exact R.take O (v := z.2) hz ho hr (fun pd' hl' h => hn _ _ _ _ _ (by omega) h)
    · obtain ⟨v, R'⟩ := R.ahead hc O
      have hlen := without_length R.uniq (elemN_mem.1 hord.1.1.1.2)
      refine ih R' (by simp only [List.length_cons]; omega) ?_ ht (fun h => absurd rfl h)
      by_cases hix : i = x
      · exact .inr (by simp [hix])
      · exact .inl (without_mem.2 ⟨hi.resolve_right hpd, hix⟩)
  | act x t u _ ihu =>
    intro ρ tried pd R hl hi ht hp
    by_cases hpd : i ∈ pd.map (·.1)
    · cases tried with
      | nil =>
        obtain ⟨z, hz, rfl⟩ := List.mem_map.1 hpd
        exact R.take O (v := z.2) hz ho hr (fun pd' hl' h => hn _ _ _ _ _ (by omega) h)
      | cons y r => exact absurd hpd (hp (by simp))
    · have hord := R.ord
      simp only [tOk, Bool.and_eq_true] at hord
      by_cases hix : i = x
      · subst hix
        have hlen := without_length R.uniq (elemN_mem.1 hord.1.1.1.1)
        exact R.run hc O ho hr (fun a' w' h => hn _ _ _ _ _ (by omega) h)
      · refine ihu (tried := x :: tried) { R with ord := hord.2, sim := fun hs => ?_ } hl hi (by simp [hix, ht]) (fun _ => hpd)
        have hnd : u.isDone = false := hs.resolve_left (by simp)
        obtain ⟨β, e, V, H, hw, S, hpk⟩ := R.sim (.inr rfl)
        unfold wOpsD at hw
        refine ⟨β, e, V, H, ?_, S, hpk⟩
        split at hw
        · rw [hnd] at hw
          exact hw.2
        · exact hw.elim

theorem ready_of {ops : List Oper} {listed : Array Bool} {i : Nat} {o : Oper} (hi : i < ops.length) (hl : listed.getD i false = false) (hs : listed.size = ops.length) (ho : ops[i]? = some o) (hr : ∀ z ∈ dirOf o, listed.getD z false = true) :
    i ∈ Region.ready .any ops.toArray listed := by
  unfold Region.ready
  rw [List.mem_filter, List.mem_range]
  refine ⟨by simpa using hi, ?_⟩
  rw [Bool.and_eq_true]
  refine ⟨?_, ?_⟩
  · rw [Array.getD_eq_getD_getElem?] at hl ⊢
    rw [Array.getElem?_eq_getElem (by omega)] at hl ⊢
    simpa using hl
  · have h4 : (ops.toArray)[i]? = some o := by simpa using ho
    rw [h4, Option.map_some, Option.getD_some]
    rw [Array.all_eq_true_iff_forall_mem]
    intro x hx
    cases hb : Region.binds .any x with
    | false => rfl
    | true =>
      have := hr x.on (List.mem_map.2 ⟨x, List.mem_filter.2 ⟨by simpa using hx, hb⟩, rfl⟩)
      simpa using this
theorem wAny_sound (hc : CxOk c) (O : ROk ops) {Q : Exit → Act → World → Prop} (hq : ∀ a w, St c H0 w0 K a w → Q .normal a w) : ∀ (fuel : Nat) {listed : Array Bool} {t : OT} {ρ : List Nat} {pd : List (Nat × Value)} {a : Act} {w : World},
    RInv c ops K H0 w0 listed t ρ [] pd a w → ρ.length + pd.length = fuel → wpAny c.P .any ops.toArray Q fuel listed a w
  | 0, listed, t, ρ, pd, a, w, R, hl => by
    have h1 : ρ = [] := List.length_eq_zero_iff.1 (by omega)
    have h2 : pd = [] := List.length_eq_zero_iff.1 (by omega)
    subst h1; subst h2
    refine ⟨?_, ?_⟩
    · apply List.eq_nil_iff_forall_not_mem.2
      intro i hi
      obtain ⟨g1, g2, _⟩ := ready_iff R.size hi
      simpa using (R.mem i g1).1 g2
    · obtain ⟨β, e, V, H, hw, S, _⟩ := R.sim (.inl rfl)
      have hord := R.ord
      cases t with
      | done => exact hq _ _ ⟨β, e, V, H, hw, S⟩
      | look x t => simp [tOk, elemN] at hord
      | act x t u => simp [tOk, elemN] at hord
  | fuel + 1, listed, t, ρ, pd, a, w, R, hl => by
    refine ⟨fun h0 => ?_, fun i hi => ?_⟩
    · exfalso
      have hall : ∀ i, i < ops.length → listed.getD i false = true := by
        intro i
        induction i using Nat.strongRecOn with
        | _ i ih =>
          intro hi
          cases hb : listed.getD i false with
          | true => rfl
          | false =>
            have ho : ops[i]? = some (ops[i]'hi) := List.getElem?_eq_getElem _
            have := ready_of hi hb R.size ho (fun z hz => ih z (O.dir i _ ho z hz) (Nat.lt_trans (O.dir i _ ho z hz) hi))
            rw [h0] at this
            cases this
      have : ∃ i, i ∈ ρ ∨ i ∈ pd.map (·.1) := by
        cases ρ with
        | cons x r => exact ⟨x, .inl List.mem_cons_self⟩
        | nil => cases pd with
          | cons z r => exact ⟨z.1, .inr (by simp)⟩
          | nil => simp at hl
      obtain ⟨i, hi⟩ := this
      have h1 := R.notyet hi
      rw [hall i (R.lt i hi)] at h1
      cases h1
    · obtain ⟨g1, g2, o, g3, g4⟩ := ready_iff R.size hi
      exact RInv.next hc O g3 g4 (fun t' ρ' pd' a' w' hl' R' => wAny_sound hc O hq fuel R' (by omega)) t R hl ((R.mem i g1).1 g2) (by simp) (fun h => absurd rfl h)

theorem rangeB_mem {i : Nat} : ∀ {n : Nat}, i ∈ rangeB n ↔ i < n
  | 0 => by simp [rangeB]
  | n + 1 => by
    simp only [rangeB, List.mem_cons, rangeB_mem (n := n)]
    omega
theorem rangeB_nodup : ∀ {n : Nat}, (rangeB n).Nodup
  | 0 => by simp [rangeB]
  | n + 1 => List.nodup_cons.2 ⟨fun h => absurd (rangeB_mem.1 h) (Nat.lt_irrefl _), rangeB_nodup⟩
theorem rangeB_length : ∀ {n : Nat}, (rangeB n).length = n
  | 0 => rfl
  | n + 1 => by simp [rangeB, rangeB_length (n := n)]
theorem wOpsD_sound (hc : CxOk c) {ops : Array Oper} {t : OT} (ho : (regOk ops.toList && tOk ops.toList (masks [] ops.toList) t (rangeB ops.toList.length) []) = true) {id : Nat} {Q : Exit → Act → World → Prop} (hq : ∀ a w, St c H0 w0 K a w → Q .normal a w)
    (h : wOpsD c ops.toList (masks [] ops.toList) t (rangeB ops.toList.length) K e V H) (S : Sim c.n H0 w0 β e V H a w) : (Code.region id ops true).wp c.P Q a w := by
  rw [Bool.and_eq_true] at ho
  obtain ⟨o1, o2⟩ := ho
  unfold regOk at o1
  have o4 := List.all_eq_true.1 o1
  have hin : ∀ i o, ops.toList[i]? = some o → i < ops.toList.length := fun i o hi => by
    rcases Nat.lt_or_ge i ops.toList.length with h | h
    · exact h
    · rw [List.getElem?_eq_none h] at hi; cases hi
  refine wp_region_any hc.2.2 ?_
  have O : ROk ops.toList := by
    refine ⟨fun i o hi z hz => ?_, fun i o d hi hd hu => ?_⟩
    · have := o4 i (rangeB_mem.2 (hin i o hi))
      rw [hi] at this
      simp only [Bool.and_eq_true, List.all_eq_true] at this
      exact Nat.le_of_ble_eq_true (this.2 z hz)
    · have := o4 i (rangeB_mem.2 (hin i o hi))
      rw [hi] at this
      simp only [hd, Bool.and_eq_true] at this
      rw [elemN_mem.2 hu] at this
      simp at this
  have hl0 : ∀ i, (Array.replicate ops.size false).getD i false = false := fun i => by
    rw [Array.getD_eq_getD_getElem?, Array.getElem?_replicate]; split <;> rfl
  have R : RInv c ops.toList K H0 w0 (Array.replicate ops.size false) t (rangeB ops.toList.length) [] [] a { w with drawn := w.drawn + 1 } := by
    refine ⟨by simp, fun i o hi => ?_, fun i hi => ?_, fun i hi => rangeB_mem.1 (by simpa using hi), .nil, fun x hx => (by cases hx), o2, rangeB_nodup, fun x hx => (by cases hx), fun _ => ⟨β, e, V, H, h, ?_, fun x hx => (by cases hx)⟩⟩
    · rw [hl0] at hi; cases hi
    · rw [hl0]; simp only [List.map_nil, List.not_mem_nil, or_false, true_iff]; exact rangeB_mem.2 hi
    · exact { S with fr := ⟨S.fr.1, S.fr.2.1, S.fr.2.2.1, S.fr.2.2.2.1, S.fr.2.2.2.2.1, Nat.le_trans S.fr.2.2.2.2.2 (Nat.le_succ _)⟩ }
  have := wAny_sound hc O hq (rangeB ops.toList.length).length R rfl
  rw [rangeB_length] at this
  simpa using this
end
end
end Go.Proofs.Ytibhpoikhkokiaa.Hs

/- The evaluator is sound for code: what it says of a function's body holds of a call. -/
set_option linter.unusedVariables false
set_option linter.unusedSimpArgs false
namespace Go.Proofs.Ytibhpoikhkokiaa.Hs
open Go

section
variable {c : Cx} {H0 : Hp} {w0 : World} {β : Nat → Nat} {e : Env} {V : VSt} {H : Hp} {a : Act} {w : World}
def Xt.toExit : Xt → Exit
  | .normal => .normal
  | .exit id => .exit id
  | .ret => .ret

theorem getSh_some {s : Sh} {v : Value} {K : s.T → Prop} (h : getSh s v K) : ∃ x, s.enc x = v ∧ K x := by
  unfold getSh at h
  split at h
  · split at h
    · rename_i hk
      cases sameK_eq hk
      exact ⟨_, rfl, h⟩
    · exact h.elim
  all_goals first
    | exact ⟨_, rfl, h⟩
    | exact h.elim
theorem getL_some : ∀ {l : List Sh} {vs : List Value} {K : ShT l → Prop}, getL l vs K → ∃ x, encL l x = vs ∧ K x
  | [], [], K, h => ⟨(), rfl, h⟩
  | s :: r, v :: vs, K, h => by
    obtain ⟨x, h1, h⟩ := getSh_some h
    obtain ⟨y, h2, h⟩ := getL_some h
    exact ⟨(x, y), by simp [encL, h1, h2], h⟩
theorem getVals_some : ∀ {l : List (Nat × Sh)} {K : ShT (valsT l) → Prop}, getVals l e K → ∃ x, (∀ (e1 : Env) t av, encVals l x e1 t = some av → e t = some av ∨ e1 t = some av) ∧ K x
  | [], K, h => ⟨(), fun e1 t av ht => .inr ht, h⟩
  | p :: r, K, h => by
    obtain ⟨v, hv, h⟩ := onV_some h
    obtain ⟨x, hx, h⟩ := getSh_some h
    obtain ⟨y, hy, h⟩ := getVals_some h
    refine ⟨(x, y), fun e1 t av ht => ?_, h⟩
    rcases upd_some ht with ⟨rfl, rfl⟩ | ⟨_, ht⟩
    · left; rw [hv]; exact congrArg (fun z => some (AV.v z)) hx.symm
    · exact hy e1 t av ht
theorem getBoxes_some : ∀ {l : List (Nat × List Sh)} {K : BoxT l → Prop}, getBoxes l V K → ∃ x, (∀ (V1 : VSt) k cs, encBoxes l x V1 k = some cs → V k = some cs ∨ V1 k = some cs) ∧ K x
  | [], K, h => ⟨(), fun V1 k cs hk => .inr hk, h⟩
  | p :: r, K, h => by
    unfold getBoxes at h
    split at h
    · rename_i cs hV
      obtain ⟨x, hx, h⟩ := getL_some h
      obtain ⟨y, hy, h⟩ := getBoxes_some h
      refine ⟨(x, y), fun V1 k cs' hk => ?_, h⟩
      rcases upd_some hk with ⟨h1, h2⟩ | ⟨_, hk⟩
      · left; rw [h1, hV, ← h2, hx]
      · exact hy V1 k cs' hk
    · exact h.elim
/-- Less is known. -/
theorem Sim.less (S : Sim c.n H0 w0 β e V H a w) {e1 : Env} {V1 : VSt} (he : ∀ t av, e1 t = some av → e t = some av) (hv : ∀ k x, V1 k = some x → V k = some x) : Sim c.n H0 w0 β e1 V1 H a w := by
  have hn : ∀ k, V1 k ≠ none → V k ≠ none := fun k hk => by
    cases h : V1 k with
    | none => exact absurd h hk
    | some x => rw [hv k x h]; simp
  exact { S with env := fun t av ht => S.env t av (he t av ht), box := fun k x hk => S.box k x (hv k x hk), inj := fun k k' hk hk' hb => S.inj k k' (hn k hk) (hn k' hk') hb }
theorem restr_some {α : Type} {l : List Nat} {e : Nat → Option α} {t : Nat} {x : α} (h : restr l e t = some x) : elemN t l = true ∧ e t = some x := by
  unfold restr at h
  cases he : elemN t l with
  | true => rw [he] at h; exact ⟨rfl, h⟩
  | false => rw [he] at h; cases h
theorem mapE_eq {α : Type} {e e' : Nat → Option α} : ∀ {l : List Nat}, mapE e' l = mapE e l → ∀ t, elemN t l = true → e' t = e t
  | [], _, t, h => by cases h
  | x :: r, h, t, ht => by
    simp only [mapE, List.cons.injEq] at h
    unfold elemN at ht
    cases hb : Nat.beq x t with
    | true => cases Nat.eq_of_beq_eq_true hb; exact h.1
    | false => rw [hb] at ht; exact mapE_eq h.2 t ht

theorem wp_loop_any {P : Program} {code : Code} {Q : Exit → Act → World → Prop} (R : Nat → Act → World → Prop) (h0 : ∃ n, R n a w)
    (round : ∀ n a w, R n a w → code.wp P (Exit.then (fun a' w' => ∃ m, m < n ∧ R m a' w') Q) a w) : (Code.loop code).wp P Q a w := by
  obtain ⟨n0, h0⟩ := h0
  exact wp_loop_ghost R n0 h0 round

theorem wv_sound (hc : CxOk c) : ∀ (code : Code) {Q : Xt → Env → VSt → Hp → Prop} {Qm : Exit → Act → World → Prop} (hq : ∀ x a w, St c H0 w0 (Q x) a w → Qm x.toExit a w) {β : Nat → Nat} {e : Env} {V : VSt} {H : Hp} {a : Act} {w : World},
    wv c code Q e V H → Sim c.n H0 w0 β e V H a w → code.wp c.P Qm a w := by
  intro code
  induction code with
  | skip => intro Q Qm hq β e V H a w h S; exact wp_skip (hq .normal a w ⟨β, e, V, H, h, S⟩)
  | label l => intro Q Qm hq β e V H a w h S; exact wp_label (hq .normal a w ⟨β, e, V, H, h, S⟩)
  | region id ops draw =>
    intro Q Qm hq β e V H a w h S
    cases draw with
    | false =>
      refine wp_region_list ?_
      exact wOps_sound hc (ops := ops.toList) (hq .normal) h S
    | true =>
      simp only [wv] at h
      split at h
      · split at h
        · rename_i p hp ho
          exact wOpsD_sound hc (ops := ops) ho (hq .normal) h S
        · exact h.elim
      · exact h.elim
  | seq x y ihx ihy =>
    intro Q Qm hq β e V H a w h S
    refine wp_seq (ihx (Qm := Exit.then (y.wp c.P Qm) Qm) ?_ h S)
    rintro x1 a1 w1 ⟨β1, e1, V1, H1, hk, S1⟩
    cases x1 with
    | normal => exact ihy hq hk S1
    | exit id => exact hq (.exit id) a1 w1 ⟨β1, e1, V1, H1, hk, S1⟩
    | ret => exact hq .ret a1 w1 ⟨β1, e1, V1, H1, hk, S1⟩
  | cond x y z ihy ihz =>
    intro Q Qm hq β e V H a w h S
    obtain ⟨v, hv, h⟩ := onV_some h
    split at h
    · rename_i t
      have he := ev_evalV S.env hv
      cases t with
      | true => exact wp_cond he (by simpa using ihy hq h S)
      | false => exact wp_cond he (by simpa using ihz hq h S)
    · exact h.elim
  | block id x ih =>
    intro Q Qm hq β e V H a w h S
    refine wp_block (ih (Qm := Exit.inBlock id Qm) ?_ h S)
    rintro x1 a1 w1 ⟨β1, e1, V1, H1, hk, S1⟩
    cases x1 with
    | normal => exact hq .normal a1 w1 ⟨β1, e1, V1, H1, hk, S1⟩
    | exit i =>
      simp only at hk
      cases hb : Nat.beq i id with
      | true =>
        rw [hb] at hk
        cases Nat.eq_of_beq_eq_true hb
        simp only [Xt.toExit, Exit.inBlock, if_true]
        exact hq .normal a1 w1 ⟨β1, e1, V1, H1, hk, S1⟩
      | false =>
        rw [hb] at hk
        have hne : i ≠ id := fun hh => by subst hh; simp at hb
        simp only [Xt.toExit, Exit.inBlock, hne, if_false]
        exact hq (.exit i) a1 w1 ⟨β1, e1, V1, H1, hk, S1⟩
    | ret => exact hq .ret a1 w1 ⟨β1, e1, V1, H1, hk, S1⟩
  | loop x ih =>
    intro Q Qm hq β e V H a w h S
    simp only [wv] at h
    split at h
    · rename_i k hkey
      split at h
      · rename_i d hd
        obtain ⟨x0, hx0, h⟩ := getVals_some h
        obtain ⟨y0, hy0, h⟩ := getBoxes_some h
        obtain ⟨J, ⟨n0, hJ⟩, hround⟩ := h
        refine wp_loop_any (fun n a w => ∃ s H' β', J n s H' ∧ Sim c.n H0 w0 β' (encVals d.vals s.1 (restr d.keep e)) (encBoxes d.boxes s.2 (restr d.kb V)) H' a w) ⟨n0, (x0, y0), H, β, hJ, S.less ?_ ?_⟩ ?_
        · intro t av ht
          rcases hx0 _ t av ht with h1 | h1
          · exact h1
          · exact (restr_some h1).2
        · intro k' cs hk'
          rcases hy0 _ k' cs hk' with h1 | h1
          · exact h1
          · exact (restr_some h1).2
        · rintro n a1 w1 ⟨s, H', β', hJ1, S1⟩
          refine ih (Qm := Exit.then (fun a' w' => ∃ m, m < n ∧ ∃ s H' β', J m s H' ∧ Sim c.n H0 w0 β' (encVals d.vals s.1 (restr d.keep e)) (encBoxes d.boxes s.2 (restr d.kb V)) H' a' w') Qm) ?_ (hround n s H' hJ1) S1
          rintro x1 a2 w2 ⟨β2, e2, V2, H2, hk, S2⟩
          cases x1 with
          | normal =>
            obtain ⟨x', hx', hk⟩ := getVals_some hk
            obtain ⟨y', hy', hk⟩ := getBoxes_some hk
            obtain ⟨heq, m, hm, hJ2⟩ := hk
            simp only [Prod.mk.injEq] at heq
            refine ⟨m, hm, (x', y'), H2, β2, hJ2, S2.less ?_ ?_⟩
            · intro t av ht
              rcases hx' _ t av ht with h1 | h1
              · exact h1
              · obtain ⟨h2, h3⟩ := restr_some h1
                rw [mapE_eq heq.1 t h2]; exact h3
            · intro k' cs hk'
              rcases hy' _ k' cs hk' with h1 | h1
              · exact h1
              · obtain ⟨h2, h3⟩ := restr_some h1
                rw [mapE_eq heq.2 k' h2]; exact h3
          | exit i => exact hq (.exit i) a2 w2 ⟨β2, e2, V2, H2, hk, S2⟩
          | ret => exact hq .ret a2 w2 ⟨β2, e2, V2, H2, hk, S2⟩
      · exact h.elim
    · exact h.elim
  | exit id => intro Q Qm hq β e V H a w h S; exact wp_exit (hq (.exit id) a w ⟨β, e, V, H, h, S⟩)
  | ret => intro Q Qm hq β e V H a w h S; exact wp_ret (hq .ret a w ⟨β, e, V, H, h, S⟩)
  | _ => intro Q Qm hq β e V H a w h S; exact h.elim

def resOne (tmps : Array Value) : ResultVar → Sem Value
  | .tmp t => pure (tmps.getD t undef)
  | .cell a t => do loadVar t (← asAddr (tmps.getD a undef))
theorem resF_run (hc : CxOk c) (S : Sim c.n H0 w0 β e V H a w) : ∀ {rs : List ResultVar} {K : List Value → Prop}, resF rs c.T e V K → ∃ vs, (rs.mapM (resOne a.tmps)).run c.P w = .ok vs w ∧ K vs
  | [], K, h => ⟨[], by simp, h⟩
  | .tmp t :: r, K, h => by
    obtain ⟨v, hv, h⟩ := onV_some h
    obtain ⟨vs, hr, h⟩ := resF_run hc S h
    refine ⟨v :: vs, ?_, h⟩
    have h1 := S.env t _ hv
    simp only [List.mapM_cons, resOne, Sem.run_bind, Sem.run_pure, Result.andThen_ok, hr, h1]
    rfl
  | .cell t ty :: r, K, h => by
    obtain ⟨i, hi, h⟩ := onTI_some h
    obtain ⟨av, hav, h⟩ := onAV_some h
    split at h
    · rename_i k
      split at h
      · rename_i x hV
        split at h
        · rename_i hl
          have hl' := Nat.eq_of_beq_eq_true hl
          obtain ⟨v, hv, h⟩ := mkV_some h
          obtain ⟨vs, hr, h⟩ := resF_run hc S h
          refine ⟨v :: vs, ?_, h⟩
          obtain ⟨⟨ty', h1⟩, h2, h3⟩ := S.box k x hV
          have hrun := run_loadVar_ok (P := c.P) (w := w) (hc.1 ty i hi) (b := β k) (o := 0) (vs := x.2) hl' (fun j u hj => by rw [Nat.zero_add, cl_of w h1]; exact hj) hv
          have h4 := S.env t _ hav
          simp only [List.mapM_cons, resOne, Sem.run_bind, h4, AV.conc, asAddr, Sem.run_pure, Result.andThen_ok, hrun, hr]
        · exact h.elim
      · exact h.elim
    · exact h.elim
theorem results_run {fn : Func} {tmps : Array Value} {P : Program} {w : World} {vs : List Value} (h : (fn.results.toList.mapM (resOne tmps)).run P w = .ok vs w) : ∃ v, (results fn tmps).run P w = .ok v w ∧ ∀ K : Value → Prop, resV vs K → K v := by
  have hm : (fn.results.mapM (resOne tmps)).run P w = .ok vs.toArray w := by
    rw [Array.mapM_eq_mapM_toList, Sem.run_map, h]
    rfl
  have he : results fn tmps = (do
      let vs ← fn.results.mapM (resOne tmps)
      pure (if h : vs.size = 1 then vs[0] else .tuple vs)) := by
    unfold results
    have h0 : (resOne tmps) = (fun x => match x with | .tmp t => pure (tmps.getD t undef) | .cell a t => (do loadVar t (← asAddr (tmps.getD a undef)) : Sem Value)) := by
      funext x
      cases x <;> rfl
    rw [h0]
    rfl
  refine ⟨if h : vs.toArray.size = 1 then vs.toArray[0] else .tuple vs.toArray, ?_, fun K hk => ?_⟩
  · rw [he, Sem.run_bind, hm]
    try rfl
  · match vs, hk with
    | [], hk => exact hk
    | [v], hk => exact hk
    | v :: u :: r, hk =>
      rw [dif_neg (by simp)]
      exact hk

theorem hcalls_of (hc : CxOk c) {f : FuncId} {fn : Func} (hf : c.P.funcs[f]? = some fn) {args : List Value} {H : Hp} {Q : Value → Hp → Prop} (h : wFun c fn args H Q) : HCalls c.P f args H Q := by
  intro w hw
  unfold wFun at h
  split at h
  · rename_i code hcode
    split at h
    · rename_i hn hle
      have hn' := Nat.eq_of_beq_eq_true hn
      have hle' := Nat.le_of_ble_eq_true hle
      refine calls_of_wp hf hcode ?_
      have S : Sim c.n H w (fun _ => 0) (env0 args) (fun _ => none) H { tmps := args.toArray ++ Array.replicate (fn.ntmps - args.toArray.size) undef, defers := [] } w := by
        refine ⟨by simp; omega, ?_, fun k x hk => (by cases hk), fun k k' hk => absurd rfl hk, hw, rfl, ⟨rfl, rfl, rfl, Nat.le_refl _, fun _ _ _ => rfl, Nat.le_refl _⟩, fun b hb => .inl hb⟩
        intro t av ht
        unfold env0 at ht
        split at ht
        · rename_i v hv
          cases ht
          have hlt : t < args.length := (List.getElem?_eq_some_iff.1 hv).1
          rw [Array.getD_eq_getD_getElem?]
          have h1 : (args.toArray ++ Array.replicate (fn.ntmps - args.toArray.size) undef)[t]? = some v := by
            rw [Array.getElem?_append_left (by simpa using hlt)]
            simpa using hv
          rw [h1]
          rfl
        · cases ht
      refine wv_sound hc code (Qm := bodyPost c.P fn _) ?_ h S
      rintro x a1 w1 ⟨β1, e1, V1, H1, hk, S1⟩
      cases x with
      | normal =>
        obtain ⟨vs, hr, hk⟩ := resF_run hc S1 hk
        obtain ⟨v, h1, h2⟩ := results_run hr
        exact ⟨S1.defers, v, h1, v, H1, rfl, h2 (fun v => Q v H1) hk, S1.has, S1.fr, S1.new⟩
      | ret =>
        obtain ⟨vs, hr, hk⟩ := resF_run hc S1 hk
        obtain ⟨v, h1, h2⟩ := results_run hr
        exact ⟨S1.defers, v, h1, v, H1, rfl, h2 (fun v => Q v H1) hk, S1.has, S1.fr, S1.new⟩
      | exit id => exact hk.elim
    · exact h.elim
  · exact h.elim
/-- What a call makes true may be weakened. -/
theorem HCalls.mono {P : Program} {f : FuncId} {args : List Value} {H : Hp} {Q Q' : Value → Hp → Prop} (h : HCalls P f args H Q) (hq : ∀ v H', Q v H' → Q' v H') : HCalls P f args H Q' := fun w hw =>
  Calls.mono (h w hw) fun _ _ ⟨v, H', h1, h2, h3⟩ => ⟨v, H', h1, hq v H' h2, h3⟩
end

/-! The tables of a translation are held against it by a reckoning. -/
def eqZ : Value → Value → Bool
  | .int k a, .int k' b => sameK k k' && (a == b)
  | .bool a, .bool b => a == b
  | .string a, .string b => a.data.toList.isEmpty && b.data.toList.isEmpty
  | .slice none 0 0, .slice none 0 0 => true
  | .pointer none, .pointer none => true
  | .map none, .map none => true
  | .nilFunc, .nilFunc => true
  | .nilIface, .nilIface => true
  | _, _ => false
def eqZs : List Value → List Value → Bool
  | [], [] => true
  | a :: x, b :: y => eqZ a b && eqZs x y
  | _, _ => false
def chkZ (z : Value) (i : TI) : Bool := match i.agg, z with
  | true, .agg cs => eqZs cs.toList i.zs
  | false, z => (match i.zs with | [y] => eqZ z y && one1 y | _ => false)
  | true, _ => false
def chkF (P : Program) : List Field → List (Nat × Nat × Bool) → Bool
  | [], [] => true
  | f :: r, x :: s => Nat.beq f.offset x.1 && (match P.info? f.type, P.underlying f.type with | some j, some d => Nat.beq j.size x.2.1 && (isAggD d == x.2.2) | _, _ => false) && chkF P r s
  | _, _ => false
def chkK (P : Program) (d : TypeDesc) (zs : List Value) : Kn → Bool
  | .scalar => (match zs, d with | [.bool _], .bool => true | [.bool _], _ => false | [.int k _], .int k' => sameK k k' | [.int _ _], _ => false | [.pointer _], .pointer _ => true | [.pointer _], _ => false | _, _ => true)
  | .slice el esz eby => (match d with
    | .slice e => Nat.beq e el && (match P.info? el with | some j => Nat.beq j.size esz && Nat.beq j.bytes eby && (match j.zero with | some z => Nat.beq z.cells.size esz | none => false) | none => false)
    | _ => false)
  | .array len esz eagg => (match d with
    | .array n e => Nat.beq n len && (match P.info? e, P.underlying e with | some j, some du => Nat.beq j.size esz && (isAggD du == eagg) | _, _ => false)
    | _ => false)
  | .struct fs => (match d with | .struct flds => chkF P flds.toList fs | _ => false)
  | .string => (match d with | .string => true | _ => false)
  | .map k v => (match d with | .map k' v' => Nat.beq k' k && Nat.beq v' v | _ => false)
def chk1 (P : Program) (t : Nat) (i : TI) : Bool := match P.info? t, P.underlying t with
  | some j, some d => (match j.zero with | some z => chkZ z i | none => false) && Nat.beq j.size i.zs.length && allOne i.zs && (isAggD d == i.agg) && chkK P d i.zs i.kn && (match i.eqs with | true => eqOk P t i.zs | false => true)
  | _, _ => false
def chkT (P : Program) : List (Nat × TI) → Bool
  | [] => true
  | p :: r => chk1 P p.1 p.2 && chkT P r
def chkR (P : Program) : List (Nat × List Nat) → Bool
  | [] => true
  | p :: r => (match P.funcs[p.1]? with | some fn => !(fn.name == "runtime.NumGoroutine") && !fn.body.isNone | none => false) && chkR P r

theorem eqZ_eq {a b : Value} (h : eqZ a b = true) : a = b := by
  unfold eqZ at h
  split at h
  · simp only [Bool.and_eq_true, beq_iff_eq] at h
    rw [sameK_eq h.1, h.2]
  · rw [beq_iff_eq] at h; rw [h]
  · rename_i a b
    simp only [Bool.and_eq_true, List.isEmpty_iff] at h
    have h1 : a = b := by
      have h2 : a.data = b.data := Array.ext' (h.1.trans h.2.symm)
      cases a; cases b; simp only at h2; rw [h2]
    rw [h1]
  all_goals first
    | rfl
    | cases h
theorem eqZs_eq : ∀ {x y : List Value}, eqZs x y = true → x = y
  | [], [], _ => rfl
  | a :: x, b :: y, h => by
    simp only [eqZs, Bool.and_eq_true] at h
    rw [eqZ_eq h.1, eqZs_eq h.2]
  | [], _ :: _, h => by cases h
  | _ :: _, [], h => by cases h
theorem chkF_ok {P : Program} : ∀ {l : List Field} {fs : List (Nat × Nat × Bool)}, chkF P l fs = true → fieldsOk P l fs
  | [], [], _ => trivial
  | f :: r, x :: s, h => by
    simp only [chkF, Bool.and_eq_true] at h
    obtain ⟨⟨h1, h2⟩, h3⟩ := h
    refine ⟨⟨Nat.eq_of_beq_eq_true h1, ?_⟩, chkF_ok h3⟩
    split at h2
    · rename_i j d hj hd
      simp only [Bool.and_eq_true, beq_iff_eq] at h2
      exact ⟨j, d, hj, Nat.eq_of_beq_eq_true h2.1, hd, h2.2⟩
    · cases h2
  | [], _ :: _, h => by cases h
  | _ :: _, [], h => by cases h
theorem chkK_ok {P : Program} {d : TypeDesc} {zs : List Value} {k : Kn} (h : chkK P d zs k = true) : knOk P d zs k := by
  cases k with
  | scalar =>
    cases zs with
    | nil => trivial
    | cons z r =>
      cases r with
      | cons _ _ => cases z <;> trivial
      | nil =>
        cases z with
        | bool x => cases d <;> first | rfl | cases h
        | int k x =>
          cases d with
          | int k' =>
            have h' : sameK k k' = true := h
            rw [sameK_eq h']
            rfl
          | _ => cases h
        | pointer x =>
          cases d with
          | pointer e => exact ⟨e, rfl⟩
          | _ => cases h
        | _ => trivial
  | slice el esz eby =>
    simp only [chkK] at h
    split at h
    · rename_i e
      simp only [Bool.and_eq_true] at h
      obtain ⟨h1, h2⟩ := h
      cases Nat.eq_of_beq_eq_true h1
      split at h2
      · rename_i j hj
        simp only [Bool.and_eq_true] at h2
        obtain ⟨⟨a1, a2⟩, a3⟩ := h2
        split at a3
        · rename_i z hz
          exact ⟨rfl, j, z, hj, Nat.eq_of_beq_eq_true a1, Nat.eq_of_beq_eq_true a2, hz, Nat.eq_of_beq_eq_true a3⟩
        · cases a3
      · cases h2
    · cases h
  | array len esz eagg =>
    simp only [chkK] at h
    split at h
    · rename_i n e
      simp only [Bool.and_eq_true] at h
      obtain ⟨h1, h2⟩ := h
      cases Nat.eq_of_beq_eq_true h1
      split at h2
      · rename_i j du hj hdu
        simp only [Bool.and_eq_true, beq_iff_eq] at h2
        exact ⟨e, j, du, rfl, hj, Nat.eq_of_beq_eq_true h2.1, hdu, h2.2⟩
      · cases h2
    · cases h
  | struct fs =>
    simp only [chkK] at h
    split at h
    · exact ⟨_, rfl, chkF_ok h⟩
    · cases h
  | string =>
    simp only [chkK] at h
    split at h
    · rfl
    · cases h
  | map k v =>
    simp only [chkK] at h
    split at h
    · simp only [Bool.and_eq_true] at h
      cases Nat.eq_of_beq_eq_true h.1
      cases Nat.eq_of_beq_eq_true h.2
      rfl
    · cases h
theorem chk1_ok {P : Program} {t : Nat} {i : TI} (h : chk1 P t i = true) : TiOk P t i := by
  unfold chk1 at h
  split at h
  · rename_i j d hj hd
    simp only [Bool.and_eq_true, beq_iff_eq] at h
    obtain ⟨⟨⟨⟨⟨h1, h2⟩, h3⟩, h4⟩, h5⟩, h6⟩ := h
    split at h1
    · rename_i z hz
      have hzz : z = (match i.agg with | true => .agg i.zs.toArray | false => i.zs.headD undef) ∧ (i.agg = false → ∃ v, i.zs = [v] ∧ one1 v = true) := by
        unfold chkZ at h1
        split at h1
        · rename_i cs hag
          rw [← eqZs_eq h1]
          exact ⟨by rw [hag], fun hh => by rw [hag] at hh; cases hh⟩
        · rename_i hag
          split at h1
          · rename_i y hy
            simp only [Bool.and_eq_true] at h1
            rw [eqZ_eq h1.1]
            exact ⟨by rw [hag, hy]; rfl, fun _ => ⟨y, hy, h1.2⟩⟩
          · cases h1
        · cases h1
      exact ⟨⟨j, hj, hz.trans (congrArg some hzz.1), Nat.eq_of_beq_eq_true h2⟩, hzz.2, h3, ⟨d, hd, h4, chkK_ok h5⟩, fun hq => by rw [hq] at h6; exact h6⟩
    · cases h1
  · cases h
theorem chkT_ok {P : Program} : ∀ {T : List (Nat × TI)}, chkT P T = true → ∀ t i, look t T = some i → TiOk P t i
  | [], _, t, i, hl => by cases hl
  | p :: r, h, t, i, hl => by
    simp only [chkT, Bool.and_eq_true] at h
    unfold look at hl
    cases hb : Nat.beq p.1 t with
    | true =>
      rw [hb] at hl
      cases hl
      cases Nat.eq_of_beq_eq_true hb
      exact chk1_ok h.1
    | false => rw [hb] at hl; exact chkT_ok h.2 t i hl
theorem chkR_ok {P : Program} : ∀ {R : List (Nat × List Nat)}, chkR P R = true → ∀ f ts, look f R = some ts → FnOk P f
  | [], _, t, i, hl => by cases hl
  | p :: r, h, t, i, hl => by
    simp only [chkR, Bool.and_eq_true] at h
    unfold look at hl
    cases hb : Nat.beq p.1 t with
    | true =>
      cases Nat.eq_of_beq_eq_true hb
      have h1 := h.1
      split at h1
      · rename_i fn hfn
        simp only [Bool.and_eq_true, Bool.not_eq_true'] at h1
        exact ⟨fn, hfn, h1.1, h1.2⟩
      · cases h1
    | false => rw [hb] at hl; exact chkR_ok h.2 t i hl
end Go.Proofs.Ytibhpoikhkokiaa.Hs

/- The types and functions of this translation, for the evaluator. Written by a program of this session. -/
set_option linter.unusedVariables false
set_option maxRecDepth 100000
namespace Go.Proofs.Ytibhpoikhkokiaa.Hs
open Go Go.Proofs
def tT : List (Nat × TI) := [
  (3, ⟨false, [(.int .i64 0)], .scalar, false⟩),
  (4, ⟨false, [(.bool false)], .scalar, false⟩),
  (5, ⟨false, [(.int .u8 0)], .scalar, false⟩),
  (9, ⟨false, [(.string ByteArray.empty)], .string, false⟩),
  (22, ⟨false, [(.slice none 0 0)], .slice 26 1 24, false⟩),
  (24, ⟨false, [(.slice none 0 0)], .slice 29 5 40, false⟩),
  (25, ⟨false, [(.slice none 0 0)], .slice 3 1 8, false⟩),
  (26, ⟨false, [(.slice none 0 0)], .slice 32 2 2, false⟩),
  (27, ⟨false, [(.int .i64 0)], .scalar, false⟩),
  (29, ⟨true, [(.int .i64 0), (.int .i64 0), (.int .i64 0), (.int .i64 0), (.int .i64 0)], .struct [(0, 1, false), (1, 1, false), (2, 1, false), (3, 1, false), (4, 1, false)], true⟩),
  (32, ⟨true, [(.int .u8 0), (.bool false)], .struct [(0, 1, false), (1, 1, false)], false⟩),
  (35, ⟨false, [(.int .i64 0)], .scalar, false⟩),
  (40, ⟨false, [(.slice none 0 0)], .slice 9 1 16, false⟩),
  (44, ⟨false, [(.slice none 0 0)], .slice 48 4 32, false⟩),
  (48, ⟨true, [(.int .i64 0), (.int .i64 0), (.int .i64 0), (.int .i64 0)], .struct [(0, 1, false), (1, 1, false), (2, 1, false), (3, 1, false)], true⟩),
  (56, ⟨false, [(.pointer none)], .scalar, false⟩),
  (61, ⟨false, [(.map none)], .map 3 4, false⟩),
  (62, ⟨false, [(.map none)], .map 3 3, false⟩),
  (63, ⟨false, [(.map none)], .map 3 25, false⟩),
  (64, ⟨false, [(.map none)], .map 89 3, false⟩),
  (66, ⟨true, [(.slice none 0 0), (.map none), (.map none), (.map none), (.map none)], .struct [(0, 1, false), (1, 1, false), (2, 1, false), (3, 1, false), (4, 1, false)], false⟩),
  (69, ⟨false, [.nilFunc], .scalar, false⟩),
  (72, ⟨false, [.nilFunc], .scalar, false⟩),
  (74, ⟨false, [(.map none)], .map 3 25, false⟩),
  (76, ⟨false, [.nilFunc], .scalar, false⟩),
  (78, ⟨false, [(.pointer none)], .scalar, false⟩),
  (79, ⟨false, [(.map none)], .map 3 100, false⟩),
  (80, ⟨false, [(.map none)], .map 89 4, false⟩),
  (82, ⟨true, [(.map none), (.map none), (.map none)], .struct [(0, 1, false), (1, 1, false), (2, 1, false)], false⟩),
  (84, ⟨false, [.nilFunc], .scalar, false⟩),
  (88, ⟨false, [(.map none)], .map 3 61, false⟩),
  (89, ⟨true, [(.int .i64 0), (.int .i64 0)], .array 2 1 false, true⟩),
  (93, ⟨false, [.nilFunc], .scalar, false⟩),
  (100, ⟨false, [(.pointer none)], .scalar, false⟩),
  (102, ⟨true, [(.bool false), (.bool false), (.int .i64 0)], .struct [(0, 1, false), (1, 1, false), (2, 1, false)], false⟩),
  (105, ⟨false, [.nilFunc], .scalar, false⟩),
  (110, ⟨false, [(.int .u64 0)], .scalar, false⟩),
  (117, ⟨false, [(.int .i64 0)], .scalar, false⟩),
  (124, ⟨false, [(.int .u32 0)], .scalar, false⟩),
  (126, ⟨false, [(.int .u64 0)], .scalar, false⟩),
  (132, ⟨false, [(.int .u64 0)], .scalar, false⟩),
  (136, ⟨false, [(.pointer none)], .scalar, false⟩),
  (140, ⟨false, [(.pointer none)], .scalar, false⟩)]
def tR : List (Nat × List Nat) := [(3, [4]), (4, [4]), (5, [29]), (6, [29]), (7, [29]), (8, [29]), (9, [25, 4, 35]), (10, [4, 35]), (11, [4, 35]), (12, [40, 35]), (13, [4]), (14, [44, 35]), (15, [25, 35]), (16, [4, 35]), (17, [24, 35]), (18, [4]), (19, [56]), (20, [4, 4]), (21, [44]), (22, [25]), (23, [69]), (24, [4]), (25, [4]), (26, [4]), (27, [74]), (28, [4]), (29, [4]), (30, [4]), (31, [4]), (32, [4]), (33, [4]), (34, [4]), (35, [4]), (36, [4]), (37, [69]), (38, [25]), (39, [4]), (40, [4]), (41, [4]), (42, [4]), (43, []), (44, [3]), (45, []), (46, [3]), (47, [44]), (48, [25]), (49, []), (50, []), (51, [3]), (52, [4]), (53, [61]), (54, [4]), (55, [4]), (56, [3]), (57, [4]), (58, []), (59, [4]), (60, []), (61, [4]), (62, [3]), (63, []), (64, [3]), (65, [3]), (66, [3]), (68, []), (69, [3]), (70, [4]), (71, []), (72, []), (73, []), (74, [3, 117]), (75, []), (76, [4]), (77, [3]), (78, [3, 4]), (79, [3]), (80, [3]), (81, [4]), (82, []), (83, []), (84, []), (85, [3, 117]), (86, []), (87, [4]), (88, [4]), (89, [3]), (90, [3, 4]), (91, [3]), (92, [4]), (93, []), (94, [110]), (95, [126]), (96, [3]), (97, [3]), (98, []), (99, [3]), (100, [3]), (101, [4]), (102, [3, 3]), (103, [3, 3])]
def tO : List Nat := []
theorem tO_ok : ∀ g, elemN g tO = true → OverOk Try.prog g := fun g h => by
  cases h
theorem tT_ok : chkT Try.prog tT = true := by kernel_rfl
theorem tR_ok : chkR Try.prog tR = true := by kernel_rfl
theorem mixed : Try.prog.follows .mixedOrders = true := by kernel_rfl
noncomputable def cx (n : Nat) (virt : List (Nat × Bool)) (loops : List (Nat × LD)) (perms : List (Nat × OT)) (nexts : List (Nat × (Value × Value))) : Cx := ⟨Try.prog, tT, tR, n, virt, loops, perms, nexts, tO⟩
theorem cxOk (n : Nat) (virt : List (Nat × Bool)) (loops : List (Nat × LD)) (perms : List (Nat × OT)) (nexts : List (Nat × (Value × Value))) : CxOk (cx n virt loops perms nexts) := ⟨chkT_ok tT_ok, ⟨chkR_ok tR_ok, tO_ok⟩, mixed⟩
end Go.Proofs.Ytibhpoikhkokiaa.Hs


/- What functions of the program come to, by the evaluator: printed by a program of this session (gen.py) and checked here. -/
set_option linter.unusedVariables false
set_option maxRecDepth 100000
namespace Go.Proofs.Ytibhpoikhkokiaa.Hs
open Go Go.Proofs

/-- justiciar history.order -/
def f46 (pa_0 : Int) (pa_1 : Int) (pa_2 : Int) (pa_3 : Int) (pb_0 : Int) (pb_1 : Int) (pb_2 : Int) (pb_3 : Int) (H : Hp) (Q : Value → Hp → Prop) : Prop :=
  HCalls Try.prog 66 [.int .i64 pa_0, .int .i64 pb_0] H fun v1 H2 => ∃ x3 : Int, v1 = .int .i64 x3 ∧ HCalls Try.prog 66 [.int .i64 pa_1, .int .i64 pb_1] H2 fun v4 H5 => ∃ x6 : Int, v4 = .int .i64 x6 ∧ HCalls Try.prog 66
    [.int .i64 pa_2, .int .i64 pb_2] H5 fun v7 H8 => ∃ x9 : Int, v7 = .int .i64 x9 ∧ HCalls Try.prog 66 [.int .i64 pa_3, .int .i64 pb_3] H8 fun v10 H11 => ∃ x12 : Int, v10 = .int .i64 x12 ∧ newF H11 3 [.int .i64 x3, .int
    .i64 x6, .int .i64 x9, .int .i64 x12] fun g13 H14 => HCalls Try.prog 65 [.slice (some ⟨g13, 0, none⟩) 4 4] H14 fun v15 H16 => ∃ x17 : Int, v15 = .int .i64 x17 ∧ Q (.int .i64 x17) H16
noncomputable def fcx46 : Cx := cx 27 [(2, true), (3, true)] [] [(1, (.look 0 (.look 1 (.look 2 (.look 3 (.look 5 (.look 6 (.look 7 (.look 8 (.look 10 (.look 11 (.look 12 (.look 13 (.look 15 (.look 16 (.look 17 (.look 18 (.act 4 (.act 9 (.act 14 (.act 19 (.act 20 (.act 21 (.act 22 .done .done) .done) .done) .done) .done) .done) .done))))))))))))))))))] []
theorem f46.eq (pa_0 : Int) (pa_1 : Int) (pa_2 : Int) (pa_3 : Int) (pb_0 : Int) (pb_1 : Int) (pb_2 : Int) (pb_3 : Int) (H : Hp) (Q : Value → Hp → Prop) : f46 pa_0 pa_1 pa_2 pa_3 pb_0 pb_1 pb_2 pb_3 H Q = wFun fcx46 Try.f46 [.agg #[.int .i64 pa_0, .int .i64 pa_1, .int .i64 pa_2, .int .i64 pa_3], .agg #[.int .i64 pb_0, .int .i64 pb_1, .int .i64 pb_2, .int .i64 pb_3]] H Q := by kernel_rfl
theorem f46.ok (pa_0 : Int) (pa_1 : Int) (pa_2 : Int) (pa_3 : Int) (pb_0 : Int) (pb_1 : Int) (pb_2 : Int) (pb_3 : Int) {H : Hp} {Q : Value → Hp → Prop} (h : f46 pa_0 pa_1 pa_2 pa_3 pb_0 pb_1 pb_2 pb_3 H Q) : HCalls Try.prog 46 [.agg #[.int .i64 pa_0, .int .i64 pa_1, .int .i64 pa_2, .int .i64 pa_3], .agg #[.int .i64 pb_0, .int .i64 pb_1, .int .i64 pb_2, .int .i64 pb_3]] H Q := hcalls_of (cxOk 27 [(2, true), (3, true)] [] [(1, (.look 0 (.look 1 (.look 2 (.look 3 (.look 5 (.look 6 (.look 7 (.look 8 (.look 10 (.look 11 (.look 12 (.look 13 (.look 15 (.look 16 (.look 17 (.look 18 (.act 4 (.act 9 (.act 14 (.act 19 (.act 20 (.act 21 (.act 22 .done .done) .done) .done) .done) .done) .done) .done))))))))))))))))))] []) Try.func46 (Eq.mp (f46.eq pa_0 pa_1 pa_2 pa_3 pb_0 pb_1 pb_2 pb_3 H Q) h)

/-- cmp.Or[int] -/
def f65 (pvals_A : Option Addr) (pvals_n pvals_c : Nat) (H : Hp) (Q : Value → Hp → Prop) : Prop :=
  LoopF (σ := (Int × Unit) × Unit) ((0, ()), ()) H fun s1 H2 next3 => cnd (decide ((s1.1.1 : Int) < ((pvals_n : Nat) : Int))) (0 ≤ (s1.1.1 : Int) ∧ (s1.1.1 : Int) < ((pvals_n : Nat) : Int) ∧ onPtr pvals_A fun b4 o4 => ∃ x5
    : Int, cl H2 b4 (o4 + (s1.1.1 : Int).toNat * 1) = some (.int .i64 x5) ∧ cnd ((x5 : Int) != 0) (Q (.int .i64 x5) H2) (KeepX [some (.v (.int .i64 0)), some (.v (.slice pvals_A pvals_n pvals_c)), some (.v (.int .i64
    ((pvals_n : Nat) : Int)))] [] ∧ next3 ((IntKind.i64.wrap (s1.1.1 + 1), ()), ()) H2)) (Q (.int .i64 0) H2)
noncomputable def fcx65 : Cx := cx 18 [] [(3, ⟨[3, 6, 7], [], [(8, .int .i64)], []⟩)] [] []
theorem f65.eq (pvals_A : Option Addr) (pvals_n pvals_c : Nat) (H : Hp) (Q : Value → Hp → Prop) : f65 pvals_A pvals_n pvals_c H Q = wFun fcx65 Try.f65 [.slice pvals_A pvals_n pvals_c] H Q := by kernel_rfl
theorem f65.ok (pvals_A : Option Addr) (pvals_n pvals_c : Nat) {H : Hp} {Q : Value → Hp → Prop} (h : f65 pvals_A pvals_n pvals_c H Q) : HCalls Try.prog 65 [.slice pvals_A pvals_n pvals_c] H Q := hcalls_of (cxOk 18 [] [(3, ⟨[3, 6, 7], [], [(8, .int .i64)], []⟩)] [] []) Try.func65 (Eq.mp (f65.eq pvals_A pvals_n pvals_c H Q) h)

/-- cmp.Compare[int] -/
def f66 (px : Int) (py : Int) (H : Hp) (Q : Value → Hp → Prop) : Prop :=
  HCalls Try.prog 81 [.int .i64 px] H fun v1 H2 => ∃ x3 : Bool, v1 = .bool x3 ∧ HCalls Try.prog 81 [.int .i64 py] H2 fun v4 H5 => ∃ x6 : Bool, v4 = .bool x6 ∧ cnd x3 (cnd x6 (Q (.int .i64 0) H5) (Q (.int .i64 (-1)) H5))
    (cnd x6 (Q (.int .i64 1) H5) (cnd (decide ((px : Int) < py)) (Q (.int .i64 (-1)) H5) (cnd (decide ((px : Int) > py)) (Q (.int .i64 1) H5) (Q (.int .i64 0) H5))))
noncomputable def fcx66 : Cx := cx 20 [] [] [] []
theorem f66.eq (px : Int) (py : Int) (H : Hp) (Q : Value → Hp → Prop) : f66 px py H Q = wFun fcx66 Try.f66 [.int .i64 px, .int .i64 py] H Q := by kernel_rfl
theorem f66.ok (px : Int) (py : Int) {H : Hp} {Q : Value → Hp → Prop} (h : f66 px py H Q) : HCalls Try.prog 66 [.int .i64 px, .int .i64 py] H Q := hcalls_of (cxOk 20 [] [] [] []) Try.func66 (Eq.mp (f66.eq px py H Q) h)

/-- cmp.isNaN[int] -/
def f81 (px : Int) (H : Hp) (Q : Value → Hp → Prop) : Prop :=
  Q (.bool ((px : Int) != px)) H
noncomputable def fcx81 : Cx := cx 6 [] [] [] []
theorem f81.eq (px : Int) (H : Hp) (Q : Value → Hp → Prop) : f81 px H Q = wFun fcx81 Try.f81 [.int .i64 px] H Q := by kernel_rfl
theorem f81.ok (px : Int) {H : Hp} {Q : Value → Hp → Prop} (h : f81 px H Q) : HCalls Try.prog 81 [.int .i64 px] H Q := hcalls_of (cxOk 6 [] [] [] []) Try.func81 (Eq.mp (f81.eq px H Q) h)

end Go.Proofs.Ytibhpoikhkokiaa.Hs

/- Heaps that grow, slices in them, and what the memory operations of the evaluator come to. -/
set_option linter.unusedVariables false
set_option linter.unusedSimpArgs false
namespace Go.Proofs.Ytibhpoikhkokiaa.Hs
open Go

/-- Whatever the one heap has, the other has too. -/
def Ext (H H' : Hp) : Prop := ∀ b o, H b = some o → H' b = some o
theorem Ext.refl (H : Hp) : Ext H H := fun _ _ h => h
theorem Ext.trans {H1 H2 H3 : Hp} (h : Ext H1 H2) (h' : Ext H2 H3) : Ext H1 H3 := fun b o hb => h' b o (h b o hb)
theorem upd_at {α : Type} {t : Nat} {a : α} {e : Nat → Option α} : upd t a e t = some a := by simp [upd]
theorem upd_off {α : Type} {t x : Nat} {a : α} {e : Nat → Option α} (h : x ≠ t) : upd t a e x = e x := by
  unfold upd
  cases hb : Nat.beq x t with
  | true => exact absurd (Nat.eq_of_beq_eq_true hb) h
  | false => rfl
theorem Ext.new {H : Hp} {b : Nat} {o : Obj} (h : H b = none) : Ext H (upd b o H) := fun x p hx => by
  rw [upd_off (fun e => by rw [e, h] at hx; cases hx)]; exact hx
theorem Ext.upd {H0 H : Hp} {b : Nat} {o : Obj} (h : Ext H0 H) (hb : H0 b = none) : Ext H0 (upd b o H) := fun x p hx => by
  rw [upd_off (fun e => by rw [e, hb] at hx; cases hx)]; exact h x p hx
theorem Ext.none {H H' : Hp} (h : Ext H H') {b : Nat} (hb : H' b = none) : H b = none := by
  cases hx : H b with
  | none => rfl
  | some o => rw [h b o hx] at hb; cases hb

theorem cl_ext {H H' : Hp} (h : Ext H H') {b o : Nat} {v : Value} (hc : cl H b o = some v) : cl H' b o = some v := by
  unfold cl at hc ⊢
  cases hb : H b with
  | none => rw [hb] at hc; cases hc
  | some p => rw [hb] at hc; rw [h b p hb]; exact hc
theorem cellsAt_ext {H H' : Hp} (h : Ext H H') {A : Option Addr} {l : List Value} (hc : cellsAt H A l) : cellsAt H' A l := by
  rcases hc with hc | ⟨b, o, hA, hc⟩
  · exact .inl hc
  · exact .inr ⟨b, o, hA, fun j v hj => cl_ext h (hc j v hj)⟩
theorem cl_cells {H : Hp} {b : Nat} {cs : List Value} {ty : Nat} {z : Nat × Nat} (h : H b = some (.cells cs.toArray ty z)) (o : Nat) : cl H b o = cs[o]? := by
  unfold cl; rw [h]; simp
/-- A slice's element: where it lies. -/
theorem at_cells {H : Hp} {A : Option Addr} {vs : List Value} (h : cellsAt H A vs) (hn : vs ≠ []) {K : Nat → Nat → Prop}
    (hk : ∀ b o, A = some ⟨b, o, none⟩ → (∀ j v, vs[j]? = some v → cl H b (o + j) = some v) → K b o) : onPtr A K := by
  rcases h with h | ⟨b, o, rfl, h⟩
  · exact absurd h hn
  · exact hk b o rfl h
theorem wrap_id {x : Int} (h1 : -9223372036854775808 ≤ x) (h2 : x < 9223372036854775808) : IntKind.i64.wrap x = x := by
  unfold IntKind.wrap
  simp [IntKind.bits, IntKind.signed]
  omega

/-- The same, with the loop's step handed on as it is. -/
theorem loop_to {σ : Type} {s0 : σ} {H : Hp} {body : σ → Hp → (σ → Hp → Prop) → Prop} (n : Nat) (I : Nat → σ → Hp → Prop) (h0 : I 0 s0 H)
    (hs : ∀ i s H' (next : σ → Hp → Prop), i ≤ n → I i s H' → (∀ s' H2, i < n → I (i + 1) s' H2 → next s' H2) → body s H' next) : LoopF s0 H body :=
  ⟨fun m s H' => ∃ i, i + m = n ∧ I i s H', ⟨n, 0, by omega, h0⟩, fun m s H' ⟨i, hi, hI⟩ => hs i s H' _ (by omega) hI (fun s' H2 hlt h2 => ⟨n - (i + 1), by omega, i + 1, by omega, h2⟩)⟩

theorem cndT {b : Bool} {A B : Prop} (h : b = true) (hA : A) : cnd b A B := by subst h; exact hA
theorem cndF {b : Bool} {A B : Prop} (h : b = false) (hB : B) : cnd b A B := by subst h; exact hB
theorem cndI {b : Bool} {A B : Prop} (hA : b = true → A) (hB : b = false → B) : cnd b A B := by
  cases b
  · exact hB rfl
  · exact hA rfl
theorem onPtrI {b o : Nat} {K : Nat → Nat → Prop} (h : K b o) : onPtr (some ⟨b, o, none⟩) K := h
/-- A loop over the indices of a slice. -/
theorem scan {n : Nat} {H : Hp} {body : ((Int × Unit) × Unit) → Hp → (((Int × Unit) × Unit) → Hp → Prop) → Prop} (hn : n < 4611686018427387904) (I : Nat → Hp → Prop) (h0 : I 0 H)
    (hs : ∀ (i : Nat) H' next, i < n → I i H' → (∀ H2, I (i + 1) H2 → next ((IntKind.i64.wrap ((i : Int) + 1), ()), ()) H2) → body (((i : Int), ()), ()) H' next)
    (he : ∀ H' next, I n H' → body (((n : Int), ()), ()) H' next) : LoopF (((0 : Int), ()), ()) H body := by
  refine loop_to n (fun i s H' => s = (((i : Int), ()), ()) ∧ I i H') ⟨rfl, h0⟩ ?_
  rintro i s H' next hi ⟨rfl, hI⟩ hnext
  by_cases h : i < n
  · refine hs i H' next h hI fun H2 h2 => hnext _ _ h ⟨?_, h2⟩
    rw [wrap_id (by omega) (by omega)]
    rfl
  · obtain rfl : i = n := by omega
    exact he H' next hI

/-! ### rows: blocks of their own behind slices -/
/-- A slice whose block is its own (no other slice of 'H0' has it), of which the first cells are known. -/
def Row (H0 H : Hp) (A : Option Addr) (n c esz : Nat) (vals : List Value) : Prop :=
  vals.length = n * esz ∧ n ≤ c ∧ ((A = none ∧ c = 0) ∨ ∃ (b : Nat) (cs : List Value) (ty : Nat), A = some ⟨b, 0, none⟩ ∧ H b = some (.cells cs.toArray ty (0, 0)) ∧ c * esz ≤ cs.length ∧ cs.take (n * esz) = vals ∧ H0 b = none)
/-- The block of a row, if it has one. -/
def rowB (A : Option Addr) (b : Nat) : Prop := ∃ o q, A = some ⟨b, o, q⟩
theorem Row.cells {H0 H : Hp} {A : Option Addr} {n c esz : Nat} {vals : List Value} (h : Row H0 H A n c esz vals) : cellsAt H A vals := by
  obtain ⟨h1, h2, h3 | ⟨b, cs, ty, rfl, hb, hl, ht, _⟩⟩ := h
  · left
    have : n = 0 := by omega
    subst this
    simpa using h1
  · right
    refine ⟨b, 0, rfl, fun j v hj => ?_⟩
    rw [cl_cells hb, Nat.zero_add]
    rw [← ht, List.getElem?_take] at hj
    split at hj
    · exact hj
    · cases hj
/-- A row stays where its block stays. -/
theorem Row.keep {H0 H H' : Hp} {A : Option Addr} {n c esz : Nat} {vals : List Value} (h : Row H0 H A n c esz vals) (hk : ∀ b, rowB A b → H' b = H b) : Row H0 H' A n c esz vals := by
  obtain ⟨h1, h2, h3 | ⟨b, cs, ty, rfl, hb, hl, ht, hz⟩⟩ := h
  · exact ⟨h1, h2, .inl h3⟩
  · exact ⟨h1, h2, .inr ⟨b, cs, ty, rfl, (hk b ⟨_, _, rfl⟩).trans hb, hl, ht, hz⟩⟩
theorem Row.lt {H0 H : Hp} {A : Option Addr} {n c esz : Nat} {vals : List Value} (h : Row H0 H A n c esz vals) {b : Nat} (hb : rowB A b) : H b ≠ none ∧ H0 b = none := by
  obtain ⟨h1, h2, h3 | ⟨b', cs, ty, rfl, hb', hl, ht, hz⟩⟩ := h
  · obtain ⟨o, q, hA⟩ := hb; rw [h3.1] at hA; cases hA
  · obtain ⟨o, q, hA⟩ := hb
    cases hA
    exact ⟨by rw [hb']; simp, hz⟩
theorem Row.base {H0 H1 H : Hp} {A : Option Addr} {n c esz : Nat} {vals : List Value} (h : Row H1 H A n c esz vals) (hx : Ext H0 H1) : Row H0 H A n c esz vals := by
  obtain ⟨h1, h2, h3 | ⟨b, cs, ty, rfl, hb, hl, ht, hz⟩⟩ := h
  · exact ⟨h1, h2, .inl h3⟩
  · exact ⟨h1, h2, .inr ⟨b, cs, ty, rfl, hb, hl, ht, hx.none hz⟩⟩
theorem Row.nil {H0 H : Hp} {esz : Nat} : Row H0 H none 0 0 esz [] := ⟨by simp, Nat.le_refl _, .inl ⟨rfl, rfl⟩⟩

theorem setR_take {cs vs : List Value} {o : Nat} (h : o + vs.length ≤ cs.length) : (setR cs o vs).take (o + vs.length) = cs.take o ++ vs := by
  unfold setR
  rw [List.take_append_of_le_length (by rw [List.length_append, List.length_take]; omega), List.take_of_length_le (by rw [List.length_append, List.length_take]; omega)]
theorem setR_length {cs vs : List Value} {o : Nat} (h : o + vs.length ≤ cs.length) : (setR cs o vs).length = cs.length := by
  unfold setR
  rw [List.length_append, List.length_append, List.length_take, List.length_drop]; omega

/-- Appending to a row: it stays a row, and no block but its own, or a new one, is touched. -/
theorem Row.append {H0 H : Hp} {A B : Option Addr} {n c m el esz eby : Nat} {vals new : List Value} {K : Option Addr → Nat → Nat → Hp → Prop} (R : Row H0 H A n c esz vals) (hx : Ext H0 H)
    (hnew : cellsAt H B new) (hl : new.length = m * esz) (ho : ∀ v ∈ new, v.oneCell' = true) (hz1 : (n + m) * eby ≤ 140737488355328) (hz2 : n + m ≤ 140737488355328)
    (hk : ∀ A' c' H', Row H0 H' A' (n + m) c' esz (vals ++ new) → Ext H0 H' → (∀ b, H' b ≠ H b → rowB A' b ∧ (rowB A b ∨ H b = none)) → (∀ b, rowB A' b → rowB A b ∨ H b = none) → (n + m ≤ c → A' = A ∧ c' = c) → K A' (n + m) c' H') :
    appendF H el esz eby A n c B m K := by
  have hR := R
  obtain ⟨h1, h2, h3⟩ := R
  have hmul : (n + m) * esz = n * esz + m * esz := Nat.add_mul _ _ _
  have hmn : c < n + m → c * esz ≤ (n + m) * esz := fun h => Nat.mul_le_mul_right _ (by omega)
  refine ⟨hz1, hz2, new, hl, hnew, ho, fun hc => ⟨fun hm => ?_, fun hm => ?_⟩, fun hc => ⟨vals, h1, hR.cells, fun b cap rest hb hcap hcl hrl => ?_⟩⟩
  · subst hm
    have : new = [] := List.length_eq_zero_iff.1 (by simpa using hl)
    subst this
    exact hk A c H (by simpa using hR) hx (fun b hb => absurd rfl hb) (fun b hb => .inl hb) (fun _ => ⟨rfl, rfl⟩)
  · rcases h3 with h3 | ⟨b, cs, ty, rfl, hb, hcl, ht, hz⟩
    · omega
    · have hle : (n + m) * esz ≤ cs.length := Nat.le_trans (Nat.mul_le_mul_right _ hc) hcl
      refine ⟨b, 0, cs, ty, rfl, hb, by omega, ?_⟩
      rw [Nat.zero_add]
      refine hk _ c _ ⟨?_, hc, .inr ⟨b, setR cs (n * esz) new, ty, rfl, upd_at, ?_, ?_, hz⟩⟩ (hx.upd hz) ?_ (fun b' hb' => .inl hb') (fun _ => ⟨rfl, rfl⟩)
      · rw [List.length_append, h1, hl, hmul]
      · rw [setR_length (by omega)]; exact hcl
      · rw [hmul, ← hl, setR_take (by omega), ht]
      · intro b' hb'
        by_cases hbb : b' = b
        · subst hbb; exact ⟨⟨_, _, rfl⟩, .inl ⟨_, _, rfl⟩⟩
        · exact absurd (upd_off hbb) hb'
  · refine hk _ cap _ ⟨?_, hcap, .inr ⟨b, vals ++ new ++ rest, el, rfl, upd_at, ?_, ?_, hx.none hb⟩⟩ (hx.upd (hx.none hb)) ?_ ?_ (fun h => by omega)
    · rw [List.length_append, h1, hl, hmul]
    · have h4 : cap * esz = (n + m) * esz + (cap - (n + m)) * esz := by rw [← Nat.add_mul]; congr 1; omega
      rw [List.length_append, List.length_append, h1, hl, hrl, h4, hmul]; exact Nat.le_refl _
    · rw [List.take_append_of_le_length (by rw [List.length_append, h1, hl, hmul]; exact Nat.le_refl _), List.take_of_length_le (by rw [List.length_append, h1, hl, hmul]; exact Nat.le_refl _)]
    · intro b' hb'
      by_cases hbb : b' = b
      · subst hbb; exact ⟨⟨_, _, rfl⟩, .inr hb⟩
      · exact absurd (upd_off hbb) hb'
    · rintro b' ⟨o, q, h⟩
      cases h
      exact .inr hb

/-! ### slices that are read -/
def ints (l : List Int) : List Value := l.map (fun x => .int .i64 x)
theorem flat_get {α : Type} {f : α → List Value} {k : Nat} : ∀ {l : List α} {i j : Nat} {x : α}, (∀ x ∈ l, (f x).length = k) → l[i]? = some x → j < k → (l.flatMap f)[i * k + j]? = (f x)[j]?
  | [], i, j, x, _, h, _ => by simp at h
  | y :: r, 0, j, x, hl, h, hj => by
    simp at h
    subst h
    rw [List.flatMap_cons, Nat.zero_mul, Nat.zero_add, List.getElem?_append_left (by rw [hl y List.mem_cons_self]; exact hj)]
  | y :: r, i + 1, j, x, hl, h, hj => by
    rw [List.flatMap_cons, show (i + 1) * k + j = (f y).length + (i * k + j) by rw [hl y List.mem_cons_self, Nat.add_mul]; omega, List.getElem?_append_right (by omega), Nat.add_sub_cancel_left]
    exact flat_get (fun z hz => hl z (List.mem_cons_of_mem _ hz)) (by simpa using h) hj
theorem flat_length {α : Type} {f : α → List Value} {k : Nat} : ∀ {l : List α}, (∀ x ∈ l, (f x).length = k) → (l.flatMap f).length = l.length * k
  | [], _ => by simp
  | y :: r, hl => by
    rw [List.flatMap_cons, List.length_append, flat_length (fun z hz => hl z (List.mem_cons_of_mem _ hz)), hl y List.mem_cons_self, List.length_cons, Nat.add_mul]; omega
theorem flat_ne {α : Type} {f : α → List Value} {k : Nat} {l : List α} (hl : ∀ x ∈ l, (f x).length = k) (hk : 0 < k) (h : l ≠ []) : l.flatMap f ≠ [] := fun e => by
  have := flat_length hl
  rw [e] at this
  cases l with
  | nil => exact h rfl
  | cons y r => simp only [List.length_nil, List.length_cons, Nat.add_mul] at this; omega
end Go.Proofs.Ytibhpoikhkokiaa.Hs

/- Compare, Or, the order of arcs once more, over the layer that counts draws: the closure that SortFunc is handed only lays blocks of its own. -/
set_option linter.unusedVariables false
set_option linter.unusedSimpArgs false
set_option maxRecDepth 20000
namespace Go.Proofs.Ytibhpoikhkokiaa.Hs
open Go Go.Proofs Go.Sort
def inC (x : Int) : List Value := [.int .i64 x]
def big : Nat := 1000000000000
def huge : Nat := 140737488355329
/-- Elements in a slice. -/
structure SlAt {α : Type} (f : α → List Value) (H : Hp) (A : Option Addr) (n : Nat) (l : List α) : Prop where
  len : n = l.length
  cells : cellsAt H A (l.flatMap f)
  small : l.length < huge
theorem SlAt.ext {α : Type} {f : α → List Value} {H H' : Hp} {A : Option Addr} {n : Nat} {l : List α} (h : SlAt f H A n l) (hx : Ext H H') : SlAt f H' A n l := ⟨h.len, cellsAt_ext hx h.cells, h.small⟩
theorem SlAt.lt {α : Type} {f : α → List Value} {H : Hp} {A : Option Addr} {n : Nat} {l : List α} (h : SlAt f H A n l) : l.length < 4611686018427387904 := by have := h.small; unfold huge at this; omega
theorem rd_in {H : Hp} {A : Option Addr} {n : Nat} {l : List Int} {i : Nat} {x : Int} (h : SlAt inC H A n l) (hi : l[i]? = some x) {K : Nat → Nat → Prop}
    (hk : ∀ p o, A = some ⟨p, o, none⟩ → cl H p (o + i) = some (.int .i64 x) → K p o) : onPtr A K := by
  have hlen : ∀ x ∈ l, (inC x).length = 1 := fun x _ => rfl
  have hne : l ≠ [] := fun e => by subst e; simp at hi
  refine at_cells h.cells (flat_ne hlen (by omega) hne) fun p o hA hc => hk p o hA ?_
  have := hc (i * 1 + 0) _ (flat_get hlen hi (by omega))
  rw [Nat.mul_one, Nat.add_zero] at this
  exact this
theorem get_of {α : Type} {l : List α} {i : Nat} (h : i < l.length) : ∃ x, l[i]? = some x := ⟨_, List.getElem?_eq_getElem h⟩
theorem take_snoc {α : Type} {l : List α} {i : Nat} {x : α} (h : l[i]? = some x) : l.take (i + 1) = l.take i ++ [x] := by
  rw [List.take_add_one, h]; rfl
def cmpI (x y : Int) : Int := if x < y then -1 else if x > y then 1 else 0
def orI (x y : Int) : Int := if x == 0 then y else x
section
variable {H0 H H' : Hp} {Q : Value → Hp → Prop}
theorem c81 {x : Int} (hq : Q (.bool false) H) : HCalls Try.prog 81 [.int .i64 x] H Q := by
  refine f81.ok _ ?_
  unfold f81
  simpa using hq
theorem c66 {x y : Int} (hq : Q (.int .i64 (cmpI x y)) H) : HCalls Try.prog 66 [.int .i64 x, .int .i64 y] H Q := by
  refine f66.ok _ _ ?_
  unfold f66
  unfold cmpI at hq
  refine c81 ⟨false, rfl, c81 ⟨false, rfl, cndF rfl (cndF rfl (cndI (fun h => ?_) fun h => cndI (fun h2 => ?_) fun h2 => ?_))⟩⟩
  · rw [if_pos (of_decide_eq_true h)] at hq; exact hq
  · rw [if_neg (of_decide_eq_false h), if_pos (of_decide_eq_true h2)] at hq; exact hq
  · rw [if_neg (of_decide_eq_false h), if_neg (of_decide_eq_false h2)] at hq; exact hq
def orL (l : List Int) : Int := (l.find? (fun x => x != 0)).getD 0
theorem c65 {A : Option Addr} {n k : Nat} {l : List Int} (hA : SlAt inC H A n l) (hq : Q (.int .i64 (orL l)) H) : HCalls Try.prog 65 [.slice A n k] H Q := by
  refine f65.ok _ _ _ ?_
  unfold f65
  obtain rfl := hA.len
  have hlt := hA.lt
  refine scan hlt (fun i H' => H' = H ∧ ∀ y ∈ l.take i, (y != 0) = false) ⟨rfl, fun y hy => by simp at hy⟩ ?_ ?_
  · rintro i H next hi ⟨rfl, hI⟩ hnext
    obtain ⟨y, hy⟩ := get_of hi
    dsimp only
    refine cndT (decide_eq_true (by omega)) ⟨by omega, by omega, rd_in hA hy fun q o _ hc => ⟨y, by simpa using hc, cndI (fun h => ?_) (fun h => ⟨rfl, hnext _ ⟨rfl, fun z hz => ?_⟩⟩)⟩⟩
    · have : l.find? (fun x => x != 0) = some y := by
        obtain ⟨h1, h2⟩ := List.getElem?_eq_some_iff.1 hy
        rw [← List.take_append_drop i l, List.find?_append, List.find?_eq_none.2 (fun z hz => by rw [hI z hz]; decide), List.drop_eq_getElem_cons h1, h2, List.find?_cons, h]
        rfl
      unfold orL at hq
      rw [this] at hq; exact hq
    · rw [take_snoc hy] at hz
      rcases List.mem_append.1 hz with hz | hz
      · exact hI z hz
      · obtain rfl := List.mem_singleton.1 hz; exact h
  · rintro H next ⟨rfl, hI⟩
    rw [List.take_length] at hI
    have : l.find? (fun x => x != 0) = none := List.find?_eq_none.2 fun z hz => by rw [hI z hz]; decide
    unfold orL at hq
    rw [this] at hq
    dsimp only
    exact cndF (decide_eq_false (by omega)) hq
theorem c46 {a1 a2 a3 a4 b1 b2 b3 b4 : Int} (hq : ∀ H', Ext H H' → Q (.int .i64 (orI (cmpI a1 b1) (orI (cmpI a2 b2) (orI (cmpI a3 b3) (cmpI a4 b4))))) H') : HCalls Try.prog 46 [.agg #[.int .i64 a1, .int .i64 a2, .int .i64 a3, .int .i64 a4], .agg #[.int .i64 b1, .int .i64 b2, .int .i64 b3, .int .i64 b4]] H Q := by
  refine f46.ok _ _ _ _ _ _ _ _ ?_
  unfold f46
  refine c66 ⟨_, rfl, c66 ⟨_, rfl, c66 ⟨_, rfl, c66 ⟨_, rfl, fun g hg => ?_⟩⟩⟩⟩
  have hx : Ext H (upd g (Obj.cells [Value.int .i64 (cmpI a1 b1), .int .i64 (cmpI a2 b2), .int .i64 (cmpI a3 b3), .int .i64 (cmpI a4 b4)].toArray 3 (0, 0)) H) := Ext.new hg
  refine c65 (l := [cmpI a1 b1, cmpI a2 b2, cmpI a3 b3, cmpI a4 b4]) ⟨rfl, .inr ⟨g, 0, rfl, fun j u hj => ?_⟩, by show 4 < huge; decide⟩ ⟨_, rfl, ?_⟩
  · rw [cl_cells upd_at, Nat.zero_add]; exact hj
  · have : orL [cmpI a1 b1, cmpI a2 b2, cmpI a3 b3, cmpI a4 b4] = orI (cmpI a1 b1) (orI (cmpI a2 b2) (orI (cmpI a3 b3) (cmpI a4 b4))) := by
      unfold orL orI
      generalize cmpI a1 b1 = p
      generalize cmpI a2 b2 = q
      generalize cmpI a3 b3 = r
      generalize cmpI a4 b4 = s
      simp only [List.find?_cons, List.find?_nil, bne]
      cases h1 : p == 0 with
      | false => rfl
      | true =>
        cases h2 : q == 0 with
        | false => rfl
        | true =>
          cases h3 : r == 0 with
          | false => rfl
          | true =>
            cases h4 : s == 0 with
            | false => rfl
            | true =>
              have : s = 0 := by simpa using h4
              subst this; rfl
    rw [this]; exact hq _ hx
end
theorem grow_of {w w' : World} (h : Fr (fun _ => none) w w') : ∃ q os, w' = grow (w.drewN q) os := by
  obtain ⟨h1, h2, h3, h4, h5, h6⟩ := h
  refine ⟨w'.drawn - w.drawn, w'.heap.extract w.heap.size w'.heap.size, ?_⟩
  have hh : w'.heap = w.heap ++ w'.heap.extract w.heap.size w'.heap.size := by
    apply Array.ext_getElem?
    intro i
    by_cases hi : i < w.heap.size
    · rw [Array.getElem?_append_left hi, h5 i hi rfl]
    · rw [Array.getElem?_append_right (by omega), Array.getElem?_extract]
      by_cases hi2 : i < w'.heap.size
      · rw [if_pos (by omega), show w.heap.size + (i - w.heap.size) = i by omega]
      · rw [if_neg (by omega), Array.getElem?_eq_none (by omega)]
  have hd : w'.drawn = w.drawn + (w'.drawn - w.drawn) := by omega
  obtain ⟨a, b, c, d, e⟩ := w'
  simp only at h1 h2 h3 hh hd
  unfold grow World.drewN
  simp only [World.mk.injEq]
  exact ⟨hh, h2, hd, h1, h3⟩
theorem closure46 (a1 a2 a3 a4 b1 b2 b3 b4 : Int) (W : World) : Calls Try.prog 46 #[.agg #[.int .i64 a1, .int .i64 a2, .int .i64 a3, .int .i64 a4], .agg #[.int .i64 b1, .int .i64 b2, .int .i64 b3, .int .i64 b4]] W fun e w' => e = .returned (.int .i64 (orI (cmpI a1 b1) (orI (cmpI a2 b2) (orI (cmpI a3 b3) (cmpI a4 b4))))) ∧ ∃ q os', w' = grow (W.drewN q) os' := by
  have := c46 (a1 := a1) (a2 := a2) (a3 := a3) (a4 := a4) (b1 := b1) (b2 := b2) (b3 := b3) (b4 := b4) (H := fun _ => none) (Q := fun v _ => v = .int .i64 (orI (cmpI a1 b1) (orI (cmpI a2 b2) (orI (cmpI a3 b3) (cmpI a4 b4))))) (fun H' _ => rfl) W (fun b o h => by cases h)
  refine Calls.mono this ?_
  rintro e w' ⟨v, H', rfl, rfl, _, hf, _⟩
  exact ⟨rfl, grow_of hf⟩
end Go.Proofs.Ytibhpoikhkokiaa.Hs

/- Histories: SortFunc of arcs, by the kit's contract. -/
set_option linter.unusedVariables false
set_option linter.unusedSimpArgs false
set_option maxRecDepth 20000
namespace Go.Proofs.Ytibhpoikhkokiaa.Hw
open Go Go.Proofs Go.Sort Go.Shelf
instance : Inhabited Arc := ⟨⟨0, 0, 0, 0⟩⟩
theorem ordA_ltOf {x y : Arc} : ltOf ordA x y = true ↔ ltA x y := by unfold ltOf; rw [decide_eq_true_eq]; exact ordA_lt
theorem ordA_ltF {x y : Arc} : ltOf ordA x y = false ↔ ¬ ltA x y := by rw [← ordA_ltOf]; simp
theorem swoA : SWO (ltOf ordA) where
  irrefl x := ordA_ltF.2 ltA_irrefl
  trans x y z h1 h2 := ordA_ltOf.2 (ltA_trans (ordA_ltOf.1 h1) (ordA_ltOf.1 h2))
  ntrans x y z h1 h2 := ordA_ltF.2 fun h => by
    have h1 := ordA_ltF.1 h1
    have h2 := ordA_ltF.1 h2
    unfold ltA at *; omega
theorem cmpLays {blk off size : Nat} {w : World} : CmpLays Try.prog 46 #[] arC 4 ordA blk off size w := fun m os dk hs x y => Hs.closure46 x.a x.b x.kind x.item y.a y.b y.kind y.item _
section
variable {H0 H : Hp} {Q : Value → Hp → Prop} {w : World}
theorem flatA {l : List Arc} : (flatK arC 4 l.toArray) = (l.flatMap arC).toArray := by
  apply Array.ext_getElem?
  intro i
  show (flatK arC 4 l.toArray)[i]? = ((l.flatMap arC).toArray)[i]?
  have hfl : (l.flatMap arC).length = l.length * 4 := flat_length fun y _ => rfl
  by_cases hi : i < l.length * 4
  · have h1 := get_flatK arC 4 l.toArray i (by simpa using hi)
    obtain ⟨x, hx⟩ := get_of (l := l) (i := i / 4) (by omega)
    have h2 := flat_get (f := arC) (k := 4) (j := i % 4) (fun x _ => rfl) hx (by omega)
    rw [show i / 4 * 4 + i % 4 = i by omega] at h2
    have hs : i < (flatK arC 4 l.toArray).size := by rw [size_flatK]; simpa using hi
    have e1 : ((l.flatMap arC).toArray)[i]? = (l.flatMap arC)[i]? := by simp
    rw [e1, h2, Array.getElem?_eq_getElem hs]
    rw [getElem!_pos (flatK arC 4 l.toArray) i hs] at h1
    rw [h1]
    have : l.toArray[i / 4]! = x := by
      have hl : i / 4 < l.length := by omega
      rw [getElem!_pos l.toArray (i / 4) (by simpa using hl)]
      obtain ⟨_, e⟩ := List.getElem?_eq_some_iff.1 hx
      simpa using e
    rw [this]
    have h4 : i % 4 < (arC x).length := by show _ < 4; omega
    rw [getElem!_pos (arC x) (i % 4) h4, List.getElem?_eq_getElem h4]
  · rw [Array.getElem?_eq_none (by rw [size_flatK]; simpa using hi), List.getElem?_toArray, List.getElem?_eq_none (by omega)]
theorem putV {vs cs : List Value} (h : vs.length ≤ cs.length) : putCells id 0 vs.toArray cs.toArray = (vs ++ cs.drop vs.length).toArray := by
  apply Array.ext'
  unfold putCells
  rw [Array.toList_mapIdx]
  apply List.ext_getElem?
  intro j
  simp only [List.getElem?_mapIdx, Nat.zero_le, true_and, Nat.zero_add, List.size_toArray, Nat.sub_zero]
  by_cases hj : j < vs.length
  · rw [List.getElem?_append_left hj, List.getElem?_eq_getElem (by omega : j < cs.length), List.getElem?_eq_getElem hj]
    simp [hj]
  · rw [List.getElem?_append_right (by omega), List.getElem?_drop, show vs.length + (j - vs.length) = j by omega]
    cases hc : cs[j]? with
    | none => simp [hc]
    | some v => simp [hc, hj]
theorem row_putV {b m : Nat} {cs vs : List Value} {ty : Nat} {os : Array Obj} (hw : Has w H) (hb : H b = some (.cells cs.toArray ty (0, 0))) (h : vs.length ≤ cs.length) :
    Has (grow (putRow id (Sort.ahead w m) b 0 vs.toArray) os) (upd b (.cells (vs ++ cs.drop vs.length).toArray ty (0, 0)) H) ∧ Fr H w (grow (putRow id (Sort.ahead w m) b 0 vs.toArray) os) ∧ New H w (upd b (.cells (vs ++ cs.drop vs.length).toArray ty (0, 0)) H) := by
  have hwb := hw b _ hb
  have hlt : b < w.heap.size := (Array.getElem?_eq_some_iff.1 hwb).1
  have hat : ∀ x, x < w.heap.size → (grow (putRow id (Sort.ahead w m) b 0 vs.toArray) os).heap[x]? = if x = b then some (.cells (vs ++ cs.drop vs.length).toArray ty (0, 0)) else w.heap[x]? := fun x hx => by
    unfold grow putRow mapBlock Sort.ahead
    simp only
    rw [Array.getElem?_append_left (by simpa using hx), Array.getElem?_modify]
    by_cases e : b = x
    · subst e
      rw [if_pos rfl, if_pos rfl, hwb]
      simp only [Option.map_eq_map, Option.map_some, onCells]
      rw [putV h]
    · rw [if_neg e, if_neg (fun e' => e e'.symm)]
  refine ⟨fun x o hx => ?_, ⟨rfl, rfl, rfl, ?_, fun x hx hn => ?_⟩, fun x hx => ?_⟩
  · rcases upd_some hx with ⟨rfl, rfl⟩ | ⟨hne, hx⟩
    · rw [hat x hlt, if_pos rfl]
    · rw [hat x (Array.getElem?_eq_some_iff.1 (hw x o hx)).1, if_neg hne]; exact hw x o hx
  · unfold grow putRow mapBlock Sort.ahead; simp
  · rw [hat x hx, if_neg (fun e => by subst e; rw [hb] at hn; cases hn)]
  · by_cases e : x = b
    · subst e; left; rw [hb]; simp
    · rw [upd_other e] at hx; exact .inl hx
theorem c45 {A : Option Addr} {c : Nat} {l : List Arc} (R : Row H0 H A l.length c 4 (l.flatMap arC)) (hx : Ext H0 H) (hs : l.length < 1000000000)
    (hq : ∀ (l' : List Arc) (H' : Hp), l'.Perm l → l'.Pairwise (fun x y => ¬ ltA y x) → Row H0 H' A l'.length c 4 (l'.flatMap arC) → Ext H0 H' → (∀ q, ¬ rowB A q → H q ≠ none → H' q = H q) → Q (.tuple #[]) H') :
    HCalls Try.prog 45 [.slice A l.length c, .func (.func 46) #[] #[]] H Q := by
  intro w hw
  by_cases h0 : l = []
  · subst h0
    refine Calls.mono (AnyF.slices_SortFunc_none Try.sortArc A c _ w) ?_
    rintro e w' ⟨rfl, rfl⟩
    exact ⟨_, H, rfl, hq [] H (List.Perm.refl _) List.Pairwise.nil R hx (fun q _ _ => rfl), hw, ⟨rfl, rfl, rfl, Nat.le_refl _, fun _ _ _ => rfl⟩, fun b hb => .inl hb⟩
  obtain ⟨h1, h2, h3 | ⟨b, cs, ty, rfl, hb, hcl, ht, hz⟩⟩ := R
  · have : 0 < l.length := List.length_pos_iff.2 h0
    omega
  have hwb := hw b _ hb
  have hlt : b < w.heap.size := (Array.getElem?_eq_some_iff.1 hwb).1
  have hH : HoldsK arC 4 w b 0 l.toArray := by
    unfold HoldsK
    rw [flatA]
    intro j hj
    have hj' : j < (l.flatMap arC).length := by simpa using hj
    refine ⟨?_, frz_of w hwb⟩
    rw [cl_of w hwb, Nat.zero_add]
    have h1' : (cs.take (l.length * 4))[j]? = cs[j]? := by rw [List.getElem?_take_of_lt (by omega)]
    rw [← h1', ht, List.getElem?_eq_getElem hj']
    simp
    rw [List.getElem?_eq_getElem hj']; rfl
  have eg : ∀ args w, (callFunc 46 args).run Try.prog w = .ok (.enter 46 args) w := enters_of Try.func46 (by kernel_rfl) rfl
  have hcon := AnyQ.slices_SortFunc_total Try.sortArc 4 Try.isAgg48 Try.sizeOf48 arC arC_len arC_one ordA swoA 46 #[] b 0 c l.toArray w eg cmpLays hH hlt (by simpa using (by omega : l.length < 4611686018427387904)) fun x y h h' => ltA_total (ordA_ltF.1 h) (ordA_ltF.1 h')
  simp only [List.size_toArray] at hcon
  change Calls Try.prog 45 _ w _ at hcon
  refine Calls.mono hcon ?_
  rintro e w' ⟨rfl, m, os, rfl⟩
  have hp := List.mergeSort_perm l (fun x y => !(ltOf ordA) y x)
  have hsorted : (l.mergeSort fun x y => !(ltOf ordA) y x).Pairwise (fun x y => ¬ ltA y x) := by
    have := List.pairwise_mergeSort (le := fun x y => !(ltOf ordA) y x) (fun a b c h1 h2 => by
      have h1 : ltOf ordA b a = false := by simpa using h1
      have h2 : ltOf ordA c b = false := by simpa using h2
      have := swoA.ntrans c b a h2 h1
      simp [this]) (fun a b => by
      cases h1 : ltOf ordA b a with
      | false => simp
      | true =>
        have : ltOf ordA a b = false := ordA_ltF.2 fun h => ltA_irrefl (ltA_trans h (ordA_ltOf.1 h1))
        simp [this]) l
    refine List.Pairwise.imp (fun {x y} h => ?_) this
    have : ltOf ordA y x = false := by simpa using h
    exact ordA_ltF.1 this
  generalize (l.mergeSort fun x y => !(ltOf ordA) y x) = l' at hp hsorted ⊢
  have hl' : l'.length = l.length := hp.length_eq
  have hfl : (l'.flatMap arC).length = l.length * 4 := by rw [flat_length (fun y _ => arC_len y), hl']
  obtain ⟨g1, g2, g3⟩ := row_putV (m := m) (os := os) (vs := l'.flatMap arC) hw hb (by omega)
  have e : sortWorldK arC 4 w b 0 m l'.toArray os = grow (putRow id (Sort.ahead w m) b 0 (l'.flatMap arC).toArray) os := by
    unfold sortWorldK putRowK
    rw [flatA]
  rw [e]
  refine ⟨_, _, rfl, hq l' _ hp hsorted ⟨by rw [hfl, hl'], by rw [hl']; exact h2, .inr ⟨b, _, ty, rfl, upd_at, ?_, ?_, hz⟩⟩ (hx.upd hz) (fun q hq' _ => ?_), g1, g2, g3⟩
  · rw [List.length_append, List.length_drop, hfl]; omega
  · rw [List.take_left' (by rw [hfl, hl'])]
  · exact upd_off fun e => hq' ⟨0, none, by rw [e]⟩
end
end Go.Proofs.Ytibhpoikhkokiaa.Hw

/- Histories: all arcs. -/
set_option linter.unusedVariables false
set_option linter.unusedSimpArgs false
set_option maxRecDepth 20000
namespace Go.Proofs.Ytibhpoikhkokiaa.Hw
open Go Go.Proofs
def wwAt (l : List Ev) (k : Int) (j : Nat) : List Arc := match (versM l k)[j]?, (versM l k)[j + 1]? with
  | some a, some b => arc1 l a b 1 k
  | _, _ => []
def wwTo (l : List Ev) (k : Int) (n : Nat) : List Arc := (List.range n).flatMap (wwAt l k)
def rdOf (l : List Ev) (i : Nat) : List Arc := match l[i]? with
  | some x => if x.op == 2 then (if natOr (lastW l x.frm x.item) < i then arc1 l x.frm x.txn 2 x.item else []) ++ (if x.frm == 0 || comB l x.frm then arc1 l x.txn (nextM l x.item x.frm) 3 x.item else []) else []
  | none => []
def rdTo (l : List Ev) (n : Nat) : List Arc := (List.range n).flatMap (rdOf l)
def IsArc (l : List Ev) (x : Arc) : Prop := (∃ k, x ∈ wwTo l k ((versM l k).length - 1)) ∨ x ∈ rdTo l l.length
def ArcsOf (l : List Ev) (rs : List Arc) : Prop := rs.Pairwise ltA ∧ ∀ x, x ∈ rs ↔ IsArc l x
theorem arcs_one {l : List Ev} {a b : List Arc} (h : ArcsOf l a) (h' : ArcsOf l b) : a = b := ext_ltA h.1 h'.1 fun x => (h.2 x).trans (h'.2 x).symm
theorem wwTo_succ {l : List Ev} {k : Int} {n : Nat} : wwTo l k (n + 1) = wwTo l k n ++ wwAt l k n := by unfold wwTo; rw [List.range_succ]; simp
theorem rdTo_succ {l : List Ev} {n : Nat} : rdTo l (n + 1) = rdTo l n ++ rdOf l n := by unfold rdTo; rw [List.range_succ]; simp
theorem arc1_len {l : List Ev} {a b k i : Int} : (arc1 l a b k i).length ≤ 1 := by unfold arc1; split <;> simp
theorem wwAt_len {l : List Ev} {k : Int} {j : Nat} : (wwAt l k j).length ≤ 1 := by
  unfold wwAt; split
  · exact arc1_len
  · simp
theorem wwTo_len {l : List Ev} {k : Int} : ∀ {n : Nat}, (wwTo l k n).length ≤ n
  | 0 => by simp [wwTo]
  | n + 1 => by
    have := wwTo_len (l := l) (k := k) (n := n)
    have := wwAt_len (l := l) (k := k) (j := n)
    rw [wwTo_succ, List.length_append]; omega
theorem rdOf_len {l : List Ev} {i : Nat} : (rdOf l i).length ≤ 2 := by
  unfold rdOf
  split
  · rename_i x _
    have h1 := arc1_len (l := l) (a := x.frm) (b := x.txn) (k := 2) (i := x.item)
    have h2 := arc1_len (l := l) (a := x.txn) (b := nextM l x.item x.frm) (k := 3) (i := x.item)
    split
    · rw [List.length_append]
      split <;> split <;> simp <;> omega
    · simp
  · simp
theorem rdTo_len {l : List Ev} : ∀ {n : Nat}, (rdTo l n).length ≤ 2 * n
  | 0 => by simp [rdTo]
  | n + 1 => by
    have := rdTo_len (l := l) (n := n)
    have := rdOf_len (l := l) (i := n)
    rw [rdTo_succ, List.length_append]; omega
theorem vers_mem {l : List Ev} {k t : Int} : t ∈ versM l k ↔ ∃ j x, l[j]? = some x ∧ isC t x = true ∧ wroteM (l.take j) t k = true := by
  unfold versM
  rw [List.mem_filterMap]
  constructor
  · rintro ⟨j, hj, h⟩
    cases hx : l[j]? with
    | none => rw [hx] at h; cases h
    | some x =>
      rw [hx] at h
      simp only at h
      split at h
      · rename_i hc
        simp only [Bool.and_eq_true, beq_iff_eq] at hc
        cases h
        exact ⟨j, x, hx, isC_iff.2 ⟨hc.1, rfl⟩, hc.2⟩
      · cases h
  · rintro ⟨j, x, hx, hc, hw⟩
    obtain ⟨o, e⟩ := isC_iff.1 hc
    refine ⟨j, List.mem_range.2 (List.getElem?_eq_some_iff.1 hx).1, ?_⟩
    rw [hx]
    simp only
    rw [if_pos (by rw [o, e, hw]; rfl), e]
theorem vers_item {l : List Ev} {k : Int} (h : (versM l k).isEmpty = false) : k ∈ l.map (·.item) := by
  cases hv : versM l k with
  | nil => rw [hv] at h; cases h
  | cons t r =>
    obtain ⟨j, x, _, _, hw⟩ := vers_mem.1 (show t ∈ versM l k by rw [hv]; exact List.mem_cons_self)
    obtain ⟨i, y, _, hy, hp⟩ := any_take.1 hw
    exact List.mem_map.2 ⟨y, List.mem_of_getElem? hy, (isW_iff.1 hp).2.2⟩
theorem Row.cellK {H0 H : Hp} {A : Option Addr} {n c k : Nat} {vals : List Value} (R : Row H0 H A n c k vals) {q : Nat} (hq : rowB A q) : ∃ cs ty, H q = some (.cells cs ty (0, 0)) := by
  obtain ⟨_, _, h | ⟨b, cs, ty, rfl, hb, _⟩⟩ := R
  · obtain ⟨o, z, h'⟩ := hq; rw [h.1] at h'; cases h'
  · obtain ⟨o, z, h'⟩ := hq
    cases h'
    exact ⟨_, _, hb⟩
theorem jn_out {α : Type} {r : α} {A : α → Prop} (h : A r) : jn r A := h
section
variable {H0 H H' : Hp} {g c b v w : Nat} {sl : Int → Option Addr × Nat} {A : Option Addr} {n cp : Nat} {l : List Ev} {Q : Value → Hp → Prop}
theorem c21 (B : BookAt H g c b v w sl A n cp l) (hl : l.length ≤ 2000) (hq : ∀ rs A' c' H', ArcsOf l rs → rs.length < 100000000 → Ext H H' → Row H H' A' rs.length c' 4 (rs.flatMap arC) → Q (.slice A' rs.length c') H') : HCalls Try.prog 21 [.pointer (some ⟨g, 0, none⟩)] H Q := by
  refine f21.ok _ _ ?_
  unfold f21
  intro g1 hg1
  generalize hH2 : upd g1 (Obj.cells _ 56 _) H = H2
  have e1 : H2 g1 = some (.cells #[.pointer (some ⟨g, 0, none⟩)] 56 (0, 0)) := by subst hH2; exact upd_at
  have x2 : Ext H H2 := by subst hH2; exact Ext.new hg1
  intro g3 hg3
  generalize hH4 : upd g3 (Obj.cells _ 44 _) H2 = H4
  have e3 : H4 g3 = some (.cells #[.slice none 0 0] 44 (0, 0)) := by subst hH4; exact upd_at
  have x4 : Ext H2 H4 := by subst hH4; exact Ext.new hg3
  have B2 := B.ext x2
  have O4 : OutA H2 H4 g3 [] := ⟨x4, hg3, none, 0, e3, Row.nil, fun ⟨o, z, h⟩ => by cases h⟩
  have rg1 : ∀ {X}, Ext H2 X → cl X g1 0 = some (.pointer (some ⟨g, 0, none⟩)) := fun {X} hx => cl_cells (cs := [.pointer (some ⟨g, 0, none⟩)]) (hx _ _ e1) 0
  obtain ⟨kv, hm, hkv0⟩ := (B2.ext x4).vers
  have hkv : ∀ k, kvGet kv k = if (versM l k).isEmpty then none else some (.slice (sl k).1 (versM l k).length (sl k).2) := hkv0
  clear hkv0
  have hkeys : ∀ k, k ∈ kv.map (·.1) ↔ (versM l k).isEmpty = false := fun k => by
    have h1 := hkv k
    constructor
    · intro hk
      obtain ⟨pr, hp, rfl⟩ := List.mem_map.1 hk
      rw [(kvGet_mem hm.keys).2 hp] at h1
      cases hw : (versM l pr.1).isEmpty with
      | false => rfl
      | true => rw [hw] at h1; cases h1
    · intro hw
      rw [hw] at h1
      exact List.mem_map.2 ⟨_, (kvGet_mem hm.keys).1 h1, rfl⟩
  have hkl : (kv.map (·.1)).length ≤ 2000 := by
    have h1 : (kv.map (fun p : Int × Value => p.1)).Nodup := hm.keys
    have h2 := nodup_len (m := l.map (·.item)) h1 fun k hk => vers_item ((hkeys k).1 hk)
    have h3 : (l.map (·.item)).length = l.length := List.length_map _
    omega
  refine ⟨_, rg1 x4, some v, (B2.ext x4).cl 3, range_to hm fun i8 H9 hi8 x9 hI9 f9g => ?_⟩
  have hib : i8 ≠ v := by
    rintro rfl
    exact (B2.ext x4).vers.live hi8
  have lv2 : ∀ {X}, Ext H2 X → X v = H2 v := fun hx => ext_at hx B2.vers.live
  refine ⟨fun n s H' => ∃ left out, n = left.length ∧ IterAt .i64 H' i8 v kv left ∧ OutA H2 H' g3 out ∧ (∀ x, x ∈ out ↔ ∃ k, k ∈ kv.map (·.1) ∧ k ∉ left ∧ x ∈ wwTo l k ((versM l k).length - 1)) ∧ out.length + left.length * 2000 ≤ 4000000 ∧ ∀ k ∈ left, k ∈ kv.map (·.1),
    ⟨_, kv.map (·.1), [], rfl, hI9, O4.grow x9, fun x => ⟨fun h => (by cases h), fun ⟨k, h1, h2, _⟩ => absurd h1 h2⟩, by simp only [List.length_nil]; omega, fun k hk => hk⟩, ?_⟩
  rintro n' s H11 ⟨left, out, rfl, hI, O, hout, hlen, hleft⟩
  refine jn_out ?_
  refine next_to hI hib (fun hl0 => cndF rfl ?_) (fun k u H15 hku hkl0 hI15 hE f15g => ?_)
  · -- the reads
    subst hl0
    have B11 := B2.ext O.ext
    refine ⟨_, rg1 O.ext, A, n, cp, B11.cl 0, ?_⟩
    have hA := B2.evs
    obtain rfl := hA.len
    have hlt := hA.lt
    have hout0 : ∀ x, x ∈ out ↔ ∃ k, x ∈ wwTo l k ((versM l k).length - 1) := fun x => by
      rw [hout]
      constructor
      · rintro ⟨k, _, _, h⟩; exact ⟨k, h⟩
      · rintro ⟨k, h⟩
        refine ⟨k, ?_, by simp, h⟩
        rw [hkeys]
        cases he : (versM l k).isEmpty with
        | false => rfl
        | true => rw [List.isEmpty_iff.1 he] at h; simp [wwTo] at h
    refine scan hlt (fun i H' => OutA H2 H' g3 (out ++ rdTo l i)) (by simpa [rdTo] using O) (fun i H38 next hi O38 hnext => ?_) (fun H38 next O38 => ?_)
    · obtain ⟨x, hx⟩ := get_of hi
      have B38 := B2.ext O38.ext
      have hb38 : ∀ m, m ≤ i → (out ++ rdTo l m).length + 4 < 1000000000 := fun m hm => by
        have := rdTo_len (l := l) (n := m)
        rw [List.length_append]; simp only [List.length_nil] at hlen; omega
      have hrd : rdOf l i = if x.op == 2 then (if natOr (lastW l x.frm x.item) < i then arc1 l x.frm x.txn 2 x.item else []) ++ (if x.frm == 0 || comB l x.frm then arc1 l x.txn (nextM l x.item x.frm) 3 x.item else []) else [] := by unfold rdOf; rw [hx]
      dsimp only
      refine cndT (decide_eq_true (by omega)) (jn_intro (fun J => ∀ H', OutA H2 H' g3 (out ++ rdTo l (i + 1)) → J H') (fun H' hO => ⟨rfl, hnext H' hO⟩) fun J hJ => ⟨by omega, by omega, rd_ev (hA.ext O38.ext) hx fun q o _ k1 k2 k3 k4 k5 => ⟨x.op, by simpa using k1, x.txn, by simpa using k2, x.item, by simpa using k3, x.frm, by simpa using k4, x.stmt, by simpa using k5, ?_⟩⟩)
      rw [rdTo_succ, hrd] at hJ
      refine cndI (fun o2 => ?_) fun o2 => ?_
      · have : (x.op == 2) = false := by simpa using o2
        rw [this] at hJ
        exact hJ H38 (by simpa using O38)
      have o2' : (x.op == 2) = true := by simpa using o2
      rw [o2', if_pos rfl] at hJ
      refine jn_intro (fun J2 => ∀ H', OutA H2 H' g3 (out ++ rdTo l i ++ if natOr (lastW l x.frm x.item) < i then arc1 l x.frm x.txn 2 x.item else []) → J2 H') (fun H54 O54 => ?_) fun J2 hJ2 => ⟨_, rg1 O38.ext, some w, B38.cl 4, B38.lastw.look ⟨((lastW l x.frm x.item).getD 0 : Nat), by cases lastW l x.frm x.item <;> rfl, ?_⟩⟩
      · have B54 := B2.ext O54.ext
        have hlen54 : (out ++ rdTo l i ++ if natOr (lastW l x.frm x.item) < i then arc1 l x.frm x.txn 2 x.item else []).length < 1000000000 := by
          have := hb38 i (Nat.le_refl _)
          have h1 := arc1_len (l := l) (a := x.frm) (b := x.txn) (k := 2) (i := x.item)
          rw [List.length_append]
          split
          · omega
          · simp only [List.length_nil]; omega
        refine jn_intro (fun J3 => ((x.frm == 0 || comB l x.frm) = true → J3 true H54) ∧ ((x.frm == 0 || comB l x.frm) = false → J3 false H54)) ⟨fun hb => cndT rfl ⟨_, rg1 O54.ext, c44 B54 ⟨_, rfl, fnOk 43 rfl, c43 O54 B2 e1 hlen54 fun H' hO' _ => hJ H' ?_⟩⟩, fun hb => cndF rfl (hJ H54 ?_)⟩ fun J3 h3 => cndI (fun f0 => h3.1 (by rw [f0]; rfl)) fun f0 => ⟨_, rg1 O54.ext, c42 B54 ⟨_, rfl, ?_⟩⟩
        · rw [hb, if_pos rfl, ← List.append_assoc, ← List.append_assoc]; exact hO'
        · rw [hb]; simpa [List.append_assoc] using O54
        · cases hc : comB l x.frm with
          | true => exact h3.1 (by rw [hc, Bool.or_true])
          | false => exact h3.2 (by rw [f0, hc]; rfl)
      · refine cndI (fun hlw => ⟨fnOk 43 rfl, c43 O38 B2 e1 (by have := hb38 i (Nat.le_refl _); omega) fun H' hO' _ => hJ2 H' ?_⟩) fun hlw => hJ2 H38 ?_
        · have : natOr (lastW l x.frm x.item) < i := by have := of_decide_eq_true hlw; unfold natOr; omega
          rw [if_pos this]; exact hO'
        · have : ¬ natOr (lastW l x.frm x.item) < i := by have := of_decide_eq_false hlw; unfold natOr; omega
          rw [if_neg this]; simpa using O38
    · have hlo : (out ++ rdTo l l.length).length < 100000000 := by
        have := rdTo_len (l := l) (n := l.length)
        rw [List.length_append]; simp only [List.length_nil] at hlen; omega
      have hmem : ∀ x, x ∈ out ++ rdTo l l.length ↔ IsArc l x := fun x => by rw [List.mem_append, hout0]; rfl
      generalize out ++ rdTo l l.length = o2 at O38 hlo hmem
      obtain ⟨A2, c2, hc2, R2, hn2⟩ := O38.cell
      dsimp only
      refine cndF (decide_eq_false (by omega)) ⟨A2, o2.length, c2, cl_cells (cs := [.slice A2 o2.length c2]) hc2 0, c45 R2 O38.ext (by omega) fun l' H73 hp hs R73 x73 f43 => ⟨rfl, A2, o2.length, c2, ?_, ?_⟩⟩
      · have : H73 g3 = some (.cells #[.slice A2 o2.length c2] 44 (0, 0)) := (f43 g3 hn2 (by rw [hc2]; simp)).trans hc2
        exact cl_cells (cs := [.slice A2 o2.length c2]) this 0
      · have hl' : l'.length = o2.length := hp.length_eq
        rw [← hl']
        refine c47 R73 x73 (by unfold huge; omega) fun A4 c4g H76 R76 x76 => ⟨_, _, _, rfl, hq _ A4 c4g H76 ⟨ddT_sorted hs, fun x => ?_⟩ ?_ (x2.trans x76) (R76.base x2)⟩
        · rw [ddT_mem, List.take_length, hp.mem_iff, hmem]
        · have := ddT_len (l := l') (j := l'.length); omega
  · -- the versions of an item
    have hk := hleft k hkl0
    have hne := (hkeys k).1 hk
    have hu := (kvGet_mem hm.keys).2 hku
    rw [hkv k, hne, if_neg (by decide)] at hu
    cases hu
    obtain ⟨hsl, hcap⟩ := B2.row k hne
    have hi15 : ∀ cs ty z, H15 i8 ≠ some (.cells cs ty z) := fun cs ty z h => by
      obtain ⟨es, clock, since, seen, c0, hh, _⟩ := hI15
      rw [hh] at h; cases h
    have li15 : H15 i8 ≠ none := by
      obtain ⟨es, clock, since, seen, c0, hh, _⟩ := hI15
      rw [hh]; simp
    have i2 : H2 i8 = none := x4.none hi8
    have O15 : OutA H2 H15 g3 out := by
      obtain ⟨A2, c2, hc2, R2, hn2⟩ := O.cell
      have hnc : ∀ cs ty z, H11 i8 ≠ some (.cells cs ty z) := fun cs ty z h => by
        obtain ⟨es, clock, since, seen, c0, hh, _⟩ := hI
        rw [hh] at h; cases h
      have ng : g3 ≠ i8 := fun e => hnc _ _ _ (e ▸ hc2)
      refine ⟨fun q o hq' => (f15g q fun e => by rw [e, i2] at hq'; cases hq').trans (O.ext q o hq'), hg3, A2, c2, (f15g g3 ng).trans hc2, R2.keep fun q hq' => f15g q fun e => ?_, hn2⟩
      obtain ⟨cs, ty, h1⟩ := R2.cellK hq'
      exact hnc _ _ _ (e ▸ h1)
    have hlt' : (left.filter fun y => decide (y ≠ k)).length < left.length := by
      have h1 := List.length_filter_le (fun y => decide (y ≠ k)) left
      by_cases e : (left.filter fun y => decide (y ≠ k)).length = left.length
      · have := List.length_filter_eq_length_iff.1 e k hkl0
        simp at this
      · omega
    have hvl := vers_len (l := l) (k := k)
    have hlv : (versM l k).length ≠ 0 := fun e => by rw [List.length_eq_zero_iff.1 e] at hne; cases hne
    refine ⟨k, rfl, _, _, _, rfl, cndT rfl (entry_to hE ⟨k, rfl, _, _, _, rfl, ?_⟩)⟩
    refine loop_to (versM l k).length (fun i s H' => s = ((((i + 1 : Nat) : Int), ()), ()) ∧ i + 1 ≤ (versM l k).length ∧ OutA H2 H' g3 (out ++ wwTo l k i) ∧ H' i8 = H15 i8) ⟨rfl, by omega, by simpa [wwTo] using O15, rfl⟩ ?_
    rintro i s H26 next hi ⟨rfl, hil, O26, hi26⟩ hnext
    dsimp only
    by_cases h : i + 1 < (versM l k).length
    · obtain ⟨y, hy⟩ := get_of h
      obtain ⟨z, hz⟩ := get_of (l := versM l k) (i := i) (by omega)
      have em : IntKind.i64.wrap (((i + 1 : Nat) : Int) - 1) = (i : Int) := by rw [wrap_id (by omega) (by omega)]; omega
      have ei : IntKind.i64.wrap (((i + 1 : Nat) : Int) + 1) = ((i + 1 + 1 : Nat) : Int) := by rw [wrap_id (by omega) (by omega)]; rfl
      have hs26 := hsl.ext O26.ext
      have hw : wwTo l k (i + 1) = wwTo l k i ++ arc1 l z y 1 k := by rw [wwTo_succ]; unfold wwAt; rw [hz, hy]
      rw [em]
      refine cndT (decide_eq_true (by omega)) ⟨by omega, by omega, rd_in hs26 hz fun q o _ k1 => ⟨z, by simpa using k1, by omega, by omega, rd_in hs26 hy fun q' o' _ j1 => ⟨y, by simpa using j1, fnOk 43 rfl, c43 O26 B2 e1 ?_ fun H' hO' hfr => ⟨rfl, hnext _ _ (by omega) ⟨by rw [ei], by omega, ?_, ?_⟩⟩⟩⟩⟩
      · have := wwTo_len (l := l) (k := k) (n := i)
        rw [List.length_append]; omega
      · rw [hw, ← List.append_assoc]; exact hO'
      · rw [hfr i8 (by rw [hi26]; exact li15) (fun cs ty z => by rw [hi26]; exact hi15 cs ty z)]; exact hi26
    · have ei : i = (versM l k).length - 1 := by omega
      refine cndF (decide_eq_false (by omega)) ⟨rfl, _, hlt', _, _, rfl, hI15.ext hi26 ((lv2 O26.ext).trans (lv2 O15.ext).symm), O26, fun x => ?_, ?_, fun k' hk' => hleft k' (List.mem_filter.1 hk').1⟩
      · rw [List.mem_append, hout, ei]
        constructor
        · rintro (⟨k', h1, h2, h3⟩ | h1)
          · exact ⟨k', h1, fun h => h2 (List.mem_filter.1 h).1, h3⟩
          · exact ⟨k, hk, by simp [List.mem_filter], h1⟩
        · rintro ⟨k', h1, h2, h3⟩
          by_cases e : k' = k
          · subst e; exact .inr h3
          · exact .inl ⟨k', h1, fun h => h2 (List.mem_filter.2 ⟨h, by simpa using e⟩), h3⟩
      · have := wwTo_len (l := l) (k := k) (n := i)
        have h1 : (left.filter fun y => decide (y ≠ k)).length * 2000 + 2000 ≤ left.length * 2000 := by omega
        rw [List.length_append]; omega
end
end Go.Proofs.Ytibhpoikhkokiaa.Hw
