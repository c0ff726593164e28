/- Maps whose keys are whole numbers: what the evaluator's words come to, said of lists of pairs. -/
import Derived.Test.YtkbancdmhcnhjaaHwMem
set_option linter.unusedVariables false
set_option linter.unusedSimpArgs false
namespace Go.Proofs.Ytkbancdmhcnhjaa.Hw
open Go
abbrev KV := List (Int × Value)
def kvGet (kv : KV) (x : Int) : Option Value := (kv.find? (fun p => decide (x = p.1))).map (·.2)
def kvPut (kv : KV) (x : Int) (v : Value) : KV := match kv.findIdx? (fun p => decide (x = p.1)) with
  | some i => kv.set i (x, v)
  | none => kv ++ [(x, v)]
def kvDel (kv : KV) (x : Int) : KV := match kv.findIdx? (fun p => decide (x = p.1)) with
  | some i => kv.eraseIdx i
  | none => kv
def keysD (kv : KV) : Prop := (kv.map (·.1)).Nodup
/-- The entries of a map, as pairs. -/
def EsOf (k : IntKind) (es : Array MapEntry) (clock : Nat) (kv : KV) : Prop :=
  es.toList.map (fun e => (e.key, e.val)) = kv.map (fun p => (Value.int k p.1, p.2)) ∧ (es.toList.map (·.born)).Nodup ∧ (∀ e ∈ es.toList, e.born < clock) ∧ keysD kv
def MapAt (k : IntKind) (H : Hp) (b : Nat) (kv : KV) : Prop := ∃ es clock, H b = some (.map es clock) ∧ EsOf k es clock kv
section
variable {k : IntKind} {H : Hp} {es : Array MapEntry} {clock : Nat} {kv : KV} {x : Int} {v : Value}
theorem EsOf.ints (h : EsOf k es clock kv) : intKeys k es.toList := fun e he => by
  have : (e.key, e.val) ∈ kv.map (fun p => (Value.int k p.1, p.2)) := by rw [← h.1]; exact List.mem_map_of_mem he
  obtain ⟨p, _, hp⟩ := List.mem_map.1 this
  injection hp with h1 h2
  exact ⟨p.1, h1.symm⟩
theorem esOf_at : ∀ {l : List MapEntry} {kv : KV}, l.map (fun e => (e.key, e.val)) = kv.map (fun p => (Value.int k p.1, p.2)) → l.findIdx? (isKey x) = kv.findIdx? (fun p => decide (x = p.1))
  | [], [], _ => rfl
  | [], _ :: _, h => by cases h
  | _ :: _, [], h => by cases h
  | e :: l, p :: r, h => by
    simp only [List.map_cons, List.cons.injEq, Prod.mk.injEq] at h
    rw [List.findIdx?_cons, List.findIdx?_cons, esOf_at (l := l) (kv := r) h.2]
    have : isKey x e = decide (x = p.1) := by unfold isKey; rw [h.1.1]
    rw [this]
theorem esOf_find : ∀ {l : List MapEntry} {kv : KV}, l.map (fun e => (e.key, e.val)) = kv.map (fun p => (Value.int k p.1, p.2)) → findE x l = kvGet kv x
  | [], [], _ => rfl
  | [], _ :: _, h => by cases h
  | _ :: _, [], h => by cases h
  | e :: l, p :: r, h => by
    simp only [List.map_cons, List.cons.injEq, Prod.mk.injEq] at h
    have ih := esOf_find (l := l) (kv := r) h.2
    unfold findE kvGet at ih ⊢
    rw [List.find?_cons, List.find?_cons]
    have : isKey x e = decide (x = p.1) := by unfold isKey; rw [h.1.1]
    rw [this]
    cases decide (x = p.1) with
    | true => simp [h.1.2]
    | false => exact ih
theorem esOf_len (h : EsOf k es clock kv) : es.size = kv.length := by
  have := congrArg List.length h.1
  simpa using this
theorem newMap_to {K : Nat → Hp → Prop} (hk : ∀ b H', H b = none → Ext H H' → MapAt k H' b [] → K b H') : newMapF H K := fun b hb =>
  hk b _ hb (Ext.new hb) ⟨#[], 0, upd_at, rfl, by simp, by simp, by unfold keysD; simp⟩
theorem look_to {b : Nat} {z : Value} {K : Value → Bool → Prop} (h : MapAt k H b kv) (hk : K ((kvGet kv x).getD z) (kvGet kv x).isSome) : lookF H k (some b) x z K := by
  obtain ⟨es, clock, hb, he⟩ := h
  refine ⟨es, clock, hb, he.ints, ?_⟩
  rw [esOf_find he.1]; exact hk
theorem size_to {b : Nat} {K : Nat → Prop} (h : MapAt k H b kv) (hk : K kv.length) : sizeF H (some b) K := by
  obtain ⟨es, clock, hb, he⟩ := h
  exact ⟨es, clock, hb, by rw [esOf_len he]; exact hk⟩
theorem keysD_put (h : keysD kv) : keysD (kvPut kv x v) := by
  unfold kvPut
  split
  · rename_i i hi
    rw [List.findIdx?_eq_some_iff_getElem] at hi
    obtain ⟨hlt, hp, _⟩ := hi
    have hp := of_decide_eq_true hp
    unfold keysD at h ⊢
    have : (kv.set i (x, v)).map (·.1) = kv.map (·.1) := by
      rw [List.map_set]
      apply List.ext_getElem
      · simp
      · intro j h1 h2
        rw [List.getElem_set]
        split
        · rename_i e; subst e; simp [hp]
        · rfl
    rw [this]; exact h
  · rename_i hn
    rw [List.findIdx?_eq_none_iff] at hn
    unfold keysD at h ⊢
    rw [List.map_append, List.nodup_append]
    refine ⟨h, by simp, fun a ha c hc => ?_⟩
    obtain ⟨p, hp, rfl⟩ := List.mem_map.1 ha
    simp only [List.map_cons, List.map_nil, List.mem_singleton] at hc
    subst hc
    have := of_decide_eq_false (hn p hp)
    exact fun e => this e.symm
theorem esOf_put (h : EsOf k es clock kv) : ∃ es' clock', putE k x v es clock = .map es' clock' ∧ EsOf k es' clock' (kvPut kv x v) := by
  obtain ⟨h1, h2, h3, h4⟩ := h
  have hk := keysD_put (x := x) (v := v) h4
  unfold putE
  rw [esOf_at h1]
  cases hi : kv.findIdx? (fun p => decide (x = p.1)) with
  | some i =>
    refine ⟨_, clock, rfl, ?_⟩
    have hput : kvPut kv x v = kv.set i (x, v) := by unfold kvPut; rw [hi]
    rw [hput] at hk ⊢
    rw [List.findIdx?_eq_some_iff_getElem] at hi
    obtain ⟨hlt, hp, _⟩ := hi
    have hlen : es.size = kv.length := by have := congrArg List.length h1; simpa using this
    have hmod : (es.modify i fun e => { e with key := .int k x, val := v }).toList = es.toList.modify i fun e => { e with key := .int k x, val := v } := by simp
    refine ⟨?_, ?_, ?_, hk⟩
    · rw [hmod]
      have h1' := h1
      apply List.ext_getElem?
      intro j
      have hj := congrArg (fun l => l[j]?) h1'
      simp only [List.getElem?_map] at hj
      simp only [List.getElem?_map, List.getElem?_modify, List.getElem?_set]
      by_cases e : i = j
      · subst e
        have : i < es.toList.length := by simpa using hlen ▸ hlt
        simp [List.getElem?_eq_getElem this, hlt]
      · simp only [e, if_false]
        rw [← hj]
        cases es.toList[j]? <;> rfl
    · rw [hmod]
      have : (es.toList.modify i fun e => { e with key := .int k x, val := v }).map (·.born) = es.toList.map (·.born) := by
        apply List.ext_getElem?
        intro j
        simp only [List.getElem?_map, List.getElem?_modify]
        by_cases e : i = j
        · subst e; simp only [if_true]; cases es.toList[i]? <;> rfl
        · simp only [e, if_false]; cases es.toList[j]? <;> rfl
      rw [this]; exact h2
    · intro e he
      rw [hmod] at he
      obtain ⟨j, hj⟩ := List.getElem?_of_mem he
      rw [List.getElem?_modify] at hj
      cases hx : es.toList[j]? with
      | none => rw [hx] at hj; cases hj
      | some e0 =>
        rw [hx] at hj
        simp only [Option.map_eq_map, Option.map_some, Option.some.injEq] at hj
        have hb := h3 e0 (List.mem_of_getElem? hx)
        subst hj
        split <;> exact hb
  | none =>
    refine ⟨_, clock + 1, rfl, ?_⟩
    have hput : kvPut kv x v = kv ++ [(x, v)] := by unfold kvPut; rw [hi]
    rw [hput] at hk ⊢
    refine ⟨by simp [h1], ?_, ?_, hk⟩
    · rw [Array.toList_push, List.map_append, List.nodup_append]
      refine ⟨h2, by simp, fun a ha c hc => ?_⟩
      obtain ⟨e, he, rfl⟩ := List.mem_map.1 ha
      simp only [List.map_cons, List.map_nil, List.mem_singleton] at hc
      subst hc
      have := h3 e he
      omega
    · intro e he
      rw [Array.toList_push, List.mem_append, List.mem_singleton] at he
      rcases he with he | rfl
      · have := h3 e he; omega
      · exact Nat.lt_succ_self _
theorem put_to {b : Nat} {K : Hp → Prop} (h : MapAt k H b kv) (hk : ∀ H', MapAt k H' b (kvPut kv x v) → (∀ q, q ≠ b → H' q = H q) → K H') : putF H k (some b) x v K := by
  obtain ⟨es, clock, hb, he⟩ := h
  obtain ⟨es', clock', e, he'⟩ := esOf_put (x := x) (v := v) he
  refine ⟨b, es, clock, rfl, hb, he.ints, ?_⟩
  rw [e]
  exact hk _ ⟨es', clock', upd_at, he'⟩ (fun q hq => upd_off hq)
theorem kvGet_set {y : Int} : ∀ {kv : KV} {i : Nat} (hlt : i < kv.length), kv[i].1 = x → (∀ j (hj : j < kv.length), j < i → x ≠ kv[j].1) → kvGet (kv.set i (x, v)) y = if y = x then some v else kvGet kv y
  | [], i, hlt, _, _ => by simp at hlt
  | a :: r, 0, _, hf, _ => by
    simp only [List.getElem_cons_zero] at hf
    unfold kvGet
    simp only [List.set_cons_zero, List.find?_cons, hf]
    by_cases e : y = x
    · simp [e]
    · simp [e]
  | a :: r, i + 1, hlt, hf, hn => by
    have ha : x ≠ a.1 := hn 0 (by simp) (by omega)
    have ih := kvGet_set (y := y) (kv := r) (i := i) (by simpa using hlt) (by simpa using hf) (fun j hj hji => by have := hn (j + 1) (by simpa using hj) (by omega); simpa using this)
    unfold kvGet at ih ⊢
    simp only [List.set_cons_succ, List.find?_cons]
    by_cases e : y = a.1
    · have hyx : y ≠ x := fun h => ha (h ▸ e)
      simp [e, Ne.symm ha]
    · simp only [decide_eq_false e]
      exact ih
theorem kvGet_put {y : Int} : kvGet (kvPut kv x v) y = if y = x then some v else kvGet kv y := by
  unfold kvPut
  split
  · rename_i i hi
    rw [List.findIdx?_eq_some_iff_getElem] at hi
    obtain ⟨hlt, hp, hn⟩ := hi
    exact kvGet_set hlt (of_decide_eq_true hp).symm (fun j hj hji => by have := hn j hji; simpa using this)
  · rename_i hn
    rw [List.findIdx?_eq_none_iff] at hn
    unfold kvGet
    rw [List.find?_append]
    by_cases e : y = x
    · subst e
      have : kv.find? (fun p => decide (y = p.1)) = none := by
        rw [List.find?_eq_none]
        intro p hp
        rw [hn p hp]; decide
      rw [this]; simp
    · simp [e]
end
end Go.Proofs.Ytkbancdmhcnhjaa.Hw
