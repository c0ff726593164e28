/- HwMem HwMap HwIter HwPair Ta Tb Tr Tc Td Te Tf Tg (joined by merge.py) -/
import Derived.Test.YtibhpoikhkokiaaOne3
import Derived.Test.YtibhpoikhkokiaaOne4
/- Heaps that grow, slices in them, and what the memory operations of the evaluator come to. -/
set_option linter.unusedVariables false
set_option linter.unusedSimpArgs false
namespace Go.Proofs.Ytibhpoikhkokiaa.Hw
open Go

/-- Whatever the one heap has, the other has too. -/
def Ext (H H' : Hp) : Prop := ∀ b o, H b = some o → H' b = some o
theorem Ext.refl (H : Hp) : Ext H H := fun _ _ h => h
theorem Ext.trans {H1 H2 H3 : Hp} (h : Ext H1 H2) (h' : Ext H2 H3) : Ext H1 H3 := fun b o hb => h' b o (h b o hb)
theorem upd_at {α : Type} {t : Nat} {a : α} {e : Nat → Option α} : upd t a e t = some a := by simp [upd]
theorem upd_off {α : Type} {t x : Nat} {a : α} {e : Nat → Option α} (h : x ≠ t) : upd t a e x = e x := by
  unfold upd
  cases hb : Nat.beq x t with
  | true => exact absurd (Nat.eq_of_beq_eq_true hb) h
  | false => rfl
theorem Ext.new {H : Hp} {b : Nat} {o : Obj} (h : H b = none) : Ext H (upd b o H) := fun x p hx => by
  rw [upd_off (fun e => by rw [e, h] at hx; cases hx)]; exact hx
theorem Ext.upd {H0 H : Hp} {b : Nat} {o : Obj} (h : Ext H0 H) (hb : H0 b = none) : Ext H0 (upd b o H) := fun x p hx => by
  rw [upd_off (fun e => by rw [e, hb] at hx; cases hx)]; exact h x p hx
theorem Ext.none {H H' : Hp} (h : Ext H H') {b : Nat} (hb : H' b = none) : H b = none := by
  cases hx : H b with
  | none => rfl
  | some o => rw [h b o hx] at hb; cases hb

theorem cl_ext {H H' : Hp} (h : Ext H H') {b o : Nat} {v : Value} (hc : cl H b o = some v) : cl H' b o = some v := by
  unfold cl at hc ⊢
  cases hb : H b with
  | none => rw [hb] at hc; cases hc
  | some p => rw [hb] at hc; rw [h b p hb]; exact hc
theorem cellsAt_ext {H H' : Hp} (h : Ext H H') {A : Option Addr} {l : List Value} (hc : cellsAt H A l) : cellsAt H' A l := by
  rcases hc with hc | ⟨b, o, hA, hc⟩
  · exact .inl hc
  · exact .inr ⟨b, o, hA, fun j v hj => cl_ext h (hc j v hj)⟩
theorem cl_cells {H : Hp} {b : Nat} {cs : List Value} {ty : Nat} {z : Nat × Nat} (h : H b = some (.cells cs.toArray ty z)) (o : Nat) : cl H b o = cs[o]? := by
  unfold cl; rw [h]; simp
/-- A slice's element: where it lies. -/
theorem at_cells {H : Hp} {A : Option Addr} {vs : List Value} (h : cellsAt H A vs) (hn : vs ≠ []) {K : Nat → Nat → Prop}
    (hk : ∀ b o, A = some ⟨b, o, none⟩ → (∀ j v, vs[j]? = some v → cl H b (o + j) = some v) → K b o) : onPtr A K := by
  rcases h with h | ⟨b, o, rfl, h⟩
  · exact absurd h hn
  · exact hk b o rfl h
theorem wrap_id {x : Int} (h1 : -9223372036854775808 ≤ x) (h2 : x < 9223372036854775808) : IntKind.i64.wrap x = x := by
  unfold IntKind.wrap
  simp [IntKind.bits, IntKind.signed]
  omega

/-- The same, with the loop's step handed on as it is. -/
theorem loop_to {σ : Type} {s0 : σ} {H : Hp} {body : σ → Hp → (σ → Hp → Prop) → Prop} (n : Nat) (I : Nat → σ → Hp → Prop) (h0 : I 0 s0 H)
    (hs : ∀ i s H' (next : σ → Hp → Prop), i ≤ n → I i s H' → (∀ s' H2, i < n → I (i + 1) s' H2 → next s' H2) → body s H' next) : LoopF s0 H body :=
  ⟨fun m s H' => ∃ i, i + m = n ∧ I i s H', ⟨n, 0, by omega, h0⟩, fun m s H' ⟨i, hi, hI⟩ => hs i s H' _ (by omega) hI (fun s' H2 hlt h2 => ⟨n - (i + 1), by omega, i + 1, by omega, h2⟩)⟩

theorem cndT {b : Bool} {A B : Prop} (h : b = true) (hA : A) : cnd b A B := by subst h; exact hA
theorem cndF {b : Bool} {A B : Prop} (h : b = false) (hB : B) : cnd b A B := by subst h; exact hB
theorem cndI {b : Bool} {A B : Prop} (hA : b = true → A) (hB : b = false → B) : cnd b A B := by
  cases b
  · exact hB rfl
  · exact hA rfl
theorem onPtrI {b o : Nat} {K : Nat → Nat → Prop} (h : K b o) : onPtr (some ⟨b, o, none⟩) K := h
/-- A loop over the indices of a slice. -/
theorem scan {n : Nat} {H : Hp} {body : ((Int × Unit) × Unit) → Hp → (((Int × Unit) × Unit) → Hp → Prop) → Prop} (hn : n < 4611686018427387904) (I : Nat → Hp → Prop) (h0 : I 0 H)
    (hs : ∀ (i : Nat) H' next, i < n → I i H' → (∀ H2, I (i + 1) H2 → next ((IntKind.i64.wrap ((i : Int) + 1), ()), ()) H2) → body (((i : Int), ()), ()) H' next)
    (he : ∀ H' next, I n H' → body (((n : Int), ()), ()) H' next) : LoopF (((0 : Int), ()), ()) H body := by
  refine loop_to n (fun i s H' => s = (((i : Int), ()), ()) ∧ I i H') ⟨rfl, h0⟩ ?_
  rintro i s H' next hi ⟨rfl, hI⟩ hnext
  by_cases h : i < n
  · refine hs i H' next h hI fun H2 h2 => hnext _ _ h ⟨?_, h2⟩
    rw [wrap_id (by omega) (by omega)]
    rfl
  · obtain rfl : i = n := by omega
    exact he H' next hI

/-! ### rows: blocks of their own behind slices -/
/-- A slice whose block is its own (no other slice of 'H0' has it), of which the first cells are known. -/
def Row (H0 H : Hp) (A : Option Addr) (n c esz : Nat) (vals : List Value) : Prop :=
  vals.length = n * esz ∧ n ≤ c ∧ ((A = none ∧ c = 0) ∨ ∃ (b : Nat) (cs : List Value) (ty : Nat), A = some ⟨b, 0, none⟩ ∧ H b = some (.cells cs.toArray ty (0, 0)) ∧ c * esz ≤ cs.length ∧ cs.take (n * esz) = vals ∧ H0 b = none)
/-- The block of a row, if it has one. -/
def rowB (A : Option Addr) (b : Nat) : Prop := ∃ o q, A = some ⟨b, o, q⟩
theorem Row.cells {H0 H : Hp} {A : Option Addr} {n c esz : Nat} {vals : List Value} (h : Row H0 H A n c esz vals) : cellsAt H A vals := by
  obtain ⟨h1, h2, h3 | ⟨b, cs, ty, rfl, hb, hl, ht, _⟩⟩ := h
  · left
    have : n = 0 := by omega
    subst this
    simpa using h1
  · right
    refine ⟨b, 0, rfl, fun j v hj => ?_⟩
    rw [cl_cells hb, Nat.zero_add]
    rw [← ht, List.getElem?_take] at hj
    split at hj
    · exact hj
    · cases hj
/-- A row stays where its block stays. -/
theorem Row.keep {H0 H H' : Hp} {A : Option Addr} {n c esz : Nat} {vals : List Value} (h : Row H0 H A n c esz vals) (hk : ∀ b, rowB A b → H' b = H b) : Row H0 H' A n c esz vals := by
  obtain ⟨h1, h2, h3 | ⟨b, cs, ty, rfl, hb, hl, ht, hz⟩⟩ := h
  · exact ⟨h1, h2, .inl h3⟩
  · exact ⟨h1, h2, .inr ⟨b, cs, ty, rfl, (hk b ⟨_, _, rfl⟩).trans hb, hl, ht, hz⟩⟩
theorem Row.lt {H0 H : Hp} {A : Option Addr} {n c esz : Nat} {vals : List Value} (h : Row H0 H A n c esz vals) {b : Nat} (hb : rowB A b) : H b ≠ none ∧ H0 b = none := by
  obtain ⟨h1, h2, h3 | ⟨b', cs, ty, rfl, hb', hl, ht, hz⟩⟩ := h
  · obtain ⟨o, q, hA⟩ := hb; rw [h3.1] at hA; cases hA
  · obtain ⟨o, q, hA⟩ := hb
    cases hA
    exact ⟨by rw [hb']; simp, hz⟩
theorem Row.base {H0 H1 H : Hp} {A : Option Addr} {n c esz : Nat} {vals : List Value} (h : Row H1 H A n c esz vals) (hx : Ext H0 H1) : Row H0 H A n c esz vals := by
  obtain ⟨h1, h2, h3 | ⟨b, cs, ty, rfl, hb, hl, ht, hz⟩⟩ := h
  · exact ⟨h1, h2, .inl h3⟩
  · exact ⟨h1, h2, .inr ⟨b, cs, ty, rfl, hb, hl, ht, hx.none hz⟩⟩
theorem Row.nil {H0 H : Hp} {esz : Nat} : Row H0 H none 0 0 esz [] := ⟨by simp, Nat.le_refl _, .inl ⟨rfl, rfl⟩⟩

theorem setR_take {cs vs : List Value} {o : Nat} (h : o + vs.length ≤ cs.length) : (setR cs o vs).take (o + vs.length) = cs.take o ++ vs := by
  unfold setR
  rw [List.take_append_of_le_length (by rw [List.length_append, List.length_take]; omega), List.take_of_length_le (by rw [List.length_append, List.length_take]; omega)]
theorem setR_length {cs vs : List Value} {o : Nat} (h : o + vs.length ≤ cs.length) : (setR cs o vs).length = cs.length := by
  unfold setR
  rw [List.length_append, List.length_append, List.length_take, List.length_drop]; omega

/-- Appending to a row: it stays a row, and no block but its own, or a new one, is touched. -/
theorem Row.append {H0 H : Hp} {A B : Option Addr} {n c m el esz eby : Nat} {vals new : List Value} {K : Option Addr → Nat → Nat → Hp → Prop} (R : Row H0 H A n c esz vals) (hx : Ext H0 H)
    (hnew : cellsAt H B new) (hl : new.length = m * esz) (ho : ∀ v ∈ new, v.oneCell' = true) (hz1 : (n + m) * eby ≤ 140737488355328) (hz2 : n + m ≤ 140737488355328)
    (hk : ∀ A' c' H', Row H0 H' A' (n + m) c' esz (vals ++ new) → Ext H0 H' → (∀ b, H' b ≠ H b → rowB A' b ∧ (rowB A b ∨ H b = none)) → (∀ b, rowB A' b → rowB A b ∨ H b = none) → (n + m ≤ c → A' = A ∧ c' = c) → K A' (n + m) c' H') :
    appendF H el esz eby A n c B m K := by
  have hR := R
  obtain ⟨h1, h2, h3⟩ := R
  have hmul : (n + m) * esz = n * esz + m * esz := Nat.add_mul _ _ _
  have hmn : c < n + m → c * esz ≤ (n + m) * esz := fun h => Nat.mul_le_mul_right _ (by omega)
  refine ⟨hz1, hz2, new, hl, hnew, ho, fun hc => ⟨fun hm => ?_, fun hm => ?_⟩, fun hc => ⟨vals, h1, hR.cells, fun b cap rest hb hcap hcl hrl => ?_⟩⟩
  · subst hm
    have : new = [] := List.length_eq_zero_iff.1 (by simpa using hl)
    subst this
    exact hk A c H (by simpa using hR) hx (fun b hb => absurd rfl hb) (fun b hb => .inl hb) (fun _ => ⟨rfl, rfl⟩)
  · rcases h3 with h3 | ⟨b, cs, ty, rfl, hb, hcl, ht, hz⟩
    · omega
    · have hle : (n + m) * esz ≤ cs.length := Nat.le_trans (Nat.mul_le_mul_right _ hc) hcl
      refine ⟨b, 0, cs, ty, rfl, hb, by omega, ?_⟩
      rw [Nat.zero_add]
      refine hk _ c _ ⟨?_, hc, .inr ⟨b, setR cs (n * esz) new, ty, rfl, upd_at, ?_, ?_, hz⟩⟩ (hx.upd hz) ?_ (fun b' hb' => .inl hb') (fun _ => ⟨rfl, rfl⟩)
      · rw [List.length_append, h1, hl, hmul]
      · rw [setR_length (by omega)]; exact hcl
      · rw [hmul, ← hl, setR_take (by omega), ht]
      · intro b' hb'
        by_cases hbb : b' = b
        · subst hbb; exact ⟨⟨_, _, rfl⟩, .inl ⟨_, _, rfl⟩⟩
        · exact absurd (upd_off hbb) hb'
  · refine hk _ cap _ ⟨?_, hcap, .inr ⟨b, vals ++ new ++ rest, el, rfl, upd_at, ?_, ?_, hx.none hb⟩⟩ (hx.upd (hx.none hb)) ?_ ?_ (fun h => by omega)
    · rw [List.length_append, h1, hl, hmul]
    · have h4 : cap * esz = (n + m) * esz + (cap - (n + m)) * esz := by rw [← Nat.add_mul]; congr 1; omega
      rw [List.length_append, List.length_append, h1, hl, hrl, h4, hmul]; exact Nat.le_refl _
    · rw [List.take_append_of_le_length (by rw [List.length_append, h1, hl, hmul]; exact Nat.le_refl _), List.take_of_length_le (by rw [List.length_append, h1, hl, hmul]; exact Nat.le_refl _)]
    · intro b' hb'
      by_cases hbb : b' = b
      · subst hbb; exact ⟨⟨_, _, rfl⟩, .inr hb⟩
      · exact absurd (upd_off hbb) hb'
    · rintro b' ⟨o, q, h⟩
      cases h
      exact .inr hb

/-! ### slices that are read -/
def ints (l : List Int) : List Value := l.map (fun x => .int .i64 x)
theorem flat_get {α : Type} {f : α → List Value} {k : Nat} : ∀ {l : List α} {i j : Nat} {x : α}, (∀ x ∈ l, (f x).length = k) → l[i]? = some x → j < k → (l.flatMap f)[i * k + j]? = (f x)[j]?
  | [], i, j, x, _, h, _ => by simp at h
  | y :: r, 0, j, x, hl, h, hj => by
    simp at h
    subst h
    rw [List.flatMap_cons, Nat.zero_mul, Nat.zero_add, List.getElem?_append_left (by rw [hl y List.mem_cons_self]; exact hj)]
  | y :: r, i + 1, j, x, hl, h, hj => by
    rw [List.flatMap_cons, show (i + 1) * k + j = (f y).length + (i * k + j) by rw [hl y List.mem_cons_self, Nat.add_mul]; omega, List.getElem?_append_right (by omega), Nat.add_sub_cancel_left]
    exact flat_get (fun z hz => hl z (List.mem_cons_of_mem _ hz)) (by simpa using h) hj
theorem flat_length {α : Type} {f : α → List Value} {k : Nat} : ∀ {l : List α}, (∀ x ∈ l, (f x).length = k) → (l.flatMap f).length = l.length * k
  | [], _ => by simp
  | y :: r, hl => by
    rw [List.flatMap_cons, List.length_append, flat_length (fun z hz => hl z (List.mem_cons_of_mem _ hz)), hl y List.mem_cons_self, List.length_cons, Nat.add_mul]; omega
theorem flat_ne {α : Type} {f : α → List Value} {k : Nat} {l : List α} (hl : ∀ x ∈ l, (f x).length = k) (hk : 0 < k) (h : l ≠ []) : l.flatMap f ≠ [] := fun e => by
  have := flat_length hl
  rw [e] at this
  cases l with
  | nil => exact h rfl
  | cons y r => simp only [List.length_nil, List.length_cons, Nat.add_mul] at this; omega
end Go.Proofs.Ytibhpoikhkokiaa.Hw

/- Maps whose keys are whole numbers: what the evaluator's words come to, said of lists of pairs. -/
set_option linter.unusedVariables false
set_option linter.unusedSimpArgs false
namespace Go.Proofs.Ytibhpoikhkokiaa.Hw
open Go
abbrev KV := List (Int × Value)
def kvGet (kv : KV) (x : Int) : Option Value := (kv.find? (fun p => decide (x = p.1))).map (·.2)
def kvPut (kv : KV) (x : Int) (v : Value) : KV := match kv.findIdx? (fun p => decide (x = p.1)) with
  | some i => kv.set i (x, v)
  | none => kv ++ [(x, v)]
def kvDel (kv : KV) (x : Int) : KV := match kv.findIdx? (fun p => decide (x = p.1)) with
  | some i => kv.eraseIdx i
  | none => kv
def keysD (kv : KV) : Prop := (kv.map (·.1)).Nodup
/-- The entries of a map, as pairs. -/
def EsOf (k : IntKind) (es : Array MapEntry) (clock : Nat) (kv : KV) : Prop :=
  es.toList.map (fun e => (e.key, e.val)) = kv.map (fun p => (Value.int k p.1, p.2)) ∧ (es.toList.map (·.born)).Nodup ∧ (∀ e ∈ es.toList, e.born < clock) ∧ keysD kv
def MapAt (k : IntKind) (H : Hp) (b : Nat) (kv : KV) : Prop := ∃ es clock, H b = some (.map es clock) ∧ EsOf k es clock kv
section
variable {k : IntKind} {H : Hp} {es : Array MapEntry} {clock : Nat} {kv : KV} {x : Int} {v : Value}
theorem EsOf.ints (h : EsOf k es clock kv) : intKeys k es.toList := fun e he => by
  have : (e.key, e.val) ∈ kv.map (fun p => (Value.int k p.1, p.2)) := by rw [← h.1]; exact List.mem_map_of_mem he
  obtain ⟨p, _, hp⟩ := List.mem_map.1 this
  injection hp with h1 h2
  exact ⟨p.1, h1.symm⟩
theorem esOf_at : ∀ {l : List MapEntry} {kv : KV}, l.map (fun e => (e.key, e.val)) = kv.map (fun p => (Value.int k p.1, p.2)) → l.findIdx? (isKey x) = kv.findIdx? (fun p => decide (x = p.1))
  | [], [], _ => rfl
  | [], _ :: _, h => by cases h
  | _ :: _, [], h => by cases h
  | e :: l, p :: r, h => by
    simp only [List.map_cons, List.cons.injEq, Prod.mk.injEq] at h
    rw [List.findIdx?_cons, List.findIdx?_cons, esOf_at (l := l) (kv := r) h.2]
    have : isKey x e = decide (x = p.1) := by unfold isKey; rw [h.1.1]
    rw [this]
theorem esOf_find : ∀ {l : List MapEntry} {kv : KV}, l.map (fun e => (e.key, e.val)) = kv.map (fun p => (Value.int k p.1, p.2)) → findE x l = kvGet kv x
  | [], [], _ => rfl
  | [], _ :: _, h => by cases h
  | _ :: _, [], h => by cases h
  | e :: l, p :: r, h => by
    simp only [List.map_cons, List.cons.injEq, Prod.mk.injEq] at h
    have ih := esOf_find (l := l) (kv := r) h.2
    unfold findE kvGet at ih ⊢
    rw [List.find?_cons, List.find?_cons]
    have : isKey x e = decide (x = p.1) := by unfold isKey; rw [h.1.1]
    rw [this]
    cases decide (x = p.1) with
    | true => simp [h.1.2]
    | false => exact ih
theorem esOf_len (h : EsOf k es clock kv) : es.size = kv.length := by
  have := congrArg List.length h.1
  simpa using this
theorem look_to {b : Nat} {z : Value} {K : Value → Bool → Prop} (h : MapAt k H b kv) (hk : K ((kvGet kv x).getD z) (kvGet kv x).isSome) : lookF H k (some b) x z K := by
  obtain ⟨es, clock, hb, he⟩ := h
  refine ⟨es, clock, hb, he.ints, ?_⟩
  rw [esOf_find he.1]; exact hk
theorem size_to {b : Nat} {K : Nat → Prop} (h : MapAt k H b kv) (hk : K kv.length) : sizeF H (some b) K := by
  obtain ⟨es, clock, hb, he⟩ := h
  exact ⟨es, clock, hb, by rw [esOf_len he]; exact hk⟩
theorem keysD_put (h : keysD kv) : keysD (kvPut kv x v) := by
  unfold kvPut
  split
  · rename_i i hi
    rw [List.findIdx?_eq_some_iff_getElem] at hi
    obtain ⟨hlt, hp, _⟩ := hi
    have hp := of_decide_eq_true hp
    unfold keysD at h ⊢
    have : (kv.set i (x, v)).map (·.1) = kv.map (·.1) := by
      rw [List.map_set]
      apply List.ext_getElem
      · simp
      · intro j h1 h2
        rw [List.getElem_set]
        split
        · rename_i e; subst e; simp [hp]
        · rfl
    rw [this]; exact h
  · rename_i hn
    rw [List.findIdx?_eq_none_iff] at hn
    unfold keysD at h ⊢
    rw [List.map_append, List.nodup_append]
    refine ⟨h, by simp, fun a ha c hc => ?_⟩
    obtain ⟨p, hp, rfl⟩ := List.mem_map.1 ha
    simp only [List.map_cons, List.map_nil, List.mem_singleton] at hc
    subst hc
    have := of_decide_eq_false (hn p hp)
    exact fun e => this e.symm
theorem esOf_put (h : EsOf k es clock kv) : ∃ es' clock', putE k x v es clock = .map es' clock' ∧ EsOf k es' clock' (kvPut kv x v) := by
  obtain ⟨h1, h2, h3, h4⟩ := h
  have hk := keysD_put (x := x) (v := v) h4
  unfold putE
  rw [esOf_at h1]
  cases hi : kv.findIdx? (fun p => decide (x = p.1)) with
  | some i =>
    refine ⟨_, clock, rfl, ?_⟩
    have hput : kvPut kv x v = kv.set i (x, v) := by unfold kvPut; rw [hi]
    rw [hput] at hk ⊢
    rw [List.findIdx?_eq_some_iff_getElem] at hi
    obtain ⟨hlt, hp, _⟩ := hi
    have hlen : es.size = kv.length := by have := congrArg List.length h1; simpa using this
    have hmod : (es.modify i fun e => { e with key := .int k x, val := v }).toList = es.toList.modify i fun e => { e with key := .int k x, val := v } := by simp
    refine ⟨?_, ?_, ?_, hk⟩
    · rw [hmod]
      have h1' := h1
      apply List.ext_getElem?
      intro j
      have hj := congrArg (fun l => l[j]?) h1'
      simp only [List.getElem?_map] at hj
      simp only [List.getElem?_map, List.getElem?_modify, List.getElem?_set]
      by_cases e : i = j
      · subst e
        have : i < es.toList.length := by simpa using hlen ▸ hlt
        simp [List.getElem?_eq_getElem this, hlt]
      · simp only [e, if_false]
        rw [← hj]
        cases es.toList[j]? <;> rfl
    · rw [hmod]
      have : (es.toList.modify i fun e => { e with key := .int k x, val := v }).map (·.born) = es.toList.map (·.born) := by
        apply List.ext_getElem?
        intro j
        simp only [List.getElem?_map, List.getElem?_modify]
        by_cases e : i = j
        · subst e; simp only [if_true]; cases es.toList[i]? <;> rfl
        · simp only [e, if_false]; cases es.toList[j]? <;> rfl
      rw [this]; exact h2
    · intro e he
      rw [hmod] at he
      obtain ⟨j, hj⟩ := List.getElem?_of_mem he
      rw [List.getElem?_modify] at hj
      cases hx : es.toList[j]? with
      | none => rw [hx] at hj; cases hj
      | some e0 =>
        rw [hx] at hj
        simp only [Option.map_eq_map, Option.map_some, Option.some.injEq] at hj
        have hb := h3 e0 (List.mem_of_getElem? hx)
        subst hj
        split <;> exact hb
  | none =>
    refine ⟨_, clock + 1, rfl, ?_⟩
    have hput : kvPut kv x v = kv ++ [(x, v)] := by unfold kvPut; rw [hi]
    rw [hput] at hk ⊢
    refine ⟨by simp [h1], ?_, ?_, hk⟩
    · rw [Array.toList_push, List.map_append, List.nodup_append]
      refine ⟨h2, by simp, fun a ha c hc => ?_⟩
      obtain ⟨e, he, rfl⟩ := List.mem_map.1 ha
      simp only [List.map_cons, List.map_nil, List.mem_singleton] at hc
      subst hc
      have := h3 e he
      omega
    · intro e he
      rw [Array.toList_push, List.mem_append, List.mem_singleton] at he
      rcases he with he | rfl
      · have := h3 e he; omega
      · exact Nat.lt_succ_self _
theorem put_to {b : Nat} {K : Hp → Prop} (h : MapAt k H b kv) (hk : ∀ H', MapAt k H' b (kvPut kv x v) → (∀ q, q ≠ b → H' q = H q) → K H') : putF H k (some b) x v K := by
  obtain ⟨es, clock, hb, he⟩ := h
  obtain ⟨es', clock', e, he'⟩ := esOf_put (x := x) (v := v) he
  refine ⟨b, es, clock, rfl, hb, he.ints, ?_⟩
  rw [e]
  exact hk _ ⟨es', clock', upd_at, he'⟩ (fun q hq => upd_off hq)
theorem kvGet_set {y : Int} : ∀ {kv : KV} {i : Nat} (hlt : i < kv.length), kv[i].1 = x → (∀ j (hj : j < kv.length), j < i → x ≠ kv[j].1) → kvGet (kv.set i (x, v)) y = if y = x then some v else kvGet kv y
  | [], i, hlt, _, _ => by simp at hlt
  | a :: r, 0, _, hf, _ => by
    simp only [List.getElem_cons_zero] at hf
    unfold kvGet
    simp only [List.set_cons_zero, List.find?_cons, hf]
    by_cases e : y = x
    · simp [e]
    · simp [e]
  | a :: r, i + 1, hlt, hf, hn => by
    have ha : x ≠ a.1 := hn 0 (by simp) (by omega)
    have ih := kvGet_set (y := y) (kv := r) (i := i) (by simpa using hlt) (by simpa using hf) (fun j hj hji => by have := hn (j + 1) (by simpa using hj) (by omega); simpa using this)
    unfold kvGet at ih ⊢
    simp only [List.set_cons_succ, List.find?_cons]
    by_cases e : y = a.1
    · have hyx : y ≠ x := fun h => ha (h ▸ e)
      simp [e, Ne.symm ha]
    · simp only [decide_eq_false e]
      exact ih
theorem kvGet_put {y : Int} : kvGet (kvPut kv x v) y = if y = x then some v else kvGet kv y := by
  unfold kvPut
  split
  · rename_i i hi
    rw [List.findIdx?_eq_some_iff_getElem] at hi
    obtain ⟨hlt, hp, hn⟩ := hi
    exact kvGet_set hlt (of_decide_eq_true hp).symm (fun j hj hji => by have := hn j hji; simpa using this)
  · rename_i hn
    rw [List.findIdx?_eq_none_iff] at hn
    unfold kvGet
    rw [List.find?_append]
    by_cases e : y = x
    · subst e
      have : kv.find? (fun p => decide (y = p.1)) = none := by
        rw [List.find?_eq_none]
        intro p hp
        rw [hn p hp]; decide
      rw [this]; simp
    · simp [e]
end
end Go.Proofs.Ytibhpoikhkokiaa.Hw

/- Ranges over maps whose keys are whole numbers. -/
set_option linter.unusedVariables false
set_option linter.unusedSimpArgs false
namespace Go.Proofs.Ytibhpoikhkokiaa.Hw
open Go
theorem map_erase {α β : Type} {f : α → β} : ∀ {l : List α} {j : Nat}, (l.eraseIdx j).map f = (l.map f).eraseIdx j
  | [], _ => rfl
  | a :: r, 0 => rfl
  | a :: r, j + 1 => by simp only [List.eraseIdx_cons_succ, List.map_cons, map_erase (l := r)]
theorem nodup_inj {α β : Type} {f : α → β} : ∀ {l : List α}, (l.map f).Nodup → ∀ a ∈ l, ∀ b ∈ l, f a = f b → a = b
  | [], _, a, ha, _, _, _ => by cases ha
  | c :: r, h, a, ha, b, hb, e => by
    rw [List.map_cons, List.nodup_cons] at h
    rcases List.mem_cons.1 ha with rfl | ha' <;> rcases List.mem_cons.1 hb with rfl | hb'
    · rfl
    · exact absurd (e ▸ List.mem_map_of_mem hb') h.1
    · exact absurd (e.symm ▸ List.mem_map_of_mem ha') h.1
    · exact nodup_inj h.2 a ha' b hb' e
theorem kvGet_mem {x : Int} {v : Value} : ∀ {kv : KV}, keysD kv → (kvGet kv x = some v ↔ (x, v) ∈ kv)
  | [], _ => by simp [kvGet]
  | (y, u) :: r, h => by
    unfold keysD at h
    rw [List.map_cons, List.nodup_cons] at h
    have ih := kvGet_mem (x := x) (v := v) (kv := r) h.2
    unfold kvGet at ih ⊢
    rw [List.find?_cons, List.mem_cons]
    by_cases e : x = y
    · subst e
      simp only [decide_true]
      constructor
      · intro h'; left; simpa using h'.symm
      · rintro (h' | h')
        · injection h' with _ h'; simp [h']
        · exact absurd (List.mem_map_of_mem (f := (·.1)) h') h.1
    · simp only [decide_eq_false e]
      rw [ih]
      constructor
      · exact .inr
      · rintro (h' | h')
        · injection h' with h' _; exact absurd h' e
        · exact h'
theorem kvDel_eq {x : Int} : ∀ {kv : KV}, keysD kv → kvDel kv x = kv.filter fun p => decide (p.1 ≠ x)
  | [], _ => rfl
  | (y, u) :: r, h => by
    unfold keysD at h
    rw [List.map_cons, List.nodup_cons] at h
    have ih := kvDel_eq (x := x) (kv := r) h.2
    unfold kvDel at ih ⊢
    rw [List.findIdx?_cons, List.filter_cons]
    by_cases e : x = y
    · subst e
      simp only [decide_true, if_true, List.eraseIdx_zero, List.tail_cons, ne_eq, not_true_eq_false, decide_false, Bool.false_eq_true, if_false]
      refine (List.filter_eq_self.2 fun p hp => ?_).symm
      exact decide_eq_true fun e => h.1 (e ▸ List.mem_map_of_mem (f := (·.1)) hp)
    · simp only [decide_eq_false e]
      rw [if_pos (decide_eq_true (Ne.symm e)), ← ih]
      cases hr : List.findIdx? (fun p => decide (x = p.1)) r with
      | none => rfl
      | some i => rfl
theorem keysD_del {x : Int} {kv : KV} (h : keysD kv) : keysD (kvDel kv x) := by
  rw [kvDel_eq h]
  unfold keysD at h ⊢
  exact h.sublist (List.filter_sublist.map _)
theorem mem_kvDel {x : Int} {kv : KV} {p : Int × Value} (h : keysD kv) : p ∈ kvDel kv x ↔ p ∈ kv ∧ p.1 ≠ x := by
  rw [kvDel_eq h, List.mem_filter]; simp
section
variable {k : IntKind} {H : Hp} {es : Array MapEntry} {clock : Nat} {kv : KV} {x : Int} {v : Value}
theorem EsOf.keyD (h : EsOf k es clock kv) : (es.toList.map (·.key)).Nodup := by
  obtain ⟨h1, _, _, h4⟩ := h
  have e : es.toList.map (·.key) = (kv.map (·.1)).map (Value.int k) := by
    have := congrArg (List.map (·.1)) h1
    simpa [List.map_map, Function.comp_def] using this
  rw [e]
  unfold keysD at h4
  refine List.pairwise_map.2 (List.Pairwise.imp (fun hne he => ?_) h4)
  injection he with _ he
  exact hne he
theorem EsOf.pair (h : EsOf k es clock kv) {e : MapEntry} (he : e ∈ es.toList) : ∃ y, e.key = .int k y ∧ (y, e.val) ∈ kv := by
  have : (e.key, e.val) ∈ kv.map (fun p => (Value.int k p.1, p.2)) := by rw [← h.1]; exact List.mem_map_of_mem he
  obtain ⟨p, hp, e2⟩ := List.mem_map.1 this
  injection e2 with h1 h2
  exact ⟨p.1, h1.symm, by rw [← h2]; exact hp⟩
theorem EsOf.back (h : EsOf k es clock kv) {y : Int} {u : Value} (hm : (y, u) ∈ kv) : ∃ e ∈ es.toList, e.key = .int k y ∧ e.val = u := by
  have : (Value.int k y, u) ∈ es.toList.map (fun e => (e.key, e.val)) := by rw [h.1]; exact List.mem_map_of_mem (f := fun p : Int × Value => (Value.int k p.1, p.2)) hm
  obtain ⟨e, he, e2⟩ := List.mem_map.1 this
  injection e2 with h1 h2
  exact ⟨e, he, h1, h2⟩
/-- A range that is under way: the keys that it has not met. -/
def IterAt (k : IntKind) (H : Hp) (i b : Nat) (kv : KV) (left : List Int) : Prop :=
  ∃ es clock since seen c0, H i = some (.mapIter (some b) since seen c0) ∧ H b = some (.map es clock) ∧ EsOf k es clock kv ∧ (∀ e ∈ es.toList, e.born < since) ∧ since ≤ c0 ∧ since ≤ clock ∧
    left.Nodup ∧ ∀ y, y ∈ left ↔ ∃ e ∈ es.toList, seen.contains e.born = false ∧ e.key = .int k y
/-- The entry that it met last. -/
def EntAt (k : IntKind) (H : Hp) (i b : Nat) (x : Int) (v : Value) : Prop :=
  ∃ (since : Nat) (seen : Array Nat) (es : Array MapEntry) (clock : Nat) (e : MapEntry), H i = some (.mapIter (some b) since (seen.push e.born) clock) ∧ H b = some (.map es clock) ∧ e ∈ es.toList ∧ (es.toList.map (·.born)).Nodup ∧ e.key = .int k x ∧ e.val = v
theorem IterAt.map {i b : Nat} {left : List Int} (h : IterAt k H i b kv left) : MapAt k H b kv := by
  obtain ⟨es, clock, since, seen, c0, h1, h2, h3, _⟩ := h
  exact ⟨es, clock, h2, h3⟩
theorem IterAt.ext {H' : Hp} {i b : Nat} {left : List Int} (h : IterAt k H i b kv left) (hi : H' i = H i) (hb : H' b = H b) : IterAt k H' i b kv left := by
  obtain ⟨es, clock, since, seen, c0, h1, h2, h3⟩ := h
  exact ⟨es, clock, since, seen, c0, hi.trans h1, hb.trans h2, h3⟩
theorem EntAt.ext {H' : Hp} {i b : Nat} (h : EntAt k H i b x v) (hi : H' i = H i) (hb : H' b = H b) : EntAt k H' i b x v := by
  obtain ⟨since, seen, es, clock, e, h1, h2, h3⟩ := h
  exact ⟨since, seen, es, clock, e, hi.trans h1, hb.trans h2, h3⟩
theorem range_to {b : Nat} {K : Nat → Hp → Prop} (h : MapAt k H b kv) (hk : ∀ i H', H i = none → Ext H H' → IterAt k H' i b kv (kv.map (·.1)) → (∀ q, q ≠ i → H' q = H q) → K i H') : rangeF H (some b) K := by
  obtain ⟨es, clock, hb, he⟩ := h
  refine ⟨b, es, clock, rfl, hb, fun i hi => ?_⟩
  have hne : b ≠ i := fun e => by rw [e, hi] at hb; cases hb
  refine hk i _ hi (Ext.new hi) ⟨es, clock, clock, #[], clock, upd_at, (upd_off hne).trans hb, he, he.2.2.1, Nat.le_refl _, Nat.le_refl _, he.2.2.2, fun y => ?_⟩ (fun q hq => upd_off hq)
  constructor
  · intro hy
    obtain ⟨p, hp, rfl⟩ := List.mem_map.1 hy
    obtain ⟨e, h1, h2, _⟩ := he.back (y := p.1) (u := p.2) hp
    exact ⟨e, h1, by simp, h2⟩
  · rintro ⟨e, h1, _, h2⟩
    obtain ⟨z, h3, h4⟩ := he.pair h1
    rw [h2] at h3
    injection h3 with _ h3
    rw [h3]
    exact List.mem_map_of_mem (f := (·.1)) h4
theorem next_to {i b : Nat} {left : List Int} {Kn : Prop} {Ks : Value → Value → Hp → Prop} (h : IterAt k H i b kv left) (hne : i ≠ b) (hn : left = [] → Kn)
    (hs : ∀ x v H', (x, v) ∈ kv → x ∈ left → IterAt k H' i b kv (left.filter fun y => decide (y ≠ x)) → EntAt k H' i b x v → (∀ q, q ≠ i → H' q = H q) → Ks (.int k x) v H') : nextF H i 0 Kn Ks := by
  obtain ⟨es, clock, since, seen, c0, h1, h2, h3, h4, h5, h6, h7, h8⟩ := h
  refine ⟨rfl, b, since, seen, c0, es, clock, h1, h2, h4, h5, fun h0 => hn ?_, fun e he => ?_⟩
  · rw [List.eq_nil_iff_forall_not_mem]
    intro y hy
    obtain ⟨e, g1, g2, g3⟩ := (h8 y).1 hy
    have : e ∈ leftOf es seen := by unfold leftOf; rw [Array.mem_filter]; exact ⟨Array.mem_def.2 g1, by rw [g2]; rfl⟩
    have := Array.size_pos_of_mem this
    omega
  · have he' : e ∈ leftOf es seen := Array.mem_def.2 he
    unfold leftOf at he'
    rw [Array.mem_filter] at he'
    have hm := Array.mem_def.1 he'.1
    have hc : seen.contains e.born = false := by simpa using he'.2
    obtain ⟨y, hy, hyk⟩ := h3.pair hm
    rw [hy]
    have hb' : (upd i (.mapIter (some b) since (seen.push e.born) clock) H) b = some (.map es clock) := (upd_off (Ne.symm hne)).trans h2
    refine hs y e.val _ hyk ((h8 y).2 ⟨e, hm, hc, hy⟩) ⟨es, clock, since, _, clock, upd_at, hb', h3, h4, h6, h6, h7.filter _, fun z => ?_⟩ ⟨since, seen, es, clock, e, upd_at, hb', hm, h3.2.1, hy, rfl⟩ (fun q hq => upd_off hq)
    rw [List.mem_filter, h8, decide_eq_true_eq]
    constructor
    · rintro ⟨⟨e', g1, g2, g3⟩, hz⟩
      refine ⟨e', g1, ?_, g3⟩
      have hne' : e'.born ≠ e.born := fun eb => by
        have := nodup_inj h3.2.1 e' g1 e hm eb
        subst this
        rw [hy] at g3
        injection g3 with _ g3
        exact hz g3.symm
      rw [Array.contains_push, g2]
      simp [hne']
    · rintro ⟨e', g1, g2, g3⟩
      rw [Array.contains_push, Bool.or_eq_false_iff] at g2
      refine ⟨⟨e', g1, g2.1, g3⟩, fun ez => ?_⟩
      subst ez
      have := nodup_inj h3.keyD e' g1 e hm (g3.trans hy.symm)
      subst this
      have := g2.2
      simp at this
theorem entry_to {i b : Nat} {K : Value → Value → Prop} (h : EntAt k H i b x v) (hk : K (.int k x) v) : entryF H i 0 K := by
  obtain ⟨since, seen, es, clock, e, h1, h2, h3, h4, h5, h6⟩ := h
  exact ⟨rfl, b, since, seen, es, clock, e, h1, h2, h3, h4, by rw [h5, h6]; exact hk⟩
theorem del_to {i b : Nat} {left : List Int} {K : Hp → Prop} (h : IterAt k H i b kv left) (hne : i ≠ b) (hx : x ∉ left) (hk : ∀ H', IterAt k H' i b (kvDel kv x) left → (∀ q, q ≠ b → H' q = H q) → K H') : delF H k (some b) x K := by
  obtain ⟨es, clock, since, seen, c0, h1, h2, h3, h4, h5, h6, h7, h8⟩ := h
  refine ⟨b, es, clock, rfl, h2, h3.ints, ?_⟩
  have hi : ∀ o, (upd b o H) i = some (.mapIter (some b) since seen c0) := fun o => (upd_off hne).trans h1
  have hd := keysD_del (x := x) h3.2.2.2
  unfold delE
  rw [esOf_at h3.1]
  unfold kvDel at hk hd
  cases hf : kv.findIdx? (fun p => decide (x = p.1)) with
  | none =>
    rw [hf] at hk
    exact hk _ ⟨es, clock, since, seen, c0, hi _, upd_at, h3, h4, h5, h6, h7, h8⟩ (fun q hq => upd_off hq)
  | some j =>
    rw [hf] at hk hd
    have hlen : es.size = kv.length := esOf_len h3
    rw [List.findIdx?_eq_some_iff_getElem] at hf
    obtain ⟨hlt, hp, _⟩ := hf
    have hp := of_decide_eq_true hp
    have hl : (es.eraseIdxIfInBounds j).toList = es.toList.eraseIdx j := by
      unfold Array.eraseIdxIfInBounds
      rw [dif_pos (by omega)]
      simp
    have hsub : ∀ e, e ∈ (es.eraseIdxIfInBounds j).toList → e ∈ es.toList := fun e he => by rw [hl] at he; exact List.mem_of_mem_eraseIdx he
    have hkey : ∀ hj : j < es.toList.length, (es.toList[j]).key = .int k x := fun hj => by
      have := congrArg (fun l => l[j]?) h3.1
      simp only [List.getElem?_map, List.getElem?_eq_getElem hj, List.getElem?_eq_getElem hlt, Option.map_some, Option.some.injEq, Prod.mk.injEq] at this
      rw [this.1, hp]
    refine hk _ ⟨es.eraseIdxIfInBounds j, clock, since, seen, c0, hi _, upd_at, ⟨?_, ?_, fun e he => h3.2.2.1 e (hsub e he), hd⟩, fun e he => h4 e (hsub e he), h5, h6, h7, fun y => ?_⟩ (fun q hq => upd_off hq)
    · rw [hl, map_erase, h3.1, map_erase]
    · rw [hl]; exact h3.2.1.sublist ((List.eraseIdx_sublist _ _).map _)
    · rw [h8]
      constructor
      · rintro ⟨e, g1, g2, g3⟩
        refine ⟨e, ?_, g2, g3⟩
        rw [hl, List.mem_eraseIdx_iff_getElem?]
        obtain ⟨m, hm⟩ := List.getElem?_of_mem g1
        refine ⟨m, fun em => ?_, hm⟩
        subst em
        obtain ⟨hj, ej⟩ := List.getElem?_eq_some_iff.1 hm
        have := hkey hj
        rw [ej, g3] at this
        injection this with _ this
        exact hx (this ▸ (h8 y).2 ⟨e, g1, g2, g3⟩)
      · rintro ⟨e, g1, g2, g3⟩
        exact ⟨e, hsub e g1, g2, g3⟩
end
end Go.Proofs.Ytibhpoikhkokiaa.Hw

/- Maps whose keys are pairs of whole numbers, as functions. -/
set_option linter.unusedVariables false
set_option linter.unusedSimpArgs false
namespace Go.Proofs.Ytibhpoikhkokiaa.Hw
open Go
theorem find_mod_hit {p : MapEntry → Bool} {g : MapEntry → MapEntry} : ∀ {l : List MapEntry} {i : Nat}, l.findIdx? p = some i → (∀ e, p e = true → p (g e) = true) → (∃ e, p e = true ∧ (l.modify i g).find? p = some (g e))
  | [], i, h, _ => by simp at h
  | e :: r, i, h, hg => by
    rw [List.findIdx?_cons] at h
    cases hp : p e with
    | true =>
      rw [hp] at h
      cases h
      refine ⟨e, hp, ?_⟩
      show ((g e) :: r).find? p = _
      rw [List.find?_cons, hg e hp]
    | false =>
      rw [hp] at h
      simp only [Bool.false_eq_true, if_false, Option.map_eq_some_iff] at h
      obtain ⟨j, hj, rfl⟩ := h
      obtain ⟨e', h1, h2⟩ := find_mod_hit hj hg
      refine ⟨e', h1, ?_⟩
      show (e :: r.modify j g).find? p = _
      rw [List.find?_cons, hp]; exact h2
theorem find_mod_off {p q : MapEntry → Bool} {g : MapEntry → MapEntry} : ∀ {l : List MapEntry} {i : Nat}, l.findIdx? p = some i → (∀ e, p e = true → q e = false ∧ q (g e) = false) → (l.modify i g).find? q = l.find? q
  | [], i, h, _ => by simp at h
  | e :: r, i, h, hg => by
    rw [List.findIdx?_cons] at h
    cases hp : p e with
    | true =>
      rw [hp] at h
      cases h
      show ((g e) :: r).find? q = _
      rw [List.find?_cons, List.find?_cons, (hg e hp).1, (hg e hp).2]
    | false =>
      rw [hp] at h
      simp only [Bool.false_eq_true, if_false, Option.map_eq_some_iff] at h
      obtain ⟨j, hj, rfl⟩ := h
      have ih := find_mod_off hj hg
      show (e :: r.modify j g).find? q = _
      rw [List.find?_cons, List.find?_cons, ih]
theorem key2_is {x y a b : Int} {v : Value} {n : Nat} : isKey2 x y ⟨key2 a b, v, n⟩ = (decide (x = a) && decide (y = b)) := rfl
theorem isKey2_key {x y a b : Int} {e : MapEntry} (h : e.key = key2 a b) : isKey2 x y e = (decide (x = a) && decide (y = b)) := by
  unfold isKey2; rw [h]; rfl
theorem isKey2_iff {x y : Int} {e : MapEntry} (h : ∃ a b, e.key = key2 a b) : isKey2 x y e = true ↔ e.key = key2 x y := by
  obtain ⟨a, b, h⟩ := h
  rw [isKey2_key h, h]
  constructor
  · intro hh
    simp only [Bool.and_eq_true, decide_eq_true_eq] at hh
    rw [hh.1, hh.2]
  · intro hh
    unfold key2 at hh
    injection hh with hh
    have := congrArg Array.toList hh
    simp at this
    simp [this.1, this.2]
/-- A map with pairs as keys, as a function. -/
def MapF2 (H : Hp) (b : Nat) (f : Int → Int → Option Value) : Prop := ∃ es clock, H b = some (.map es clock) ∧ pairKeys es.toList ∧ ∀ x y, findE2 x y es.toList = f x y
section
variable {H : Hp} {b : Nat} {f : Int → Int → Option Value}
theorem MapF2.look {x y : Int} {z : Value} {K : Value → Bool → Prop} (h : MapF2 H b f) (hk : K ((f x y).getD z) (f x y).isSome) : lookF2 H (some b) x y z K := by
  obtain ⟨es, clock, hb, hp, hf⟩ := h
  refine ⟨es, clock, hb, hp, ?_⟩
  rw [hf]; exact hk
theorem MapF2.keep {H' : Hp} (h : MapF2 H b f) (hb : H' b = H b) : MapF2 H' b f := by
  obtain ⟨es, clock, h1, hp, hf⟩ := h
  exact ⟨es, clock, hb.trans h1, hp, hf⟩
theorem MapF2.new {K : Nat → Hp → Prop} (hk : ∀ b H', H b = none → Ext H H' → (∀ q, q ≠ b → H' q = H q) → MapF2 H' b (fun _ _ => none) → K b H') : newMapF H K := fun b hb =>
  hk b _ hb (Ext.new hb) (fun q hq => upd_off hq) ⟨#[], 0, upd_at, fun e he => (by cases he), fun x y => rfl⟩
theorem MapF2.put {x y : Int} {v : Value} {K : Hp → Prop} (h : MapF2 H b f) (hk : ∀ H', MapF2 H' b (fun x' y' => if x' = x ∧ y' = y then some v else f x' y') → (∀ q, q ≠ b → H' q = H q) → K H') : putF2 H (some b) x y v K := by
  classical
  obtain ⟨es, clock, hb, hp, hf⟩ := h
  refine ⟨b, es, clock, rfl, hb, hp, hk _ ?_ fun q hq => upd_off hq⟩
  have hself : ∀ n : Nat, isKey2 x y ⟨key2 x y, v, n⟩ = true := fun n => by rw [key2_is]; simp
  unfold putE2
  cases hi : es.toList.findIdx? (isKey2 x y) with
  | none =>
    refine ⟨_, _, upd_at, fun e he => ?_, fun x' y' => ?_⟩
    · rw [Array.toList_push] at he
      rcases List.mem_append.1 he with he | he
      · exact hp e he
      · obtain rfl := List.mem_singleton.1 he; exact ⟨x, y, rfl⟩
    · have hn : es.toList.find? (isKey2 x y) = none := by
        rw [List.find?_eq_none]
        rw [List.findIdx?_eq_none_iff] at hi
        intro e he hk
        rw [hi e he] at hk; cases hk
      unfold findE2 at hf ⊢
      rw [Array.toList_push, List.find?_append]
      show _ = if x' = x ∧ y' = y then some v else f x' y'
      by_cases hxy : x' = x ∧ y' = y
      · obtain ⟨rfl, rfl⟩ := hxy
        rw [if_pos ⟨rfl, rfl⟩, hn]
        rw [List.find?_cons, hself]
        rfl
      · rw [if_neg hxy, ← hf x' y']
        have : isKey2 x' y' ⟨key2 x y, v, clock⟩ = false := by
          rw [key2_is]
          cases h1 : decide (x' = x) <;> cases h2 : decide (y' = y) <;> first | rfl | skip
          exact absurd ⟨of_decide_eq_true h1, of_decide_eq_true h2⟩ hxy
        rw [List.find?_cons, this, List.find?_nil, Option.or_none]
  | some i =>
    refine ⟨_, _, upd_at, fun e he => ?_, fun x' y' => ?_⟩
    · rw [Array.toList_modify] at he
      obtain ⟨j, hj⟩ := List.getElem?_of_mem he
      rw [List.getElem?_modify] at hj
      cases he' : es.toList[j]? with
      | none => rw [he'] at hj; cases hj
      | some e0 =>
        rw [he'] at hj
        have hj : some (if i = j then ({ e0 with key := key2 x y, val := v } : MapEntry) else e0) = some e := hj
        by_cases hij : i = j
        · rw [if_pos hij] at hj
          cases hj
          exact ⟨x, y, rfl⟩
        · rw [if_neg hij] at hj
          cases hj
          exact hp e (List.mem_of_getElem? he')
    · unfold findE2 at hf ⊢
      rw [Array.toList_modify]
      show _ = if x' = x ∧ y' = y then some v else f x' y'
      by_cases hxy : x' = x ∧ y' = y
      · obtain ⟨rfl, rfl⟩ := hxy
        rw [if_pos ⟨rfl, rfl⟩]
        obtain ⟨e, _, he⟩ := find_mod_hit (g := fun e => { e with key := key2 x' y', val := v }) hi (fun e _ => hself e.born)
        rw [he]; rfl
      · rw [if_neg hxy, ← hf x' y']
        rw [List.findIdx?_eq_some_iff_getElem] at hi
        obtain ⟨hlt, hpi, hbefore⟩ := hi
        have hi' : es.toList.findIdx? (fun e => isKey2 x y e && decide (∃ a b, e.key = key2 a b)) = some i := by
          rw [List.findIdx?_eq_some_iff_getElem]
          refine ⟨hlt, ?_, fun j hj => ?_⟩
          · rw [hpi, decide_eq_true (hp _ (List.getElem_mem hlt))]; rfl
          · have := hbefore j hj
            cases hh : isKey2 x y es.toList[j] with
            | false => simp
            | true => exact absurd hh this
        rw [find_mod_off (p := fun e => isKey2 x y e && decide (∃ a b, e.key = key2 a b)) hi']
        intro e he
        simp only [Bool.and_eq_true, decide_eq_true_eq] at he
        have hk := (isKey2_iff he.2).1 he.1
        have hoff : (decide (x' = x) && decide (y' = y)) = false := by
          cases h1 : decide (x' = x) <;> cases h2 : decide (y' = y) <;> first | rfl | skip
          exact absurd ⟨of_decide_eq_true h1, of_decide_eq_true h2⟩ hxy
        exact ⟨by rw [isKey2_key hk, hoff], by rw [key2_is, hoff]⟩
end
/-- A map with whole numbers as keys, as a function. -/
def MapF (H : Hp) (b : Nat) (f : Int → Option Value) : Prop := ∃ kv, MapAt .i64 H b kv ∧ ∀ x, kvGet kv x = f x
section
variable {H : Hp} {b : Nat} {f : Int → Option Value}
theorem MapAt.keep {k : IntKind} {H' : Hp} {kv : KV} (h : MapAt k H b kv) (hb : H' b = H b) : MapAt k H' b kv := by
  obtain ⟨es, clock, h1, hp⟩ := h
  exact ⟨es, clock, hb.trans h1, hp⟩
theorem MapF.look {x : Int} {z : Value} {K : Value → Bool → Prop} (h : MapF H b f) (hk : K ((f x).getD z) (f x).isSome) : lookF H .i64 (some b) x z K := by
  obtain ⟨kv, hm, hf⟩ := h
  refine look_to hm ?_
  rw [hf]; exact hk
theorem MapF.keep {H' : Hp} (h : MapF H b f) (hb : H' b = H b) : MapF H' b f := by
  obtain ⟨kv, hm, hf⟩ := h
  exact ⟨kv, hm.keep hb, hf⟩
theorem MapF.new {K : Nat → Hp → Prop} (hk : ∀ b H', H b = none → Ext H H' → (∀ q, q ≠ b → H' q = H q) → MapF H' b (fun _ => none) → K b H') : newMapF H K := fun b hb =>
  hk b _ hb (Ext.new hb) (fun q hq => upd_off hq) ⟨[], ⟨#[], 0, upd_at, rfl, by simp, fun e he => (by cases he), List.nodup_nil⟩, fun x => rfl⟩
theorem MapF.put {x : Int} {v : Value} {K : Hp → Prop} (h : MapF H b f) (hk : ∀ H', MapF H' b (fun y => if y = x then some v else f y) → (∀ q, q ≠ b → H' q = H q) → K H') : putF H .i64 (some b) x v K := by
  obtain ⟨kv, hm, hf⟩ := h
  refine put_to hm fun H' h1 h2 => hk H' ⟨_, h1, fun y => ?_⟩ h2
  rw [kvGet_put, hf]
theorem MapF.ne {b' : Nat} {cs : Array Value} {ty : Nat} {z : Nat × Nat} (h : MapF H b f) (hb : H b' = some (.cells cs ty z)) : b ≠ b' := by
  rintro rfl
  obtain ⟨kv, ⟨es, clock, h1, _⟩, _⟩ := h
  rw [h1] at hb; cases hb
theorem MapF.live (h : MapF H b f) : H b ≠ none := by
  obtain ⟨kv, ⟨es, clock, h1, _⟩, _⟩ := h
  rw [h1]; simp
theorem MapF2.live {g : Int → Int → Option Value} (h : MapF2 H b g) : H b ≠ none := by
  obtain ⟨es, clock, h1, _⟩ := h
  rw [h1]; simp
end
end Go.Proofs.Ytibhpoikhkokiaa.Hw

/- Histories: events, and what a history says, in plain words. -/
set_option linter.unusedVariables false
set_option linter.unusedSimpArgs false
namespace Go.Proofs.Ytibhpoikhkokiaa.Hw
open Go Go.Proofs
structure Ev where
  op : Int
  txn : Int
  item : Int
  frm : Int
  stmt : Int
def inB (n : Int) : Bool := decide (1 ≤ n) && decide (n ≤ 200)
def isW (t i : Int) (x : Ev) : Bool := x.op == 3 && (x.txn == t && x.item == i)
def isB (t : Int) (x : Ev) : Bool := x.op == 1 && x.txn == t
def isC (t : Int) (x : Ev) : Bool := x.op == 4 && x.txn == t
def isE (t : Int) (x : Ev) : Bool := (x.op == 4 || x.op == 5) && x.txn == t
def begunM (p : List Ev) (t : Int) : Bool := p.any (isB t)
def endedM (p : List Ev) (t : Int) : Bool := p.any (isE t)
def wroteM (p : List Ev) (t i : Int) : Bool := p.any (isW t i)
def stmtStep (t : Int) (s : Int) (x : Ev) : Int := if (x.op == 2 || x.op == 3) && x.txn == t then x.stmt else s
def stmtM (p : List Ev) (t : Int) : Int := p.foldl (stmtStep t) 0
def openStep (i : Int) (s : Option Int) (x : Ev) : Option Int :=
  if x.op == 3 && x.item == i then some x.txn
  else if (x.op == 4 || x.op == 5) && s == some x.txn then none
  else s
def openM (p : List Ev) (i : Int) : Option Int := p.foldl (openStep i) none
def plainB (x : Ev) : Bool := x.item == 0 && (x.frm == 0 && x.stmt == 0)
def takenB (p : List Ev) (t i : Int) : Bool := match openM p i with
  | none => false
  | some w => !(w == t)
/-- An event that can come after some. -/
def evOk (p : List Ev) (x : Ev) : Bool := inB x.txn && (!endedM p x.txn && ((begunM p x.txn != (x.op == 1)) &&
  (if x.op == 1 then plainB x
   else if x.op == 2 then inB x.item && (decide (max (stmtM p x.txn) 1 ≤ x.stmt) && (x.frm == 0 || wroteM p x.frm x.item))
   else if x.op == 3 then inB x.item && (decide (max (stmtM p x.txn) 1 ≤ x.stmt) && (!takenB p x.txn x.item && x.frm == 0))
   else if x.op == 4 || x.op == 5 then plainB x
   else false)))
/-- The first events all can come. -/
def OkTo (l : List Ev) (n : Nat) : Prop := ∀ i x, i < n → l[i]? = some x → evOk (l.take i) x = true
def goodB (l : List Ev) : Bool := (List.range l.length).all fun i => match l[i]? with
  | some x => evOk (l.take i) x
  | none => true
def validM (l : List Ev) : Bool := decide (l.length ≤ 2000) && goodB l
theorem good_iff {l : List Ev} : goodB l = true ↔ OkTo l l.length := by
  unfold goodB OkTo
  rw [List.all_eq_true]
  constructor
  · intro h i x hi hx
    have := h i (List.mem_range.2 hi)
    rw [hx] at this
    exact this
  · intro h i hi
    have hi := List.mem_range.1 hi
    rw [List.getElem?_eq_getElem hi]
    exact h i _ hi (List.getElem?_eq_getElem hi)
theorem take_snoc {α : Type} {l : List α} {i : Nat} {x : α} (h : l[i]? = some x) : l.take (i + 1) = l.take i ++ [x] := by
  rw [List.take_add_one, h]; rfl
theorem begun_snoc {p : List Ev} {x : Ev} {t : Int} : begunM (p ++ [x]) t = (begunM p t || isB t x) := by unfold begunM; simp
theorem ended_snoc {p : List Ev} {x : Ev} {t : Int} : endedM (p ++ [x]) t = (endedM p t || isE t x) := by unfold endedM; simp
theorem wrote_snoc {p : List Ev} {x : Ev} {t i : Int} : wroteM (p ++ [x]) t i = (wroteM p t i || isW t i x) := by unfold wroteM; simp
theorem stmt_snoc {p : List Ev} {x : Ev} {t : Int} : stmtM (p ++ [x]) t = stmtStep t (stmtM p t) x := by unfold stmtM; rw [List.foldl_append]; rfl
theorem open_snoc {p : List Ev} {x : Ev} {i : Int} : openM (p ++ [x]) i = openStep i (openM p i) x := by unfold openM; rw [List.foldl_append]; rfl
/-! ### places -/
def lastI (p : Ev → Bool) (l : List Ev) : Option Nat := (l.reverse.findIdx? p).map fun j => l.length - 1 - j
theorem lastI_snoc {p : Ev → Bool} {l : List Ev} {x : Ev} : lastI p (l ++ [x]) = if p x then some l.length else lastI p l := by
  unfold lastI
  rw [List.reverse_append, List.length_append]
  show Option.map _ ((x :: l.reverse).findIdx? p) = _
  rw [List.findIdx?_cons]
  cases p x with
  | true => simp
  | false =>
    simp only [Bool.false_eq_true, if_false, Option.map_map]
    congr 1
    funext j
    simp only [Function.comp, List.length_singleton]
    omega
def commitI (l : List Ev) (t : Int) : Option Nat := lastI (isC t) l
def beginI (l : List Ev) (t : Int) : Option Nat := lastI (isB t) l
def lastW (l : List Ev) (t i : Int) : Option Nat := lastI (isW t i) l
def comB (l : List Ev) (t : Int) : Bool := (commitI l t).isSome
/-- The transactions of an item's versions, in the order of their commits. -/
def versM (l : List Ev) (i : Int) : List Int := (List.range l.length).filterMap fun j => match l[j]? with
  | some x => if x.op == 4 && wroteM (l.take j) x.txn i then some x.txn else none
  | none => none
theorem fm_congr {α β : Type} {f g : α → Option β} : ∀ {l : List α}, (∀ x ∈ l, f x = g x) → l.filterMap f = l.filterMap g
  | [], _ => rfl
  | a :: r, h => by
    rw [List.filterMap_cons, List.filterMap_cons, h a List.mem_cons_self, fm_congr fun x hx => h x (List.mem_cons_of_mem _ hx)]
theorem vers_nil {i : Int} : versM [] i = [] := rfl
theorem vers_snoc {l : List Ev} {x : Ev} {i : Int} : versM (l ++ [x]) i = versM l i ++ if x.op == 4 && wroteM l x.txn i then [x.txn] else [] := by
  unfold versM
  rw [List.length_append, List.length_singleton, List.range_succ, List.filterMap_append]
  congr 1
  · apply fm_congr
    intro j hj
    have hj := List.mem_range.1 hj
    rw [List.getElem?_append_left hj, List.take_append_of_le_length (by omega)]
  · have e1 : (l ++ [x])[l.length]? = some x := by simp
    have e2 : (l ++ [x]).take l.length = l := by rw [List.take_append_of_le_length (Nat.le_refl _), List.take_length]
    rw [List.filterMap_cons, List.filterMap_nil]
    simp only [e1, e2]
    cases x.op == 4 && wroteM l x.txn i <;> rfl
end Go.Proofs.Ytibhpoikhkokiaa.Hw

/- Histories: what holds of valid ones, in plain words. -/
set_option linter.unusedVariables false
set_option linter.unusedSimpArgs false
namespace Go.Proofs.Ytibhpoikhkokiaa.Hw
open Go Go.Proofs
def LastIs (p : Ev → Bool) (l : List Ev) (n : Nat) : Option Nat → Prop
  | none => ∀ i x, i < n → l[i]? = some x → p x = false
  | some i => i < n ∧ (∃ x, l[i]? = some x ∧ p x = true) ∧ ∀ j y, i < j → j < n → l[j]? = some y → p y = false
theorem lastI_take {p : Ev → Bool} {l : List Ev} : ∀ n, n ≤ l.length → LastIs p l n (lastI p (l.take n)) := by
  intro n
  induction n with
  | zero => intro _; show LastIs p l 0 none; intro i x hi; omega
  | succ n ih =>
    intro hn
    have ih := ih (by omega)
    have hx : l[n]? = some l[n] := List.getElem?_eq_getElem (by omega)
    rw [take_snoc hx, lastI_snoc, List.length_take, Nat.min_eq_left (by omega)]
    cases hp : p l[n] with
    | true =>
      rw [if_pos rfl]
      exact ⟨by omega, ⟨_, hx, hp⟩, fun j y h1 h2 => by omega⟩
    | false =>
      rw [if_neg (by decide)]
      cases hl : lastI p (l.take n) with
      | none =>
        rw [hl] at ih
        intro i x hi hxi
        by_cases e : i = n
        · subst e; rw [hx] at hxi; cases hxi; exact hp
        · exact ih i x (by omega) hxi
      | some k =>
        rw [hl] at ih
        obtain ⟨h1, h2, h3⟩ := ih
        refine ⟨by omega, h2, fun j y hj hjn hy => ?_⟩
        by_cases e : j = n
        · subst e; rw [hx] at hy; cases hy; exact hp
        · exact h3 j y hj (by omega) hy
theorem lastI_is {p : Ev → Bool} {l : List Ev} : LastIs p l l.length (lastI p l) := by
  have := lastI_take (p := p) (l := l) l.length (Nat.le_refl _)
  rwa [List.take_length] at this
theorem lastI_some {p : Ev → Bool} {l : List Ev} {i : Nat} (h : lastI p l = some i) : ∃ x, l[i]? = some x ∧ p x = true ∧ ∀ j y, i < j → l[j]? = some y → p y = false := by
  have := lastI_is (p := p) (l := l)
  rw [h] at this
  obtain ⟨h1, ⟨x, h2, h3⟩, h4⟩ := this
  exact ⟨x, h2, h3, fun j y hj hy => h4 j y hj (List.getElem?_eq_some_iff.1 hy).1 hy⟩
theorem lastI_none {p : Ev → Bool} {l : List Ev} (h : lastI p l = none) {i : Nat} {x : Ev} (hx : l[i]? = some x) : p x = false := by
  have := lastI_is (p := p) (l := l)
  rw [h] at this
  exact this i x (List.getElem?_eq_some_iff.1 hx).1 hx
theorem lastI_ge {p : Ev → Bool} {l : List Ev} {i : Nat} {x : Ev} (hx : l[i]? = some x) (hp : p x = true) : ∃ j, lastI p l = some j ∧ i ≤ j := by
  cases h : lastI p l with
  | none => rw [lastI_none h hx] at hp; cases hp
  | some j =>
    refine ⟨j, rfl, ?_⟩
    obtain ⟨y, _, _, h3⟩ := lastI_some h
    by_cases hij : i ≤ j
    · exact hij
    · rw [h3 i x (by omega) hx] at hp; cases hp
theorem any_take {p : Ev → Bool} {l : List Ev} {n : Nat} : (l.take n).any p = true ↔ ∃ i x, i < n ∧ l[i]? = some x ∧ p x = true := by
  rw [List.any_eq_true]
  constructor
  · rintro ⟨x, hx, hp⟩
    obtain ⟨i, hi⟩ := List.getElem?_of_mem hx
    rw [List.getElem?_take] at hi
    split at hi
    · exact ⟨i, x, by omega, hi, hp⟩
    · cases hi
  · rintro ⟨i, x, hi, hx, hp⟩
    exact ⟨x, List.mem_of_getElem? (i := i) (by rw [List.getElem?_take_of_lt hi]; exact hx), hp⟩
/-- What an event that can come is like. -/
theorem ev_parts {p : List Ev} {x : Ev} (h : evOk p x = true) : inB x.txn = true ∧ endedM p x.txn = false ∧ (begunM p x.txn = true ↔ x.op ≠ 1) ∧
    ((x.op = 1 ∧ plainB x = true) ∨ (x.op = 2 ∧ inB x.item = true ∧ max (stmtM p x.txn) 1 ≤ x.stmt ∧ (x.frm = 0 ∨ wroteM p x.frm x.item = true)) ∨
     (x.op = 3 ∧ inB x.item = true ∧ max (stmtM p x.txn) 1 ≤ x.stmt ∧ takenB p x.txn x.item = false ∧ x.frm = 0) ∨ ((x.op = 4 ∨ x.op = 5) ∧ plainB x = true)) := by
  unfold evOk at h
  simp only [Bool.and_eq_true, Bool.not_eq_true', bne_iff_ne, ne_eq] at h
  obtain ⟨h1, h2, h3, h4⟩ := h
  refine ⟨h1, h2, ?_, ?_⟩
  · by_cases e : x.op = 1
    · simp only [e, beq_self_eq_true, Bool.not_eq_true] at h3
      simp [e, h3]
    · have e' : (x.op == 1) = false := by simpa using e
      rw [e'] at h3
      simp only [Bool.not_eq_false] at h3
      simp [e, h3]
  · split at h4
    · rename_i e; exact .inl ⟨by simpa using e, h4⟩
    · split at h4
      · rename_i e
        simp only [Bool.and_eq_true, decide_eq_true_eq, Bool.or_eq_true, beq_iff_eq] at h4
        exact .inr (.inl ⟨by simpa using e, h4.1, h4.2.1, h4.2.2⟩)
      · split at h4
        · rename_i e
          simp only [Bool.and_eq_true, decide_eq_true_eq, Bool.not_eq_true', beq_iff_eq] at h4
          exact .inr (.inr (.inl ⟨by simpa using e, h4.1, h4.2.1, h4.2.2.1, h4.2.2.2⟩))
        · split at h4
          · rename_i e
            simp only [Bool.or_eq_true, beq_iff_eq] at e
            exact .inr (.inr (.inr ⟨e, h4⟩))
          · cases h4
section
variable {l : List Ev} {n : Nat}
theorem OkTo.mono {m : Nat} (h : OkTo l n) (hm : m ≤ n) : OkTo l m := fun i x hi hx => h i x (by omega) hx
/-- Behind the end of a transaction it has no events. -/
theorem OkTo.after (h : OkTo l n) {i j : Nat} {x y : Ev} (hi : l[i]? = some x) (hj : l[j]? = some y) (hjn : j < n) (hij : i < j) (he : isE y.txn x = true) : False := by
  have := (ev_parts (h j y hjn hj)).2.1
  unfold endedM at this
  rw [any_take.2 ⟨i, x, hij, hi, he⟩] at this
  cases this
theorem isC_isE {t : Int} {x : Ev} (h : isC t x = true) : isE t x = true ∧ x.txn = t ∧ x.op = 4 := by
  unfold isC at h
  unfold isE
  simp only [Bool.and_eq_true, beq_iff_eq] at h
  rw [h.1, h.2]
  simp
theorem OkTo.commit_one (h : OkTo l n) {i j : Nat} {x y : Ev} {t : Int} (hi : l[i]? = some x) (hj : l[j]? = some y) (hin : i < n) (hjn : j < n) (hx : isC t x = true) (hy : isC t y = true) : i = j := by
  rcases Nat.lt_trichotomy i j with hlt | rfl | hlt
  · exact (h.after hi hj hjn hlt (by rw [(isC_isE hy).2.1]; exact (isC_isE hx).1)).elim
  · rfl
  · exact (h.after hj hi hin hlt (by rw [(isC_isE hx).2.1]; exact (isC_isE hy).1)).elim
theorem OkTo.commit_at (h : OkTo l l.length) {i : Nat} {x : Ev} {t : Int} (hi : l[i]? = some x) (hx : isC t x = true) : commitI l t = some i := by
  obtain ⟨j, hj, hij⟩ := lastI_ge hi hx
  obtain ⟨y, hy, hyp, _⟩ := lastI_some hj
  have := h.commit_one hi hy (List.getElem?_eq_some_iff.1 hi).1 (List.getElem?_eq_some_iff.1 hy).1 hx hyp
  subst this; exact hj
theorem commit_get {t : Int} {i : Nat} (h : commitI l t = some i) : ∃ x, l[i]? = some x ∧ isC t x = true := by
  obtain ⟨x, hx, hp, _⟩ := lastI_some h
  exact ⟨x, hx, hp⟩
/-- Only its begin comes first. -/
theorem OkTo.begun (h : OkTo l n) {i : Nat} {x : Ev} (hi : l[i]? = some x) (hin : i < n) (hop : x.op ≠ 1) : begunM (l.take i) x.txn = true := (ev_parts (h i x hin hi)).2.2.1.2 hop
theorem isB_iff {t : Int} {x : Ev} : isB t x = true ↔ x.op = 1 ∧ x.txn = t := by unfold isB; simp
theorem isW_iff {t i : Int} {x : Ev} : isW t i x = true ↔ x.op = 3 ∧ x.txn = t ∧ x.item = i := by unfold isW; simp
theorem isC_iff {t : Int} {x : Ev} : isC t x = true ↔ x.op = 4 ∧ x.txn = t := by unfold isC; simp
theorem isE_iff {t : Int} {x : Ev} : isE t x = true ↔ (x.op = 4 ∨ x.op = 5) ∧ x.txn = t := by unfold isE; simp
theorem OkTo.begin_one (h : OkTo l n) {i j : Nat} {x y : Ev} {t : Int} (hi : l[i]? = some x) (hj : l[j]? = some y) (hin : i < n) (hjn : j < n) (hx : isB t x = true) (hy : isB t y = true) : i = j := by
  have key : ∀ {i j : Nat} {x y : Ev}, l[i]? = some x → l[j]? = some y → j < n → isB t x = true → isB t y = true → ¬ i < j := fun {i j x y} hi hj hjn hx hy hlt => by
    have := (ev_parts (h j y hjn hj)).2.2.1.1 (any_take.2 ⟨i, x, hlt, hi, by rw [(isB_iff.1 hy).2]; exact hx⟩)
    exact this (isB_iff.1 hy).1
  have h1 := key hi hj hjn hx hy
  have h2 := key hj hi hin hy hx
  omega
theorem OkTo.begin_at (h : OkTo l l.length) {i : Nat} {x : Ev} {t : Int} (hi : l[i]? = some x) (hx : isB t x = true) : beginI l t = some i := by
  obtain ⟨j, hj, hij⟩ := lastI_ge hi hx
  obtain ⟨y, hy, hyp, _⟩ := lastI_some hj
  have := h.begin_one hi hy (List.getElem?_eq_some_iff.1 hi).1 (List.getElem?_eq_some_iff.1 hy).1 hx hyp
  subst this; exact hj
/-- Each event of a transaction lies behind its begin. -/
theorem OkTo.begin_lt (h : OkTo l l.length) {i : Nat} {x : Ev} (hi : l[i]? = some x) (hop : x.op ≠ 1) : ∃ b, beginI l x.txn = some b ∧ b < i := by
  obtain ⟨b, y, hb, hy, hp⟩ := any_take.1 (h.begun hi (List.getElem?_eq_some_iff.1 hi).1 hop)
  exact ⟨b, h.begin_at hy hp, hb⟩
theorem OkTo.commit_gt (h : OkTo l l.length) {i c : Nat} {x : Ev} (hi : l[i]? = some x) (hc : commitI l x.txn = some c) : i ≤ c := by
  obtain ⟨y, hy, hp⟩ := commit_get hc
  by_cases hlt : i ≤ c
  · exact hlt
  · exact (h.after hy hi (List.getElem?_eq_some_iff.1 hi).1 (by omega) (by rw [← (isC_isE hp).2.1] ; exact (isC_isE (by rw [(isC_isE hp).2.1]; exact hp)).1)).elim
theorem stmt_zero {p : List Ev} {t : Int} (h : ∀ x ∈ p, x.txn ≠ t) : stmtM p t = 0 := by
  unfold stmtM
  have : ∀ (q : List Ev) (s : Int), (∀ x ∈ q, x.txn ≠ t) → q.foldl (stmtStep t) s = s := by
    intro q
    induction q with
    | nil => intro s _; rfl
    | cons x q ih =>
      intro s hq
      have hx := hq x List.mem_cons_self
      show q.foldl (stmtStep t) (stmtStep t s x) = s
      have : stmtStep t s x = s := by unfold stmtStep; rw [if_neg]; simp [hx]
      rw [this]
      exact ih s fun y hy => hq y (List.mem_cons_of_mem _ hy)
  exact this p 0 h
end
end Go.Proofs.Ytibhpoikhkokiaa.Hw

/- Histories: what is read. -/
set_option linter.unusedVariables false
set_option linter.unusedSimpArgs false
namespace Go.Proofs.Ytibhpoikhkokiaa.Hw
open Go Go.Proofs
def inC (x : Int) : List Value := [.int .i64 x]
def big : Nat := 1000000000000
def huge : Nat := 140737488355329
/-- Elements in a slice. -/
structure SlAt {α : Type} (f : α → List Value) (H : Hp) (A : Option Addr) (n : Nat) (l : List α) : Prop where
  len : n = l.length
  cells : cellsAt H A (l.flatMap f)
  small : l.length < huge
theorem SlAt.ext {α : Type} {f : α → List Value} {H H' : Hp} {A : Option Addr} {n : Nat} {l : List α} (h : SlAt f H A n l) (hx : Ext H H') : SlAt f H' A n l := ⟨h.len, cellsAt_ext hx h.cells, h.small⟩
theorem SlAt.lt {α : Type} {f : α → List Value} {H : Hp} {A : Option Addr} {n : Nat} {l : List α} (h : SlAt f H A n l) : l.length < 4611686018427387904 := by have := h.small; unfold huge at this; omega
theorem rd_in {H : Hp} {A : Option Addr} {n : Nat} {l : List Int} {i : Nat} {x : Int} (h : SlAt inC H A n l) (hi : l[i]? = some x) {K : Nat → Nat → Prop}
    (hk : ∀ p o, A = some ⟨p, o, none⟩ → cl H p (o + i) = some (.int .i64 x) → K p o) : onPtr A K := by
  have hlen : ∀ x ∈ l, (inC x).length = 1 := fun x _ => rfl
  have hne : l ≠ [] := fun e => by subst e; simp at hi
  refine at_cells h.cells (flat_ne hlen (by omega) hne) fun p o hA hc => hk p o hA ?_
  have := hc (i * 1 + 0) _ (flat_get hlen hi (by omega))
  rw [Nat.mul_one, Nat.add_zero] at this
  exact this
theorem fnOk (f : Nat) {ts : List Nat} (h : look f tR = some ts) : FnOk Try.prog f := chkR_ok tR_ok f ts h
theorem any_take_succ {α : Type} {g : α → Bool} {l : List α} {i : Nat} {x : α} (hx : l[i]? = some x) : (l.take (i + 1)).any g = ((l.take i).any g || g x) := by
  rw [List.take_add_one, hx]; simp
theorem any_hit {α : Type} {g : α → Bool} {l : List α} {i : Nat} {x : α} (hx : l[i]? = some x) (hg : g x = true) : l.any g = true :=
  List.any_eq_true.2 ⟨x, List.mem_of_getElem? hx, hg⟩
theorem any_done {α : Type} {g : α → Bool} {l : List α} (h : (l.take l.length).any g = false) : l.any g = false := by
  rwa [List.take_length] at h
theorem get_of {α : Type} {l : List α} {i : Nat} (h : i < l.length) : ∃ x, l[i]? = some x := ⟨_, List.getElem?_eq_getElem h⟩
def evC (x : Ev) : List Value := [.int .i64 x.op, .int .i64 x.txn, .int .i64 x.item, .int .i64 x.frm, .int .i64 x.stmt]
theorem rd_ev {H : Hp} {A : Option Addr} {n : Nat} {l : List Ev} {i : Nat} {x : Ev} (h : SlAt evC H A n l) (hi : l[i]? = some x) {K : Nat → Nat → Prop}
    (hk : ∀ p o, A = some ⟨p, o, none⟩ → cl H p (o + i * 5) = some (.int .i64 x.op) → cl H p (o + i * 5 + 1) = some (.int .i64 x.txn) → cl H p (o + i * 5 + 1 + 1) = some (.int .i64 x.item) → cl H p (o + i * 5 + 1 + 1 + 1) = some (.int .i64 x.frm) → cl H p (o + i * 5 + 1 + 1 + 1 + 1) = some (.int .i64 x.stmt) → K p o) : onPtr A K := by
  have hlen : ∀ x ∈ l, (evC x).length = 5 := fun x _ => rfl
  have hne : l ≠ [] := fun e => by subst e; simp at hi
  refine at_cells h.cells (flat_ne hlen (by omega) hne) fun p o hA hc => hk p o hA ?_ ?_ ?_ ?_ ?_
  · have := hc (i * 5 + 0) _ (flat_get hlen hi (by omega)); rw [Nat.add_zero] at this; exact this
  · have := hc (i * 5 + 1) _ (flat_get hlen hi (by omega)); rw [← Nat.add_assoc] at this; exact this
  · have := hc (i * 5 + 2) _ (flat_get hlen hi (by omega)); rw [← Nat.add_assoc] at this; exact this
  · have := hc (i * 5 + 3) _ (flat_get hlen hi (by omega)); rw [← Nat.add_assoc] at this; exact this
  · have := hc (i * 5 + 4) _ (flat_get hlen hi (by omega)); rw [← Nat.add_assoc] at this; exact this
theorem kvGet_del {kv : KV} {x y : Int} (h : keysD kv) : kvGet (kvDel kv x) y = if y = x then none else kvGet kv y := by
  have hd := keysD_del (x := x) h
  by_cases e : y = x
  · rw [if_pos e]
    cases hg : kvGet (kvDel kv x) y with
    | none => rfl
    | some v => exact absurd e ((mem_kvDel h).1 ((kvGet_mem hd).1 hg)).2
  · rw [if_neg e]
    cases hg : kvGet kv y with
    | none =>
      cases hg' : kvGet (kvDel kv x) y with
      | none => rfl
      | some v =>
        have := ((mem_kvDel h).1 ((kvGet_mem hd).1 hg')).1
        rw [(kvGet_mem h).2 this] at hg; cases hg
    | some v => exact (kvGet_mem hd).2 ((mem_kvDel h).2 ⟨(kvGet_mem h).1 hg, e⟩)
theorem MapAt.keys {k : IntKind} {H : Hp} {b : Nat} {kv : KV} (h : MapAt k H b kv) : keysD kv := by
  obtain ⟨es, clock, hb, he⟩ := h
  exact he.2.2.2
section
variable {H0 H : Hp} {Q : Value → Hp → Prop}
theorem c57 {n : Int} (hq : Q (.bool (inB n)) H) : HCalls Try.prog 57 [.int .i64 n] H Q := by
  refine f57.ok _ ?_
  unfold f57 jn
  unfold inB at hq
  refine cndI (fun h => ?_) (fun h => ?_)
  · rw [show decide (1 ≤ n) = true from h, Bool.true_and] at hq; exact hq
  · rw [show decide (1 ≤ n) = false from h, Bool.false_and] at hq; exact hq
/-- maps.DeleteFunc over a map of whole numbers. -/
theorem c58 {b : Nat} {m : Int → Option Int} {f : Nat} {fa fc : Array Value} {g : Int → Int → Bool} (h : MapF H b (fun x => (m x).map (.int .i64))) (hf : FnOk Try.prog f)
    (hg : ∀ k v H' (Q : Value → Hp → Prop), (∀ q, q ≠ b → H q ≠ none → H' q = H q) → Q (.bool (g k v)) H' → HCalls Try.prog f (fa.toList ++ [.int .i64 k, .int .i64 v] ++ fc.toList) H' Q)
    (hq : ∀ H', MapF H' b (fun x => ((m x).filter fun v => !g x v).map (.int .i64)) → (∀ q, q ≠ b → H q ≠ none → H' q = H q) → Q (.tuple #[]) H') : HCalls Try.prog 58 [.map (some b), .func (.func f) fa fc] H Q := by
  refine f58.ok _ _ _ _ ?_
  unfold f58
  obtain ⟨kv, hm, hkv0⟩ := h
  have hkv : ∀ x, kvGet kv x = (m x).map (.int .i64) := hkv0
  clear hkv0
  refine range_to hm fun i H2 hi x2 hI ho => ?_
  have hib : i ≠ b := by
    rintro rfl
    obtain ⟨es, clock, hb, _⟩ := hm
    rw [hi] at hb; cases hb
  have hin : ∀ y, y ∈ kv.map (·.1) → (m y).isSome = true := fun y hy => by
    obtain ⟨p, hp, rfl⟩ := List.mem_map.1 hy
    have h1 := hkv p.1
    rw [(kvGet_mem hm.keys).2 hp] at h1
    cases hmy : m p.1 with
    | none => rw [hmy] at h1; cases h1
    | some v => rfl
  refine ⟨fun n s H' => ∃ kv' left, n = left.length ∧ IterAt .i64 H' i b kv' left ∧ (∀ q, q ≠ b → H q ≠ none → H' q = H q) ∧ ∀ y, kvGet kv' y = if y ∈ left then (m y).map (.int .i64) else ((m y).filter fun v => !g y v).map (.int .i64),
    ⟨_, kv, kv.map (·.1), rfl, hI, fun q hq hn => ho q (fun e => hn (e ▸ hi)), fun y => ?_⟩, ?_⟩
  · split
    · exact hkv y
    · rename_i hy
      rw [hkv y]
      cases hmy : m y with
      | none => rfl
      | some v =>
        have h1 := hkv y
        rw [hmy] at h1
        exact absurd (List.mem_map.2 ⟨_, (kvGet_mem hm.keys).1 h1, rfl⟩) hy
  rintro n s H4 ⟨kv', left, rfl, hI, hfr, hkv'⟩
  unfold jn
  refine next_to hI hib (fun hl => cndF rfl ?_) (fun x v H8 hxv hxl hI8 hE ho8 => ?_)
  · subst hl
    exact hq H4 ⟨kv', hI.map, fun y => by rw [hkv' y, if_neg (by simp)]⟩ hfr
  have hv := (kvGet_mem hI.map.keys).2 hxv
  rw [hkv' x, if_pos hxl] at hv
  cases hmx : m x with
  | none => rw [hmx] at hv; cases hv
  | some w =>
  rw [hmx] at hv
  cases hv
  have hfr8 : ∀ q, q ≠ b → H q ≠ none → H8 q = H q := fun q hq hn => (ho8 q (fun e => hn (e ▸ hi))).trans (hfr q hq hn)
  have hxn : x ∉ left.filter fun y => decide (y ≠ x) := fun h => by have := (List.mem_filter.1 h).2; simp at this
  have hlt : (left.filter fun y => decide (y ≠ x)).length < left.length := by
    have h1 := List.length_filter_le (fun y => decide (y ≠ x)) left
    by_cases e : (left.filter fun y => decide (y ≠ x)).length = left.length
    · have := List.length_filter_eq_length_iff.1 e x hxl
      simp at this
    · omega
  refine ⟨x, rfl, w, rfl, cndT rfl (entry_to hE ⟨x, rfl, w, rfl, hf, hg x w H8 _ hfr8 ⟨_, rfl, cndI (fun hgx => ?_) (fun hgx => ?_)⟩⟩)⟩
  · refine del_to hI8 hib hxn fun H' hI' ho' => ⟨rfl, _, hlt, _, _, rfl, hI', fun q hq hn => (ho' q hq).trans (hfr8 q hq hn), fun y => ?_⟩
    rw [kvGet_del hI8.map.keys, hkv' y]
    by_cases e : y = x
    · subst e
      rw [if_pos rfl, if_neg hxn, hmx]
      simp [Option.filter, hgx]
    · rw [if_neg e]
      simp [List.mem_filter, e]
  · refine ⟨rfl, _, hlt, _, _, rfl, hI8, hfr8, fun y => ?_⟩
    rw [hkv' y]
    by_cases e : y = x
    · subst e
      rw [if_pos hxl, if_neg hxn, hmx]
      simp [Option.filter, hgx]
    · simp [List.mem_filter, e]
end
end Go.Proofs.Ytibhpoikhkokiaa.Hw

/- Histories: the checker of events. -/
set_option linter.unusedVariables false
set_option linter.unusedSimpArgs false
set_option maxRecDepth 20000
namespace Go.Proofs.Ytibhpoikhkokiaa.Hw
open Go Go.Proofs
def boolAt (b : Bool) : Option Value := if b then some (.bool true) else none
/-- What the checker holds behind some events. -/
structure CkAt (H0 H : Hp) (c ct cw co : Nat) (blk : Int → Nat) (p : List Ev) : Prop where
  ext : Ext H0 H
  cell : ∃ ty, H c = some (.cells #[.map (some ct), .map (some cw), .map (some co)] ty (0, 0))
  n1 : H0 c = none
  n2 : H0 ct = none
  n3 : H0 cw = none
  n4 : H0 co = none
  txns : MapF H ct (fun u => if begunM p u then some (.pointer (some ⟨blk u, 0, none⟩)) else none)
  each : ∀ u, begunM p u = true → (∃ ty, H (blk u) = some (.cells #[.bool true, .bool (endedM p u), .int .i64 (stmtM p u)] ty (0, 0))) ∧ H0 (blk u) = none
  inj : ∀ u v, begunM p u = true → begunM p v = true → blk u = blk v → u = v
  wrote : MapF2 H cw (fun u i => boolAt (wroteM p u i))
  opn : MapF H co (fun i => (openM p i).map (.int .i64))
  d1 : ct ≠ cw
  d2 : ct ≠ co
  d3 : cw ≠ co
  zero : ∀ u, begunM p u = false → stmtM p u = 0 ∧ endedM p u = false
/-- The same while an event of a transaction is looked at: its state's block, the maps as they are. -/
structure MidAt (H0 H : Hp) (c ct cw co : Nat) (blk : Int → Nat) (p : List Ev) (t : Int) (e : Nat) (vb ve : Bool) (vs : Int) (W : Int → Int → Option Value) (O : Int → Option Value) (g : Nat) (x : Ev) : Prop where
  ext : Ext H0 H
  cell : ∃ ty, H c = some (.cells #[.map (some ct), .map (some cw), .map (some co)] ty (0, 0))
  n1 : H0 c = none
  n2 : H0 ct = none
  n3 : H0 cw = none
  n4 : H0 co = none
  n5 : H0 e = none
  txns : MapF H ct (fun u => if u = t then some (.pointer (some ⟨e, 0, none⟩)) else if begunM p u then some (.pointer (some ⟨blk u, 0, none⟩)) else none)
  own : ∃ ty, H e = some (.cells #[.bool vb, .bool ve, .int .i64 vs] ty (0, 0))
  each : ∀ u, u ≠ t → begunM p u = true → (∃ ty, H (blk u) = some (.cells #[.bool true, .bool (endedM p u), .int .i64 (stmtM p u)] ty (0, 0))) ∧ H0 (blk u) = none ∧ blk u ≠ e
  inj : ∀ u v, begunM p u = true → begunM p v = true → blk u = blk v → u = v
  wrote : MapF2 H cw W
  opn : MapF H co O
  d1 : ct ≠ cw
  d2 : ct ≠ co
  d3 : cw ≠ co
  ev : ∃ ty, H g = some (.cells (evC x).toArray ty (0, 0))
  ge : g ≠ e
theorem MapF2.ne {H : Hp} {b : Nat} {f : Int → Int → Option Value} {b' : Nat} {cs : Array Value} {ty : Nat} {z : Nat × Nat} (h : MapF2 H b f) (hb : H b' = some (.cells cs ty z)) : b ≠ b' := by
  rintro rfl
  obtain ⟨es, clock, h1, _⟩ := h
  rw [h1] at hb; cases hb
section
variable {H0 H H' : Hp} {c ct cw co e g : Nat} {blk : Int → Nat} {p : List Ev} {t : Int} {vb ve : Bool} {vs : Int} {W : Int → Int → Option Value} {O : Int → Option Value} {x : Ev}
theorem MidAt.move {vb' ve' : Bool} {vs' : Int} {W' : Int → Int → Option Value} {O' : Int → Option Value} (M : MidAt H0 H c ct cw co blk p t e vb ve vs W O g x)
    (hk : ∀ q, q ≠ e → q ≠ cw → q ≠ co → H q ≠ none → H' q = H q) (hown : ∃ ty, H' e = some (.cells #[.bool vb', .bool ve', .int .i64 vs'] ty (0, 0))) (hW : MapF2 H' cw W') (hO : MapF H' co O') : MidAt H0 H' c ct cw co blk p t e vb' ve' vs' W' O' g x := by
  obtain ⟨tc, hc⟩ := M.cell
  obtain ⟨te, he⟩ := M.own
  obtain ⟨tg, hg⟩ := M.ev
  have hce : c ≠ e := fun h => by subst h; rw [hc] at he; cases he
  refine ⟨fun q o hq => ?_, ⟨tc, (hk c hce (M.wrote.ne hc).symm (M.opn.ne hc).symm (by rw [hc]; simp)).trans hc⟩, M.n1, M.n2, M.n3, M.n4, M.n5, M.txns.keep (hk ct (M.txns.ne he) M.d1 M.d2 M.txns.live), hown, fun u hu hb => ?_, M.inj, hW, hO, M.d1, M.d2, M.d3, ⟨tg, (hk g M.ge (M.wrote.ne hg).symm (M.opn.ne hg).symm (by rw [hg]; simp)).trans hg⟩, M.ge⟩
  · have h1 := M.ext q o hq
    rw [hk q (fun h => by subst h; rw [M.n5] at hq; cases hq) (fun h => by subst h; rw [M.n3] at hq; cases hq) (fun h => by subst h; rw [M.n4] at hq; cases hq) (by rw [h1]; simp)]
    exact h1
  · obtain ⟨⟨ty, h1⟩, h2, h3⟩ := M.each u hu hb
    exact ⟨⟨ty, (hk (blk u) h3 (M.wrote.ne h1).symm (M.opn.ne h1).symm (by rw [h1]; simp)).trans h1⟩, h2, h3⟩
/-- Behind an event that could come the checker holds what it shall. -/
theorem MidAt.next (M : MidAt H0 H c ct cw co blk p x.txn e true (endedM (p ++ [x]) x.txn) (stmtM (p ++ [x]) x.txn) (fun u i => boolAt (wroteM (p ++ [x]) u i)) (fun i => (openM (p ++ [x]) i).map (.int .i64)) g x) (hok : evOk p x = true)
    (hz : ∀ u, begunM p u = false → stmtM p u = 0 ∧ endedM p u = false) : CkAt H0 H c ct cw co (fun u => if u = x.txn then e else blk u) (p ++ [x]) := by
  obtain ⟨q1, q2, q3, q4⟩ := ev_parts hok
  have hself : begunM (p ++ [x]) x.txn = true := by
    rw [begun_snoc]
    by_cases h1 : x.op = 1
    · have : isB x.txn x = true := isB_iff.2 ⟨h1, rfl⟩
      rw [this, Bool.or_true]
    · rw [q3.2 h1, Bool.true_or]
  have hoth : ∀ u, u ≠ x.txn → begunM (p ++ [x]) u = begunM p u ∧ endedM (p ++ [x]) u = endedM p u ∧ stmtM (p ++ [x]) u = stmtM p u := fun u hu => by
    have hu' : (x.txn == u) = false := by simpa using fun h => hu h.symm
    refine ⟨?_, ?_, ?_⟩
    · rw [begun_snoc]; unfold isB; rw [hu', Bool.and_false, Bool.or_false]
    · rw [ended_snoc]; unfold isE; rw [hu', Bool.and_false, Bool.or_false]
    · rw [stmt_snoc]; unfold stmtStep; rw [hu', Bool.and_false]; rfl
  refine ⟨M.ext, M.cell, M.n1, M.n2, M.n3, M.n4, ?_, fun u hu => ?_, fun u v hu hv huv => ?_, M.wrote, M.opn, M.d1, M.d2, M.d3, fun u hu => ?_⟩
  · obtain ⟨kv, hm, hf⟩ := M.txns
    refine ⟨kv, hm, fun u => (hf u).trans ?_⟩
    by_cases hu : u = x.txn
    · subst hu
      simp only [if_true, hself]
    · simp only [if_neg hu, (hoth u hu).1]
  · by_cases h : u = x.txn
    · subst h
      simp only [if_true]
      exact ⟨M.own, M.n5⟩
    · simp only [if_neg h]
      rw [(hoth u h).1] at hu
      obtain ⟨h1, h2, h3⟩ := M.each u h hu
      rw [(hoth u h).2.1, (hoth u h).2.2]
      exact ⟨h1, h2⟩
  · by_cases h1 : u = x.txn
    · by_cases h2 : v = x.txn
      · rw [h1, h2]
      · simp only [if_pos h1, if_neg h2] at huv
        rw [(hoth v h2).1] at hv
        exact absurd huv.symm (M.each v h2 hv).2.2
    · by_cases h2 : v = x.txn
      · simp only [if_neg h1, if_pos h2] at huv
        rw [(hoth u h1).1] at hu
        exact absurd huv (M.each u h1 hu).2.2
      · simp only [if_neg h1, if_neg h2] at huv
        rw [(hoth u h1).1] at hu
        rw [(hoth v h2).1] at hv
        exact M.inj u v hu hv huv
  · by_cases h : u = x.txn
    · subst h; rw [hself] at hu; cases hu
    · rw [(hoth u h).1] at hu
      rw [(hoth u h).2.1, (hoth u h).2.2]
      exact hz u hu
end
end Go.Proofs.Ytibhpoikhkokiaa.Hw

/- Histories: the checker's event. -/
set_option linter.unusedVariables false
set_option linter.unusedSimpArgs false
set_option maxRecDepth 20000
namespace Go.Proofs.Ytibhpoikhkokiaa.Hw
open Go Go.Proofs
theorem MapF.congr {H : Hp} {b : Nat} {f f' : Int → Option Value} (h : MapF H b f) (e : ∀ x, f x = f' x) : MapF H b f' := by
  obtain ⟨kv, hm, hf⟩ := h
  exact ⟨kv, hm, fun x => (hf x).trans (e x)⟩
theorem MapF2.congr {H : Hp} {b : Nat} {f f' : Int → Int → Option Value} (h : MapF2 H b f) (e : ∀ x y, f x y = f' x y) : MapF2 H b f' := by
  obtain ⟨es, clock, h1, h2, h3⟩ := h
  exact ⟨es, clock, h1, h2, fun x y => (h3 x y).trans (e x y)⟩
section
variable {H0 H H' : Hp} {c ct cw co e g : Nat} {blk : Int → Nat} {p : List Ev} {t : Int} {vb ve : Bool} {vs : Int} {W : Int → Int → Option Value} {O : Int → Option Value} {x : Ev} {Q : Value → Hp → Prop}
theorem CkAt.grow (C : CkAt H0 H c ct cw co blk p) (hx : Ext H H') : CkAt H0 H' c ct cw co blk p := by
  obtain ⟨tc, hc⟩ := C.cell
  have hk : ∀ q, H q ≠ none → H' q = H q := fun q hq => by
    cases h : H q with
    | none => exact absurd h hq
    | some o => exact hx q o h
  refine ⟨C.ext.trans hx, ⟨tc, hx _ _ hc⟩, C.n1, C.n2, C.n3, C.n4, C.txns.keep (hk _ C.txns.live), fun u hu => ?_, C.inj, C.wrote.keep (hk _ C.wrote.live), C.opn.keep (hk _ C.opn.live), C.d1, C.d2, C.d3, C.zero⟩
  obtain ⟨⟨ty, h1⟩, h2⟩ := C.each u hu
  exact ⟨⟨ty, hx _ _ h1⟩, h2⟩
theorem ev_cl (h : ∃ ty, H g = some (.cells (evC x).toArray ty (0, 0))) (k : Nat) : cl H g k = (evC x)[k]? := by
  obtain ⟨ty, h⟩ := h
  exact cl_cells h k
theorem MidAt.own_cl (M : MidAt H0 H c ct cw co blk p t e vb ve vs W O g x) (k : Nat) : cl H e k = ([Value.bool vb, .bool ve, .int .i64 vs])[k]? := by
  obtain ⟨ty, h⟩ := M.own
  exact cl_cells (cs := [Value.bool vb, .bool ve, .int .i64 vs]) h k
/-- A store into the state's block. -/
theorem MidAt.store {vb' ve' : Bool} {vs' : Int} {k : Nat} {v : Value} {K : Hp → Prop} (M : MidAt H0 H c ct cw co blk p t e vb ve vs W O g x) (hk : k < 3) (hs : setR [Value.bool vb, .bool ve, .int .i64 vs] k [v] = [Value.bool vb', .bool ve', .int .i64 vs'])
    (hq : ∀ H', MidAt H0 H' c ct cw co blk p t e vb' ve' vs' W O g x → K H') : storeF H e k [v] K := by
  obtain ⟨ty, h⟩ := M.own
  refine ⟨[.bool vb, .bool ve, .int .i64 vs], ty, h, by simp; omega, ?_⟩
  rw [hs]
  have ho : ∀ o q, q ≠ e → (upd e o H) q = H q := fun o q hq => upd_off hq
  exact hq _ (M.move (fun q h1 _ _ _ => ho _ q h1) ⟨ty, upd_at⟩ (M.wrote.keep (ho _ _ (M.wrote.ne h))) (M.opn.keep (ho _ _ (M.opn.ne h))))
theorem MidAt.putW {i : Int} {K : Hp → Prop} {v : Value} {u : Int} (M : MidAt H0 H c ct cw co blk p t e vb ve vs W O g x)
    (hq : ∀ H', MidAt H0 H' c ct cw co blk p t e vb ve vs (fun u' i' => if u' = u ∧ i' = i then some v else W u' i') O g x → K H') : putF2 H (some cw) u i v K := by
  obtain ⟨ty, h⟩ := M.own
  refine M.wrote.put fun H' hm ho => hq H' (M.move (fun q _ h2 _ _ => ho q h2) ⟨ty, (ho _ (M.wrote.ne h).symm).trans h⟩ hm (M.opn.keep (ho _ M.d3.symm)))
theorem MidAt.putO {i : Int} {K : Hp → Prop} {v : Value} (M : MidAt H0 H c ct cw co blk p t e vb ve vs W O g x)
    (hq : ∀ H', MidAt H0 H' c ct cw co blk p t e vb ve vs W (fun i' => if i' = i then some v else O i') g x → K H') : putF H .i64 (some co) i v K := by
  obtain ⟨ty, h⟩ := M.own
  refine M.opn.put fun H' hm ho => hq H' (M.move (fun q _ _ h3 _ => ho q h3) ⟨ty, (ho _ (M.opn.ne h).symm).trans h⟩ (M.wrote.keep (ho _ M.d3)) hm)
theorem c59 {ax who : Int} {x1 : Int} (h : cl H g 1 = some (.int .i64 x1)) (hq : Q (.bool (who == x1)) H) : HCalls Try.prog 59 [.int .i64 ax, .int .i64 who, .pointer (some ⟨g, 0, none⟩)] H Q := by
  refine f59.ok _ _ _ _ ?_
  unfold f59
  exact ⟨x1, by simpa using h, hq⟩
theorem snoc1 (o : x.op = 1) (u : Int) : endedM (p ++ [x]) u = endedM p u ∧ stmtM (p ++ [x]) u = stmtM p u ∧ (∀ u i, wroteM (p ++ [x]) u i = wroteM p u i) ∧ ∀ i, openM (p ++ [x]) i = openM p i := by
  refine ⟨?_, ?_, fun u i => ?_, fun i => ?_⟩
  · rw [ended_snoc]; unfold isE; rw [o]; simp
  · rw [stmt_snoc]; unfold stmtStep; rw [o]; simp
  · rw [wrote_snoc]; unfold isW; rw [o]; simp
  · rw [open_snoc]; unfold openStep; rw [o]; simp
theorem snoc2 (o : x.op = 2) : endedM (p ++ [x]) x.txn = endedM p x.txn ∧ stmtM (p ++ [x]) x.txn = x.stmt ∧ (∀ u i, wroteM (p ++ [x]) u i = wroteM p u i) ∧ ∀ i, openM (p ++ [x]) i = openM p i := by
  refine ⟨?_, ?_, fun u i => ?_, fun i => ?_⟩
  · rw [ended_snoc]; unfold isE; rw [o]; simp
  · rw [stmt_snoc]; unfold stmtStep; rw [o]; simp
  · rw [wrote_snoc]; unfold isW; rw [o]; simp
  · rw [open_snoc]; unfold openStep; rw [o]; simp
theorem snoc3 (o : x.op = 3) : endedM (p ++ [x]) x.txn = endedM p x.txn ∧ stmtM (p ++ [x]) x.txn = x.stmt ∧ (∀ u i, boolAt (wroteM (p ++ [x]) u i) = if u = x.txn ∧ i = x.item then some (.bool true) else boolAt (wroteM p u i)) ∧ ∀ i, (openM (p ++ [x]) i).map (Value.int .i64) = if i = x.item then some (.int .i64 x.txn) else (openM p i).map (Value.int .i64) := by
  refine ⟨?_, ?_, fun u i => ?_, fun i => ?_⟩
  · rw [ended_snoc]; unfold isE; rw [o]; simp
  · rw [stmt_snoc]; unfold stmtStep; rw [o]; simp
  · rw [wrote_snoc]; unfold isW; rw [o]
    by_cases h : u = x.txn ∧ i = x.item
    · rw [if_pos h, h.1, h.2]; simp [boolAt]
    · rw [if_neg h]
      have : ((3 : Int) == 3 && (x.txn == u && x.item == i)) = false := by
        cases h1 : x.txn == u <;> cases h2 : x.item == i <;> first | rfl | skip
        exact absurd ⟨(by simpa using h1 : x.txn = u).symm, (by simpa using h2 : x.item = i).symm⟩ h
      rw [this, Bool.or_false]
  · rw [open_snoc]; unfold openStep; rw [o]
    by_cases h : i = x.item
    · rw [if_pos h, h]; simp
    · have : ((3 : Int) == 3 && x.item == i) = false := by simpa using fun e => h e.symm
      rw [if_neg h, this]; simp
theorem snoc4 (o : x.op = 4 ∨ x.op = 5) : endedM (p ++ [x]) x.txn = true ∧ stmtM (p ++ [x]) x.txn = stmtM p x.txn ∧ (∀ u i, wroteM (p ++ [x]) u i = wroteM p u i) ∧ ∀ i, openM (p ++ [x]) i = (openM p i).filter fun v => !(v == x.txn) := by
  refine ⟨?_, ?_, fun u i => ?_, fun i => ?_⟩
  · rw [ended_snoc]; unfold isE; rcases o with o | o <;> rw [o] <;> simp
  · rw [stmt_snoc]; unfold stmtStep; rcases o with o | o <;> rw [o] <;> simp
  · rw [wrote_snoc]; unfold isW; rcases o with o | o <;> rw [o] <;> simp
  · rw [open_snoc]; unfold openStep
    have h3 : (x.op == 3 && x.item == i) = false := by rcases o with o | o <;> rw [o] <;> simp
    have h4 : (x.op == 4 || x.op == 5) = true := by rcases o with o | o <;> rw [o] <;> simp
    rw [h3, h4]
    cases openM p i with
    | none => rfl
    | some v =>
      by_cases h : v = x.txn
      · subst h; simp [Option.filter]
      · have e1 : (some v == some x.txn) = false := by simpa using h
        have e2 : (v == x.txn) = false := by simpa using h
        simp [Option.filter, e1, e2, h]
theorem max_le {a b : Int} : decide (b ≥ (if (1 : Int) > a then 1 else a)) = decide (max a 1 ≤ b) := by
  apply decide_eq_decide.2
  split <;> omega
theorem c35 (C : CkAt H0 H c ct cw co blk p) (hq : ∀ b H', Ext H0 H' → b = evOk p x → (b = true → ∃ blk', CkAt H0 H' c ct cw co blk' (p ++ [x])) → Q (.bool b) H') :
    HCalls Try.prog 35 [.pointer (some ⟨c, 0, none⟩), .agg #[.int .i64 x.op, .int .i64 x.txn, .int .i64 x.item, .int .i64 x.frm, .int .i64 x.stmt]] H Q := by
  refine f35.ok _ _ _ _ _ _ _ ?_
  unfold f35
  intro g hg
  generalize hH2 : upd g (Obj.cells _ 29 _) H = H2
  have x2 : Ext H H2 := by subst hH2; exact Ext.new hg
  have hev2 : ∃ ty, H2 g = some (.cells (evC x).toArray ty (0, 0)) := ⟨29, by subst hH2; exact upd_at⟩
  have C2 := C.grow x2
  have hgn : ∀ q, H q ≠ none → q ≠ g := fun q hq e => hq (e ▸ hg)
  obtain ⟨tc, hc⟩ := C2.cell
  refine ⟨some ct, cl_cells (cs := [.map (some ct), .map (some cw), .map (some co)]) hc 0, x.txn, ev_cl hev2 1, C2.txns.look ⟨if begunM p x.txn then some ⟨blk x.txn, 0, none⟩ else none, by cases begunM p x.txn <;> rfl, ?_⟩⟩
  refine jn_intro (fun J => ∀ e H', MidAt H0 H' c ct cw co blk p x.txn e (begunM p x.txn) (endedM p x.txn) (stmtM p x.txn) (fun u i => boolAt (wroteM p u i)) (fun i => (openM p i).map (.int .i64)) g x → J (some ⟨e, 0, none⟩) H') (fun e H14 M => ?_) fun J hJ => ?_
  rotate_left
  · cases hb : begunM p x.txn with
    | true =>
      rw [hb] at hJ
      obtain ⟨own, ne⟩ := C2.each _ hb
      have M : MidAt H0 H2 c ct cw co blk p x.txn (blk x.txn) true (endedM p x.txn) (stmtM p x.txn) (fun u i => boolAt (wroteM p u i)) (fun i => (openM p i).map (.int .i64)) g x :=
        ⟨C2.ext, C2.cell, C2.n1, C2.n2, C2.n3, C2.n4, ne, C2.txns.congr fun u => by
          by_cases hu : u = x.txn
          · subst hu; rw [if_pos rfl, hb]; rfl
          · rw [if_neg hu], own, fun u hu hbu => ⟨(C2.each u hbu).1, (C2.each u hbu).2, fun h => hu (C2.inj u _ hbu hb h)⟩, C2.inj, C2.wrote, C2.opn, C2.d1, C2.d2, C2.d3, hev2, fun h => by
            obtain ⟨⟨ty, h1⟩, _⟩ := C.each _ hb
            exact hgn (blk x.txn) (by rw [h1]; simp) h.symm⟩
      exact cndF rfl (hJ _ _ M)
    | false =>
      obtain ⟨hz1, hz2⟩ := C2.zero _ hb
      rw [hb, hz1, hz2] at hJ
      refine cndT rfl fun g8 hg8 => ?_
      generalize hH9 : upd g8 (Obj.cells _ 102 _) H2 = H9
      have x9 : Ext H2 H9 := by subst hH9; exact Ext.new hg8
      have C9 := C2.grow x9
      obtain ⟨tc9, hc9⟩ := C9.cell
      have hev9 : ∃ ty, H9 g = some (.cells (evC x).toArray ty (0, 0)) := by obtain ⟨ty, h⟩ := hev2; exact ⟨ty, x9 _ _ h⟩
      have own9 : H9 g8 = some (.cells #[.bool false, .bool false, .int .i64 0] 102 (0, 0)) := by subst hH9; exact upd_at
      refine ⟨some ct, cl_cells (cs := [.map (some ct), .map (some cw), .map (some co)]) hc9 0, x.txn, ev_cl hev9 1, C9.txns.put fun H12 hm ho => hJ g8 H12 ?_⟩
      have hctg : ct ≠ g8 := C9.txns.ne own9
      refine ⟨fun q o hqo => (ho q fun h => by rw [h, C9.n2] at hqo; cases hqo).trans (C9.ext q o hqo), ⟨tc9, (ho c (C9.txns.ne hc9).symm).trans hc9⟩, C9.n1, C9.n2, C9.n3, C9.n4, ?_, hm, ⟨102, (ho g8 hctg.symm).trans own9⟩, fun u hu hbu => ?_, C9.inj, C9.wrote.keep (ho _ C9.d1.symm), C9.opn.keep (ho _ C9.d2.symm), C9.d1, C9.d2, C9.d3, ?_, ?_⟩
      · cases h : H0 g8 with
        | none => rfl
        | some o => rw [C2.ext _ _ h] at hg8; cases hg8
      · obtain ⟨⟨ty, h1⟩, h2⟩ := C9.each u hbu
        refine ⟨⟨ty, (ho _ (C9.txns.ne h1).symm).trans h1⟩, h2, fun h => ?_⟩
        obtain ⟨⟨ty', h1'⟩, _⟩ := C2.each u hbu
        rw [h, hg8] at h1'; cases h1'
      · obtain ⟨ty, h⟩ := hev9
        exact ⟨ty, (ho g (C9.txns.ne h).symm).trans h⟩
      · rintro rfl
        obtain ⟨ty, h⟩ := hev2
        rw [hg8] at h; cases h
  refine jn_intro (fun J => (evOk p x = false → J true H14) ∧ (inB x.txn = true → endedM p x.txn = false → (begunM p x.txn != (x.op == 1)) = true → J false H14)) ⟨fun hf => cndT rfl (hq false H14 M.ext hf.symm fun h => (by cases h)), fun h1 h2 h3 => cndF rfl ?_⟩ fun J h => ?_
  rotate_left
  · refine ⟨x.txn, ev_cl M.ev 1, c57 ⟨_, rfl, cndI (fun b => h.1 ?_) fun b => ?_⟩⟩
    · unfold evOk; rw [show inB x.txn = false by simpa using b]; rfl
    · have b1 : inB x.txn = true := by simpa using b
      refine ⟨_, M.own_cl 1, cndI (fun b => h.1 ?_) fun b2 => ⟨_, M.own_cl 0, _, ev_cl M.ev 0, ?_⟩⟩
      · unfold evOk; rw [b1, b]; rfl
      · cases h3 : (begunM p x.txn == (x.op == 1)) with
        | true => exact h.1 (by unfold evOk bne; rw [b1, b2, h3]; rfl)
        | false => exact h.2 b1 b2 (by unfold bne; rw [h3]; rfl)
  have hE : evOk p x = (if x.op == 1 then plainB x
   else if x.op == 2 then inB x.item && (decide (max (stmtM p x.txn) 1 ≤ x.stmt) && (x.frm == 0 || wroteM p x.frm x.item))
   else if x.op == 3 then inB x.item && (decide (max (stmtM p x.txn) 1 ≤ x.stmt) && (!takenB p x.txn x.item && x.frm == 0))
   else if x.op == 4 || x.op == 5 then plainB x
   else false) := by unfold evOk; rw [h1, h2, h3]; rfl
  refine ⟨x.op, ev_cl M.ev 0, x.txn, ev_cl M.ev 1, jn_intro (fun J => ∀ b it fr st H', (∃ ty, H' g = some (.cells (evC x).toArray ty (0, 0))) → Q (.bool (b && ((x.item == it) && ((x.frm == fr) && (x.stmt == st))))) H' → J b it fr st H') (fun b it fr st H' hev hQ => ?_) fun J hJ => ?_⟩
  · unfold jn
    refine cndI (fun hb => ?_) (fun hb => ?_)
    · refine ⟨_, ev_cl hev 0, _, ev_cl hev 1, _, ev_cl hev 2, _, ev_cl hev 3, _, ev_cl hev 4, ?_⟩
      rw [hb] at hQ
      simpa using hQ
    · rw [hb] at hQ; exact hQ
  refine ⟨x.op, ev_cl M.ev 0, cndI (fun o1 => ?_) fun o1 => cndI (fun o2 => ?_) fun o2 => cndI (fun o3 => ?_) fun o3 => ?_⟩
  · have o : x.op = 1 := by simpa using o1
    refine M.store (k := 0) (vb' := true) (by omega) rfl fun H' M' => hJ true 0 0 0 H' M'.ev (hq _ H' M'.ext ?_ fun hb => ?_)
    · rw [hE, o1]; rfl
    · obtain ⟨s1, s2, s3, s4⟩ := snoc1 (p := p) o x.txn
      refine ⟨_, MidAt.next (e := e) (g := g) (blk := blk) ?_ (?_ : evOk p x = true) C.zero⟩
      · simp only [s1, s2, s3, s4]; exact M'
      · rw [hE, o1]; exact hb
  · have o : x.op = 2 := by simpa using o2
    refine ⟨x.item, ev_cl M.ev 2, x.frm, ev_cl M.ev 3, x.stmt, ev_cl M.ev 4, jn_intro (fun J => ∀ b, b = (inB x.item && (decide (max (stmtM p x.txn) 1 ≤ x.stmt) && (x.frm == 0 || wroteM p x.frm x.item))) → J b H14) (fun b hb => ⟨x.stmt, ev_cl M.ev 4, ?_⟩) fun J h => ?_⟩
    · have hEb : evOk p x = b := by rw [hE, o1, o2, hb]; rfl
      refine M.store (k := 2) (vs' := x.stmt) (by omega) rfl fun H' M' => hJ b _ _ _ H' M'.ev (hq _ H' M'.ext ?_ fun hb' => ?_)
      · rw [hEb]; simp
      · obtain ⟨s1, s2, s3, s4⟩ := snoc2 (p := p) o
        have hbt : b = true := by simpa using hb'
        have hok : evOk p x = true := hEb.trans hbt
        refine ⟨_, MidAt.next (e := e) (g := g) (blk := blk) ?_ hok C.zero⟩
        have hbeg := (ev_parts hok).2.2.1.2 (by rw [o]; decide)
        rw [hbeg] at M'
        simp only [s1, s2, s3, s4]; exact M'
    · refine ⟨x.item, ev_cl M.ev 2, c57 ⟨_, rfl, cndI (fun b1 => ?_) fun b1 => h _ (by rw [b1]; rfl)⟩⟩
      refine ⟨x.stmt, ev_cl M.ev 4, _, M.own_cl 2, rfl, ?_⟩
      rw [max_le]
      refine cndI (fun b2 => ⟨x.frm, ev_cl M.ev 3, cndI (fun b3 => h _ (by rw [b1, b2, b3]; rfl)) fun b3 => ?_⟩) fun b2 => h _ (by rw [b1, b2]; rfl)
      obtain ⟨tc', hc'⟩ := M.cell
      refine ⟨some cw, cl_cells (cs := [.map (some ct), .map (some cw), .map (some co)]) hc' 1, x.frm, ev_cl M.ev 3, x.item, ev_cl M.ev 2, M.wrote.look ⟨wroteM p x.frm x.item, by unfold boolAt; cases wroteM p x.frm x.item <;> rfl, h _ (by rw [b1, b2, b3]; rfl)⟩⟩
  · have o : x.op = 3 := by simpa using o3
    obtain ⟨tc', hc'⟩ := M.cell
    refine ⟨x.item, ev_cl M.ev 2, x.stmt, ev_cl M.ev 4, some co, cl_cells (cs := [.map (some ct), .map (some cw), .map (some co)]) hc' 2, x.item, ev_cl M.ev 2, M.opn.look ⟨(openM p x.item).getD 0, by cases openM p x.item <;> rfl, ?_⟩⟩
    refine jn_intro (fun J => ∀ b, b = (inB x.item && (decide (max (stmtM p x.txn) 1 ≤ x.stmt) && !takenB p x.txn x.item)) → J b H14) (fun b hb => ⟨x.stmt, ev_cl M.ev 4, ?_⟩) fun J h => ?_
    · have hEb : evOk p x = (b && x.frm == 0) := by rw [hE, o1, o2, o3, hb]; simp only [Bool.and_assoc]; rfl
      refine onPtrI ?_
      show storeF H14 e 2 _ _
      refine M.store (k := 2) (vs' := x.stmt) (by omega) rfl fun H' M' => ?_
      obtain ⟨tc2, hc2⟩ := M'.cell
      refine ⟨some cw, cl_cells (cs := [.map (some ct), .map (some cw), .map (some co)]) hc2 1, x.txn, ev_cl M'.ev 1, x.item, ev_cl M'.ev 2, M'.putW fun H3 M3 => ?_⟩
      obtain ⟨tc3, hc3⟩ := M3.cell
      refine ⟨some co, cl_cells (cs := [.map (some ct), .map (some cw), .map (some co)]) hc3 2, x.item, ev_cl M3.ev 2, x.txn, ev_cl M3.ev 1, M3.putO fun H4 M4 => hJ b _ _ _ H4 M4.ev (hq _ H4 M4.ext ?_ fun hb' => ?_)⟩
      · rw [hEb]; simp
      · obtain ⟨s1, s2, s3, s4⟩ := snoc3 (p := p) o
        have hok : evOk p x = true := by rw [hEb]; simpa using hb'
        refine ⟨_, MidAt.next (e := e) (g := g) (blk := blk) ?_ hok C.zero⟩
        have hbeg := (ev_parts hok).2.2.1.2 (by rw [o]; decide)
        rw [hbeg] at M4
        simp only [s1, s2, s3, s4]; exact M4
    · refine ⟨x.item, ev_cl M.ev 2, c57 ⟨_, rfl, cndI (fun b1 => ?_) fun b1 => h _ (by rw [b1]; rfl)⟩⟩
      refine ⟨x.stmt, ev_cl M.ev 4, _, M.own_cl 2, rfl, ?_⟩
      rw [max_le]
      refine cndI (fun b2 => cndI (fun b3 => h _ ?_) fun b3 => ⟨x.txn, ev_cl M.ev 1, h _ ?_⟩) fun b2 => h _ (by rw [b1, b2]; rfl)
      · rw [b1, b2]; unfold takenB
        cases ho : openM p x.item with
        | none => rfl
        | some w => rw [ho] at b3; cases b3
      · rw [b1, b2]; unfold takenB
        cases ho : openM p x.item with
        | none => rw [ho] at b3; cases b3
        | some w => simp
  · refine jn_intro (fun J => ((x.op == 4 || x.op == 5) = true → J true) ∧ ((x.op == 4 || x.op == 5) = false → J false)) ⟨fun o4 => cndT rfl ?_, fun o4 => cndF rfl (hJ false 0 0 0 H14 M.ev (hq _ H14 M.ext ?_ fun hb => ?_))⟩ fun J h => cndI (fun o4 => ?_) fun o4 => ?_
    · have o : x.op = 4 ∨ x.op = 5 := by simpa using o4
      have hE' : evOk p x = plainB x := by rw [hE, o1, o2, o3, o4]; rfl
      refine onPtrI ?_
      show storeF H14 e 1 _ _
      refine M.store (k := 1) (ve' := true) (by omega) rfl fun H' M' => ?_
      obtain ⟨tc2, hc2⟩ := M'.cell
      obtain ⟨te2, he2⟩ := M'.own
      refine ⟨some co, cl_cells (cs := [.map (some ct), .map (some cw), .map (some co)]) hc2 2, c58 (g := fun _ v => v == x.txn) M'.opn (fnOk 59 rfl) (fun k v H3 Q' hfr hQ' => ?_) fun H3 hm hfr => ⟨rfl, ?_⟩⟩
      · obtain ⟨tg, hg'⟩ := M'.ev
        refine c59 ?_ hQ'
        have e1 := ev_cl M'.ev 1
        unfold cl at e1 ⊢
        rw [hfr g (M'.opn.ne hg').symm (by rw [hg']; simp)]
        exact e1
      · have M3 := M'.move (H' := H3) (fun q _ _ h3 h4 => hfr q h3 h4) ⟨te2, (hfr e (M'.opn.ne he2).symm (by rw [he2]; simp)).trans he2⟩ (M'.wrote.keep (hfr _ M'.d3 M'.wrote.live)) hm
        refine hJ true 0 0 0 H3 M3.ev (hq _ H3 M3.ext ?_ fun hb => ?_)
        · rw [hE']; rfl
        · obtain ⟨s1, s2, s3, s4⟩ := snoc4 (p := p) o
          have hok : evOk p x = true := hE'.trans hb
          refine ⟨_, MidAt.next (e := e) (g := g) (blk := blk) ?_ hok C.zero⟩
          have hbeg := (ev_parts hok).2.2.1.2 (by rcases o with o | o <;> rw [o] <;> decide)
          rw [hbeg] at M3
          simp only [s1, s2, s3, s4]; exact M3
    · rw [hE, o1, o2, o3, o4]; rfl
    · cases hb
    · rw [o4]; exact h.1 (by rw [o4]; rfl)
    · cases o5 : x.op == 5 with
      | true => exact h.1 (by rw [o5, Bool.or_true])
      | false => exact h.2 (by rw [o4, o5]; rfl)
end
end Go.Proofs.Ytibhpoikhkokiaa.Hw

/- Histories: Valid. -/
set_option linter.unusedVariables false
set_option linter.unusedSimpArgs false
set_option maxRecDepth 20000
namespace Go.Proofs.Ytibhpoikhkokiaa.Hw
open Go Go.Proofs
theorem OkTo.succ {l : List Ev} {i : Nat} {x : Ev} (h : OkTo l i) (hx : l[i]? = some x) (ho : evOk (l.take i) x = true) : OkTo l (i + 1) := fun j y hj hy => by
  by_cases e : j = i
  · subst e; rw [hx] at hy; cases hy; exact ho
  · exact h j y (by omega) hy
section
variable {H0 H : Hp} {c ct cw co g : Nat} {blk : Int → Nat} {p : List Ev} {x : Ev} {Q : Value → Hp → Prop}
theorem c34 (C : CkAt H0 H c ct cw co blk p) (hg : cl H g 0 = some (.pointer (some ⟨c, 0, none⟩))) (hq : ∀ b H', Ext H0 H' → b = evOk p x → (b = true → ∃ blk', CkAt H0 H' c ct cw co blk' (p ++ [x])) → Q (.bool (!b)) H') :
    HCalls Try.prog 34 [.agg #[.int .i64 x.op, .int .i64 x.txn, .int .i64 x.item, .int .i64 x.frm, .int .i64 x.stmt], .pointer (some ⟨g, 0, none⟩)] H Q := by
  refine f34.ok _ _ _ _ _ _ _ ?_
  unfold f34
  exact ⟨_, hg, c35 C fun b H' h1 h2 h3 => ⟨b, rfl, hq b H' h1 h2 h3⟩⟩
theorem c56 {A : Option Addr} {n k : Nat} {l : List Ev} (hA : SlAt evC H0 A n l) (C : CkAt H0 H c ct cw co blk []) (hg : cl H0 g 0 = some (.pointer (some ⟨c, 0, none⟩))) (hq : ∀ r H', Ext H0 H' → decide (r ≥ 0) = !goodB l → Q (.int .i64 r) H') :
    HCalls Try.prog 56 [.slice A n k, .func (.func 34) #[] #[.pointer (some ⟨g, 0, none⟩)]] H Q := by
  refine f56.ok _ _ _ _ _ _ ?_
  unfold f56
  obtain rfl := hA.len
  have hlt := hA.lt
  refine scan hlt (fun i H' => OkTo l i ∧ ∃ blk, CkAt H0 H' c ct cw co blk (l.take i)) ⟨fun i x hi => by omega, blk, C⟩ (fun i H' next hi hI hnext => ?_) (fun H' next hI => ?_)
  · obtain ⟨hok, blk', C'⟩ := hI
    obtain ⟨x, hx⟩ := get_of hi
    dsimp only
    refine cndT (decide_eq_true (by omega)) ⟨by omega, by omega, rd_ev (hA.ext C'.ext) hx fun q o _ k1 k2 k3 k4 k5 => ⟨x.op, by simpa using k1, x.txn, by simpa using k2, x.item, by simpa using k3, x.frm, by simpa using k4, x.stmt, by simpa using k5, fnOk 34 rfl, c34 C' (cl_ext C'.ext hg) fun b H2 h1 h2 h3 => ⟨!b, rfl, cndI (fun hb => hq _ H2 h1 ?_) fun hb => ⟨rfl, hnext H2 ?_⟩⟩⟩⟩
    · have hf : evOk (l.take i) x = false := by rw [← h2]; simpa using hb
      have : goodB l = false := by
        cases hgd : goodB l with
        | false => rfl
        | true => rw [good_iff.1 hgd i x hi hx] at hf; cases hf
      rw [this, decide_eq_true (by omega)]; rfl
    · have hb : b = true := by simpa using hb
      obtain ⟨blk2, C2⟩ := h3 hb
      rw [← take_snoc hx] at C2
      exact ⟨hok.succ hx (by rw [← h2]; exact hb), blk2, C2⟩
  · obtain ⟨hok, blk', C'⟩ := hI
    dsimp only
    refine cndF (decide_eq_false (by omega)) (hq _ H' C'.ext ?_)
    rw [good_iff.2 hok]; rfl
theorem c33 {A : Option Addr} {n k : Nat} {l : List Ev} (hA : SlAt evC H0 A n l) (C : CkAt H0 H c ct cw co blk []) (hg : cl H0 g 0 = some (.pointer (some ⟨c, 0, none⟩))) (hq : ∀ H', Ext H0 H' → Q (.bool (!goodB l)) H') :
    HCalls Try.prog 33 [.slice A n k, .func (.func 34) #[] #[.pointer (some ⟨g, 0, none⟩)]] H Q := by
  refine f33.ok _ _ _ _ _ _ ?_
  unfold f33
  exact c56 hA C hg fun r H' h1 h2 => ⟨r, rfl, by rw [h2]; exact hq H' h1⟩
theorem c13 {A : Option Addr} {n k : Nat} {l : List Ev} (hA : SlAt evC H A n l) (hq : ∀ H', Ext H H' → Q (.bool (validM l)) H') : HCalls Try.prog 13 [.slice A n k] H Q := by
  refine f13.ok _ _ _ ?_
  unfold f13
  obtain rfl := hA.len
  refine MapF.new fun m1 H2 hm1 x2 o2 M1 => MapF2.new fun m3 H4 hm3 x4 o4 M3 => MapF.new fun m5 H6 hm5 x6 o6 M5 => ?_
  intro g7 hg7
  generalize hH8 : upd g7 (Obj.cells _ 82 _) H6 = H8
  have e7 : H8 g7 = some (.cells #[.map (some m1), .map (some m3), .map (some m5)] 82 (0, 0)) := by subst hH8; exact upd_at
  have x8 : Ext H6 H8 := by subst hH8; exact Ext.new hg7
  intro g9 hg9
  have lv : ∀ {b} {X Y : Hp}, Ext X Y → X b ≠ none → Y b = X b := fun {b X Y} hx hb => by
    cases h : X b with
    | none => exact absurd h hb
    | some o => exact hx b o h
  have h26 : Ext H2 H6 := x4.trans x6
  have hH : Ext H H8 := ((x2.trans x4).trans x6).trans x8
  refine ⟨[.pointer none], 78, upd_at, by simp, ?_⟩
  show jn _ _
  generalize hH11 : upd g9 (Obj.cells _ 78 _) _ = H11
  have e9 : H11 g9 = some (.cells #[.pointer (some ⟨g7, 0, none⟩)] 78 (0, 0)) := by subst hH11; exact upd_at
  have o11 : ∀ q, q ≠ g9 → H11 q = H8 q := fun q hq => by subst hH11; rw [upd_off hq, upd_off hq]
  have x11 : Ext H8 H11 := fun q o hq => by rw [o11 q (fun e => by subst e; rw [hg9] at hq; cases hq)]; exact hq
  have hx11 : Ext H H11 := hH.trans x11
  have N : ∀ {b} {X : Hp}, Ext H X → X b = none → H b = none := fun hx hb => hx.none hb
  have h9 : H g9 = none := N hH hg9
  have hgm : ∀ b, H8 b ≠ none → b ≠ g9 := fun b hb e => hb (e ▸ hg9)
  have l1 : H8 m1 ≠ none := by rw [lv (h26.trans x8) M1.live]; exact M1.live
  have l3 : H8 m3 ≠ none := by rw [lv (x6.trans x8) M3.live]; exact M3.live
  have l5 : H8 m5 ≠ none := by rw [lv x8 M5.live]; exact M5.live
  have b0 : ∀ q, q ≠ g9 → (upd g9 (Obj.cells #[.pointer (some ⟨g7, 0, none⟩)] 78 (0, 0)) H) q = H q := fun q hq => upd_off hq
  have xB : Ext H (upd g9 (Obj.cells #[.pointer (some ⟨g7, 0, none⟩)] 78 (0, 0)) H) := Ext.new h9
  have l7 : H8 g7 ≠ none := by rw [e7]; simp
  have d13 : m1 ≠ m3 := fun e => M1.live (e ▸ hm3)
  have d15 : m1 ≠ m5 := fun e => by subst e; have := lv x4 M1.live; rw [hm5] at this; exact M1.live this.symm
  have d35 : m3 ≠ m5 := fun e => M3.live (e ▸ hm5)
  have C : CkAt (upd g9 (Obj.cells #[.pointer (some ⟨g7, 0, none⟩)] 78 (0, 0)) H) H11 g7 m1 m3 m5 (fun _ => 0) [] := by
    refine ⟨fun q o hq => ?_, ⟨82, (o11 g7 (hgm g7 l7)).trans e7⟩, (b0 g7 (hgm g7 l7)).trans (N ((x2.trans x4).trans x6) hg7), (b0 m1 (hgm m1 l1)).trans hm1, (b0 m3 (hgm m3 l3)).trans (N x2 hm3), (b0 m5 (hgm m5 l5)).trans (N (x2.trans x4) hm5), ?_, fun u hu => (by cases hu), fun u v hu => (by cases hu), ?_, ?_, d13, d15, d35, fun u _ => ⟨rfl, rfl⟩⟩
    · by_cases e : q = g9
      · subst e; rw [upd_at] at hq; rw [e9]; exact hq
      · rw [b0 q e] at hq; exact hx11 q o hq
    · exact (M1.keep (lv ((h26.trans x8).trans x11) M1.live)).congr fun u => rfl
    · exact (M3.keep (lv ((x6.trans x8).trans x11) M3.live)).congr fun u i => rfl
    · exact (M5.keep (lv (x8.trans x11) M5.live)).congr fun i => rfl
  unfold jn validM at *
  refine cndI (fun h => ?_) (fun h => ?_)
  · rw [show decide (l.length ≤ 2000) = true by rw [← h]; exact decide_eq_decide.2 (by omega), Bool.true_and] at hq
    refine c33 (hA.ext xB) C (by unfold cl; rw [upd_at]; rfl) fun H' h' => ⟨_, rfl, ?_⟩
    rw [Bool.not_not]
    exact hq H' (xB.trans h')
  · rw [show decide (l.length ≤ 2000) = false by rw [← h]; exact decide_eq_decide.2 (by omega), Bool.false_and] at hq
    exact hq H11 hx11
end
end Go.Proofs.Ytibhpoikhkokiaa.Hw

/- Histories: a map of rows of numbers, each on a block of its own. -/
set_option linter.unusedVariables false
set_option linter.unusedSimpArgs false
set_option maxRecDepth 20000
namespace Go.Proofs.Ytibhpoikhkokiaa.Hw
open Go Go.Proofs
/-- Blocks have roles: those with a role below 8 are the call's own. -/
def OwnR (H0 H : Hp) (rl : Nat → Nat) : Prop := ∀ q, rl q < 8 → H0 q = none ∧ H q ≠ none
theorem ints_eq {l : List Int} : l.flatMap inC = ints l := by
  induction l with
  | nil => rfl
  | cons a r ih => rw [List.flatMap_cons, ih]; rfl
theorem ints_append {a b : List Int} : ints (a ++ b) = ints a ++ ints b := by unfold ints; rw [List.map_append]
theorem Row.slI {H0 H : Hp} {A : Option Addr} {c : Nat} {l : List Int} (R : Row H0 H A l.length c 1 (ints l)) (hs : l.length < huge) : SlAt inC H A l.length l := ⟨rfl, by rw [ints_eq]; exact R.cells, hs⟩
structure Fam (H0 H : Hp) (rl : Nat → Nat) (v : Nat) (sl : Int → Option Addr × Nat) (vs : Int → List Int) : Prop where
  map : MapF H v (fun k => if (vs k).isEmpty then none else some (.slice (sl k).1 (vs k).length (sl k).2))
  row : ∀ k, (vs k).isEmpty = false → Row H0 H (sl k).1 (vs k).length (sl k).2 1 (ints (vs k)) ∧ ∀ q, rowB (sl k).1 q → rl q = 7
  disj : ∀ k k', (vs k).isEmpty = false → (vs k').isEmpty = false → k ≠ k' → ∀ q, rowB (sl k).1 q → rowB (sl k').1 q → False
section
variable {H0 H H' : Hp} {rl rl' : Nat → Nat} {v : Nat} {sl : Int → Option Addr × Nat} {vs vs' : Int → List Int}
theorem Fam.keep (F : Fam H0 H rl v sl vs) (hv : H' v = H v) (hk : ∀ q, rl q = 7 → H' q = H q) (hr : ∀ q, H q ≠ none → rl' q = rl q) : Fam H0 H' rl' v sl vs :=
  ⟨F.map.keep hv, fun k h => ⟨(F.row k h).1.keep fun q hq => hk q ((F.row k h).2 q hq), fun q hq => (hr q ((F.row k h).1.lt hq).1).trans ((F.row k h).2 q hq)⟩, F.disj⟩
theorem Fam.congr (F : Fam H0 H rl v sl vs) (h : ∀ k, vs k = vs' k) : Fam H0 H rl v sl vs' := by
  obtain rfl : vs = vs' := funext h
  exact F
/-- One number more at a key. -/
theorem Fam.app {k t : Int} {B : Option Addr} {A : Option Addr} {n c : Nat} {K : Option Addr → Nat → Nat → Hp → Prop} (F : Fam H0 H rl v sl vs) (hx : Ext H0 H) (O : OwnR H0 H rl) (hv : rl v < 7) (hl : (vs k).length < 1000000000000)
    (hA : (if (vs k).isEmpty then some (Value.slice none 0 0) else some (.slice (sl k).1 (vs k).length (sl k).2)) = some (.slice A n c)) (hB : cellsAt H B [.int .i64 t])
    (hk : ∀ A' n' c' H1, (∀ q, rl q ≠ 7 → H q ≠ none → H1 q = H q) → (∀ K2 : Hp → Prop, (∀ H2 rl2 sl2, Fam H0 H2 rl2 v sl2 (fun k' => if k' = k then vs k ++ [t] else vs k') → Ext H0 H2 → OwnR H0 H2 rl2 → (∀ q, H q ≠ none → rl2 q = rl q) → (∀ q, rl q ≠ 7 → q ≠ v → H q ≠ none → H2 q = H q) → K2 H2) →
      putF H1 .i64 (some v) k (.slice A' n' c') K2) → K A' n' c' H1) : appendF H 3 1 8 A n c B 1 K := by
  classical
  have hR : Row H0 H A n c 1 (ints (vs k)) ∧ (∀ q, rowB A q → rl q = 7) ∧ n = (vs k).length ∧ ((vs k).isEmpty = false → A = (sl k).1) ∧ ((vs k).isEmpty = true → A = none) := by
    cases he : (vs k).isEmpty with
    | true =>
      rw [he] at hA
      have e : vs k = [] := List.isEmpty_iff.1 he
      rw [if_pos rfl] at hA
      cases hA
      rw [e]
      exact ⟨Row.nil, fun q ⟨o, z, h⟩ => (by cases h), rfl, fun h => (by cases h), fun _ => rfl⟩
    | false =>
      rw [he, if_neg (by decide)] at hA
      cases hA
      exact ⟨(F.row k he).1, (F.row k he).2, rfl, fun _ => rfl, fun h => (by cases h)⟩
  obtain ⟨R, h7, rfl, hA1, hA2⟩ := hR
  refine Row.append (new := [.int .i64 t]) R hx hB rfl (fun u hu => by obtain rfl := List.mem_singleton.1 hu; rfl) (by omega) (by omega) fun A' c' H1 R' hx' hfr hbl _ => ?_
  have hf : ∀ q, rl q ≠ 7 → H q ≠ none → H1 q = H q := fun q h1 h2 => by
    apply Classical.byContradiction
    intro hne
    rcases (hfr q hne).2 with h | h
    · exact h1 (h7 q h)
    · exact h2 h
  refine hk A' _ c' H1 hf fun K2 hK2 => ?_
  have hvl : H v ≠ none := F.map.live
  have hmap1 := F.map.keep (hf v (by omega) hvl)
  refine hmap1.put fun H2 hm2 ho2 => ?_
  have hvA : ∀ q, rowB A' q → q ≠ v := fun q hq e => by
    subst e
    rcases hbl q hq with h | h
    · have := h7 q h; omega
    · exact hvl h
  have hrl : ∀ q, H q ≠ none → (if H q = none ∧ rowB A' q then 7 else rl q) = rl q := fun q hq => if_neg fun h => hq h.1
  have hrow' : ∀ q, rowB A' q → (if H q = none ∧ rowB A' q then 7 else rl q) = 7 := fun q hq => by
    by_cases h : H q = none ∧ rowB A' q
    · rw [if_pos h]
    · rw [if_neg h]
      rcases hbl q hq with h' | h'
      · exact h7 q h'
      · exact absurd ⟨h', hq⟩ h
  refine hK2 H2 (fun q => if H q = none ∧ rowB A' q then 7 else rl q) (fun k' => if k' = k then (A', c') else sl k') ⟨hm2.congr fun k' => ?_, fun k' he => ?_, fun k1 k2 h1 h2 hne q hq1 hq2 => ?_⟩ (fun q o hq => ?_) (fun q hq => ?_) hrl (fun q h1 h2 h3 => (ho2 q h2).trans (hf q h1 h3))
  · by_cases e : k' = k
    · rw [if_pos e, if_pos e, if_pos e]; simp
    · rw [if_neg e, if_neg e, if_neg e]
  · by_cases e : k' = k
    · simp only [if_pos e]
      refine ⟨?_, fun q hq => hrow' q hq⟩
      rw [ints_append, List.length_append]
      exact R'.keep fun q hq => ho2 q (hvA q hq)
    · simp only [if_neg e] at he ⊢
      obtain ⟨r1, r2⟩ := F.row k' he
      refine ⟨r1.keep fun q hq => ?_, fun q hq => (hrl q (r1.lt hq).1).trans (r2 q hq)⟩
      have hq7 := r2 q hq
      have hqv : q ≠ v := fun e => by subst e; omega
      rw [ho2 q hqv]
      apply Classical.byContradiction
      intro hne
      rcases (hfr q hne).2 with h | h
      · have hke : (vs k).isEmpty = false := by
          cases hh : (vs k).isEmpty with
          | false => rfl
          | true => rw [hA2 hh] at h; obtain ⟨o, z, h⟩ := h; cases h
        rw [hA1 hke] at h
        exact F.disj k' k he hke e q hq h
      · exact (r1.lt hq).1 h
  · have key : ∀ k', k' ≠ k → (vs k').isEmpty = false → ∀ q, rowB A' q → rowB (sl k').1 q → False := fun k' e he q hq1 hq2 => by
      rcases hbl q hq1 with h | h
      · have hke : (vs k).isEmpty = false := by
          cases hh : (vs k).isEmpty with
          | false => rfl
          | true => rw [hA2 hh] at h; obtain ⟨o, z, h⟩ := h; cases h
        rw [hA1 hke] at h
        exact F.disj k' k he hke e q hq2 h
      · exact ((F.row k' he).1.lt hq2).1 h
    by_cases e1 : k1 = k
    · by_cases e2 : k2 = k
      · exact hne (e1.trans e2.symm)
      · simp only [if_pos e1, if_neg e2] at hq1 hq2 h2
        exact key k2 e2 h2 q hq1 hq2
    · by_cases e2 : k2 = k
      · simp only [if_neg e1, if_pos e2] at hq1 hq2 h1
        exact key k1 e1 h1 q hq2 hq1
      · simp only [if_neg e1, if_neg e2] at hq1 hq2 h1 h2
        exact F.disj k1 k2 h1 h2 hne q hq1 hq2
  · rw [ho2 q fun e => by subst e; rw [(O q (by omega)).1] at hq; cases hq]
    exact hx' q o hq
  · have live : ∀ q, H1 q ≠ none → H2 q ≠ none := fun q h => by
      by_cases e : q = v
      · subst e; exact hm2.live
      · rw [ho2 q e]; exact h
    by_cases h : H q = none ∧ rowB A' q
    · exact ⟨hx.none h.1, live q (R'.lt h.2).1⟩
    · simp only [if_neg h] at hq
      refine ⟨(O q hq).1, live q ?_⟩
      by_cases hch : H1 q = H q
      · rw [hch]; exact (O q hq).2
      · exact (R'.lt (hfr q hch).1).1
end
end Go.Proofs.Ytibhpoikhkokiaa.Hw

/- Histories: the book of a history. -/
set_option linter.unusedVariables false
set_option linter.unusedSimpArgs false
set_option maxRecDepth 20000
namespace Go.Proofs.Ytibhpoikhkokiaa.Hw
open Go Go.Proofs
def natV (n : Nat) : Value := .int .i64 (n : Int)
theorem ne_rl {rl : Nat → Nat} {a b x y : Nat} (h1 : rl a = x) (h2 : rl b = y) (h : x ≠ y) : a ≠ b := fun e => h (by rw [← h1, ← h2, e])
structure BookAt (H : Hp) (g c b v w : Nat) (sl : Int → Option Addr × Nat) (A : Option Addr) (n cp : Nat) (l : List Ev) : Prop where
  cell : ∃ ty, H g = some (.cells #[.slice A n cp, .map (some c), .map (some b), .map (some v), .map (some w)] ty (0, 0))
  evs : SlAt evC H A n l
  cap : n ≤ cp
  commits : MapF H c (fun t => (commitI l t).map natV)
  begins : MapF H b (fun t => (beginI l t).map natV)
  vers : MapF H v (fun k => if (versM l k).isEmpty then none else some (.slice (sl k).1 (versM l k).length (sl k).2))
  row : ∀ k, (versM l k).isEmpty = false → SlAt inC H (sl k).1 (versM l k).length (versM l k) ∧ (versM l k).length ≤ (sl k).2
  lastw : MapF2 H w (fun t i => (lastW l t i).map natV)
/-- The book while it is made. -/
structure OfAt (H0 H : Hp) (rl : Nat → Nat) (g c b v w m : Nat) (iw : Int → Nat) (sl : Int → Option Addr × Nat) (A : Option Addr) (n cp : Nat) (p : List Ev) : Prop where
  ext : Ext H0 H
  own : OwnR H0 H rl
  cell : ∃ ty, H g = some (.cells #[.slice A n cp, .map (some c), .map (some b), .map (some v), .map (some w)] ty (0, 0))
  rg : rl g = 0
  rc : rl c = 1
  rb : rl b = 2
  rv : rl v = 3
  rw' : rl w = 4
  rm : rl m = 5
  ri : ∀ t, begunM p t = true → rl (iw t) = 6
  commits : MapF H c (fun t => (commitI p t).map natV)
  begins : MapF H b (fun t => (beginI p t).map natV)
  fam : Fam H0 H rl v sl (versM p)
  lastw : MapF2 H w (fun t i => (lastW p t i).map natV)
  items : MapF H m (fun t => if begunM p t then some (.map (some (iw t))) else none)
  item : ∀ t, begunM p t = true → MapF H (iw t) (fun k => boolAt (wroteM p t k))
  inj : ∀ t u, begunM p t = true → begunM p u = true → iw t = iw u → t = u
theorem vers_len {l : List Ev} {k : Int} : (versM l k).length ≤ l.length := by
  unfold versM
  exact Nat.le_trans (List.length_filterMap_le _ _) (by simp)
theorem lastI_snocF {q : Ev → Bool} {p : List Ev} {x : Ev} (h : q x = false) : lastI q (p ++ [x]) = lastI q p := by rw [lastI_snoc, h]; rfl
theorem vers_same {p : List Ev} {x : Ev} (h : x.op ≠ 4) (k : Int) : versM (p ++ [x]) k = versM p k := by
  rw [vers_snoc]
  have : (x.op == 4) = false := by simpa using h
  rw [this, Bool.false_and]; simp
section
variable {p : List Ev} {x : Ev}
theorem com_same (h : x.op ≠ 4) (t : Int) : commitI (p ++ [x]) t = commitI p t := lastI_snocF (by unfold isC; simp [h])
theorem beg_same (h : x.op ≠ 1) (t : Int) : beginI (p ++ [x]) t = beginI p t := lastI_snocF (by unfold isB; simp [h])
theorem las_same (h : x.op ≠ 3) (t i : Int) : lastW (p ++ [x]) t i = lastW p t i := lastI_snocF (by unfold isW; simp [h])
theorem wro_same (h : x.op ≠ 3) (t i : Int) : wroteM (p ++ [x]) t i = wroteM p t i := by rw [wrote_snoc]; unfold isW; simp [h]
theorem bgn_same (h : x.op ≠ 1) (t : Int) : begunM (p ++ [x]) t = begunM p t := by rw [begun_snoc]; unfold isB; simp [h]
end
theorem isB_off {t : Int} {x : Ev} (h : t ≠ x.txn) : isB t x = false := by
  unfold isB
  have : (x.txn == t) = false := by simpa using fun e => h (Eq.symm e)
  rw [this, Bool.and_false]
/-- Who has not begun has not written. -/
theorem OkTo.not_begun {l : List Ev} {i : Nat} (h : OkTo l i) {t : Int} (hb : begunM (l.take i) t = false) (k : Int) : wroteM (l.take i) t k = false := by
  cases hw : wroteM (l.take i) t k with
  | false => rfl
  | true =>
    obtain ⟨j, y, hj, hy, hp⟩ := any_take.1 hw
    obtain ⟨o, e1, e2⟩ := isW_iff.1 hp
    have := h.begun hy hj (by rw [o]; decide)
    rw [e1] at this
    obtain ⟨j', y', hj', hy', hp'⟩ := any_take.1 this
    unfold begunM at hb
    rw [any_take.2 ⟨j', y', by omega, hy', hp'⟩] at hb; cases hb
section
variable {H0 H H' : Hp} {rl : Nat → Nat} {g c b v w m : Nat} {iw : Int → Nat} {sl : Int → Option Addr × Nat} {A : Option Addr} {n cp : Nat} {l p : List Ev} {x : Ev} {Q : Value → Hp → Prop}
theorem OwnR.set (O : OwnR H0 H rl) (hk : ∀ q, H q ≠ none → H' q ≠ none) : OwnR H0 H' rl := fun q hq => ⟨(O q hq).1, hk q (O q hq).2⟩
/-- Begin. -/
theorem OfAt.begin {m' : Nat} (O : OfAt H0 H rl g c b v w m iw sl A n cp p) (hb0 : ∀ k, wroteM p x.txn k = false) (hnb : begunM p x.txn = false) (o : x.op = 1) (hm' : H m' = none)
    (hfr : ∀ q, rl q < 8 → q ≠ b → q ≠ m → H' q = H q) (hx : Ext H0 H') (hlive : ∀ q, H q ≠ none → H' q ≠ none) (h1 : MapF H' b (fun t => if t = x.txn then some (natV p.length) else (beginI p t).map natV)) (h2 : MapF H' m' (fun _ => none))
    (h3 : MapF H' m (fun t => if t = x.txn then some (.map (some m')) else if begunM p t then some (.map (some (iw t))) else none)) :
    OfAt H0 H' (fun q => if q = m' then 6 else rl q) g c b v w m (fun t => if t = x.txn then m' else iw t) sl A n cp (p ++ [x]) := by
  have hne : ∀ q, rl q < 8 → q ≠ m' := fun q hq e => (O.own q hq).2 (e ▸ hm')
  have hrl : ∀ q, rl q < 8 → (if q = m' then 6 else rl q) = rl q := fun q hq => if_neg (hne q hq)
  have hrl' : ∀ q, H q ≠ none → (if q = m' then 6 else rl q) = rl q := fun q hq => if_neg (fun e : q = m' => hq (by rw [e]; exact hm'))
  have o4 : x.op ≠ 4 := by rw [o]; decide
  have o3 : x.op ≠ 3 := by rw [o]; decide
  have hbs : ∀ t, begunM (p ++ [x]) t = if t = x.txn then true else begunM p t := fun t => by
    rw [begun_snoc]
    by_cases e : t = x.txn
    · rw [if_pos e, isB_iff.2 ⟨o, e.symm⟩, Bool.or_true]
    · rw [if_neg e]
      have : isB t x = false := isB_off e
      rw [this, Bool.or_false]
  have kp : ∀ q, rl q < 8 → rl q ≠ 2 → rl q ≠ 5 → H' q = H q := fun q h h2 h5 => hfr q h (fun e => h2 (by rw [e, O.rb])) fun e => h5 (by rw [e, O.rm])
  obtain ⟨ty, hc⟩ := O.cell
  refine ⟨hx, fun q hq => ?_, ⟨ty, (kp g (by rw [O.rg]; omega) (by rw [O.rg]; omega) (by rw [O.rg]; omega)).trans hc⟩, (hrl g (by rw [O.rg]; omega)).trans O.rg, (hrl c (by rw [O.rc]; omega)).trans O.rc, (hrl b (by rw [O.rb]; omega)).trans O.rb, (hrl v (by rw [O.rv]; omega)).trans O.rv, (hrl w (by rw [O.rw']; omega)).trans O.rw', (hrl m (by rw [O.rm]; omega)).trans O.rm, fun t ht => ?_, ?_, ?_, ?_, ?_, ?_, fun t ht => ?_, fun t u ht hu e => ?_⟩
  · by_cases e : q = m'
    · subst e
      exact ⟨O.ext.none hm', h2.live⟩
    · simp only [if_neg e] at hq
      exact ⟨(O.own q hq).1, hlive q (O.own q hq).2⟩
  · by_cases e : t = x.txn
    · simp only [if_pos e, if_true]
    · rw [hbs, if_neg e] at ht
      simp only [if_neg e]
      exact (hrl _ (by rw [O.ri t ht]; omega)).trans (O.ri t ht)
  · exact (O.commits.keep (kp c (by rw [O.rc]; omega) (by rw [O.rc]; omega) (by rw [O.rc]; omega))).congr fun t => by rw [com_same o4]
  · exact h1.congr fun t => by
      unfold beginI
      rw [lastI_snoc]
      by_cases e : t = x.txn
      · rw [if_pos e, if_pos (isB_iff.2 ⟨o, e.symm⟩)]; rfl
      · have : isB t x = false := isB_off e
        rw [if_neg e, this]; rfl
  · exact (O.fam.keep (kp v (by rw [O.rv]; omega) (by rw [O.rv]; omega) (by rw [O.rv]; omega)) (fun q hq => kp q (by omega) (by omega) (by omega)) hrl').congr fun k => (vers_same o4 k).symm
  · exact (O.lastw.keep (kp w (by rw [O.rw']; omega) (by rw [O.rw']; omega) (by rw [O.rw']; omega))).congr fun t i => by rw [las_same o3]
  · exact h3.congr fun t => by
      rw [hbs]
      by_cases e : t = x.txn
      · simp only [if_pos e, if_true]
      · simp only [if_neg e]
  · by_cases e : t = x.txn
    · simp only [if_pos e]
      exact h2.congr fun k => by rw [wro_same o3, e, hb0]; rfl
    · rw [hbs, if_neg e] at ht
      simp only [if_neg e]
      have h6 := O.ri t ht
      exact ((O.item t ht).keep (kp _ (by omega) (by omega) (by omega))).congr fun k => by rw [wro_same o3]
  · have hm6 : ∀ t, begunM p t = true → iw t ≠ m' := fun t ht => hne _ (by rw [O.ri t ht]; omega)
    by_cases e1 : t = x.txn
    · by_cases e2 : u = x.txn
      · rw [e1, e2]
      · rw [hbs, if_neg e2] at hu
        simp only [if_pos e1, if_neg e2] at e
        exact absurd e.symm (hm6 u hu)
    · by_cases e2 : u = x.txn
      · rw [hbs, if_neg e1] at ht
        simp only [if_neg e1, if_pos e2] at e
        exact absurd e (hm6 t ht)
      · rw [hbs, if_neg e1] at ht
        rw [hbs, if_neg e2] at hu
        simp only [if_neg e1, if_neg e2] at e
        exact O.inj t u ht hu e
/-- A write. -/
theorem OfAt.write (O : OfAt H0 H rl g c b v w m iw sl A n cp p) (hbg : begunM p x.txn = true) (o : x.op = 3)
    (hfr : ∀ q, rl q < 8 → q ≠ iw x.txn → q ≠ w → H' q = H q) (hx : Ext H0 H') (hlive : ∀ q, H q ≠ none → H' q ≠ none) (h1 : MapF H' (iw x.txn) (fun k => if k = x.item then some (.bool true) else boolAt (wroteM p x.txn k)))
    (h2 : MapF2 H' w (fun t i => if t = x.txn ∧ i = x.item then some (natV p.length) else (lastW p t i).map natV)) : OfAt H0 H' rl g c b v w m iw sl A n cp (p ++ [x]) := by
  have o4 : x.op ≠ 4 := by rw [o]; decide
  have o1 : x.op ≠ 1 := by rw [o]; decide
  have kp : ∀ q, rl q < 8 → rl q ≠ 6 → rl q ≠ 4 → H' q = H q := fun q h h2 h5 => hfr q h (fun e => h2 (by rw [e, O.ri _ hbg])) fun e => h5 (by rw [e, O.rw'])
  have hWs : ∀ t k, isW t k x = decide (t = x.txn ∧ k = x.item) := fun t k => by
    by_cases h : t = x.txn ∧ k = x.item
    · rw [isW_iff.2 ⟨o, h.1.symm, h.2.symm⟩, decide_eq_true h]
    · rw [decide_eq_false h]
      cases hh : isW t k x with
      | false => rfl
      | true => have := isW_iff.1 hh; exact absurd ⟨this.2.1.symm, this.2.2.symm⟩ h
  obtain ⟨ty, hc⟩ := O.cell
  refine ⟨hx, O.own.set hlive, ⟨ty, (kp g (by rw [O.rg]; omega) (by rw [O.rg]; omega) (by rw [O.rg]; omega)).trans hc⟩, O.rg, O.rc, O.rb, O.rv, O.rw', O.rm, fun t ht => O.ri t (by rwa [bgn_same o1] at ht), ?_, ?_, ?_, ?_, ?_, fun t ht => ?_, fun t u ht hu e => O.inj t u (by rwa [bgn_same o1] at ht) (by rwa [bgn_same o1] at hu) e⟩
  · exact (O.commits.keep (kp c (by rw [O.rc]; omega) (by rw [O.rc]; omega) (by rw [O.rc]; omega))).congr fun t => by rw [com_same o4]
  · exact (O.begins.keep (kp b (by rw [O.rb]; omega) (by rw [O.rb]; omega) (by rw [O.rb]; omega))).congr fun t => by rw [beg_same o1]
  · exact (O.fam.keep (kp v (by rw [O.rv]; omega) (by rw [O.rv]; omega) (by rw [O.rv]; omega)) (fun q hq => kp q (by omega) (by omega) (by omega)) fun q _ => rfl).congr fun k => (vers_same o4 k).symm
  · exact h2.congr fun t i => by
      unfold lastW
      rw [lastI_snoc, hWs]
      by_cases h : t = x.txn ∧ i = x.item
      · rw [if_pos h, if_pos (decide_eq_true h)]; rfl
      · rw [if_neg h, if_neg (by simpa using h)]
  · exact (O.items.keep (kp m (by rw [O.rm]; omega) (by rw [O.rm]; omega) (by rw [O.rm]; omega))).congr fun t => by rw [bgn_same o1]
  · rw [bgn_same o1] at ht
    by_cases e : t = x.txn
    · subst e
      exact h1.congr fun k => by
        rw [wrote_snoc, hWs]
        by_cases h : k = x.item
        · rw [if_pos h, h]; simp [boolAt]
        · rw [if_neg h]; simp [h]
    · have h6 := O.ri t ht
      have hne : iw t ≠ iw x.txn := fun h => e (O.inj t _ ht hbg h)
      exact ((O.item t ht).keep (hfr _ (by omega) hne (ne_rl h6 O.rw' (by decide)))).congr fun k => by
        rw [wrote_snoc, hWs, decide_eq_false (fun h => e h.1), Bool.or_false]
/-- What says nothing in the book. -/
theorem OfAt.skip (O : OfAt H0 H rl g c b v w m iw sl A n cp p) (o1 : x.op ≠ 1) (o3 : x.op ≠ 3) (o4 : x.op ≠ 4) : OfAt H0 H rl g c b v w m iw sl A n cp (p ++ [x]) :=
  ⟨O.ext, O.own, O.cell, O.rg, O.rc, O.rb, O.rv, O.rw', O.rm, fun t ht => O.ri t (by rwa [bgn_same o1] at ht), O.commits.congr fun t => by rw [com_same o4], O.begins.congr fun t => by rw [beg_same o1], O.fam.congr fun k => (vers_same o4 k).symm, O.lastw.congr fun t i => by rw [las_same o3], O.items.congr fun t => by rw [bgn_same o1], fun t ht => (O.item t (by rwa [bgn_same o1] at ht)).congr fun k => by rw [wro_same o3], fun t u ht hu e => O.inj t u (by rwa [bgn_same o1] at ht) (by rwa [bgn_same o1] at hu) e⟩
end
end Go.Proofs.Ytibhpoikhkokiaa.Hw
