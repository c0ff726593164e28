/- Heaps that grow, slices in them, and what the memory operations of the evaluator come to. -/
import Derived.Test.YtkbancdmhcnhjaaHwCode
set_option linter.unusedVariables false
set_option linter.unusedSimpArgs false
namespace Go.Proofs.Ytkbancdmhcnhjaa.Hw
open Go

/-- Whatever the one heap has, the other has too. -/
def Ext (H H' : Hp) : Prop := ∀ b o, H b = some o → H' b = some o
theorem Ext.refl (H : Hp) : Ext H H := fun _ _ h => h
theorem Ext.trans {H1 H2 H3 : Hp} (h : Ext H1 H2) (h' : Ext H2 H3) : Ext H1 H3 := fun b o hb => h' b o (h b o hb)
theorem upd_at {α : Type} {t : Nat} {a : α} {e : Nat → Option α} : upd t a e t = some a := by simp [upd]
theorem upd_off {α : Type} {t x : Nat} {a : α} {e : Nat → Option α} (h : x ≠ t) : upd t a e x = e x := by
  unfold upd
  cases hb : Nat.beq x t with
  | true => exact absurd (Nat.eq_of_beq_eq_true hb) h
  | false => rfl
theorem Ext.new {H : Hp} {b : Nat} {o : Obj} (h : H b = none) : Ext H (upd b o H) := fun x p hx => by
  rw [upd_off (fun e => by rw [e, h] at hx; cases hx)]; exact hx
theorem Ext.upd {H0 H : Hp} {b : Nat} {o : Obj} (h : Ext H0 H) (hb : H0 b = none) : Ext H0 (upd b o H) := fun x p hx => by
  rw [upd_off (fun e => by rw [e, hb] at hx; cases hx)]; exact h x p hx
theorem Ext.none {H H' : Hp} (h : Ext H H') {b : Nat} (hb : H' b = none) : H b = none := by
  cases hx : H b with
  | none => rfl
  | some o => rw [h b o hx] at hb; cases hb

theorem cl_ext {H H' : Hp} (h : Ext H H') {b o : Nat} {v : Value} (hc : cl H b o = some v) : cl H' b o = some v := by
  unfold cl at hc ⊢
  cases hb : H b with
  | none => rw [hb] at hc; cases hc
  | some p => rw [hb] at hc; rw [h b p hb]; exact hc
theorem cellsAt_ext {H H' : Hp} (h : Ext H H') {A : Option Addr} {l : List Value} (hc : cellsAt H A l) : cellsAt H' A l := by
  rcases hc with hc | ⟨b, o, hA, hc⟩
  · exact .inl hc
  · exact .inr ⟨b, o, hA, fun j v hj => cl_ext h (hc j v hj)⟩
theorem cl_cells {H : Hp} {b : Nat} {cs : List Value} {ty : Nat} {z : Nat × Nat} (h : H b = some (.cells cs.toArray ty z)) (o : Nat) : cl H b o = cs[o]? := by
  unfold cl; rw [h]; simp
theorem cl_off {H : Hp} {b b' : Nat} {p : Obj} {o : Nat} (h : b' ≠ b) : cl (upd b p H) b' o = cl H b' o := by
  unfold cl; rw [upd_off h]
/-- A slice's element: where it lies. -/
theorem at_cells {H : Hp} {A : Option Addr} {vs : List Value} (h : cellsAt H A vs) (hn : vs ≠ []) {K : Nat → Nat → Prop}
    (hk : ∀ b o, A = some ⟨b, o, none⟩ → (∀ j v, vs[j]? = some v → cl H b (o + j) = some v) → K b o) : onPtr A K := by
  rcases h with h | ⟨b, o, rfl, h⟩
  · exact absurd h hn
  · exact hk b o rfl h
theorem cellsAt_drop {H : Hp} {A : Option Addr} {b o : Nat} {vs : List Value} {k : Nat} (hA : A = some ⟨b, o, none⟩) (h : ∀ j v, vs[j]? = some v → cl H b (o + j) = some v) : cellsAt H (some ⟨b, o + k, none⟩) (vs.drop k) :=
  .inr ⟨b, o + k, rfl, fun j v hj => by
    rw [List.getElem?_drop] at hj
    rw [Nat.add_assoc]; exact h _ v hj⟩
theorem cellsAt_take {H : Hp} {A : Option Addr} {vs : List Value} {k : Nat} (h : cellsAt H A vs) : cellsAt H A (vs.take k) := by
  rcases h with h | ⟨b, o, rfl, h⟩
  · subst h; exact .inl (by simp)
  · exact .inr ⟨b, o, rfl, fun j v hj => by
      rw [List.getElem?_take] at hj
      split at hj
      · exact h j v hj
      · cases hj⟩

theorem wrap_id {x : Int} (h1 : -9223372036854775808 ≤ x) (h2 : x < 9223372036854775808) : IntKind.i64.wrap x = x := by
  unfold IntKind.wrap
  simp [IntKind.bits, IntKind.signed]
  omega

/-- A loop that counts up. -/
theorem loop_up {σ : Type} {s0 : σ} {H : Hp} {body : σ → Hp → (σ → Hp → Prop) → Prop} (n : Nat) (I : Nat → σ → Hp → Prop) (h0 : I 0 s0 H)
    (hs : ∀ i s H', i ≤ n → I i s H' → body s H' fun s' H2 => i < n ∧ I (i + 1) s' H2) (hm : ∀ s H' (K K' : σ → Hp → Prop), (∀ s' H2, K s' H2 → K' s' H2) → body s H' K → body s H' K') : LoopF s0 H body :=
  ⟨fun m s H' => ∃ i, i + m = n ∧ I i s H', ⟨n, 0, by omega, h0⟩, fun m s H' ⟨i, hi, hI⟩ => hm _ _ _ _ (fun s' H2 ⟨hlt, h2⟩ => ⟨n - (i + 1), by omega, i + 1, by omega, h2⟩) (hs i s H' (by omega) hI)⟩
/-- The same, with the loop's step handed on as it is. -/
theorem loop_to {σ : Type} {s0 : σ} {H : Hp} {body : σ → Hp → (σ → Hp → Prop) → Prop} (n : Nat) (I : Nat → σ → Hp → Prop) (h0 : I 0 s0 H)
    (hs : ∀ i s H' (next : σ → Hp → Prop), i ≤ n → I i s H' → (∀ s' H2, i < n → I (i + 1) s' H2 → next s' H2) → body s H' next) : LoopF s0 H body :=
  ⟨fun m s H' => ∃ i, i + m = n ∧ I i s H', ⟨n, 0, by omega, h0⟩, fun m s H' ⟨i, hi, hI⟩ => hs i s H' _ (by omega) hI (fun s' H2 hlt h2 => ⟨n - (i + 1), by omega, i + 1, by omega, h2⟩)⟩

theorem cndT {b : Bool} {A B : Prop} (h : b = true) (hA : A) : cnd b A B := by subst h; exact hA
theorem cndF {b : Bool} {A B : Prop} (h : b = false) (hB : B) : cnd b A B := by subst h; exact hB
theorem cndI {b : Bool} {A B : Prop} (hA : b = true → A) (hB : b = false → B) : cnd b A B := by
  cases b
  · exact hB rfl
  · exact hA rfl
theorem onPtrI {b o : Nat} {K : Nat → Nat → Prop} (h : K b o) : onPtr (some ⟨b, o, none⟩) K := h
/-- A loop over the indices of a slice. -/
theorem scan {n : Nat} {H : Hp} {body : ((Int × Unit) × Unit) → Hp → (((Int × Unit) × Unit) → Hp → Prop) → Prop} (hn : n < 4611686018427387904) (I : Nat → Hp → Prop) (h0 : I 0 H)
    (hs : ∀ (i : Nat) H' next, i < n → I i H' → (∀ H2, I (i + 1) H2 → next ((IntKind.i64.wrap ((i : Int) + 1), ()), ()) H2) → body (((i : Int), ()), ()) H' next)
    (he : ∀ H' next, I n H' → body (((n : Int), ()), ()) H' next) : LoopF (((0 : Int), ()), ()) H body := by
  refine loop_to n (fun i s H' => s = (((i : Int), ()), ()) ∧ I i H') ⟨rfl, h0⟩ ?_
  rintro i s H' next hi ⟨rfl, hI⟩ hnext
  by_cases h : i < n
  · refine hs i H' next h hI fun H2 h2 => hnext _ _ h ⟨?_, h2⟩
    rw [wrap_id (by omega) (by omega)]
    rfl
  · obtain rfl : i = n := by omega
    exact he H' next hI

/-! ### rows: blocks of their own behind slices -/
/-- A slice whose block is its own (no other slice of 'H0' has it), of which the first cells are known. -/
def Row (H0 H : Hp) (A : Option Addr) (n c esz : Nat) (vals : List Value) : Prop :=
  vals.length = n * esz ∧ n ≤ c ∧ ((A = none ∧ c = 0) ∨ ∃ (b : Nat) (cs : List Value) (ty : Nat), A = some ⟨b, 0, none⟩ ∧ H b = some (.cells cs.toArray ty (0, 0)) ∧ c * esz ≤ cs.length ∧ cs.take (n * esz) = vals ∧ H0 b = none)
/-- The block of a row, if it has one. -/
def rowB (A : Option Addr) (b : Nat) : Prop := ∃ o q, A = some ⟨b, o, q⟩
theorem Row.cells {H0 H : Hp} {A : Option Addr} {n c esz : Nat} {vals : List Value} (h : Row H0 H A n c esz vals) : cellsAt H A vals := by
  obtain ⟨h1, h2, h3 | ⟨b, cs, ty, rfl, hb, hl, ht, _⟩⟩ := h
  · left
    have : n = 0 := by omega
    subst this
    simpa using h1
  · right
    refine ⟨b, 0, rfl, fun j v hj => ?_⟩
    rw [cl_cells hb, Nat.zero_add]
    rw [← ht, List.getElem?_take] at hj
    split at hj
    · exact hj
    · cases hj
/-- A row stays where its block stays. -/
theorem Row.keep {H0 H H' : Hp} {A : Option Addr} {n c esz : Nat} {vals : List Value} (h : Row H0 H A n c esz vals) (hk : ∀ b, rowB A b → H' b = H b) : Row H0 H' A n c esz vals := by
  obtain ⟨h1, h2, h3 | ⟨b, cs, ty, rfl, hb, hl, ht, hz⟩⟩ := h
  · exact ⟨h1, h2, .inl h3⟩
  · exact ⟨h1, h2, .inr ⟨b, cs, ty, rfl, (hk b ⟨_, _, rfl⟩).trans hb, hl, ht, hz⟩⟩
theorem Row.lt {H0 H : Hp} {A : Option Addr} {n c esz : Nat} {vals : List Value} (h : Row H0 H A n c esz vals) {b : Nat} (hb : rowB A b) : H b ≠ none ∧ H0 b = none := by
  obtain ⟨h1, h2, h3 | ⟨b', cs, ty, rfl, hb', hl, ht, hz⟩⟩ := h
  · obtain ⟨o, q, hA⟩ := hb; rw [h3.1] at hA; cases hA
  · obtain ⟨o, q, hA⟩ := hb
    cases hA
    exact ⟨by rw [hb']; simp, hz⟩
theorem Row.base {H0 H1 H : Hp} {A : Option Addr} {n c esz : Nat} {vals : List Value} (h : Row H1 H A n c esz vals) (hx : Ext H0 H1) : Row H0 H A n c esz vals := by
  obtain ⟨h1, h2, h3 | ⟨b, cs, ty, rfl, hb, hl, ht, hz⟩⟩ := h
  · exact ⟨h1, h2, .inl h3⟩
  · exact ⟨h1, h2, .inr ⟨b, cs, ty, rfl, hb, hl, ht, hx.none hz⟩⟩
theorem Row.nil {H0 H : Hp} {esz : Nat} : Row H0 H none 0 0 esz [] := ⟨by simp, Nat.le_refl _, .inl ⟨rfl, rfl⟩⟩

theorem setR_take {cs vs : List Value} {o : Nat} (h : o + vs.length ≤ cs.length) : (setR cs o vs).take (o + vs.length) = cs.take o ++ vs := by
  unfold setR
  rw [List.take_append_of_le_length (by rw [List.length_append, List.length_take]; omega), List.take_of_length_le (by rw [List.length_append, List.length_take]; omega)]
theorem setR_length {cs vs : List Value} {o : Nat} (h : o + vs.length ≤ cs.length) : (setR cs o vs).length = cs.length := by
  unfold setR
  rw [List.length_append, List.length_append, List.length_take, List.length_drop]; omega

/-- Appending to a row: it stays a row, and no block but its own, or a new one, is touched. -/
theorem Row.append {H0 H : Hp} {A B : Option Addr} {n c m el esz eby : Nat} {vals new : List Value} {K : Option Addr → Nat → Nat → Hp → Prop} (R : Row H0 H A n c esz vals) (hx : Ext H0 H)
    (hnew : cellsAt H B new) (hl : new.length = m * esz) (ho : ∀ v ∈ new, v.oneCell' = true) (hz1 : (n + m) * eby ≤ 140737488355328) (hz2 : n + m ≤ 140737488355328)
    (hk : ∀ A' c' H', Row H0 H' A' (n + m) c' esz (vals ++ new) → Ext H0 H' → (∀ b, H' b ≠ H b → rowB A' b ∧ (rowB A b ∨ H b = none)) → (∀ b, rowB A' b → rowB A b ∨ H b = none) → (n + m ≤ c → A' = A ∧ c' = c) → K A' (n + m) c' H') :
    appendF H el esz eby A n c B m K := by
  have hR := R
  obtain ⟨h1, h2, h3⟩ := R
  have hmul : (n + m) * esz = n * esz + m * esz := Nat.add_mul _ _ _
  have hmn : c < n + m → c * esz ≤ (n + m) * esz := fun h => Nat.mul_le_mul_right _ (by omega)
  refine ⟨hz1, hz2, new, hl, hnew, ho, fun hc => ⟨fun hm => ?_, fun hm => ?_⟩, fun hc => ⟨vals, h1, hR.cells, fun b cap rest hb hcap hcl hrl => ?_⟩⟩
  · subst hm
    have : new = [] := List.length_eq_zero_iff.1 (by simpa using hl)
    subst this
    exact hk A c H (by simpa using hR) hx (fun b hb => absurd rfl hb) (fun b hb => .inl hb) (fun _ => ⟨rfl, rfl⟩)
  · rcases h3 with h3 | ⟨b, cs, ty, rfl, hb, hcl, ht, hz⟩
    · omega
    · have hle : (n + m) * esz ≤ cs.length := Nat.le_trans (Nat.mul_le_mul_right _ hc) hcl
      refine ⟨b, 0, cs, ty, rfl, hb, by omega, ?_⟩
      rw [Nat.zero_add]
      refine hk _ c _ ⟨?_, hc, .inr ⟨b, setR cs (n * esz) new, ty, rfl, upd_at, ?_, ?_, hz⟩⟩ (hx.upd hz) ?_ (fun b' hb' => .inl hb') (fun _ => ⟨rfl, rfl⟩)
      · rw [List.length_append, h1, hl, hmul]
      · rw [setR_length (by omega)]; exact hcl
      · rw [hmul, ← hl, setR_take (by omega), ht]
      · intro b' hb'
        by_cases hbb : b' = b
        · subst hbb; exact ⟨⟨_, _, rfl⟩, .inl ⟨_, _, rfl⟩⟩
        · exact absurd (upd_off hbb) hb'
  · refine hk _ cap _ ⟨?_, hcap, .inr ⟨b, vals ++ new ++ rest, el, rfl, upd_at, ?_, ?_, hx.none hb⟩⟩ (hx.upd (hx.none hb)) ?_ ?_ (fun h => by omega)
    · rw [List.length_append, h1, hl, hmul]
    · have h4 : cap * esz = (n + m) * esz + (cap - (n + m)) * esz := by rw [← Nat.add_mul]; congr 1; omega
      rw [List.length_append, List.length_append, h1, hl, hrl, h4, hmul]; exact Nat.le_refl _
    · rw [List.take_append_of_le_length (by rw [List.length_append, h1, hl, hmul]; exact Nat.le_refl _), List.take_of_length_le (by rw [List.length_append, h1, hl, hmul]; exact Nat.le_refl _)]
    · intro b' hb'
      by_cases hbb : b' = b
      · subst hbb; exact ⟨⟨_, _, rfl⟩, .inr hb⟩
      · exact absurd (upd_off hbb) hb'
    · rintro b' ⟨o, q, h⟩
      cases h
      exact .inr hb

theorem storeF_mono {H : Hp} {b o : Nat} {vs : List Value} {K K' : Hp → Prop} (hk : ∀ H', K H' → K' H') (h : storeF H b o vs K) : storeF H b o vs K' := by
  obtain ⟨cs, ty, h1, h2, h3⟩ := h
  exact ⟨cs, ty, h1, h2, hk _ h3⟩
theorem newF_mono {H : Hp} {ty : Nat} {cs : List Value} {K K' : Nat → Hp → Prop} (hk : ∀ b H', K b H' → K' b H') (h : newF H ty cs K) : newF H ty cs K' := fun b hb => hk _ _ (h b hb)
theorem appendF_mono {H : Hp} {el esz eby n c m : Nat} {A B : Option Addr} {K K' : Option Addr → Nat → Nat → Hp → Prop} (hk : ∀ A n c H', K A n c H' → K' A n c H') (h : appendF H el esz eby A n c B m K) : appendF H el esz eby A n c B m K' := by
  obtain ⟨h1, h2, new, h3, h4, h5, h6, h7⟩ := h
  refine ⟨h1, h2, new, h3, h4, h5, fun hc => ⟨fun hm => hk _ _ _ _ ((h6 hc).1 hm), fun hm => ?_⟩, fun hc => ?_⟩
  · obtain ⟨b, o, cs, ty, g1, g2, g3, g4⟩ := (h6 hc).2 hm
    exact ⟨b, o, cs, ty, g1, g2, g3, hk _ _ _ _ g4⟩
  · obtain ⟨old, g1, g2, g3⟩ := h7 hc
    exact ⟨old, g1, g2, fun b cap rest k1 k2 k3 k4 => hk _ _ _ _ (g3 b cap rest k1 k2 k3 k4)⟩

/-! ### slices that are read -/
def ints (l : List Int) : List Value := l.map (fun x => .int .i64 x)
theorem ints_get {l : List Int} {j : Nat} : (ints l)[j]? = (l[j]?).map (fun x => .int .i64 x) := by simp [ints]
theorem ints_one {l : List Int} : ∀ v ∈ ints l, v.oneCell' = true := by
  intro v hv
  obtain ⟨x, _, rfl⟩ := List.mem_map.1 hv
  rfl
theorem flat_get {α : Type} {f : α → List Value} {k : Nat} : ∀ {l : List α} {i j : Nat} {x : α}, (∀ x ∈ l, (f x).length = k) → l[i]? = some x → j < k → (l.flatMap f)[i * k + j]? = (f x)[j]?
  | [], i, j, x, _, h, _ => by simp at h
  | y :: r, 0, j, x, hl, h, hj => by
    simp at h
    subst h
    rw [List.flatMap_cons, Nat.zero_mul, Nat.zero_add, List.getElem?_append_left (by rw [hl y List.mem_cons_self]; exact hj)]
  | y :: r, i + 1, j, x, hl, h, hj => by
    rw [List.flatMap_cons, show (i + 1) * k + j = (f y).length + (i * k + j) by rw [hl y List.mem_cons_self, Nat.add_mul]; omega, List.getElem?_append_right (by omega), Nat.add_sub_cancel_left]
    exact flat_get (fun z hz => hl z (List.mem_cons_of_mem _ hz)) (by simpa using h) hj
theorem flat_length {α : Type} {f : α → List Value} {k : Nat} : ∀ {l : List α}, (∀ x ∈ l, (f x).length = k) → (l.flatMap f).length = l.length * k
  | [], _ => by simp
  | y :: r, hl => by
    rw [List.flatMap_cons, List.length_append, flat_length (fun z hz => hl z (List.mem_cons_of_mem _ hz)), hl y List.mem_cons_self, List.length_cons, Nat.add_mul]; omega
theorem flat_ne {α : Type} {f : α → List Value} {k : Nat} {l : List α} (hl : ∀ x ∈ l, (f x).length = k) (hk : 0 < k) (h : l ≠ []) : l.flatMap f ≠ [] := fun e => by
  have := flat_length hl
  rw [e] at this
  cases l with
  | nil => exact h rfl
  | cons y r => simp only [List.length_nil, List.length_cons, Nat.add_mul] at this; omega
/-- Integers in a slice. -/
theorem rd_ints {H : Hp} {A : Option Addr} {l : List Int} {i : Nat} {x : Int} (h : cellsAt H A (ints l)) (hi : l[i]? = some x) {K : Nat → Nat → Prop}
    (hk : ∀ b o, A = some ⟨b, o, none⟩ → cl H b (o + i) = some (.int .i64 x) → K b o) : onPtr A K :=
  at_cells h (fun e => by
    have : l = [] := List.map_eq_nil_iff.1 e
    subst this; simp at hi) fun b o hA hc => hk b o hA (hc i _ (by rw [ints_get, hi]; rfl))
end Go.Proofs.Ytkbancdmhcnhjaa.Hw
