/- Ca Cb Cc Cd Ce Cf Cg Ch Ci Cj Ck (joined by merge.py) -/
import Derived.Test.YtmelbipidffmpaaGreatDoorTm5
import Derived.Test.YtmelbipidffmpaaGreatDoorTm6
/- Rows that lie anywhere in a block of their own: append, insert, delete, clone. -/
set_option linter.unusedVariables false
set_option linter.unusedSimpArgs false
set_option linter.unusedSectionVars false
set_option maxRecDepth 20000
namespace Go.Proofs.YtmelbipidffmpaaGreatDoor.Hw
open Go Go.Proofs
theorem setR_get {l vs : List Value} {o j : Nat} (h : o ≤ l.length) : (setR l o vs)[j]? = if j < o then l[j]? else if j < o + vs.length then vs[j - o]? else l[j]? := by
  unfold setR
  rw [List.append_assoc]
  by_cases h1 : j < o
  · rw [if_pos h1, List.getElem?_append_left (by rw [List.length_take]; omega), List.getElem?_take_of_lt h1]
  · rw [if_neg h1, List.getElem?_append_right (by rw [List.length_take]; omega), List.length_take, show min o l.length = o by omega]
    by_cases h2 : j < o + vs.length
    · rw [if_pos h2, List.getElem?_append_left (by omega)]
    · rw [if_neg h2, List.getElem?_append_right (by omega), List.getElem?_drop]
      congr 1; omega
theorem setR_len {l vs : List Value} {o : Nat} (h : o ≤ l.length) : (setR l o vs).length = max l.length (o + vs.length) := by
  unfold setR
  simp
  omega
structure RowO (H : Hp) (A : Option Addr) (n c k : Nat) (vals : List Value) : Prop where
  len : vals.length = n * k
  le : n ≤ c
  at' : (A = none ∧ c = 0) ∨ ∃ (b o : Nat) (cs : List Value) (ty : Nat), A = some ⟨b, o, none⟩ ∧ H b = some (.cells cs.toArray ty (0, 0)) ∧ o + c * k ≤ cs.length ∧ ∀ (j : Nat) (v : Value), vals[j]? = some v → cs[o + j]? = some v
/-- What an operation on a row touches. -/
structure FrO (H H' : Hp) (A A' : Option Addr) : Prop where
  ch : ∀ q, H' q ≠ H q → rowB A q ∨ H q = none
  nw : ∀ q, rowB A' q → rowB A q ∨ H q = none
  al : ∀ q, H q ≠ none → H' q ≠ none
theorem FrO.refl {H : Hp} {A : Option Addr} : FrO H H A A := ⟨fun q h => absurd rfl h, fun q h => .inl h, fun q h => h⟩
theorem FrO.ext {X H H' : Hp} {A A' : Option Addr} (F : FrO H H' A A') (hx : Ext X H) (hA : ∀ q, rowB A q → X q = none) : Ext X H' := fun q o hq => by
  have h1 := hx q o hq
  by_cases e : H' q = H q
  · rw [e]; exact h1
  · rcases F.ch q e with h | h
    · rw [hA q h] at hq; cases hq
    · rw [h] at h1; cases h1
theorem FrO.trans {H H1 H2 : Hp} {A A1 A2 : Option Addr} (F : FrO H H1 A A1) (G : FrO H1 H2 A1 A2) : FrO H H2 A A2 := ⟨fun q hq => by
  by_cases e : H1 q = H q
  · by_cases e2 : H2 q = H1 q
    · exact absurd (e2.trans e) hq
    · rcases G.ch q e2 with h | h
      · exact F.nw q h
      · exact .inr (by rw [← e]; exact h)
  · exact F.ch q e, fun q hq => by
  rcases G.nw q hq with h | h
  · exact F.nw q h
  · by_cases e : H1 q = H q
    · exact .inr (by rw [← e]; exact h)
    · rcases F.ch q e with h' | h'
      · exact .inl h'
      · exact .inr h', fun q hq => G.al q (F.al q hq)⟩
section
variable {H H' : Hp} {A B : Option Addr} {n c k m : Nat} {vals new : List Value}
theorem RowO.cells (R : RowO H A n c k vals) : cellsAt H A vals := by
  rcases R.at' with ⟨_, h⟩ | ⟨b, o, cs, ty, hA, hb, _, hv⟩
  · left
    have := R.len
    have := R.le
    have h0 : n = 0 := by omega
    rw [h0] at this
    exact List.eq_nil_of_length_eq_zero (by have := R.len; rw [h0] at this; simpa using this)
  · exact .inr ⟨b, o, hA, fun j v hj => by rw [cl_cells hb]; exact hv j v hj⟩
theorem RowO.nil : RowO H none 0 0 k [] := ⟨by simp, Nat.le_refl _, .inl ⟨rfl, rfl⟩⟩
theorem RowO.keep (R : RowO H A n c k vals) (hk : ∀ q, rowB A q → H q ≠ none → H' q = H q) : RowO H' A n c k vals := by
  refine ⟨R.len, R.le, ?_⟩
  rcases R.at' with h | ⟨b, o, cs, ty, hA, hb, h1, h2⟩
  · exact .inl h
  · exact .inr ⟨b, o, cs, ty, hA, (hk b ⟨o, none, hA⟩ (by rw [hb]; simp)).trans hb, h1, h2⟩
theorem RowO.live (R : RowO H A n c k vals) {q : Nat} (hq : rowB A q) : H q ≠ none := by
  rcases R.at' with ⟨h, _⟩ | ⟨b, o, cs, ty, hA, hb, _, _⟩
  · obtain ⟨_, _, e⟩ := hq; rw [h] at e; cases e
  · obtain ⟨_, _, e⟩ := hq; rw [hA] at e; cases e; rw [hb]; simp
theorem RowO.ext (R : RowO H A n c k vals) (hx : Ext H H') : RowO H' A n c k vals := R.keep fun q _ hn => ext_at hx hn
theorem RowO.take (R : RowO H A n c k vals) {p : Nat} (hp : p ≤ n) : RowO H A p c k (vals.take (p * k)) := by
  have h1 : p * k ≤ n * k := Nat.mul_le_mul_right _ hp
  refine ⟨by rw [List.length_take, R.len]; omega, by have := R.le; omega, ?_⟩
  rcases R.at' with h | ⟨b, o, cs, ty, hA, hb, h2, h3⟩
  · exact .inl h
  · refine .inr ⟨b, o, cs, ty, hA, hb, h2, fun j v hj => h3 j v ?_⟩
    rw [List.getElem?_take] at hj
    split at hj
    · exact hj
    · cases hj
theorem add_mk' {b o k : Nat} : (⟨b, o, none⟩ : Addr).add k = ⟨b, o + k, none⟩ := by
  unfold Addr.add
  by_cases hk : k = 0
  · subst hk; rfl
  · simp [hk]
theorem RowO.drop (R : RowO H A n c k vals) {p : Nat} (hp : p ≤ n) (hc : p < c) : RowO H (cutA A (p * k) (decide (c = p))) (n - p) (c - p) k (vals.drop (p * k)) := by
  rw [decide_eq_false (by omega)]
  refine ⟨by rw [List.length_drop, R.len, Nat.sub_mul], by have := R.le; omega, ?_⟩
  rcases R.at' with ⟨_, h⟩ | ⟨b, o, cs, ty, hA, hb, h2, h3⟩
  · omega
  · refine .inr ⟨b, o + p * k, cs, ty, ?_, hb, ?_, fun j v hj => ?_⟩
    · rw [hA]; unfold cutA; rw [Option.map_some, add_mk']
    · have : p * k + (c - p) * k = c * k := by rw [← Nat.add_mul]; congr 1; omega
      omega
    · rw [List.getElem?_drop] at hj
      have := h3 _ v hj
      rw [← this]; congr 1; omega
theorem rowB_cut {p : Nat} {s : Bool} {q : Nat} : rowB (cutA A p s) q ↔ rowB A q := by
  unfold cutA
  cases s with
  | true => exact Iff.rfl
  | false =>
    unfold rowB
    cases A with
    | none => simp
    | some a =>
      simp only [Option.map_some, Option.some.injEq]
      constructor
      · rintro ⟨o, z, h⟩
        have hb : a.block = q := by have := congrArg Addr.block h; unfold Addr.add at this; split at this <;> simpa using this
        exact ⟨a.off, a.spot, by rw [← hb]⟩
      · rintro ⟨o, z, rfl⟩
        unfold Addr.add
        split <;> exact ⟨_, _, rfl⟩
/-- Values are written into a row. -/
theorem RowO.store (R : RowO H A n c k vals) {p n' : Nat} {K : Hp → Prop} (hl : new.length = m * k) (h0 : p ≤ n) (hpm : p + m ≤ c) (hm : 0 < m) (hn' : n' = max n (p + m))
    (hk : ∀ H', RowO H' A n' c k (setR vals (p * k) new) → FrO H H' A A → K H') : onPtr A fun b o => storeF H b (o + p * k) new K := by
  rcases R.at' with ⟨_, h⟩ | ⟨b, o, cs, ty, hA, hb, h2, h3⟩
  · omega
  subst hA
  have hle : (p + m) * k ≤ c * k := Nat.mul_le_mul_right _ hpm
  rw [Nat.add_mul] at hle
  have hp : p * k ≤ n * k := Nat.mul_le_mul_right _ h0
  have hfit : o + p * k + new.length ≤ cs.length := by omega
  refine onPtrI ⟨cs, ty, hb, hfit, hk _ ⟨?_, by have := R.le; omega, .inr ⟨b, o, _, ty, rfl, upd_at, by rw [setR_length hfit]; exact h2, fun j v hj => ?_⟩⟩ ⟨fun q hq => .inl ?_, fun q hq => .inl hq, fun q hq => ?_⟩⟩
  · rw [setR_len (by rw [R.len]; exact hp), R.len, hl, ← Nat.add_mul, hn']
    rcases Nat.le_total n (p + m) with h | h
    · have := Nat.mul_le_mul_right k h
      rw [Nat.max_eq_right this, Nat.max_eq_right h]
    · have := Nat.mul_le_mul_right k h
      rw [Nat.max_eq_left this, Nat.max_eq_left h]
  · rw [setR_get (by rw [R.len]; exact hp)] at hj
    rw [setR_get (by omega)]
    by_cases e1 : j < p * k
    · rw [if_pos e1] at hj; rw [if_pos (by omega)]; exact h3 j v hj
    · rw [if_neg e1] at hj; rw [if_neg (by omega)]
      by_cases e2 : j < p * k + new.length
      · rw [if_pos e2] at hj; rw [if_pos (by omega)]; rw [← hj]; congr 1; omega
      · rw [if_neg e2] at hj; rw [if_neg (by omega)]; exact h3 j v hj
  · by_cases e : q = b
    · subst e; exact ⟨_, _, rfl⟩
    · exact absurd (upd_off e) hq
  · by_cases e : q = b
    · subst e; rw [upd_at]; simp
    · rw [upd_off e]; exact hq
theorem RowO.append {el eby : Nat} {K : Option Addr → Nat → Nat → Hp → Prop} (R : RowO H A n c k vals) (hnew : cellsAt H B new) (hl : new.length = m * k) (ho : ∀ v ∈ new, v.oneCell' = true) (hs : n + m < big) (he : eby ≤ 100)
    (hk : ∀ A' c' H', RowO H' A' (n + m) c' k (vals ++ new) → FrO H H' A A' → (n + m ≤ c → A' = A ∧ c' = c) → K A' (n + m) c' H') : appendF H el k eby A n c B m K := by
  have hmul : (n + m) * eby ≤ 140737488355328 := by
    have : (n + m) * eby ≤ (n + m) * 100 := Nat.mul_le_mul_left _ he
    unfold big at hs; omega
  unfold big at hs
  refine ⟨.inl hmul, by omega, new, hl, hnew, ho, fun hc => ⟨fun h0 => ?_, fun hpos => ?_⟩, fun hc => ⟨vals, R.len, R.cells, fun b cap rest hb hcap hcl hrl => ?_⟩⟩
  · subst h0
    have : new = [] := List.eq_nil_of_length_eq_zero (by simpa using hl)
    subst this
    exact hk A c H (by simpa using R) FrO.refl fun _ => ⟨rfl, rfl⟩
  · rcases R.at' with ⟨_, h⟩ | ⟨b, o, cs, ty, hA, hb, h2, h3⟩
    · omega
    · have hst := R.store (p := n) (n' := n + m) (new := new) (K := fun H' => K A (n + m) c H') hl (Nat.le_refl _) hc hpos (by omega) fun H' R' F => hk A c H' (by
        have e : setR vals (n * k) new = vals ++ new := by
          unfold setR
          rw [← R.len, List.take_length, List.drop_of_length_le (by omega), List.append_nil]
        rw [e] at R'; exact R') F fun _ => ⟨rfl, rfl⟩
      subst hA
      obtain ⟨cs', ty', g1, g2, g3⟩ := hst
      rw [hb] at g1
      have hcl : (n + m) * k ≤ c * k := Nat.mul_le_mul_right _ hc
      have e1 : cs'.toArray = cs.toArray ∧ ty' = ty := by
        injection g1 with g1
        injection g1 with a1 a2 a3
        exact ⟨a1.symm, a2.symm⟩
      obtain ⟨e1, rfl⟩ := e1
      have e1 : cs' = cs := by have := congrArg Array.toList e1; simpa using this
      subst e1
      exact ⟨b, o, cs', ty', rfl, hb, by omega, g3⟩
  · refine hk _ cap _ ?_ ?_ fun h => absurd h (by omega)
    rotate_left
    · exact ⟨fun q hq => .inr (by
        by_cases e : q = b
        · subst e; exact hb
        · exact absurd (upd_off e) hq), fun q ⟨o, z, h⟩ => .inr (by cases h; exact hb), fun q hq => by
        by_cases e : q = b
        · subst e; exact absurd hb hq
        · rw [upd_off e]; exact hq⟩
    refine ⟨by rw [List.length_append, R.len, hl, Nat.add_mul], hcap, .inr ⟨b, 0, vals ++ new ++ rest, el, rfl, upd_at, ?_, fun j v hj => ?_⟩⟩
    · have h4 : cap * k = (n + m) * k + (cap - (n + m)) * k := by rw [← Nat.add_mul]; congr 1; omega
      have h5 : (n + m) * k = n * k + m * k := Nat.add_mul _ _ _
      rw [List.length_append, List.length_append, R.len, hl, hrl]; omega
    · rw [Nat.zero_add, List.getElem?_append_left (List.getElem?_eq_some_iff.1 hj).1]; exact hj
end
end Go.Proofs.YtmelbipidffmpaaGreatDoor.Hw

/- slices.Insert, slices.Delete, slices.Clone on rows. -/
set_option linter.unusedVariables false
set_option linter.unusedSimpArgs false
set_option linter.unusedSectionVars false
set_option maxRecDepth 20000
namespace Go.Proofs.YtmelbipidffmpaaGreatDoor.Hw
open Go Go.Proofs
def insG (ty k eby : Nat) (zs : List Value) (A : Option Addr) (n c : Nat) (i : Int) (B : Option Addr) (m : Nat) (H : Hp) (Q : Value → Hp → Prop) : Prop :=
  0 ≤ (i : Int) ∧ (i : Int) ≤ ((n : Nat) : Int) ∧ cnd ((((m : Nat) : Int) : Int) == 0) (Q (.slice A n c) H) (cnd ((i : Int) == ((n : Nat) : Int)) (appendF H ty k eby A n c B m fun A1 n1 c1 H2 => Q (.slice A1 n1 c1) H2) (cnd (decide ((IntKind.i64.wrap (((n : Nat) : Int) + ((m : Nat) : Int)) : Int) > ((c : Nat) : Int))) (0 ≤ (i : Int) ∧ (i : Int) ≤ ((c : Nat) : Int) ∧ appendZF H ty k eby zs (cutA A (0 * k) (decide (c = 0))) (((i : Int).toNat) - 0) (c - 0) (IntKind.i64.wrap ((IntKind.i64.wrap (((n : Nat) : Int) + ((m : Nat) : Int))) - i)) fun A3 n3 c3 H4 => 0 ≤ (i : Int) ∧ (i : Int) ≤ ((n3 : Nat) : Int) ∧ copyF H4 k (cutA A3 (((i : Int).toNat) * k) (decide (c3 = ((i : Int).toNat)))) (n3 - ((i : Int).toNat)) B m fun H5 => 0 ≤ (IntKind.i64.wrap (i + ((m : Nat) : Int)) : Int) ∧ (IntKind.i64.wrap (i + ((m : Nat) : Int)) : Int) ≤ ((n3 : Nat) : Int) ∧ 0 ≤ (i : Int) ∧ (i : Int) ≤ ((n : Nat) : Int) ∧ copyF H5 k (cutA A3 (((IntKind.i64.wrap (i + ((m : Nat) : Int)) : Int).toNat) * k) (decide (c3 = ((IntKind.i64.wrap (i + ((m : Nat) : Int)) : Int).toNat)))) (n3 - ((IntKind.i64.wrap (i + ((m : Nat) : Int)) : Int).toNat)) (cutA A (((i : Int).toNat) * k) (decide (c = ((i : Int).toNat)))) (n - ((i : Int).toNat)) fun H6 => Q (.slice A3 n3 c3) H6) (0 ≤ (IntKind.i64.wrap (((n : Nat) : Int) + ((m : Nat) : Int)) : Int) ∧ (IntKind.i64.wrap (((n : Nat) : Int) + ((m : Nat) : Int)) : Int) ≤ ((c : Nat) : Int) ∧ 0 ≤ (IntKind.i64.wrap (i + ((m : Nat) : Int)) : Int) ∧ (IntKind.i64.wrap (i + ((m : Nat) : Int)) : Int) ≤ ((((IntKind.i64.wrap (((n : Nat) : Int) + ((m : Nat) : Int)) : Int).toNat) - 0 : Nat) : Int) ∧ apartF H B (cutA (cutA A (0 * k) (decide (c = 0))) (((IntKind.i64.wrap (i + ((m : Nat) : Int)) : Int).toNat) * k) (decide ((c - 0) = ((IntKind.i64.wrap (i + ((m : Nat) : Int)) : Int).toNat)))) (0 ≤ (IntKind.i64.wrap (i + ((m : Nat) : Int)) : Int) ∧ (IntKind.i64.wrap (i + ((m : Nat) : Int)) : Int) ≤ ((((IntKind.i64.wrap (((n : Nat) : Int) + ((m : Nat) : Int)) : Int).toNat) - 0 : Nat) : Int) ∧ 0 ≤ (i : Int) ∧ (i : Int) ≤ ((((IntKind.i64.wrap (((n : Nat) : Int) + ((m : Nat) : Int)) : Int).toNat) - 0 : Nat) : Int) ∧ copyF H k (cutA (cutA A (0 * k) (decide (c = 0))) (((IntKind.i64.wrap (i + ((m : Nat) : Int)) : Int).toNat) * k) (decide ((c - 0) = ((IntKind.i64.wrap (i + ((m : Nat) : Int)) : Int).toNat)))) ((((IntKind.i64.wrap (((n : Nat) : Int) + ((m : Nat) : Int)) : Int).toNat) - 0) - ((IntKind.i64.wrap (i + ((m : Nat) : Int)) : Int).toNat)) (cutA (cutA A (0 * k) (decide (c = 0))) (((i : Int).toNat) * k) (decide ((c - 0) = ((i : Int).toNat)))) ((((IntKind.i64.wrap (((n : Nat) : Int) + ((m : Nat) : Int)) : Int).toNat) - 0) - ((i : Int).toNat)) fun H7 => 0 ≤ (i : Int) ∧ (i : Int) ≤ ((((IntKind.i64.wrap (((n : Nat) : Int) + ((m : Nat) : Int)) : Int).toNat) - 0 : Nat) : Int) ∧ copyF H7 k (cutA (cutA A (0 * k) (decide (c = 0))) (((i : Int).toNat) * k) (decide ((c - 0) = ((i : Int).toNat)))) ((((IntKind.i64.wrap (((n : Nat) : Int) + ((m : Nat) : Int)) : Int).toNat) - 0) - ((i : Int).toNat)) B m fun H8 => Q (.slice (cutA A (0 * k) (decide (c = 0))) (((IntKind.i64.wrap (((n : Nat) : Int) + ((m : Nat) : Int)) : Int).toNat) - 0) (c - 0)) H8))))
def delG (ty k eby : Nat) (zs : List Value) (A : Option Addr) (n c : Nat) (i j : Int) (H : Hp) (Q : Value → Hp → Prop) : Prop :=
  0 ≤ (((n : Nat) : Int) : Int) ∧ (((n : Nat) : Int) : Int) ≤ ((c : Nat) : Int) ∧ 0 ≤ (j : Int) ∧ (j : Int) ≤ (((n : Nat) : Int) : Int) ∧ 0 ≤ (i : Int) ∧ (i : Int) ≤ (j : Int) ∧ cnd ((i : Int) == j) (Q (.slice A n c) H) (0 ≤ (i : Int) ∧ (i : Int) ≤ ((c : Nat) : Int) ∧ 0 ≤ (j : Int) ∧ (j : Int) ≤ ((n : Nat) : Int) ∧ appendF H ty k eby (cutA A (0 * k) (decide (c = 0))) (((i : Int).toNat) - 0) (c - 0) (cutA A (((j : Int).toNat) * k) (decide (c = ((j : Int).toNat)))) (n - ((j : Int).toNat)) fun A1 n1 c1 H2 => jn (fun (H5 : Hp) => Q (.slice A1 n1 c1) H5) fun J6 => 0 ≤ (((n : Nat) : Int) : Int) ∧ (((n : Nat) : Int) : Int) ≤ ((c1 : Nat) : Int) ∧ 0 ≤ (((n1 : Nat) : Int) : Int) ∧ (((n1 : Nat) : Int) : Int) ≤ (((n : Nat) : Int) : Int) ∧ (((((n : Nat) : Int) : Int).toNat) - ((((n1 : Nat) : Int) : Int).toNat) = 0 → J6 H2) ∧ (0 < ((((n : Nat) : Int) : Int).toNat) - ((((n1 : Nat) : Int) : Int).toNat) → onPtr (cutA A1 (((((n1 : Nat) : Int) : Int).toNat) * k) (decide (c1 = ((((n1 : Nat) : Int) : Int).toNat)))) fun b3 o3 => storeF H2 b3 o3 (List.replicate (((((n : Nat) : Int) : Int).toNat) - ((((n1 : Nat) : Int) : Int).toNat)) zs).flatten fun H4 => J6 H4))

section
variable {H : Hp} {A : Option Addr} {n c k ty eby : Nat} {zs vals x : List Value} {Q : Value → Hp → Prop}
theorem f79_is {B : Option Addr} {m d : Nat} {i : Int} : f79 A n c i B m d H Q = insG 46 2 32 [.slice none 0 0, .int .i64 0] A n c i B m H Q := rfl
theorem f80_is {B : Option Addr} {m d : Nat} {i : Int} : f80 A n c i B m d H Q = insG 86 1 8 [.pointer none] A n c i B m H Q := rfl
theorem f83_is {i j : Int} : f83 A n c i j H Q = delG 46 2 32 [.slice none 0 0, .int .i64 0] A n c i j H Q := rfl
theorem f125_is {i j : Int} : f125 A n c i j H Q = delG 86 1 8 [.pointer none] A n c i j H Q := rfl
theorem ins_list {i : Nat} (hv : vals.length = n * k) (hx : x.length = k) (hi : i < n) : setR (setR vals ((i + 1) * k) (vals.drop (i * k))) (i * k) x = vals.take (i * k) ++ x ++ vals.drop (i * k) := by
  have hik : (i + 1) * k ≤ n * k := Nat.mul_le_mul_right _ hi
  have e1 : (i + 1) * k = i * k + k := Nat.succ_mul _ _
  have h1 : setR vals ((i + 1) * k) (vals.drop (i * k)) = vals.take ((i + 1) * k) ++ vals.drop (i * k) := by
    have hd : vals.drop ((i + 1) * k + (vals.drop (i * k)).length) = [] := List.drop_of_length_le (by rw [List.length_drop]; omega)
    unfold setR
    rw [hd, List.append_nil]
  rw [h1]
  unfold setR
  have hlt : (vals.take ((i + 1) * k)).length = (i + 1) * k := by rw [List.length_take]; omega
  rw [List.take_append_of_le_length (by omega), List.take_take, show min (i * k) ((i + 1) * k) = i * k by omega, hx, ← e1]
  congr 1
  rw [List.drop_append, hlt, List.drop_of_length_le (by omega), Nat.sub_self, List.drop_zero, List.nil_append]
theorem flat_rep {m : Nat} (hz : zs.length = k) : (List.replicate m zs).flatten.length = m * k := by
  induction m with
  | zero => simp
  | succ m ih => rw [List.replicate_succ, List.flatten_cons, List.length_append, ih, hz, Nat.succ_mul]; omega
theorem cellsAt_one {g ty' : Nat} (hg : H g = some (.cells x.toArray ty' (0, 0))) : cellsAt H (some ⟨g, 0, none⟩) x := .inr ⟨g, 0, rfl, fun j v hj => by rw [cl_cells hg, Nat.zero_add]; exact hj⟩
theorem ins_ok {i g ty' : Nat} (R : RowO H A n c k vals) (hk : 0 < k) (hz : zs.length = k) (hx : x.length = k) (hx1 : ∀ v ∈ x, v.oneCell' = true) (hv1 : ∀ v ∈ vals, v.oneCell' = true) (hi : i ≤ n) (hs : n + 1 < big) (he : eby ≤ 100)
    (hg : H g = some (.cells x.toArray ty' (0, 0))) (hne : ¬ rowB A g) (hq : ∀ A' c' H', RowO H' A' (n + 1) c' k (vals.take (i * k) ++ x ++ vals.drop (i * k)) → FrO H H' A A' → Q (.slice A' (n + 1) c') H') :
    insG ty k eby zs A n c (i : Int) (some ⟨g, 0, none⟩) 1 H Q := by
  have hlen := R.len
  have hle := R.le
  have hik : i * k ≤ n * k := Nat.mul_le_mul_right _ hi
  have e1 : (i + 1) * k = i * k + k := Nat.succ_mul _ _
  have hx' : x.length = 1 * k := by omega
  have hbg := hs
  unfold big at hbg
  unfold insG
  have w1 : IntKind.i64.wrap (((n : Nat) : Int) + ((1 : Nat) : Int)) = ((n + 1 : Nat) : Int) := by rw [wrap_id (by omega) (by omega)]; omega
  have w2 : IntKind.i64.wrap ((i : Int) + ((1 : Nat) : Int)) = ((i + 1 : Nat) : Int) := by rw [wrap_id (by omega) (by omega)]; omega
  have w3 : IntKind.i64.wrap (((n + 1 : Nat) : Int) - (i : Int)) = ((n + 1 - i : Nat) : Int) := by rw [wrap_id (by omega) (by omega)]; omega
  rw [w1, w2, w3]
  simp only [Int.toNat_natCast, cut_zero, Nat.sub_zero]
  refine ⟨by omega, by omega, cndF rfl (cndI (fun h => ?_) fun h => ?_)⟩
  · have h : i = n := by have := beq_iff_eq.1 h; omega
    subst h
    refine R.append (cellsAt_one hg) hx' hx1 hs he fun A' c' H' R' F _ => hq A' c' H' ?_ F
    rw [List.drop_of_length_le (by omega), List.append_nil, ← hlen, List.take_length]; exact R'
  have h : i < n := by
    have : (i : Int) ≠ (n : Int) := by simpa using h
    omega
  have hdl : (vals.drop (i * k)).length = (n - i) * k := by rw [List.length_drop, hlen, Nat.sub_mul]
  have hcell := R.cells
  refine cndI (fun hroom => ?_) fun hroom => ?_
  · have hroom := of_decide_eq_true hroom
    have hcn : c = n := by omega
    subst hcn
    have hcut : cellsAt H (cutA A (i * k) (decide (c = i))) (vals.drop (i * k)) := (R.drop hi h).cells
    refine ⟨by omega, by omega, by omega, by simp only [Int.toNat_natCast]; omega, ?_, by simp only [Int.toNat_natCast]; omega, vals.take (i * k), by rw [List.length_take]; omega, (R.take hi).cells, fun b cap rest hb h1 h2 h3 => ?_⟩
    · simp only [Int.toNat_natCast]
      rw [show i + (c + 1 - i) = c + 1 by omega]
      have : (c + 1) * eby ≤ (c + 1) * 100 := Nat.mul_le_mul_left _ he
      omega
    simp only [Int.toNat_natCast] at h1 h3 ⊢
    rw [show i + (c + 1 - i) = c + 1 by omega] at h1 h3 ⊢
    have hgb : b ≠ g := fun e => by subst e; rw [hb] at hg; cases hg
    obtain ⟨Z, hZ⟩ : ∃ Z, Z = (List.replicate (c + 1 - i) zs).flatten := ⟨_, rfl⟩
    have hZl : Z.length = (c + 1 - i) * k := by rw [hZ]; exact flat_rep hz
    rw [← hZ]
    have hnk : i * k + (c + 1 - i) * k = (c + 1) * k := by rw [← Nat.add_mul]; congr 1; omega
    have hck : cap * k = (c + 1) * k + (cap - (c + 1)) * k := by rw [← Nat.add_mul]; congr 1; omega
    have htl : (vals.take (i * k)).length = i * k := by rw [List.length_take]; omega
    have R1 : RowO (upd b (.cells (vals.take (i * k) ++ Z ++ rest).toArray ty (0, 0)) H) (some ⟨b, 0, none⟩) i cap k (vals.take (i * k)) := ⟨htl, by omega, .inr ⟨b, 0, _, ty, rfl, upd_at, by rw [List.length_append, List.length_append, htl, hZl, h3]; omega, fun j v hj => by
      rw [Nat.zero_add, List.append_assoc, List.getElem?_append_left (List.getElem?_eq_some_iff.1 hj).1]; exact hj⟩⟩
    have F1 : FrO H (upd b (.cells (vals.take (i * k) ++ Z ++ rest).toArray ty (0, 0)) H) A (some ⟨b, 0, none⟩) := ⟨fun q hq => .inr (by
      by_cases e : q = b
      · subst e; exact hb
      · exact absurd (upd_off e) hq), fun q ⟨o, z, h⟩ => .inr (by cases h; exact hb), fun q hq => by
      by_cases e : q = b
      · subst e; exact absurd hb hq
      · rw [upd_off e]; exact hq⟩
    have xx : Ext H (upd b (.cells (vals.take (i * k) ++ Z ++ rest).toArray ty (0, 0)) H) := Ext.new hb
    have sc : cutA (some ⟨b, 0, none⟩) (i * k) (decide (cap = i)) = some ⟨b, 0 + i * k, none⟩ := by rw [decide_eq_false (by omega)]; show some (Addr.add _ _) = _; rw [add_mk']
    have sc2 : i + 1 < c + 1 → cutA (some ⟨b, 0, none⟩) ((i + 1) * k) (decide (cap = i + 1)) = some ⟨b, 0 + (i + 1) * k, none⟩ := fun _ => by rw [decide_eq_false (by omega)]; show some (Addr.add _ _) = _; rw [add_mk']
    have m1 : min 1 (c + 1 - i) = 1 := by omega
    refine ⟨by omega, by omega, ⟨fun h0 => by omega, fun _ => ⟨x, by rw [m1]; exact hx', cellsAt_ext xx (cellsAt_one hg), hx1, ?_⟩⟩⟩
    rw [sc]
    refine R1.store (p := i) (n' := i + 1) (m := 1) hx' (Nat.le_refl _) (by omega) (by omega) (by omega) fun H5 R5 F5 => ⟨by omega, by omega, by omega, by omega, ?_⟩
    have e5 : setR (vals.take (i * k)) (i * k) x = vals.take (i * k) ++ x := by
      unfold setR
      rw [List.take_of_length_le (by omega), List.drop_of_length_le (by omega), List.append_nil]
    rw [e5] at R5
    have m2 : min (c - i) (c + 1 - (i + 1)) = c - i := by omega
    have hnb : ¬ rowB A b := fun hr => (R.live hr) hb
    have k5 : cellsAt H5 (cutA A (i * k) (decide (c = i))) (vals.drop (i * k)) := (RowO.keep (R.drop hi h) fun q hq hn => by
      have hqb : q ≠ b := fun e => hnb (by rw [← e]; exact rowB_cut.1 hq)
      by_cases e : H5 q = H q
      · exact e
      · exfalso
        by_cases e2 : H5 q = (upd b (Obj.cells (vals.take (i * k) ++ Z ++ rest).toArray ty (0, 0)) H) q
        · rw [upd_off hqb] at e2; exact e e2
        · rcases F5.ch q e2 with ⟨o, z, hh⟩ | hh
          · cases hh; exact hqb rfl
          · rw [upd_off hqb] at hh; exact hn hh).cells
    refine ⟨fun h0 => by omega, fun _ => ⟨vals.drop (i * k), by rw [m2]; exact hdl, k5, fun v hv => hv1 v (List.mem_of_mem_drop hv), ?_⟩⟩
    rw [sc2 (by omega)]
    refine R5.store (p := i + 1) (n' := c + 1) (m := c - i) hdl (Nat.le_refl _) (by omega) (by omega) (by omega) fun H6 R6 F6 => hq _ _ _ ?_ (F1.trans (F5.trans F6))
    have e6 : setR (vals.take (i * k) ++ x) ((i + 1) * k) (vals.drop (i * k)) = vals.take (i * k) ++ x ++ vals.drop (i * k) := by
      have hd : (vals.take (i * k) ++ x).drop ((i + 1) * k + (vals.drop (i * k)).length) = [] := List.drop_of_length_le (by rw [List.length_append]; omega)
      have ht : (vals.take (i * k) ++ x).take ((i + 1) * k) = vals.take (i * k) ++ x := List.take_of_length_le (by rw [List.length_append]; omega)
      unfold setR
      rw [hd, ht, List.append_nil]
    rw [e6] at R6
    exact R6
  · have hroom := of_decide_eq_false hroom
    have hAs : ∃ b o, A = some ⟨b, o, none⟩ ∧ ∃ cs ty'', H b = some (.cells cs ty'' (0, 0)) ∧ 0 < cs.size := by
      rcases R.at' with ⟨_, h0⟩ | ⟨b, o, cs, ty'', hA, hb, h2, h3⟩
      · omega
      · refine ⟨b, o, hA, _, _, hb, ?_⟩
        have : 1 * k ≤ c * k := Nat.mul_le_mul_right _ (by omega)
        rw [List.size_toArray]; omega
    obtain ⟨b, o, hA, cs, ty'', hb, hcs⟩ := hAs
    have hgb : g ≠ b := fun e => hne (by rw [e, hA]; exact ⟨_, _, rfl⟩)
    have sc1 : cutA A ((i + 1) * k) (decide (c = i + 1)) = some ⟨b, o + (i + 1) * k, none⟩ := by rw [decide_eq_false (by omega), hA]; show some (Addr.add _ _) = _; rw [add_mk']
    have sc2 : cutA A (i * k) (decide (c = i)) = some ⟨b, o + i * k, none⟩ := by rw [decide_eq_false (by omega), hA]; show some (Addr.add _ _) = _; rw [add_mk']
    refine ⟨by omega, by omega, by omega, by omega, ?_⟩
    have hcut : cellsAt H (cutA A (i * k) (decide (c = i))) (vals.drop (i * k)) := (R.drop hi (by omega)).cells
    rw [sc2] at hcut
    rw [sc1, sc2]
    refine ⟨hgb, ⟨_, _, hg⟩, ⟨_, _, hb, hcs⟩, by omega, by omega, by omega, by omega, ?_⟩
    have m2 : min (n + 1 - i) (n + 1 - (i + 1)) = n - i := by omega
    refine ⟨fun h0 => by omega, fun _ => ⟨vals.drop (i * k), by rw [m2]; exact hdl, hcut, fun v hv => hv1 v (List.mem_of_mem_drop hv), ?_⟩⟩
    have st := R.store (p := i + 1) (n' := n + 1) (m := n - i) (new := vals.drop (i * k)) (K := fun H7 => 0 ≤ (i : Int) ∧ (i : Int) ≤ ((n + 1 : Nat) : Int) ∧ copyF H7 k (some ⟨b, o + i * k, none⟩) (n + 1 - i) (some ⟨g, 0, none⟩) 1 fun H8 => Q (.slice A (n + 1) c) H8) hdl (by omega) (by omega) (by omega) (by omega) fun H7 R7 F7 => ⟨by omega, by omega, ?_⟩
    · rw [hA] at st ⊢
      exact st
    have hg7 : H7 g = H g := by
      by_cases e : H7 g = H g
      · exact e
      · rcases F7.ch g e with hh | hh
        · exact absurd hh hne
        · rw [hg] at hh; cases hh
    refine ⟨fun h0 => by omega, fun _ => ⟨x, by rw [show min 1 (n + 1 - i) = 1 by omega]; exact hx', cellsAt_one (hg7.trans hg), hx1, ?_⟩⟩
    have st := R7.store (p := i) (n' := n + 1) (m := 1) (new := x) (K := fun H8 => Q (.slice A (n + 1) c) H8) hx' (by omega) (by omega) (by omega) (by omega) fun H8 R8 F8 => hq A c H8 (by rw [ins_list hlen hx h] at R8; exact R8) (F7.trans F8)
    rw [hA] at st ⊢
    exact st
theorem del_ok {i j : Nat} (R : RowO H A n c k vals) (hk : 0 < k) (hz : zs.length = k) (hv1 : ∀ v ∈ vals, v.oneCell' = true) (hij : i < j) (hj : j ≤ n) (hs : n < big) (he : eby ≤ 100)
    (hq : ∀ H', RowO H' A (i + (n - j)) c k (vals.take (i * k) ++ vals.drop (j * k)) → FrO H H' A A → Q (.slice A (i + (n - j)) c) H') :
    delG ty k eby zs A n c (i : Int) (j : Int) H Q := by
  have hlen := R.len
  have hle := R.le
  have hik : i * k ≤ n * k := Nat.mul_le_mul_right _ (by omega)
  have hjk : j * k ≤ n * k := Nat.mul_le_mul_right _ (by omega)
  have hbg := hs
  unfold big at hbg
  unfold delG
  simp only [Int.toNat_natCast, cut_zero, Nat.sub_zero]
  refine ⟨by omega, by omega, by omega, by omega, by omega, by omega, cndF (by simp; omega) ⟨by omega, by omega, by omega, by omega, ?_⟩⟩
  have hdl : (vals.drop (j * k)).length = (n - j) * k := by rw [List.length_drop, hlen, Nat.sub_mul]
  have hcut : cellsAt H (cutA A (j * k) (decide (c = j))) (vals.drop (j * k)) := by
    by_cases hcj : c = j
    · left; exact List.drop_of_length_le (by rw [hlen]; exact Nat.mul_le_mul_right _ (by omega))
    · exact (R.drop hj (by omega)).cells
  refine (R.take (p := i) (by omega)).append hcut hdl (fun v hv => hv1 v (List.mem_of_mem_drop hv)) (by unfold big; omega) he fun A1 c1 H2 R2 F2 hsame => ?_
  obtain ⟨rfl, rfl⟩ := hsame (by omega)
  refine jn_intro (fun J => ∀ H', RowO H' A1 (i + (n - j)) c1 k (vals.take (i * k) ++ vals.drop (j * k)) → FrO H H' A1 A1 → J H') (fun H5 R5 F5 => hq H5 R5 F5) fun J hJ => ⟨by omega, by omega, by omega, by omega, fun h0 => by omega, fun _ => ?_⟩
  have hzl : ((List.replicate (n - (i + (n - j))) zs).flatten).length = (n - (i + (n - j))) * k := flat_rep hz
  have hA : ∃ b o, A1 = some ⟨b, o, none⟩ := by
    rcases R.at' with ⟨_, h0⟩ | ⟨b, o, cs, ty'', hA, hb, h2, h3⟩
    · omega
    · exact ⟨b, o, hA⟩
  obtain ⟨b, o, hA⟩ := hA
  have sc : cutA A1 ((i + (n - j)) * k) (decide (c1 = i + (n - j))) = some ⟨b, o + (i + (n - j)) * k, none⟩ := by rw [decide_eq_false (by omega), hA]; show some (Addr.add _ _) = _; rw [add_mk']
  rw [sc]
  have st := R2.store (p := i + (n - j)) (n' := n) (m := n - (i + (n - j))) (K := J) hzl (Nat.le_refl _) (by omega) (by omega) (by omega) fun H4 R4 F4 => hJ H4 ?_ (F2.trans F4)
  · rw [hA] at st
    exact st
  · have R4' := R4.take (p := i + (n - j)) (by omega)
    have hl2 : (vals.take (i * k) ++ vals.drop (j * k)).length = (i + (n - j)) * k := by rw [List.length_append, hdl, List.length_take, Nat.add_mul]; omega
    have e4 : (setR (vals.take (i * k) ++ vals.drop (j * k)) ((i + (n - j)) * k) (List.replicate (n - (i + (n - j))) zs).flatten).take ((i + (n - j)) * k) = vals.take (i * k) ++ vals.drop (j * k) := by
      unfold setR
      rw [List.append_assoc, List.take_append_of_le_length (by rw [List.length_take]; omega), List.take_take, Nat.min_self, ← hl2, List.take_length]
    rw [e4] at R4'
    exact R4'
end
end Go.Proofs.YtmelbipidffmpaaGreatDoor.Hw

/- Trees of nodes in memory. -/
set_option linter.unusedVariables false
set_option linter.unusedSimpArgs false
set_option linter.unusedSectionVars false
set_option maxRecDepth 20000
namespace Go.Proofs.YtmelbipidffmpaaGreatDoor.Hw
open Go Go.Proofs
inductive MT where
  | mk (g : Nat) (eA : Option Addr) (ec : Nat) (es : List EnM) (kA : Option Addr) (kc : Nat) (ks : List MT)
namespace MT
def g : MT → Nat | .mk g _ _ _ _ _ _ => g
def eA : MT → Option Addr | .mk _ A _ _ _ _ _ => A
def ec : MT → Nat | .mk _ _ c _ _ _ _ => c
def es : MT → List EnM | .mk _ _ _ l _ _ _ => l
def kA : MT → Option Addr | .mk _ _ _ _ A _ _ => A
def kc : MT → Nat | .mk _ _ _ _ _ c _ => c
def ks : MT → List MT | .mk _ _ _ _ _ _ l => l
end MT
def ptC (u : MT) : List Value := [.pointer (some ⟨u.g, 0, none⟩)]
def blkA (A : Option Addr) : List Nat := match A with | none => [] | some a => [a.block]
def own1 (t : MT) : List Nat := t.g :: (blkA t.eA ++ blkA t.kA)
def ownM : Nat → MT → List Nat
  | 0, t => own1 t
  | h + 1, t => own1 t ++ t.ks.flatMap (ownM h)
def flatM : Nat → MT → List EnM
  | 0, t => t.es
  | h + 1, t => inter (t.ks.map (flatM h)) t.es
def nodeC (eA : Option Addr) (en ec : Nat) (kA : Option Addr) (kn kc : Nat) : List Value := [.slice eA en ec, .slice kA kn kc]
structure NodeM (H : Hp) (t : MT) : Prop where
  cell : ∃ ty, H t.g = some (.cells (nodeC t.eA t.es.length t.ec t.kA t.ks.length t.kc).toArray ty (0, 0))
  er : RowO H t.eA t.es.length t.ec 2 (t.es.flatMap enC)
  kr : RowO H t.kA t.ks.length t.kc 1 (t.ks.flatMap ptC)
def MemM (H : Hp) : Nat → MT → Prop
  | 0, t => NodeM H t ∧ t.ks = []
  | h + 1, t => NodeM H t ∧ ∀ u ∈ t.ks, MemM H h u
/-- How full the blocks are: so many entries at least, and at most, in the first; 3 to 8 in those below. -/
def FullM (lo hi : Nat) : Nat → MT → Prop
  | 0, t => t.ks = [] ∧ lo ≤ t.es.length ∧ t.es.length ≤ hi
  | h + 1, t => t.ks.length = t.es.length + 1 ∧ lo ≤ t.es.length ∧ t.es.length ≤ hi ∧ ∀ u ∈ t.ks, FullM 3 8 h u
theorem blk_row {A : Option Addr} {q : Nat} : q ∈ blkA A ↔ rowB A q := by
  unfold blkA rowB
  cases A with
  | none => simp
  | some a =>
    simp only [List.mem_singleton, Option.some.injEq]
    constructor
    · rintro rfl; exact ⟨a.off, a.spot, rfl⟩
    · rintro ⟨o, z, rfl⟩; rfl
section
variable {H H' : Hp}
theorem MemM.node {h : Nat} {t : MT} (M : MemM H h t) : NodeM H t := by cases h <;> exact M.1
theorem NodeM.keep {t : MT} (N : NodeM H t) (hk : ∀ q ∈ own1 t, H' q = H q) : NodeM H' t := by
  obtain ⟨⟨ty, hc⟩, e, k⟩ := N
  refine ⟨⟨ty, (hk _ (by simp [own1])).trans hc⟩, e.keep fun q hq _ => hk q ?_, k.keep fun q hq _ => hk q ?_⟩
  · simp [own1, blk_row, hq]
  · simp [own1, blk_row, hq]
theorem own1_sub {h : Nat} {t : MT} {q : Nat} (hq : q ∈ own1 t) : q ∈ ownM h t := by
  cases h with
  | zero => exact hq
  | succ h => exact List.mem_append_left _ hq
theorem MemM.keep : ∀ {h : Nat} {t : MT}, MemM H h t → (∀ q ∈ ownM h t, H' q = H q) → MemM H' h t
  | 0, t, M, hk => ⟨M.1.keep hk, M.2⟩
  | h + 1, t, M, hk => ⟨M.1.keep fun q hq => hk q (own1_sub hq), fun u hu => (M.2 u hu).keep fun q hq => hk q (List.mem_append_right _ (List.mem_flatMap.2 ⟨u, hu, hq⟩))⟩
theorem NodeM.live {t : MT} (N : NodeM H t) : ∀ q ∈ own1 t, H q ≠ none := by
  obtain ⟨⟨ty, hc⟩, e, k⟩ := N
  intro q hq
  unfold own1 at hq
  rcases List.mem_cons.1 hq with rfl | hq
  · rw [hc]; simp
  · rcases List.mem_append.1 hq with hq | hq
    · exact e.live (blk_row.1 hq)
    · exact k.live (blk_row.1 hq)
theorem MemM.live : ∀ {h : Nat} {t : MT}, MemM H h t → ∀ q ∈ ownM h t, H q ≠ none
  | 0, t, M => M.1.live
  | h + 1, t, M => fun q hq => by
    rcases List.mem_append.1 hq with hq | hq
    · exact M.1.live q hq
    · obtain ⟨u, hu, hq⟩ := List.mem_flatMap.1 hq
      exact (M.2 u hu).live q hq
theorem MemM.ext {h : Nat} {t : MT} (M : MemM H h t) (hx : Ext H H') : MemM H' h t := M.keep fun q hq => ext_at hx (M.live q hq)
theorem NodeM.ext {t : MT} (M : NodeM H t) (hx : Ext H H') : NodeM H' t := M.keep fun q hq => ext_at hx (M.live q hq)
theorem NodeM.cl0 {t : MT} (N : NodeM H t) : cl H t.g (0 + 0) = some (.slice t.eA t.es.length t.ec) := by
  obtain ⟨⟨ty, hc⟩, e, k⟩ := N
  rw [cl_cells hc]; rfl
theorem NodeM.cl1 {t : MT} (N : NodeM H t) : cl H t.g (0 + 1) = some (.slice t.kA t.ks.length t.kc) := by
  obtain ⟨⟨ty, hc⟩, e, k⟩ := N
  rw [cl_cells hc]; rfl
theorem NodeM.esAt {t : MT} (N : NodeM H t) (hs : t.es.length < huge) : SlAt enC H t.eA t.es.length t.es := ⟨rfl, N.er.cells, hs⟩
theorem NodeM.ksAt {t : MT} (N : NodeM H t) (hs : t.ks.length < huge) : SlAt ptC H t.kA t.ks.length t.ks := ⟨rfl, N.kr.cells, hs⟩
theorem rd_pt {A : Option Addr} {n : Nat} {l : List MT} {i : Nat} {x : MT} (h : SlAt ptC H A n l) (hi : l[i]? = some x) {K : Nat → Nat → Prop}
    (hk : ∀ p o, A = some ⟨p, o, none⟩ → cl H p (o + i * 1) = some (.pointer (some ⟨x.g, 0, none⟩)) → K p o) : onPtr A K := by
  have hlen : ∀ x ∈ l, (ptC x).length = 1 := fun x _ => rfl
  have hne : l ≠ [] := fun e => by subst e; simp at hi
  refine at_cells h.cells (flat_ne hlen (by omega) hne) fun p o hA hc => hk p o hA ?_
  have := hc (i * 1 + 0) _ (flat_get hlen hi (by omega))
  rw [Nat.add_zero] at this
  exact this
/-- What a call does to memory: own blocks, and new ones. -/
structure FrM (H H' : Hp) (O O' : List Nat) : Prop where
  ch : ∀ q, H' q ≠ H q → q ∈ O ∨ H q = none
  nw : ∀ q ∈ O', q ∈ O ∨ H q = none
  al : ∀ q, H q ≠ none → H' q ≠ none
theorem FrM.refl {O : List Nat} : FrM H H O O := ⟨fun q h => absurd rfl h, fun q h => .inl h, fun q h => h⟩
theorem FrM.ofExt {O : List Nat} (hx : Ext H H') : FrM H H' O O := ⟨fun q h => .inr (Classical.byContradiction fun hn => h (ext_at hx hn)), fun q h => .inl h, fun q h => by rw [ext_at hx h]; exact h⟩
theorem FrM.trans {H1 H2 : Hp} {O O1 O2 : List Nat} (F : FrM H H1 O O1) (G : FrM H1 H2 O1 O2) : FrM H H2 O O2 := ⟨fun q hq => by
  by_cases e : H1 q = H q
  · by_cases e2 : H2 q = H1 q
    · exact absurd (e2.trans e) hq
    · rcases G.ch q e2 with h | h
      · exact F.nw q h
      · exact .inr (by rw [← e]; exact h)
  · exact F.ch q e, fun q hq => by
  rcases G.nw q hq with h | h
  · exact F.nw q h
  · by_cases e : H1 q = H q
    · exact .inr (by rw [← e]; exact h)
    · exact F.ch q e, fun q hq => G.al q (F.al q hq)⟩
theorem FrM.ext {X : Hp} {O O' : List Nat} (F : FrM H H' O O') (hx : Ext X H) (hO : ∀ q ∈ O, X q = none) : Ext X H' := fun q o hq => by
  have h1 := hx q o hq
  by_cases e : H' q = H q
  · rw [e]; exact h1
  · rcases F.ch q e with h | h
    · rw [hO q h] at hq; cases hq
    · rw [h] at h1; cases h1
theorem FrM.hid {X : Hp} {O O' : List Nat} (F : FrM H H' O O') (hx : Ext X H) (hO : ∀ q ∈ O, X q = none) : ∀ q ∈ O', X q = none := fun q hq => by
  rcases F.nw q hq with h | h
  · exact hO q h
  · exact hx.none h
/-- What stands beside stays. -/
theorem FrM.off {O O' : List Nat} (F : FrM H H' O O') {q : Nat} (hq : q ∉ O) (hl : H q ≠ none) : H' q = H q := Classical.byContradiction fun hn => by
  rcases F.ch q hn with h | h
  · exact hq h
  · exact hl h
theorem FrM.wide {O O' P S : List Nat} (F : FrM H H' O O') : FrM H H' (P ++ O ++ S) (P ++ O' ++ S) := ⟨fun q h => (F.ch q h).imp (fun h => by simp [h]) id, fun q hq => by
  rcases List.mem_append.1 hq with hq | hq
  · rcases List.mem_append.1 hq with hq | hq
    · exact .inl (by simp [hq])
    · exact (F.nw q hq).imp (fun h => by simp [h]) id
  · exact .inl (by simp [hq]), F.al⟩
theorem nodup_swap {P O O' S : List Nat} (h : (P ++ O ++ S).Nodup) (h' : O'.Nodup) (hd : ∀ q ∈ O', q ∈ O ∨ (q ∉ P ∧ q ∉ S)) : (P ++ O' ++ S).Nodup := by
  rw [List.append_assoc, List.nodup_append] at h ⊢
  obtain ⟨h1, h2, h3⟩ := h
  rw [List.nodup_append] at h2
  obtain ⟨h4, h5, h6⟩ := h2
  refine ⟨h1, List.nodup_append.2 ⟨h', h5, fun a ha b hb e => ?_⟩, fun a ha b hb e => ?_⟩
  · subst e
    rcases hd a ha with h | h
    · exact h6 a h a hb rfl
    · exact h.2 hb
  · subst e
    rcases List.mem_append.1 hb with hb | hb
    · rcases hd a hb with h | h
      · exact h3 a ha a (List.mem_append_left _ h) rfl
      · exact h.1 ha
    · exact h3 a ha a (List.mem_append_right _ hb) rfl
end
/-! ### plain: what lies between -/
def zipE {α : Type} : List (List α) → List α → List α
  | k :: ks, e :: es => k ++ e :: zipE ks es
  | _, _ => []
theorem inter_app {α : Type} : ∀ {K1 K : List (List α)} {E1 E : List α}, K1.length = E1.length → inter (K1 ++ K) (E1 ++ E) = zipE K1 E1 ++ inter K E
  | [], K, [], E, _ => rfl
  | k :: K1, K, e :: E1, E, h => by
    show k ++ e :: inter (K1 ++ K) (E1 ++ E) = (k ++ e :: zipE K1 E1) ++ inter K E
    rw [inter_app (by simpa using h)]
    simp
  | [], _, _ :: _, _, h => by simp at h
  | _ :: _, _, [], _, h => by simp at h
def restE {α : Type} : List (List α) → List α → List α
  | ks, [] => inter ks []
  | ks, e :: es => e :: inter ks es
theorem inter_head {α : Type} {k : List α} {ks : List (List α)} {es : List α} : inter (k :: ks) es = k ++ restE ks es := by
  cases es <;> rfl
/-- An entry put where it belongs. -/
def Put (l : List EnM) (e : EnM) (l' : List EnM) : Prop := ∃ a b, l = a ++ b ∧ l' = a ++ e :: b ∧ (∀ x ∈ a, ordE x e < 0) ∧ ∀ x ∈ b, ordE e x < 0
def SrtE (l : List EnM) : Prop := l.Pairwise fun a b => ordE a b < 0
theorem Put.wrap {l l' z r : List EnM} {e : EnM} (h : Put l e l') (hz : ∀ x ∈ z, ordE x e < 0) (hr : ∀ x ∈ r, ordE e x < 0) : Put (z ++ l ++ r) e (z ++ l' ++ r) := by
  obtain ⟨a, b, rfl, rfl, ha, hb⟩ := h
  refine ⟨z ++ a, b ++ r, by simp, by simp, fun x hx => ?_, fun x hx => ?_⟩
  · rcases List.mem_append.1 hx with h | h
    · exact hz x h
    · exact ha x h
  · rcases List.mem_append.1 hx with h | h
    · exact hb x h
    · exact hr x h
theorem Put.mem {l l' : List EnM} {e x : EnM} (h : Put l e l') : x ∈ l' ↔ x = e ∨ x ∈ l := by
  obtain ⟨a, b, rfl, rfl, _, _⟩ := h
  simp only [List.mem_append, List.mem_cons]
  constructor
  · rintro (h | h | h)
    · exact .inr (.inl h)
    · exact .inl h
    · exact .inr (.inr h)
  · rintro (h | h | h)
    · exact .inr (.inl h)
    · exact .inl h
    · exact .inr (.inr h)
theorem Put.srt {l l' : List EnM} {e : EnM} (h : Put l e l') (hs : SrtE l) : SrtE l' := by
  obtain ⟨a, b, rfl, rfl, ha, hb⟩ := h
  unfold SrtE at hs ⊢
  rw [List.pairwise_append] at hs ⊢
  obtain ⟨h1, h2, h3⟩ := hs
  refine ⟨h1, List.pairwise_cons.2 ⟨hb, h2⟩, fun x hx y hy => ?_⟩
  rcases List.mem_cons.1 hy with rfl | hy
  · exact ha x hx
  · exact h3 x hx y hy
end Go.Proofs.YtmelbipidffmpaaGreatDoor.Hw

/- Nodes: place, clone, split. -/
set_option linter.unusedVariables false
set_option linter.unusedSimpArgs false
set_option linter.unusedSectionVars false
set_option maxRecDepth 20000
namespace Go.Proofs.YtmelbipidffmpaaGreatDoor.Hw
open Go Go.Proofs
def cntE (l : List EnM) (e : EnM) : Nat := (l.takeWhile fun x => decide (ordE x e < 0)).length
def hasE (l : List EnM) (e : EnM) : Bool := match l[cntE l e]? with | some x => ordE x e == 0 | none => false
theorem SrtE.le {l : List EnM} (h : SrtE l) {i j : Nat} {a b : EnM} (hij : i ≤ j) (ha : l[i]? = some a) (hb : l[j]? = some b) : ordE a b ≤ 0 := by
  by_cases e : i = j
  · subst e; rw [ha] at hb; cases hb; rw [ordE_ok.self]; omega
  · obtain ⟨h1, h2⟩ := List.getElem?_eq_some_iff.1 ha
    obtain ⟨h3, h4⟩ := List.getElem?_eq_some_iff.1 hb
    have := List.pairwise_iff_getElem.1 h i j h1 h3 (by omega)
    rw [h2, h4] at this
    omega
theorem cnt_mono {l : List EnM} (h : SrtE l) (e : EnM) : ∀ (i j : Nat) (a b : EnM), i ≤ j → l[i]? = some a → l[j]? = some b → (fun x => decide (ordE x e < 0)) b = true → (fun x => decide (ordE x e < 0)) a = true :=
  fun i j a b hij ha hb hp => decide_eq_true (ordE_ok.lt_of' (h.le hij ha hb) (of_decide_eq_true hp))
section
variable {H : Hp} {A : Option Addr} {n c : Nat} {Q : Value → Hp → Prop}
theorem c50 {l : List EnM} {e : EnM} (hl : SlAt enC H A n l) (hkey : ∀ x ∈ l, KeyAt H x) (he : KeyAt H e) (hsrt : SrtE l) (hs : l.length < big)
    (hq : ∀ H', Ext H H' → Q (.tuple #[.int .i64 ((cntE l e : Nat) : Int), .bool (hasE l e)]) H') : HCalls Tryz.prog 50 [.slice A n c, enA e, .func (.func 51) #[] #[]] H Q := by
  refine f50.ok _ _ _ _ _ _ _ _ _ _ ?_
  unfold f50
  obtain rfl := hl.len
  unfold big at hs
  refine loop_to l.length (fun j st H' => Ext H H' ∧ ∃ lo hi : Nat, st = (((lo : Int), ((hi : Int), ())), ()) ∧ lo ≤ hi ∧ hi ≤ l.length ∧ hi - lo + j ≤ l.length ∧ (∀ i a, i < lo → l[i]? = some a → (fun x => decide (ordE x e < 0)) a = true) ∧ (∀ i a, hi ≤ i → l[i]? = some a → (fun x => decide (ordE x e < 0)) a = false)) ⟨Ext.refl _, 0, l.length, rfl, by omega, by omega, by omega, fun i a h => by omega, fun i a h hi => by have := (List.getElem?_eq_some_iff.1 hi).1; omega⟩ ?_
  rintro j st H2 next hj ⟨x2, lo, hi, rfl, h1, h2, h3, h4, h5⟩ hnext
  dsimp only
  refine jn_intro (fun J => ∀ lo' hi' : Nat, ∀ H', Ext H H' → lo' ≤ hi' → hi' ≤ l.length → hi' - lo' + (j + 1) ≤ l.length → (∀ i a, i < lo' → l[i]? = some a → (fun x => decide (ordE x e < 0)) a = true) → (∀ i a, hi' ≤ i → l[i]? = some a → (fun x => decide (ordE x e < 0)) a = false) → j < l.length → J (lo' : Int) (hi' : Int) H') (fun lo' hi' H' x' g1 g2 g3 g4 g5 g6 => ⟨rfl, hnext _ _ g6 ⟨x', lo', hi', rfl, g1, g2, g3, g4, g5⟩⟩) fun J hJ => cndI (fun hlt => ?_) fun hlt => ?_
  · have hlt := of_decide_eq_true hlt
    rw [mid_eq (by omega)]
    obtain ⟨x, hx⟩ := get_of (l := l) (i := (lo + hi) / 2) (by omega)
    have hm := List.mem_of_getElem? hx
    refine ⟨by omega, by omega, by omega, rd_en (hl.ext x2) hx fun q o _ k1 k2 => ⟨_, _, _, k1, _, k2, fnOk 51 rfl, ?_⟩⟩
    refine c51 ((hkey x hm).ext x2) (he.ext x2) fun H8 x8 => ⟨_, rfl, ?_⟩
    by_cases hp : ordE x e < 0
    · refine cndT (decide_eq_true hp) ?_
      rw [wrap_id (by omega) (by omega)]
      exact hJ ((lo + hi) / 2 + 1) hi H8 (x2.trans x8) (by omega) h2 (by omega) (fun i a hi' ha => cnt_mono hsrt e i _ a x (by omega) ha hx (decide_eq_true hp)) h5 (by omega)
    · refine cndF (decide_eq_false hp) (hJ lo ((lo + hi) / 2) H8 (x2.trans x8) (by omega) (by omega) (by omega) h4 (fun i a hi' ha => ?_) (by omega))
      refine decide_eq_false fun hpa => hp ?_
      exact ordE_ok.lt_of' (hsrt.le hi' hx ha) hpa
  · have hlt := of_decide_eq_false hlt
    have hcnt : cntE l e = lo := take_is h4 (fun a ha => h5 lo a (by omega) ha) (by omega)
    unfold hasE at hq
    rw [hcnt] at hq
    refine jn_intro (fun J => ∀ b H', Ext H H' → b = (match l[lo]? with | some x => ordE x e == 0 | none => false) → J b H') (fun b H' x' hb => by rw [hb]; exact hq H' x') fun J hJ => cndI (fun hlt => ?_) fun hlt => ?_
    · have hlt := of_decide_eq_true hlt
      obtain ⟨x, hx⟩ := get_of (l := l) (i := lo) (by omega)
      have hm := List.mem_of_getElem? hx
      refine ⟨by omega, by omega, rd_en (hl.ext x2) hx fun q o _ k1 k2 => ⟨_, _, _, by simpa using k1, _, by simpa using k2, fnOk 51 rfl, ?_⟩⟩
      exact c51 ((hkey x hm).ext x2) (he.ext x2) fun H8 x8 => ⟨_, rfl, hJ _ H8 (x2.trans x8) (by rw [hx])⟩
    · have hlt := of_decide_eq_false hlt
      exact hJ _ H2 x2 (by rw [List.getElem?_eq_none_iff.2 (by omega)])
theorem c78 {t : MT} {e : EnM} (N : NodeM H t) (hkey : ∀ x ∈ t.es, KeyAt H x) (he : KeyAt H e) (hsrt : SrtE t.es) (hs : t.es.length < big)
    (hq : ∀ H', Ext H H' → Q (.tuple #[.int .i64 ((cntE t.es e : Nat) : Int), .bool (hasE t.es e)]) H') : HCalls Tryz.prog 78 [.pointer (some ⟨t.g, 0, none⟩), enA e] H Q := by
  refine f78.ok _ _ _ _ _ _ ?_
  unfold f78
  exact ⟨_, _, _, N.cl0, c50 (N.esAt (by unfold big at hs; unfold huge; omega)) hkey he hsrt hs fun H3 x3 => ⟨_, _, rfl, hq H3 x3⟩⟩
/-- A copy on a block of its own. -/
theorem clo_ok {α : Type} {f : α → List Value} {ty k eby : Nat} {l : List α} (hf : ∀ x, (f x).length = k) (ho : ∀ x, ∀ v ∈ f x, v.oneCell' = true) (hk : 0 < k) (he : eby ≤ 100) (hA : cellsAt H A (l.flatMap f)) (hn : n = l.length) (hs : n < big)
    (hq : ∀ A' c' H', Ext H H' → RowO H' A' n c' k (l.flatMap f) → (∀ q, rowB A' q → H q = none) → Q (.slice A' n c') H') :
    cnd A.isNone (Q (.slice none 0 0) H) (newF H ty [] fun g1 H2 => appendF H2 ty k eby (some ⟨g1, 0, none⟩) 0 0 A n fun A3 n3 c3 H4 => Q (.slice A3 n3 c3) H4) := by
  have hfl : (l.flatMap f).length = n * k := by rw [hn]; exact flat_length fun x _ => hf x
  refine cndI (fun h => ?_) fun h g1 hg1 => ?_
  · have hA0 : A = none := by cases A with | none => rfl | some a => cases h
    have h0 : l.flatMap f = [] := by
      rcases hA with h' | ⟨b, o, e, _⟩
      · exact h'
      · rw [hA0] at e; cases e
    have hn0 : n = 0 := by
      rw [h0] at hfl
      have : n * k = 0 := by simpa using hfl.symm
      rcases Nat.mul_eq_zero.1 this with h | h <;> omega
    subst hn0
    rw [h0] at hq
    exact hq none 0 H (Ext.refl _) RowO.nil fun b ⟨o, q, h⟩ => by cases h
  · have x1 : Ext H (upd g1 (Obj.cells [].toArray ty (0, 0)) H) := Ext.new hg1
    have R0 : RowO (upd g1 (Obj.cells [].toArray ty (0, 0)) H) (some ⟨g1, 0, none⟩) 0 0 k [] := ⟨by simp, Nat.le_refl _, .inr ⟨g1, 0, [], ty, rfl, upd_at, by simp, fun j v h => by simp at h⟩⟩
    refine R0.append (cellsAt_ext x1 hA) hfl (fun v hv => by obtain ⟨x, _, hx⟩ := List.mem_flatMap.1 hv; exact ho x v hx) (by omega) he fun A' c' H' R' F _ => ?_
    rw [Nat.zero_add, List.nil_append] at R'
    have hnw : ∀ q, rowB A' q → H q = none := fun q hq => by
      rcases F.nw q hq with ⟨o, z, h⟩ | h
      · cases h; exact hg1
      · exact x1.none h
    have := hq A' c' H' (fun q o hq => by
      have h2 := x1 q o hq
      by_cases e : H' q = (upd g1 (Obj.cells [].toArray ty (0, 0)) H) q
      · rw [e]; exact h2
      · rcases F.ch q e with ⟨o, z, h⟩ | h
        · cases h; rw [hg1] at hq; cases hq
        · rw [h] at h2; cases h2) R' hnw
    rw [Nat.zero_add]
    exact this
theorem ptC_one (x : MT) : ∀ v ∈ ptC x, v.oneCell' = true := fun v hv => by
  unfold ptC at hv
  rw [List.mem_singleton] at hv
  subst hv; rfl
theorem c62 {l : List EnM} (hA : cellsAt H A (l.flatMap enC)) (hn : n = l.length) (hs : n < big) (hq : ∀ A' c' H', Ext H H' → RowO H' A' n c' 2 (l.flatMap enC) → (∀ q, rowB A' q → H q = none) → Q (.slice A' n c') H') : HCalls Tryz.prog 62 [.slice A n c] H Q := by
  refine f62.ok _ _ _ ?_
  unfold f62
  exact clo_ok enC_len enC_one (by omega) (by omega) hA hn hs hq
theorem c81 {l : List MT} (hA : cellsAt H A (l.flatMap ptC)) (hn : n = l.length) (hs : n < big) (hq : ∀ A' c' H', Ext H H' → RowO H' A' n c' 1 (l.flatMap ptC) → (∀ q, rowB A' q → H q = none) → Q (.slice A' n c') H') : HCalls Tryz.prog 81 [.slice A n c] H Q := by
  refine f81.ok _ _ _ ?_
  unfold f81
  exact clo_ok (fun _ => rfl) ptC_one (by omega) (by omega) hA hn hs hq
/-! ### a node is written -/
theorem setE' {t : MT} {A' : Option Addr} {c' n' : Nat} {es' : List EnM} {K : Hp → Prop} (hc : ∃ ty, H t.g = some (.cells (nodeC t.eA t.es.length t.ec t.kA t.ks.length t.kc).toArray ty (0, 0))) (k : RowO H t.kA t.ks.length t.kc 1 (t.ks.flatMap ptC)) (hn : n' = es'.length) (R : RowO H A' es'.length c' 2 (es'.flatMap enC)) (h1 : ¬ rowB A' t.g) (h2 : ¬ rowB t.kA t.g)
    (hk : ∀ H', NodeM H' (.mk t.g A' c' es' t.kA t.kc t.ks) → (∀ q, q ≠ t.g → H' q = H q) → H' t.g ≠ none → K H') : storeF H t.g (0 + 0) [.slice A' n' c'] K := by
  obtain ⟨ty, hc⟩ := hc
  subst hn
  refine ⟨_, ty, hc, by simp [nodeC], hk _ ⟨⟨ty, by rw [show (MT.mk t.g A' c' es' t.kA t.kc t.ks).g = t.g from rfl, upd_at]; rfl⟩, ?_, ?_⟩ (fun q hq => upd_off hq) (by rw [upd_at]; simp)⟩
  · exact R.keep fun q hq _ => upd_off fun e => h1 (e ▸ hq)
  · exact k.keep fun q hq _ => upd_off fun e => h2 (e ▸ hq)
theorem NodeM.setE {t : MT} {A' : Option Addr} {c' n' : Nat} {es' : List EnM} {K : Hp → Prop} (N : NodeM H t) (hn : n' = es'.length) (R : RowO H A' es'.length c' 2 (es'.flatMap enC)) (h1 : ¬ rowB A' t.g) (h2 : ¬ rowB t.kA t.g)
    (hk : ∀ H', NodeM H' (.mk t.g A' c' es' t.kA t.kc t.ks) → (∀ q, q ≠ t.g → H' q = H q) → H' t.g ≠ none → K H') : storeF H t.g (0 + 0) [.slice A' n' c'] K := setE' N.cell N.kr hn R h1 h2 hk
theorem setK' {t : MT} {A' : Option Addr} {c' n' : Nat} {ks' : List MT} {K : Hp → Prop} (hc : ∃ ty, H t.g = some (.cells (nodeC t.eA t.es.length t.ec t.kA t.ks.length t.kc).toArray ty (0, 0))) (e : RowO H t.eA t.es.length t.ec 2 (t.es.flatMap enC)) (hn : n' = ks'.length) (R : RowO H A' ks'.length c' 1 (ks'.flatMap ptC)) (h1 : ¬ rowB A' t.g) (h2 : ¬ rowB t.eA t.g)
    (hk : ∀ H', NodeM H' (.mk t.g t.eA t.ec t.es A' c' ks') → (∀ q, q ≠ t.g → H' q = H q) → H' t.g ≠ none → K H') : storeF H t.g (0 + 1) [.slice A' n' c'] K := by
  obtain ⟨ty, hc⟩ := hc
  subst hn
  refine ⟨_, ty, hc, by simp [nodeC], hk _ ⟨⟨ty, by rw [show (MT.mk t.g t.eA t.ec t.es A' c' ks').g = t.g from rfl, upd_at]; rfl⟩, ?_, ?_⟩ (fun q hq => upd_off hq) (by rw [upd_at]; simp)⟩
  · exact e.keep fun q hq _ => upd_off fun e => h2 (e ▸ hq)
  · exact R.keep fun q hq _ => upd_off fun e => h1 (e ▸ hq)
theorem NodeM.setK {t : MT} {A' : Option Addr} {c' n' : Nat} {ks' : List MT} {K : Hp → Prop} (N : NodeM H t) (hn : n' = ks'.length) (R : RowO H A' ks'.length c' 1 (ks'.flatMap ptC)) (h1 : ¬ rowB A' t.g) (h2 : ¬ rowB t.eA t.g)
    (hk : ∀ H', NodeM H' (.mk t.g t.eA t.ec t.es A' c' ks') → (∀ q, q ≠ t.g → H' q = H q) → H' t.g ≠ none → K H') : storeF H t.g (0 + 1) [.slice A' n' c'] K := by
  obtain ⟨⟨ty, hc⟩, e, k⟩ := N
  subst hn
  refine ⟨_, ty, hc, by simp [nodeC], hk _ ⟨⟨ty, by rw [show (MT.mk t.g t.eA t.ec t.es A' c' ks').g = t.g from rfl, upd_at]; rfl⟩, ?_, ?_⟩ (fun q hq => upd_off hq) (by rw [upd_at]; simp)⟩
  · exact e.keep fun q hq _ => upd_off fun e => h2 (e ▸ hq)
  · exact R.keep fun q hq _ => upd_off fun e => h1 (e ▸ hq)
end
end Go.Proofs.YtmelbipidffmpaaGreatDoor.Hw

/- Nodes: split. -/
set_option linter.unusedVariables false
set_option linter.unusedSimpArgs false
set_option linter.unusedSectionVars false
set_option maxRecDepth 20000
namespace Go.Proofs.YtmelbipidffmpaaGreatDoor.Hw
open Go Go.Proofs
theorem flat_drop {α : Type} {f : α → List Value} {k : Nat} (hf : ∀ x, (f x).length = k) : ∀ {l : List α} {p : Nat}, (l.flatMap f).drop (p * k) = (l.drop p).flatMap f
  | l, 0 => by simp
  | [], p + 1 => by simp
  | x :: r, p + 1 => by
    rw [List.flatMap_cons, List.drop_succ_cons, ← flat_drop hf (l := r) (p := p), Nat.succ_mul, Nat.add_comm, ← hf x, List.drop_append, List.drop_of_length_le (by omega), List.nil_append]
    congr 1; omega
theorem flat_take {α : Type} {f : α → List Value} {k : Nat} (hf : ∀ x, (f x).length = k) : ∀ {l : List α} {p : Nat}, (l.flatMap f).take (p * k) = (l.take p).flatMap f
  | l, 0 => by simp
  | [], p + 1 => by simp
  | x :: r, p + 1 => by
    rw [List.flatMap_cons, List.take_succ_cons, List.flatMap_cons, ← flat_take hf (l := r) (p := p), Nat.succ_mul, Nat.add_comm, ← hf x, List.take_append, List.take_of_length_le (by omega)]
    congr 2; omega
theorem ptC_len (x : MT) : (ptC x).length = 1 := rfl
theorem half_eq {n : Nat} (h : n < big) : IntKind.i64.wrap (Int.tdiv ((n : Nat) : Int) 2) = ((n / 2 : Nat) : Int) := by
  unfold big at h
  rw [Int.tdiv_eq_ediv_of_nonneg (by omega), wrap_id (by omega) (by omega)]
  omega
section
variable {H : Hp} {A : Option Addr} {n c : Nat} {Q : Value → Hp → Prop}
theorem nd1 {t : MT} (nd : (own1 t).Nodup) : ¬ rowB t.eA t.g ∧ ¬ rowB t.kA t.g ∧ ∀ q, rowB t.eA q → ¬ rowB t.kA q := by
  unfold own1 at nd
  rw [List.nodup_cons, List.nodup_append] at nd
  obtain ⟨h1, h2, h3, h4⟩ := nd
  refine ⟨fun h => h1 (List.mem_append_left _ (blk_row.2 h)), fun h => h1 (List.mem_append_right _ (blk_row.2 h)), fun q hq hk => h4 q (blk_row.2 hq) q (blk_row.2 hk) rfl⟩
theorem nd_mk {g : Nat} {A B : Option Addr} {ec kc : Nat} {es : List EnM} {ks : List MT} (h1 : ¬ rowB A g) (h2 : ¬ rowB B g) (h3 : ∀ q, rowB A q → ¬ rowB B q) : (own1 (.mk g A ec es B kc ks)).Nodup := by
  show (g :: (blkA A ++ blkA B)).Nodup
  rw [List.nodup_cons, List.nodup_append]
  refine ⟨fun h => ?_, ?_, ?_, fun a ha b hb e => h3 a (blk_row.1 ha) (by rw [e]; exact blk_row.1 hb)⟩
  · rcases List.mem_append.1 h with h | h
    · exact h1 (blk_row.1 h)
    · exact h2 (blk_row.1 h)
  · unfold blkA; split <;> simp
  · unfold blkA; split <;> simp
theorem c54 {t : MT} (N : NodeM H t) (h8 : 8 < t.es.length) (hs : t.es.length < 1000) (hks : t.ks = [] ∨ t.ks.length = t.es.length + 1) (nd : (own1 t).Nodup)
    (hq : ∀ H' tl tr mid, t.es[t.es.length / 2]? = some mid → NodeM H' tl → NodeM H' tr → tl.g = t.g → tl.es = t.es.take (t.es.length / 2) → tl.ks = t.ks.take (t.es.length / 2 + 1) → tr.es = t.es.drop (t.es.length / 2 + 1) → tr.ks = t.ks.drop (t.es.length / 2 + 1) → own1 tl = own1 t → (own1 tr).Nodup → (∀ q ∈ own1 tr, H q = none) → FrM H H' (own1 t) (own1 t) → Q (.tuple #[enA mid, .pointer (some ⟨tr.g, 0, none⟩)]) H') :
    HCalls Tryz.prog 54 [.pointer (some ⟨t.g, 0, none⟩)] H Q := by
  refine f54.ok _ _ ?_
  unfold f54
  obtain ⟨m, hm⟩ : ∃ m, m = t.es.length / 2 := ⟨_, rfl⟩
  have ew := half_eq (n := t.es.length) (by unfold big; omega)
  rw [← hm] at ew hq
  have ew2 : IntKind.i64.wrap (((m : Nat) : Int) + 1) = ((m + 1 : Nat) : Int) := by rw [wrap_id (by omega) (by omega)]; omega
  have hle := N.er.le
  have hlk := N.kr.le
  obtain ⟨n1, n2, n3⟩ := nd1 nd
  obtain ⟨mid, hmid⟩ := get_of (l := t.es) (i := m) (by omega)
  refine ⟨_, _, _, N.cl0, by decide, _, _, _, N.cl0, ?_⟩
  rw [ew, ew2]
  simp only [Int.toNat_natCast]
  have D := N.er.drop (p := m + 1) (by omega) (by omega)
  rw [flat_drop enC_len] at D
  refine ⟨by omega, by omega, rd_en (N.esAt (by unfold huge; omega)) hmid fun q o _ k1 k2 => ⟨_, _, _, k1, _, k2, _, _, _, N.cl0, by omega, by omega, ?_⟩⟩
  refine c62 (l := t.es.drop (m + 1)) D.cells (by rw [List.length_drop]) (by unfold big; omega) fun A9 c9 H8 x8 R9 nw9 => ⟨_, _, _, rfl, fun g10 hg10 => ?_⟩
  have x11 : Ext H8 (upd g10 (.cells [.slice A9 (t.es.length - (m + 1)) c9, .slice none 0 0].toArray 91 (0, 0)) H8) := Ext.new hg10
  have Nt := N.ext (x8.trans x11)
  have hl9 : (t.es.drop (m + 1)).length = t.es.length - (m + 1) := List.length_drop
  have g10t : g10 ≠ t.g := fun e => N.live t.g (by simp [own1]) (x8.none (by rw [← e]; exact hg10))
  have hg10H : H g10 = none := x8.none hg10
  have nA9 : ¬ rowB A9 g10 := fun h => R9.live h hg10
  have Nr : NodeM (upd g10 (.cells [.slice A9 (t.es.length - (m + 1)) c9, .slice none 0 0].toArray 91 (0, 0)) H8) (.mk g10 A9 c9 (t.es.drop (m + 1)) none 0 []) := ⟨⟨91, by
    rw [show (MT.mk g10 A9 c9 (t.es.drop (m + 1)) none 0 []).g = g10 from rfl, upd_at]
    show _ = some (Obj.cells (nodeC A9 (t.es.drop (m + 1)).length c9 none 0 0).toArray 91 (0, 0))
    rw [hl9]; rfl⟩, by
    show RowO _ A9 (t.es.drop (m + 1)).length c9 2 _
    rw [hl9]; exact R9.ext x11, RowO.nil⟩
  -- what is done at last
  have fin : ∀ (H20 : Hp) (tk tr : MT), NodeM H20 tk → NodeM H20 tr → tk.g = t.g → tk.eA = t.eA → tk.ec = t.ec → tk.es = t.es → tk.kA = t.kA → tk.ks = t.ks.take (m + 1) → tr.es = t.es.drop (m + 1) → tr.ks = t.ks.drop (m + 1) → tr.g = g10 → (own1 tr).Nodup → (∀ q ∈ own1 tr, H q = none) → FrM H H20 (own1 t) (own1 t) →
      ∃ (A22 : Option Addr) (n22 c22 : Nat), cl H20 t.g (0 + 0) = some (.slice A22 n22 c22) ∧ 0 ≤ (((m : Nat) : Int) : Int) ∧ ((m : Nat) : Int) ≤ ((c22 : Nat) : Int) ∧ storeF H20 t.g (0 + 0) [.slice (cutA A22 (0 * 2) (decide (c22 = 0))) (m - 0) (c22 - 0)] fun H23 => Q (.tuple #[.agg #[.slice mid.A mid.key.length mid.c, .int .i64 mid.id], .pointer (some ⟨g10, 0, none⟩)]) H23 := by
    intro H20 tk tr N1 N2 e1 e2 e3 e4 e5 e6 r1 r2 r3 r4 r5 F
    have c0 := N1.cl0
    rw [e1, e2, e3, e4] at c0
    refine ⟨_, _, _, c0, by omega, by omega, ?_⟩
    rw [cut_zero, Nat.sub_zero, Nat.sub_zero]
    have T := (N1.er.take (p := m) (by rw [e4]; omega))
    rw [flat_take enC_len, e2, e3, e4] at T
    have hlt : (t.es.take m).length = m := by rw [List.length_take]; omega
    have st := N1.setE (A' := t.eA) (c' := t.ec) (n' := m) (es' := t.es.take m) (K := fun H23 => Q (.tuple #[.agg #[.slice mid.A mid.key.length mid.c, .int .i64 mid.id], .pointer (some ⟨g10, 0, none⟩)]) H23) hlt.symm (by rw [hlt]; exact T) (by rw [e1]; exact n1) (by rw [e1, e5]; exact n2) fun H23 N23 off lv => ?_
    · rw [e1] at st; exact st
    · have := hq H23 _ tr mid hmid N23 (N2.keep fun q hq => off q fun e => ?_) e1 rfl e6 r1 r2 (by
        show tk.g :: (blkA t.eA ++ blkA tk.kA) = _
        rw [e1, e5]; rfl) r4 r5 (F.trans ⟨fun q hq => ?_, fun q hq => .inl hq, fun q hq => ?_⟩)
      · rw [r3] at this; exact this
      · rw [e, e1] at hq; exact N.live t.g (by simp [own1]) (r5 _ hq)
      · by_cases e : q = tk.g
        · subst e; rw [e1]; exact .inl (by simp [own1])
        · exact absurd (off q e) hq
      · by_cases e : q = tk.g
        · subst e; exact lv
        · rw [off q e]; exact hq
  refine jn_intro (fun J => ∀ (H20 : Hp) (tk tr : MT), NodeM H20 tk → NodeM H20 tr → tk.g = t.g → tk.eA = t.eA → tk.ec = t.ec → tk.es = t.es → tk.kA = t.kA → tk.ks = t.ks.take (m + 1) → tr.es = t.es.drop (m + 1) → tr.ks = t.ks.drop (m + 1) → tr.g = g10 → (own1 tr).Nodup → (∀ q ∈ own1 tr, H q = none) → FrM H H20 (own1 t) (own1 t) → J H20) fin fun J hJ => ⟨_, _, _, Nt.cl1, ?_⟩
  refine cndI (fun h => ?_) fun h => ?_
  · have h := of_decide_eq_true h
    have hkl : t.ks.length = t.es.length + 1 := by
      rcases hks with h' | h'
      · rw [h'] at h; simp at h
      · exact h'
    have DK := Nt.kr.drop (p := m + 1) (by omega) (by omega)
    rw [flat_drop ptC_len] at DK
    have hlk2 : (t.ks.drop (m + 1)).length = t.ks.length - (m + 1) := List.length_drop
    refine ⟨_, _, _, Nt.cl1, by omega, by omega, c81 (l := t.ks.drop (m + 1)) DK.cells hlk2.symm (by unfold big; omega) fun A16 c16 H15 x15 R16 nw16 => ⟨_, _, _, rfl, ?_⟩⟩
    have Nr15 := Nr.ext x15
    have nA16 : ¬ rowB A16 g10 := fun h => by
      have := nw16 _ h
      rw [upd_at] at this; cases this
    have n916 : ∀ q, rowB A9 q → ¬ rowB A16 q := fun q h9 h16 => by
      have h1 := x11.none (nw16 q h16)
      exact R9.live h9 h1
    have st := Nr15.setK (A' := A16) (c' := c16) (n' := t.ks.length - (m + 1)) (ks' := t.ks.drop (m + 1)) (K := fun H17 => ∃ (A18 : Option Addr) (n18 c18 : Nat), cl H17 t.g (0 + 1) = some (.slice A18 n18 c18) ∧ 0 ≤ (((m + 1 : Nat) : Int) : Int) ∧ ((m + 1 : Nat) : Int) ≤ ((c18 : Nat) : Int) ∧ storeF H17 t.g (0 + 1) [.slice (cutA A18 (0 * 1) (decide (c18 = 0))) ((m + 1) - 0) (c18 - 0)] fun H19 => J H19) hlk2.symm (by rw [hlk2]; exact R16) nA16 nA9 fun H17 N17 off lv => ?_
    · exact st
    · have Nt17 : NodeM H17 t := (Nt.ext x15).keep fun q hq => off q fun e => by
        rw [e] at hq
        exact N.live g10 hq hg10H
      have T := Nt17.kr.take (p := m + 1) (by omega)
      rw [flat_take ptC_len] at T
      have hlt : (t.ks.take (m + 1)).length = m + 1 := by rw [List.length_take]; omega
      refine ⟨_, _, _, Nt17.cl1, by omega, by omega, ?_⟩
      rw [cut_zero, Nat.sub_zero, Nat.sub_zero]
      refine Nt17.setK (A' := t.kA) (c' := t.kc) (n' := m + 1) (ks' := t.ks.take (m + 1)) hlt.symm (by rw [hlt]; exact T) n2 n1 fun H19 N19 off2 lv2 => hJ H19 _ _ N19 (N17.keep fun q hq => off2 q fun e => ?_) rfl rfl rfl rfl rfl rfl rfl rfl rfl (nd_mk nA9 nA16 n916) (fun q hq => ?_) ⟨fun q hq => ?_, fun q hq => .inl hq, fun q hq => ?_⟩
      · -- the right node lies apart from t
        have hq' : H q = none := by
          have hq : q = g10 ∨ rowB A9 q ∨ rowB A16 q := by
            rcases List.mem_cons.1 hq with h | h
            · exact .inl h
            · rcases List.mem_append.1 h with h | h
              · exact .inr (.inl (blk_row.1 h))
              · exact .inr (.inr (blk_row.1 h))
          rcases hq with rfl | h | h
          · exact hg10H
          · exact nw9 q h
          · exact x8.none (x11.none (nw16 q h))
        exact N.live t.g (by simp [own1]) (by rw [← e]; exact hq')
      · rcases List.mem_cons.1 hq with rfl | h
        · exact hg10H
        · rcases List.mem_append.1 h with h | h
          · exact nw9 q (blk_row.1 h)
          · exact x8.none (x11.none (nw16 q (blk_row.1 h)))
      · by_cases e : q = t.g
        · subst e; exact .inl (by simp [own1])
        · refine .inr (Classical.byContradiction fun hn => hq ?_)
          rw [off2 q e, off q (fun e2 => hn (by rw [e2]; exact hg10H))]
          exact ext_at (x8.trans (x11.trans x15)) hn
      · by_cases e : q = t.g
        · subst e; exact lv2
        · rw [off2 q e]
          by_cases e2 : q = g10
          · subst e2; exact lv
          · rw [off q e2, ext_at (x8.trans (x11.trans x15)) hq]; exact hq
  · have h := of_decide_eq_false h
    have hk0 : t.ks = [] := List.eq_nil_of_length_eq_zero (by omega)
    refine hJ _ t _ Nt Nr rfl rfl rfl rfl rfl (by rw [hk0]; rfl) rfl (by rw [hk0]; rfl) rfl (nd_mk nA9 (fun ⟨_, _, h⟩ => by cases h) (fun q _ ⟨_, _, h⟩ => by cases h)) (fun q hq => ?_) (FrM.ofExt (x8.trans x11))
    rcases List.mem_cons.1 hq with rfl | h
    · exact hg10H
    · rcases List.mem_append.1 h with h | h
      · exact nw9 q (blk_row.1 h)
      · simp [blkA, MT.kA] at h
end
end Go.Proofs.YtmelbipidffmpaaGreatDoor.Hw

/- Nodes: what lies apart; insert at a leaf. -/
set_option linter.unusedVariables false
set_option linter.unusedSimpArgs false
set_option linter.unusedSectionVars false
set_option maxRecDepth 20000
namespace Go.Proofs.YtmelbipidffmpaaGreatDoor.Hw
open Go Go.Proofs
def Apart (h : Nat) (u v : MT) : Prop := ∀ q ∈ ownM h u, q ∉ ownM h v
def SepM : Nat → MT → Prop
  | 0, t => (own1 t).Nodup
  | h + 1, t => (own1 t).Nodup ∧ (∀ u ∈ t.ks, SepM h u ∧ ∀ q ∈ ownM h u, q ∉ own1 t) ∧ t.ks.Pairwise (Apart h)
theorem SepM.one {h : Nat} {t : MT} (S : SepM h t) : (own1 t).Nodup := by
  cases h with
  | zero => exact S
  | succ h => exact S.1
theorem own_mem {h : Nat} {t : MT} {q : Nat} : q ∈ ownM (h + 1) t ↔ q ∈ own1 t ∨ ∃ u ∈ t.ks, q ∈ ownM h u := by
  show q ∈ own1 t ++ t.ks.flatMap (ownM h) ↔ _
  rw [List.mem_append, List.mem_flatMap]
section
variable {H H' : Hp} {h : Nat} {t t' u : MT} {K1 K2 L : List MT}
/-- One kid gives way to some. -/
theorem sep_replace (S : SepM (h + 1) t) (hk : t.ks = K1 ++ u :: K2) (hlive : ∀ q ∈ ownM (h + 1) t, H q ≠ none) (hL : ∀ v ∈ L, SepM h v) (hLp : L.Pairwise (Apart h)) (hLn : ∀ v ∈ L, ∀ q ∈ ownM h v, q ∈ ownM h u ∨ H q = none)
    (ht : t'.ks = K1 ++ (L ++ K2)) (ho : (own1 t').Nodup) (hoq : ∀ q ∈ own1 t', q ∈ own1 t ∨ (H q = none ∧ ∀ v ∈ L, q ∉ ownM h v)) : SepM (h + 1) t' := by
  obtain ⟨s1, s2, s3⟩ := S
  rw [hk] at s2 s3
  rw [List.pairwise_append] at s3
  obtain ⟨p1, p2, p3⟩ := s3
  rw [List.pairwise_cons] at p2
  obtain ⟨p4, p5⟩ := p2
  have lv : ∀ v, v ∈ K1 ∨ v ∈ K2 → ∀ q ∈ ownM h v, H q ≠ none := fun v hv q hq => hlive q (own_mem.2 (.inr ⟨v, by rw [hk]; rcases hv with hv | hv <;> simp [hv], hq⟩))
  have sep : ∀ v, v ∈ K1 ∨ v ∈ K2 → ∀ q ∈ ownM h v, q ∉ ownM h u := fun v hv q hq hu => by
    rcases hv with hv | hv
    · exact p3 v hv u (List.mem_cons_self ..) q hq hu
    · exact p4 v hv q hu hq
  refine ⟨ho, fun v hv => ?_, ?_⟩
  · rw [ht] at hv
    have old : v ∈ K1 ∨ v ∈ K2 → SepM h v ∧ ∀ q ∈ ownM h v, q ∉ own1 t' := fun hv => by
      have hv' : v ∈ K1 ++ u :: K2 := by rcases hv with hv | hv <;> simp [hv]
      refine ⟨(s2 v hv').1, fun q hq ho' => ?_⟩
      rcases hoq q ho' with h' | h'
      · exact (s2 v hv').2 q hq h'
      · exact lv v hv q hq h'.1
    rcases List.mem_append.1 hv with hv | hv
    · exact old (.inl hv)
    · rcases List.mem_append.1 hv with hv | hv
      · refine ⟨hL v hv, fun q hq ho' => ?_⟩
        rcases hoq q ho' with h' | h'
        · rcases hLn v hv q hq with h2 | h2
          · exact (s2 u (by simp)).2 q h2 h'
          · exact hlive q (own_mem.2 (.inl h')) h2
        · exact h'.2 v hv hq
      · exact old (.inr hv)
  · rw [ht, List.pairwise_append, List.pairwise_append]
    have new : ∀ v ∈ L, ∀ w, w ∈ K1 ∨ w ∈ K2 → ∀ q ∈ ownM h v, q ∉ ownM h w := fun v hv w hw q hq hqw => by
      rcases hLn v hv q hq with h' | h'
      · exact sep w hw q hqw h'
      · exact lv w hw q hqw h'
    refine ⟨p1, ⟨hLp, p5, fun v hv w hw => new v hv w (.inr hw)⟩, fun v hv w hw => ?_⟩
    rcases List.mem_append.1 hw with hw | hw
    · exact fun q hq hqw => new w hw v (.inl hv) q hqw hq
    · exact p3 v hv w (List.mem_cons_of_mem _ hw)
theorem kids_split {α : Type} {l : List α} {i : Nat} {x : α} (hx : l[i]? = some x) : l = l.take i ++ x :: l.drop (i + 1) := by
  obtain ⟨h1, h2⟩ := List.getElem?_eq_some_iff.1 hx
  conv => lhs; rw [← List.take_append_drop i l, List.drop_eq_getElem_cons h1, h2]
theorem flat_split (hk : t.ks = K1 ++ u :: K2) {E1 E2 : List EnM} (he : t.es = E1 ++ E2) (hl : K1.length = E1.length) : flatM (h + 1) t = zipE (K1.map (flatM h)) E1 ++ flatM h u ++ restE (K2.map (flatM h)) E2 := by
  show inter (t.ks.map (flatM h)) t.es = _
  rw [hk, he, List.map_append, List.map_cons, inter_app (by rw [List.length_map]; exact hl), inter_head, List.append_assoc]
theorem cnt_lt {l : List EnM} {e x : EnM} {i : Nat} (hi : i < cntE l e) (hx : l[i]? = some x) : ordE x e < 0 := of_decide_eq_true (tw_lt (p := fun x => decide (ordE x e < 0)) hi hx)
theorem cnt_ge {l : List EnM} {e x : EnM} {i : Nat} (hs : SrtE l) (hi : cntE l e ≤ i) (hx : l[i]? = some x) : ¬ ordE x e < 0 := of_decide_eq_false (tw_ge (p := fun x => decide (ordE x e < 0)) (cnt_mono hs e) hi hx)
theorem cnt_le {l : List EnM} {e : EnM} : cntE l e ≤ l.length := tw_le
theorem ord_flip {x e : EnM} (h1 : ¬ ordE x e < 0) (h2 : ordE x e ≠ 0) : ordE e x < 0 := by have := ordE_ok.anti x e; omega
theorem Put.here {l : List EnM} {e : EnM} (hs : SrtE l) (hne : ∀ x ∈ l, ordE x e ≠ 0) : Put l e (l.take (cntE l e) ++ e :: l.drop (cntE l e)) := by
  refine ⟨l.take (cntE l e), l.drop (cntE l e), (List.take_append_drop _ _).symm, rfl, fun x hx => ?_, fun x hx => ?_⟩
  · obtain ⟨i, hi⟩ := List.mem_iff_getElem?.1 hx
    have hlt := (List.getElem?_eq_some_iff.1 hi).1
    rw [List.length_take] at hlt
    rw [List.getElem?_take_of_lt (by omega)] at hi
    exact cnt_lt (by omega) hi
  · obtain ⟨i, hi⟩ := List.mem_iff_getElem?.1 hx
    rw [List.getElem?_drop] at hi
    exact ord_flip (cnt_ge hs (by omega) hi) (hne x (List.mem_of_mem_drop hx))
theorem flat_ins {α : Type} {f : α → List Value} {k i : Nat} {l : List α} {x : α} (hf : ∀ x, (f x).length = k) : (l.flatMap f).take (i * k) ++ f x ++ (l.flatMap f).drop (i * k) = (l.take i ++ x :: l.drop i).flatMap f := by
  rw [flat_take hf, flat_drop hf, List.flatMap_append, List.flatMap_cons, List.append_assoc]
theorem en_one {l : List EnM} : ∀ v ∈ l.flatMap enC, v.oneCell' = true := fun v hv => by obtain ⟨x, _, hx⟩ := List.mem_flatMap.1 hv; exact enC_one x v hx
theorem pt_one {l : List MT} : ∀ v ∈ l.flatMap ptC, v.oneCell' = true := fun v hv => by obtain ⟨x, _, hx⟩ := List.mem_flatMap.1 hv; exact ptC_one x v hx
/-- An entry is put into a node's own entries, the number of the place given. -/
theorem insE {t : MT} {e : EnM} {i : Nat} {K : Hp → Prop} (N : NodeM H t) (nd : (own1 t).Nodup) (hi : i ≤ t.es.length) (hs : t.es.length < 1000)
    (hk : ∀ H' A' c', NodeM H' (.mk t.g A' c' (t.es.take i ++ e :: t.es.drop i) t.kA t.kc t.ks) → (own1 (.mk t.g A' c' (t.es.take i ++ e :: t.es.drop i) t.kA t.kc t.ks)).Nodup → FrM H H' (own1 t) (own1 (.mk t.g A' c' (t.es.take i ++ e :: t.es.drop i) t.kA t.kc t.ks)) → K H') :
    newF H 46 (enC e) fun g7 H8 => HCalls Tryz.prog 79 [.slice t.eA t.es.length t.ec, .int .i64 (i : Int), .slice (some ⟨g7, 0, none⟩) 1 1] H8 fun v9 H10 => ∃ (A11 : Option Addr) (n11 c11 : Nat), v9 = .slice A11 n11 c11 ∧ storeF H10 t.g (0 + 0) [.slice A11 n11 c11] K := by
  intro g7 hg7
  obtain ⟨n1, n2, n3⟩ := nd1 nd
  have x8 : Ext H (upd g7 (.cells (enC e).toArray 46 (0, 0)) H) := Ext.new hg7
  have N8 := N.ext x8
  refine f79.ok _ _ _ _ _ _ _ ?_
  rw [f79_is]
  refine ins_ok (x := enC e) N8.er (by omega) rfl rfl (enC_one e) en_one hi (by unfold big; omega) (by omega) upd_at (fun h => N.er.live h hg7) fun A' c' H10 R10 F10 => ⟨_, _, _, rfl, ?_⟩
  rw [flat_ins enC_len] at R10
  have hl : (t.es.take i ++ e :: t.es.drop i).length = t.es.length + 1 := by simp; omega
  have tl : H t.g ≠ none := N.live t.g (by simp [own1])
  have nA : ∀ q, rowB A' q → rowB t.eA q ∨ H q = none := fun q hq => (F10.nw q hq).imp id fun h => x8.none h
  have h1 : ¬ rowB A' t.g := fun h => by
    rcases nA _ h with h | h
    · exact n1 h
    · exact tl h
  have keep : ∀ q, ¬ rowB t.eA q → (upd g7 (.cells (enC e).toArray 46 (0, 0)) H) q ≠ none → H10 q = (upd g7 (.cells (enC e).toArray 46 (0, 0)) H) q := fun q hq hn => Classical.byContradiction fun hne => by
    rcases F10.ch q hne with h | h
    · exact hq h
    · exact hn h
  obtain ⟨ty, hc⟩ := N8.cell
  have hc10 : ∃ ty, H10 t.g = some (.cells (nodeC t.eA t.es.length t.ec t.kA t.ks.length t.kc).toArray ty (0, 0)) := ⟨ty, (keep _ n1 (by rw [hc]; simp)).trans hc⟩
  have k10 : RowO H10 t.kA t.ks.length t.kc 1 (t.ks.flatMap ptC) := N8.kr.keep fun q hq hn => keep q (fun h => n3 q h hq) hn
  refine setE' hc10 k10 hl.symm (by rw [hl]; exact R10) h1 n2 fun H12 N12 off lv => hk H12 A' c' N12 (nd_mk h1 n2 fun q hq hkq => ?_) ⟨fun q hq => ?_, fun q hq => ?_, fun q hq => ?_⟩
  · rcases nA q hq with h | h
    · exact n3 q h hkq
    · exact N.kr.live hkq h
  · by_cases e1 : q = t.g
    · subst e1; exact .inl (by simp [own1])
    · rw [off q e1] at hq
      by_cases e2 : H10 q = (upd g7 (.cells (enC e).toArray 46 (0, 0)) H) q
      · rw [e2] at hq
        by_cases e3 : q = g7
        · subst e3; exact .inr hg7
        · rw [upd_off e3] at hq; exact absurd rfl hq
      · rcases F10.ch q e2 with h | h
        · exact .inl (by simp [own1, blk_row, h])
        · exact .inr (x8.none h)
  · rcases List.mem_cons.1 hq with h | h
    · exact .inl (by rw [h]; simp [own1, MT.g])
    · rcases List.mem_append.1 h with h | h
      · rcases nA q (blk_row.1 h) with h | h
        · exact .inl (by simp [own1, blk_row, h])
        · exact .inr h
      · exact .inl (by simp only [own1, List.mem_cons, List.mem_append]; exact .inr (.inr h))
  · by_cases e1 : q = t.g
    · subst e1; exact lv
    · rw [off q e1]
      exact F10.al q fun e => hq ((ext_at x8 hq).symm.trans e)
/-- A kid is put into a node's own kids. -/
theorem insK {t v : MT} {i : Nat} {K : Hp → Prop} (N : NodeM H t) (nd : (own1 t).Nodup) (hi : i ≤ t.ks.length) (hs : t.ks.length < 1000)
    (hk : ∀ H' A' c', NodeM H' (.mk t.g t.eA t.ec t.es A' c' (t.ks.take i ++ v :: t.ks.drop i)) → (own1 (.mk t.g t.eA t.ec t.es A' c' (t.ks.take i ++ v :: t.ks.drop i))).Nodup → FrM H H' (own1 t) (own1 (.mk t.g t.eA t.ec t.es A' c' (t.ks.take i ++ v :: t.ks.drop i))) → K H') :
    newF H 86 [.pointer (some ⟨v.g, 0, none⟩)] fun g7 H8 => HCalls Tryz.prog 80 [.slice t.kA t.ks.length t.kc, .int .i64 (i : Int), .slice (some ⟨g7, 0, none⟩) 1 1] H8 fun v9 H10 => ∃ (A11 : Option Addr) (n11 c11 : Nat), v9 = .slice A11 n11 c11 ∧ storeF H10 t.g (0 + 1) [.slice A11 n11 c11] K := by
  intro g7 hg7
  obtain ⟨n1, n2, n3⟩ := nd1 nd
  have x8 : Ext H (upd g7 (.cells (ptC v).toArray 86 (0, 0)) H) := Ext.new hg7
  have N8 := N.ext x8
  refine f80.ok _ _ _ _ _ _ _ ?_
  rw [f80_is]
  refine ins_ok (x := ptC v) N8.kr (by omega) rfl rfl (ptC_one v) pt_one hi (by unfold big; omega) (by omega) upd_at (fun h => N.kr.live h hg7) fun A' c' H10 R10 F10 => ⟨_, _, _, rfl, ?_⟩
  rw [flat_ins ptC_len] at R10
  have hl : (t.ks.take i ++ v :: t.ks.drop i).length = t.ks.length + 1 := by simp; omega
  have tl : H t.g ≠ none := N.live t.g (by simp [own1])
  have nA : ∀ q, rowB A' q → rowB t.kA q ∨ H q = none := fun q hq => (F10.nw q hq).imp id fun h => x8.none h
  have h1 : ¬ rowB A' t.g := fun h => by
    rcases nA _ h with h | h
    · exact n2 h
    · exact tl h
  have keep : ∀ q, ¬ rowB t.kA q → (upd g7 (.cells (ptC v).toArray 86 (0, 0)) H) q ≠ none → H10 q = (upd g7 (.cells (ptC v).toArray 86 (0, 0)) H) q := fun q hq hn => Classical.byContradiction fun hne => by
    rcases F10.ch q hne with h | h
    · exact hq h
    · exact hn h
  obtain ⟨ty, hc⟩ := N8.cell
  have hc10 : ∃ ty, H10 t.g = some (.cells (nodeC t.eA t.es.length t.ec t.kA t.ks.length t.kc).toArray ty (0, 0)) := ⟨ty, (keep _ n2 (by rw [hc]; simp)).trans hc⟩
  have k10 : RowO H10 t.eA t.es.length t.ec 2 (t.es.flatMap enC) := N8.er.keep fun q hq hn => keep q (fun h => n3 q hq h) hn
  refine setK' hc10 k10 hl.symm (by rw [hl]; exact R10) h1 n1 fun H12 N12 off lv => hk H12 A' c' N12 (nd_mk n1 h1 fun q hq hkq => ?_) ⟨fun q hq => ?_, fun q hq => ?_, fun q hq => ?_⟩
  · rcases nA q hkq with h | h
    · exact n3 q hq h
    · exact N.er.live hq h
  · by_cases e1 : q = t.g
    · subst e1; exact .inl (by simp [own1])
    · rw [off q e1] at hq
      by_cases e2 : H10 q = (upd g7 (.cells (ptC v).toArray 86 (0, 0)) H) q
      · rw [e2] at hq
        by_cases e3 : q = g7
        · subst e3; exact .inr hg7
        · rw [upd_off e3] at hq; exact absurd rfl hq
      · rcases F10.ch q e2 with h | h
        · exact .inl (by simp [own1, blk_row, h])
        · exact .inr (x8.none h)
  · rcases List.mem_cons.1 hq with h | h
    · exact .inl (by rw [h]; simp [own1, MT.g])
    · rcases List.mem_append.1 h with h | h
      · exact .inl (by simp only [own1, List.mem_cons, List.mem_append]; exact .inr (.inl h))
      · rcases nA q (blk_row.1 h) with h | h
        · exact .inl (by simp [own1, blk_row, h])
        · exact .inr h
  · by_cases e1 : q = t.g
    · subst e1; exact lv
    · rw [off q e1]
      exact F10.al q fun e => hq ((ext_at x8 hq).symm.trans e)
end
end Go.Proofs.YtmelbipidffmpaaGreatDoor.Hw

/- Nodes: split, of whole trees. -/
set_option linter.unusedVariables false
set_option linter.unusedSimpArgs false
set_option linter.unusedSectionVars false
set_option maxRecDepth 20000
namespace Go.Proofs.YtmelbipidffmpaaGreatDoor.Hw
open Go Go.Proofs
theorem inter_mid {α : Type} {x : α} : ∀ {K1 K2 : List (List α)} {E1 E2 : List α}, K1.length = E1.length + 1 → inter (K1 ++ K2) (E1 ++ x :: E2) = inter K1 E1 ++ x :: inter K2 E2
  | [], _, E1, _, h => by simp at h
  | k :: K1, K2, [], E2, h => by
    have : K1 = [] := List.eq_nil_of_length_eq_zero (by simpa using h)
    subst this
    show k ++ x :: inter K2 E2 = (k ++ inter [] []) ++ x :: inter K2 E2
    simp [inter]
  | k :: K1, K2, e :: E1, E2, h => by
    show k ++ e :: inter (K1 ++ K2) (E1 ++ x :: E2) = (k ++ e :: inter K1 E1) ++ x :: inter K2 E2
    rw [inter_mid (by simpa using h)]
    simp
section
variable {H H' : Hp} {h lo : Nat} {t u : MT} {Q : Value → Hp → Prop}
theorem FullM.ks_len (F : FullM lo 9 h t) : t.ks = [] ∨ t.ks.length = t.es.length + 1 := by
  cases h with
  | zero => exact .inl F.1
  | succ h => exact .inr F.1
theorem FullM.top {hi : Nat} (F : FullM lo hi h t) : lo ≤ t.es.length ∧ t.es.length ≤ hi := by
  cases h with
  | zero => exact ⟨F.2.1, F.2.2⟩
  | succ h => exact ⟨F.2.1, F.2.2.1⟩
theorem c54m (M : MemM H h t) (S : SepM h t) (F : FullM lo 9 h t) (h8 : 8 < t.es.length)
    (hq : ∀ H' tl tr mid, MemM H' h tl → MemM H' h tr → SepM h tl → SepM h tr → Apart h tl tr → FullM 3 8 h tl → FullM 3 8 h tr → tl.g = t.g → flatM h t = flatM h tl ++ mid :: flatM h tr →
      (∀ q ∈ ownM h tl, q ∈ ownM h t ∨ H q = none) → (∀ q ∈ ownM h tr, q ∈ ownM h t ∨ H q = none) → FrM H H' (ownM h t) (ownM h t) → Q (.tuple #[enA mid, .pointer (some ⟨tr.g, 0, none⟩)]) H') :
    HCalls Tryz.prog 54 [.pointer (some ⟨t.g, 0, none⟩)] H Q := by
  have h9 := F.top.2
  have hlen : t.es.length = 9 := by omega
  refine c54 M.node h8 (by omega) F.ks_len S.one fun H' tl tr mid hmid Nl Nr e1 e2 e3 e4 e5 e6 ndr nwr Fr => ?_
  rw [hlen] at hmid e2 e3 e4 e5
  have hmid : t.es[4]? = some mid := hmid
  have e2 : tl.es = t.es.take 4 := e2
  have e3 : tl.ks = t.ks.take 5 := e3
  have e4 : tr.es = t.es.drop 5 := e4
  have e5 : tr.ks = t.ks.drop 5 := e5
  have hes : t.es = t.es.take 4 ++ mid :: t.es.drop 5 := kids_split hmid
  have frw : FrM H H' (ownM h t) (ownM h t) := ⟨fun q hq => (Fr.ch q hq).imp own1_sub id, fun q hq => .inl hq, Fr.al⟩
  have ll : tl.es.length = 4 := by rw [e2, List.length_take]; omega
  have lr : tr.es.length = 4 := by rw [e4, List.length_drop]; omega
  cases h with
  | zero =>
    have hk0 : t.ks = [] := F.1
    rw [hk0] at e3 e5
    exact hq H' tl tr mid ⟨Nl, e3⟩ ⟨Nr, e5⟩ (by show (own1 tl).Nodup; rw [e6]; exact S) ndr (fun q h1 h2 => by
      have h1 : q ∈ own1 tl := h1
      rw [e6] at h1
      exact M.node.live q h1 (nwr q h2)) ⟨e3, by omega, by omega⟩ ⟨e5, by omega, by omega⟩ e1 (by
      show t.es = tl.es ++ mid :: tr.es
      rw [e2, e4]; exact hes) (fun q h1 => .inl (by have h1 : q ∈ own1 tl := h1; rw [e6] at h1; exact h1)) (fun q h1 => .inr (nwr q h1)) frw
  | succ h =>
    obtain ⟨s1, s2, s3⟩ := S
    obtain ⟨f1, f2, f3, f4⟩ := F
    have hksl : t.ks.length = 10 := by omega
    have hkk : t.ks = tl.ks ++ tr.ks := by rw [e3, e5]; exact (List.take_append_drop 5 t.ks).symm
    have ml : ∀ v ∈ tl.ks, v ∈ t.ks := fun v hv => by rw [hkk]; exact List.mem_append_left _ hv
    have mr : ∀ v ∈ tr.ks, v ∈ t.ks := fun v hv => by rw [hkk]; exact List.mem_append_right _ hv
    have mem' : ∀ v ∈ t.ks, MemM H' h v := fun v hv => (M.2 v hv).keep fun q hq => Fr.off ((s2 v hv).2 q hq) ((M.2 v hv).live q hq)
    rw [hkk] at s3
    rw [List.pairwise_append] at s3
    obtain ⟨p1, p2, p3⟩ := s3
    have lkl : tl.ks.length = 5 := by rw [e3, List.length_take]; omega
    have lkr : tr.ks.length = 5 := by rw [e5, List.length_drop]; omega
    refine hq H' tl tr mid ⟨Nl, fun v hv => mem' v (ml v hv)⟩ ⟨Nr, fun v hv => mem' v (mr v hv)⟩ ⟨by rw [e6]; exact s1, fun v hv => ⟨(s2 v (ml v hv)).1, fun q hq => by rw [e6]; exact (s2 v (ml v hv)).2 q hq⟩, p1⟩
      ⟨ndr, fun v hv => ⟨(s2 v (mr v hv)).1, fun q hq h2 => (M.2 v (mr v hv)).live q hq (nwr q h2)⟩, p2⟩ (fun q h1 h2 => ?_) ⟨by omega, by omega, by omega, fun v hv => f4 v (ml v hv)⟩ ⟨by omega, by omega, by omega, fun v hv => f4 v (mr v hv)⟩ e1 ?_ (fun q h1 => ?_) (fun q h1 => ?_) frw
    · rcases own_mem.1 h1 with h1 | ⟨v, hv, h1⟩
      · rw [e6] at h1
        rcases own_mem.1 h2 with h2 | ⟨w, hw, h2⟩
        · exact M.node.live q h1 (nwr q h2)
        · exact (s2 w (mr w hw)).2 q h2 h1
      · rcases own_mem.1 h2 with h2 | ⟨w, hw, h2⟩
        · exact (M.2 v (ml v hv)).live q h1 (nwr q h2)
        · exact p3 v hv w hw q h1 h2
    · show inter (t.ks.map (flatM h)) t.es = inter (tl.ks.map (flatM h)) tl.es ++ mid :: inter (tr.ks.map (flatM h)) tr.es
      rw [e2, e4]
      conv => lhs; rw [hes, hkk, List.map_append]
      rw [inter_mid]
      rw [List.length_map, ← e2, ll, lkl]
    · rcases own_mem.1 h1 with h1 | ⟨v, hv, h1⟩
      · rw [e6] at h1; exact .inl (own_mem.2 (.inl h1))
      · exact .inl (own_mem.2 (.inr ⟨v, ml v hv, h1⟩))
    · rcases own_mem.1 h1 with h1 | ⟨v, hv, h1⟩
      · exact .inr (nwr q h1)
      · exact .inl (own_mem.2 (.inr ⟨v, mr v hv, h1⟩))
theorem zip_last {α : Type} : ∀ {K : List (List α)} {E : List α} {x : α}, K.length = E.length → E.getLast? = some x → ∃ Z, zipE K E = Z ++ [x]
  | [], [], x, _, h => by simp at h
  | [], _ :: _, _, h, _ => by simp at h
  | _ :: _, [], _, h, _ => by simp at h
  | k :: K, e :: E, x, hl, h => by
    cases E with
    | nil =>
      have : K = [] := List.eq_nil_of_length_eq_zero (by simpa using hl)
      subst this
      have : e = x := by simpa using h
      subst this
      exact ⟨k, rfl⟩
    | cons e' E =>
      obtain ⟨Z, hZ⟩ := zip_last (K := K) (E := e' :: E) (x := x) (by simpa using hl) (by simpa using h)
      exact ⟨k ++ e :: Z, by show k ++ e :: zipE K (e' :: E) = _; rw [hZ]; simp⟩
/-- Where an entry goes down: what is to the left is less, what is to the right is more. -/
theorem way_down {e : EnM} {K1 K2 : List MT} (hk : t.ks = K1 ++ u :: K2) {i : Nat} (hi : i = cntE t.es e) (hl : K1.length = i) (hl2 : t.ks.length = t.es.length + 1) (hs : SrtE (flatM (h + 1) t)) (hne : ∀ x ∈ flatM (h + 1) t, ordE x e ≠ 0) (hes : SrtE t.es) :
    (∀ x ∈ zipE (K1.map (flatM h)) (t.es.take i), ordE x e < 0) ∧ ∀ x ∈ restE (K2.map (flatM h)) (t.es.drop i), ordE e x < 0 := by
  have hle := cnt_le (l := t.es) (e := e)
  have hf := flat_split (h := h) hk (E1 := t.es.take i) (E2 := t.es.drop i) (List.take_append_drop _ _).symm (by rw [List.length_take]; omega)
  rw [hf] at hs hne
  unfold SrtE at hs
  rw [List.append_assoc, List.pairwise_append, List.pairwise_append] at hs
  obtain ⟨q1, ⟨q2, q3, q4⟩, q5⟩ := hs
  refine ⟨fun x hx => ?_, fun x hx => ?_⟩
  · cases hg : (t.es.take i).getLast? with
    | none =>
      have : t.es.take i = [] := List.getLast?_eq_none_iff.1 hg
      rw [this] at hx
      cases hK : K1.map (flatM h) <;> rw [hK] at hx <;> simp [zipE] at hx
    | some y =>
      obtain ⟨Z, hZ⟩ := zip_last (K := K1.map (flatM h)) (E := t.es.take i) (by rw [List.length_map, List.length_take]; omega) hg
      have hy : ordE y e < 0 := by
        have hmem : y ∈ t.es.take i := List.mem_of_getLast? hg
        obtain ⟨j, hj⟩ := List.mem_iff_getElem?.1 hmem
        have hlt := (List.getElem?_eq_some_iff.1 hj).1
        rw [List.length_take] at hlt
        rw [List.getElem?_take_of_lt (by omega)] at hj
        exact cnt_lt (by omega) hj
      rw [hZ] at q1 hx
      rw [List.pairwise_append] at q1
      rcases List.mem_append.1 hx with hx | hx
      · exact ordE_ok.lt_of (q1.2.2 x hx y (by simp)) (by omega)
      · rw [List.mem_singleton] at hx; rw [hx]; exact hy
  · cases hd : t.es.drop i with
    | nil =>
      rw [hd] at hx
      have hlen : t.es.length ≤ i := List.drop_eq_nil_iff.1 hd
      have hkl := hl2
      rw [hk, List.length_append, List.length_cons] at hkl
      have : K2 = [] := List.eq_nil_of_length_eq_zero (by omega)
      rw [this] at hx
      simp [restE, inter] at hx
    | cons y E =>
      have hyi : t.es[i]? = some y := by
        have := congrArg (fun l => l[0]?) hd
        simpa using this
      rw [hd] at hx q3 hne
      have hx : x ∈ y :: inter (K2.map (flatM h)) E := hx
      have q3 : (y :: inter (K2.map (flatM h)) E).Pairwise fun a b => ordE a b < 0 := q3
      have hy : ordE e y < 0 := ord_flip (cnt_ge hes (by omega) hyi) (hne y (List.mem_append_right _ (List.mem_cons_self ..)))
      rcases List.mem_cons.1 hx with rfl | hx
      · exact hy
      · rw [List.pairwise_cons] at q3
        exact ordE_ok.lt_of hy (by have := q3.1 x hx; omega)
end
end Go.Proofs.YtmelbipidffmpaaGreatDoor.Hw

/- Nodes: insert. -/
set_option linter.unusedVariables false
set_option linter.unusedSimpArgs false
set_option linter.unusedSectionVars false
set_option maxRecDepth 20000
namespace Go.Proofs.YtmelbipidffmpaaGreatDoor.Hw
open Go Go.Proofs
theorem inter_sub {α : Type} : ∀ {K : List (List α)} {E : List α}, K.length = E.length + 1 → E.Sublist (inter K E)
  | [], _, h => by simp at h
  | _ :: _, [], _ => List.nil_sublist _
  | k :: K, e :: E, h => by
    show (e :: E).Sublist (k ++ e :: inter K E)
    exact ((inter_sub (K := K) (E := E) (by simpa using h)).cons_cons e).trans (List.sublist_append_right _ _)
theorem es_sub {h lo hi : Nat} {t : MT} (F : FullM lo hi h t) : t.es.Sublist (flatM h t) := by
  cases h with
  | zero => exact List.Sublist.refl _
  | succ h => exact inter_sub (by rw [List.length_map]; exact F.1)
theorem pt_same {K1 K2 : List MT} {u u' : MT} (h : u'.g = u.g) : (K1 ++ u' :: K2).flatMap ptC = (K1 ++ u :: K2).flatMap ptC := by
  rw [List.flatMap_append, List.flatMap_append, List.flatMap_cons, List.flatMap_cons]
  unfold ptC
  rw [h]
section
variable {X : Hp}
theorem c53 : ∀ {h : Nat} {H : Hp} {t : MT} {e : EnM} {lo : Nat} {Q : Value → Hp → Prop}, MemM H h t → SepM h t → FullM lo 8 h t → Ext X H → (∀ x ∈ flatM h t, KeyAt X x) → KeyAt X e → (∀ q ∈ ownM h t, X q = none) → SrtE (flatM h t) → (∀ x ∈ flatM h t, ordE x e ≠ 0) →
    (∀ H' t', MemM H' h t' → SepM h t' → FullM lo 9 h t' → t'.g = t.g → Put (flatM h t) e (flatM h t') → FrM H H' (ownM h t) (ownM h t') → Q (.tuple #[]) H') →
    HCalls Tryz.prog 53 [.pointer (some ⟨t.g, 0, none⟩), enA e] H Q
  | 0, H, t, e, lo, Q, M, S, F, hX, hkey, hke, hid, hsrt, hne, hq => by
    refine f53.ok _ _ _ _ _ _ ?_
    unfold f53
    have N := M.1
    have hk0 := M.2
    have hle := cnt_le (l := t.es) (e := e)
    have h8 : t.es.length ≤ 8 := F.2.2
    refine c78 N (fun x hx => (hkey x hx).ext hX) (hke.ext hX) hsrt (by unfold big; omega) fun H2 x2 => ⟨_, _, rfl, _, _, _, (N.ext x2).cl1, cndT (by rw [hk0]; rfl) ⟨_, _, _, (N.ext x2).cl0, ?_⟩⟩
    refine insE (e := e) (N.ext x2) S hle (by omega) fun H12 A' c' N12 nd12 F12 => hq H12 _ ⟨N12, hk0⟩ nd12 ⟨hk0, ?_, ?_⟩ rfl (Put.here hsrt hne) ((FrM.ofExt x2).trans F12)
    · show lo ≤ (t.es.take _ ++ e :: t.es.drop _).length
      have := F.2.1
      simp; omega
    · show (t.es.take _ ++ e :: t.es.drop _).length ≤ 9
      simp; omega
  | h + 1, H, t, e, lo, Q, M, S, F, hX, hkey, hke, hid, hsrt, hne, hq => by
    refine f53.ok _ _ _ _ _ _ ?_
    unfold f53
    have N := M.1
    have hle := cnt_le (l := t.es) (e := e)
    obtain ⟨f1, f2, f3, f4⟩ := id F
    have hsub := es_sub F
    have hes : SrtE t.es := hsrt.sublist hsub
    refine c78 N (fun x hx => (hkey x (hsub.subset hx)).ext hX) (hke.ext hX) hes (by unfold big; omega) fun H2 x2 => ⟨_, _, rfl, _, _, _, (N.ext x2).cl1, cndF (by simp; intro e0; rw [e0] at f1; simp at f1) ⟨_, _, _, (N.ext x2).cl1, by omega, by omega, ?_⟩⟩
    obtain ⟨i, hi⟩ : ∃ i, i = cntE t.es e := ⟨_, rfl⟩
    rw [← hi] at hle ⊢
    obtain ⟨u, hu⟩ := get_of (l := t.ks) (i := i) (by omega)
    have hum := List.mem_of_getElem? hu
    have hk : t.ks = t.ks.take i ++ u :: t.ks.drop (i + 1) := kids_split hu
    obtain ⟨K1, hK1⟩ : ∃ K1, K1 = t.ks.take i := ⟨_, rfl⟩
    obtain ⟨K2, hK2⟩ : ∃ K2, K2 = t.ks.drop (i + 1) := ⟨_, rfl⟩
    rw [← hK1, ← hK2] at hk
    have hl1 : K1.length = i := by rw [hK1, List.length_take]; omega
    have hfl := flat_split (h := h) hk (E1 := t.es.take i) (E2 := t.es.drop i) (List.take_append_drop _ _).symm (by rw [List.length_take]; omega)
    obtain ⟨wz, wr⟩ := way_down hk hi hl1 f1 hsrt hne hes
    have hsu : SrtE (flatM h u) := by
      unfold SrtE at hsrt ⊢
      rw [hfl, List.append_assoc, List.pairwise_append, List.pairwise_append] at hsrt
      exact hsrt.2.1.1
    have inu : ∀ x ∈ flatM h u, x ∈ flatM (h + 1) t := fun x hx => by rw [hfl]; simp [hx]
    have ownu : ∀ q ∈ ownM h u, q ∈ ownM (h + 1) t := fun q hq => own_mem.2 (.inr ⟨u, hum, hq⟩)
    have N2 := N.ext x2
    have M2 : MemM H2 (h + 1) t := M.ext x2
    have lv2 := M2.live
    refine rd_pt (N2.ksAt (by unfold huge; omega)) hu fun q o _ kp => ⟨_, by simpa using kp, ?_⟩
    refine c53 (M2.2 u hum) (S.2.1 u hum).1 (f4 u hum) (hX.trans x2) (fun x hx => hkey x (inu x hx)) hke (fun q hq => hid q (ownu q hq)) hsu (fun x hx => hne x (inu x hx)) fun H17 u' M17 S17 F17 hg17 P17 Fr17 => ⟨rfl, ?_⟩
    have hu1 : ∀ q ∈ own1 t, q ∉ ownM h u := fun q hq h2 => (S.2.1 u hum).2 q h2 hq
    have N17 : NodeM H17 t := N2.keep fun q hq => Fr17.off (hu1 q hq) (N2.live q hq)
    have other : ∀ v, v ∈ K1 ∨ v ∈ K2 → v ∈ t.ks ∧ ∀ q ∈ ownM h v, q ∉ ownM h u := fun v hv => by
      obtain ⟨_, _, s3⟩ := S
      rw [hk, List.pairwise_append, List.pairwise_cons] at s3
      obtain ⟨p1, ⟨p4, p5⟩, p3⟩ := s3
      refine ⟨by rw [hk]; rcases hv with hv | hv <;> simp [hv], fun q hq h2 => ?_⟩
      rcases hv with hv | hv
      · exact p3 v hv u (List.mem_cons_self ..) q hq h2
      · exact p4 v hv q h2 hq
    have M17o : ∀ v, v ∈ K1 ∨ v ∈ K2 → MemM H17 h v := fun v hv => (M2.2 v (other v hv).1).keep fun q hq => Fr17.off ((other v hv).2 q hq) ((M2.2 v (other v hv).1).live q hq)
    have hPut : ∀ l', l' = zipE (K1.map (flatM h)) (t.es.take i) ++ flatM h u' ++ restE (K2.map (flatM h)) (t.es.drop i) → Put (flatM (h + 1) t) e l' := fun l' hl' => by
      rw [hfl, hl']; exact P17.wrap wz wr
    have hcu : cl H17 u.g (0 + 0) = some (.slice u'.eA u'.es.length u'.ec) := by rw [← hg17]; exact M17.node.cl0
    refine ⟨_, _, _, hcu, ?_⟩
    refine cndI (fun h9 => ?_) fun h9 => ?_
    · -- the kid is cut in two
      have h9 := of_decide_eq_true h9
      rw [← hg17]
      refine c54m M17 S17 F17 (by omega) fun H21 tl tr mid Ml Mr Sl Sr ap Fl Fr' hgl hflat nl nr F21 => ⟨_, _, _, _, _, rfl, ?_⟩
      have lv17 := M17.live
      have own17 : ∀ q ∈ ownM h u', q ∉ own1 t := fun q hq h1 => by
        rcases Fr17.nw q hq with h2 | h2
        · exact hu1 q h1 h2
        · exact N2.live q h1 h2
      have N21 : NodeM H21 t := N17.keep fun q hq => F21.off (fun h2 => own17 q h2 hq) (N17.live q hq)
      have M21o : ∀ v, v ∈ K1 ∨ v ∈ K2 → MemM H21 h v := fun v hv => (M17o v hv).keep fun q hq => F21.off (fun h2 => by
        rcases Fr17.nw q h2 with h3 | h3
        · exact (other v hv).2 q hq h3
        · exact (M2.2 v (other v hv).1).live q hq h3) ((M17o v hv).live q hq)
      refine ⟨_, _, _, N21.cl0, insE (e := mid) N21 S.1 (i := i) (by omega) (by omega) fun H31 A30 c30 N31 nd31 F31 => ?_⟩
      have ei : IntKind.i64.wrap ((i : Int) + 1) = ((i + 1 : Nat) : Int) := by rw [wrap_id (by omega) (by omega)]; omega
      rw [ei]
      have st := insK (v := tr) N31 nd31 (i := i + 1) (by show i + 1 ≤ t.ks.length; omega) (by show t.ks.length < 1000; omega) (K := fun H38 => Q (.tuple #[]) H38) fun H38 A37 c37 N38 nd38 F38 => ?_
      · exact ⟨_, _, _, N31.cl1, st⟩
      have hks' : t.ks.take (i + 1) ++ tr :: t.ks.drop (i + 1) = K1 ++ u :: tr :: K2 := by
        rw [take_snoc hu, hK1, hK2]; simp
      have hpt : (K1 ++ u :: tr :: K2).flatMap ptC = (K1 ++ tl :: tr :: K2).flatMap ptC := (pt_same (u := u) (u' := tl) (by rw [hgl, hg17])).symm
      -- the new tree
      obtain ⟨t', ht'⟩ : ∃ t' : MT, t' = .mk t.g A30 c30 (t.es.take i ++ mid :: t.es.drop i) A37 c37 (K1 ++ tl :: tr :: K2) := ⟨_, rfl⟩
      have Nt' : NodeM H38 t' := by
        obtain ⟨cc, er, kr⟩ := N38
        have kr : RowO H38 A37 (t.ks.take (i + 1) ++ tr :: t.ks.drop (i + 1)).length c37 1 ((t.ks.take (i + 1) ++ tr :: t.ks.drop (i + 1)).flatMap ptC) := kr
        have cc : ∃ ty, H38 t.g = some (.cells (nodeC A30 (t.es.take i ++ mid :: t.es.drop i).length c30 A37 (t.ks.take (i + 1) ++ tr :: t.ks.drop (i + 1)).length c37).toArray ty (0, 0)) := cc
        have hlen : (K1 ++ u :: tr :: K2).length = (K1 ++ tl :: tr :: K2).length := by simp
        rw [hks', hlen] at cc
        rw [hks', hpt, hlen] at kr
        rw [ht']
        exact ⟨cc, er, kr⟩
      have o31 : ∀ q ∈ own1 t', q ∈ own1 t ∨ H21 q = none := fun q hq => by
        have hq' : q ∈ own1 (.mk t.g A30 c30 (t.es.take i ++ mid :: t.es.drop i) A37 c37 (t.ks.take (i + 1) ++ tr :: t.ks.drop (i + 1))) := by rw [ht'] at hq; exact hq
        rcases F38.nw q hq' with h1 | h1
        · exact F31.nw q h1
        · by_cases e1 : H31 q = H21 q
          · exact .inr (by rw [← e1]; exact h1)
          · rcases F31.ch q e1 with h2 | h2
            · exact .inl h2
            · exact .inr h2
      have keep38 : ∀ q, q ∉ own1 t → H21 q ≠ none → H38 q = H21 q := fun q hq hn => by
        have e1 : H31 q = H21 q := F31.off hq hn
        rw [← e1]
        refine F38.off (fun h1 => ?_) (by rw [e1]; exact hn)
        rcases F31.nw q h1 with h2 | h2
        · exact hq h2
        · exact hn h2
      have ok_v : ∀ v, MemM H21 h v → (∀ q ∈ ownM h v, q ∉ own1 t) → MemM H38 h v := fun v Mv hv => Mv.keep fun q hq => keep38 q (hv q hq) (Mv.live q hq)
      have oll : ∀ q ∈ ownM h tl, q ∉ own1 t := fun q hq h1 => by
        rcases nl q hq with h2 | h2
        · exact own17 q h2 h1
        · exact N17.live q h1 h2
      have olr : ∀ q ∈ ownM h tr, q ∉ own1 t := fun q hq h1 => by
        rcases nr q hq with h2 | h2
        · exact own17 q h2 h1
        · exact N17.live q h1 h2
      have Mt' : MemM H38 (h + 1) t' := ⟨Nt', fun v hv => by
        rw [ht'] at hv
        have hv : v ∈ K1 ++ tl :: tr :: K2 := hv
        rcases List.mem_append.1 hv with hv | hv
        · exact ok_v v (M21o v (.inl hv)) (S.2.1 v (other v (.inl hv)).1).2
        · rcases List.mem_cons.1 hv with rfl | hv
          · exact ok_v _ Ml oll
          · rcases List.mem_cons.1 hv with rfl | hv
            · exact ok_v _ Mr olr
            · exact ok_v v (M21o v (.inr hv)) (S.2.1 v (other v (.inr hv)).1).2⟩
      have back : ∀ q, H17 q = none → q ∈ ownM h u ∨ H2 q = none := fun q hn => by
        by_cases e1 : H17 q = H2 q
        · exact .inr (by rw [← e1]; exact hn)
        · exact Fr17.ch q e1
      have hnew : ∀ v ∈ [tl, tr], ∀ q ∈ ownM h v, q ∈ ownM h u ∨ H2 q = none := fun v hv q hq => by
        have h1 : q ∈ ownM h u' ∨ H17 q = none := by
          rcases List.mem_cons.1 hv with rfl | hv
          · exact nl q hq
          · rw [List.mem_singleton] at hv; subst hv; exact nr q hq
        rcases h1 with h1 | h1
        · exact Fr17.nw q h1
        · exact back q h1
      have St' : SepM (h + 1) t' := by
        refine sep_replace (H := H2) (L := [tl, tr]) S hk lv2 (fun v hv => ?_) (by simp [ap]) hnew (by rw [ht']; simp [MT.ks]) (by rw [ht']; exact nd38) fun q hq => ?_
        · rcases List.mem_cons.1 hv with rfl | hv
          · exact Sl
          · rw [List.mem_singleton] at hv; subst hv; exact Sr
        · rcases o31 q hq with h1 | h1
          · exact .inl h1
          · have h17 : H17 q = none := by
              refine Classical.byContradiction fun hn => ?_
              exact F21.al q hn h1
            rcases back q h17 with h2 | h2
            · exact absurd h17 (by
                intro e0
                have := Fr17.al q ((M2.2 u hum).live q h2)
                exact this e0)
            · refine .inr ⟨h2, fun v hv hqv => ?_⟩
              have : H21 q ≠ none := by
                rcases List.mem_cons.1 hv with rfl | hv
                · exact Ml.live q hqv
                · rw [List.mem_singleton] at hv; subst hv; exact Mr.live q hqv
              exact this h1
      have Ft' : FullM lo 9 (h + 1) t' := by
        rw [ht']
        refine ⟨?_, ?_, ?_, fun v hv => ?_⟩
        · show (K1 ++ tl :: tr :: K2).length = (t.es.take i ++ mid :: t.es.drop i).length + 1
          rw [hK1, hK2]; simp; omega
        · show lo ≤ (t.es.take i ++ mid :: t.es.drop i).length
          simp; omega
        · show (t.es.take i ++ mid :: t.es.drop i).length ≤ 9
          simp; omega
        · have hv : v ∈ K1 ++ tl :: tr :: K2 := hv
          rcases List.mem_append.1 hv with hv | hv
          · exact f4 v (other v (.inl hv)).1
          · rcases List.mem_cons.1 hv with rfl | hv
            · exact Fl
            · rcases List.mem_cons.1 hv with rfl | hv
              · exact Fr'
              · exact f4 v (other v (.inr hv)).1
      refine hq H38 t' Mt' St' Ft' (by rw [ht']; rfl) (hPut _ ?_) ⟨fun q hq => ?_, fun q hq => ?_, fun q hq => ?_⟩
      · rw [ht', hflat]
        show inter ((K1 ++ tl :: tr :: K2).map (flatM h)) (t.es.take i ++ mid :: t.es.drop i) = _
        rw [List.map_append, inter_app (by rw [List.length_map, hl1, List.length_take]; omega)]
        show _ ++ (flatM h tl ++ mid :: inter ((tr :: K2).map (flatM h)) (t.es.drop i)) = _
        rw [List.map_cons, inter_head]
        simp
      · by_cases e1 : q ∈ own1 t
        · exact .inl (own_mem.2 (.inl e1))
        · by_cases e2 : H21 q = none
          · have h17 : H17 q = none := Classical.byContradiction fun hn => F21.al q hn e2
            rcases back q h17 with h2 | h2
            · exact .inl (ownu q h2)
            · exact .inr (x2.none h2)
          · rw [keep38 q e1 e2] at hq
            by_cases e3 : H21 q = H17 q
            · rw [e3] at hq
              by_cases e4 : H17 q = H2 q
              · rw [e4] at hq
                exact .inr (Classical.byContradiction fun hn => hq (ext_at x2 hn))
              · rcases Fr17.ch q e4 with h2 | h2
                · exact .inl (ownu q h2)
                · exact .inr (x2.none h2)
            · rcases F21.ch q e3 with h2 | h2
              · rcases Fr17.nw q h2 with h3 | h3
                · exact .inl (ownu q h3)
                · exact .inr (x2.none h3)
              · rcases back q h2 with h3 | h3
                · exact .inl (ownu q h3)
                · exact .inr (x2.none h3)
      · rcases own_mem.1 hq with h1 | ⟨v, hv, h1⟩
        · rcases o31 q h1 with h2 | h2
          · exact .inl (own_mem.2 (.inl h2))
          · have h17 : H17 q = none := Classical.byContradiction fun hn => F21.al q hn h2
            rcases back q h17 with h3 | h3
            · exact .inl (ownu q h3)
            · exact .inr (x2.none h3)
        · rw [ht'] at hv
          have hv : v ∈ K1 ++ tl :: tr :: K2 := hv
          have hv : v ∈ K1 ∨ v ∈ [tl, tr] ∨ v ∈ K2 := by simpa [or_assoc] using hv
          rcases hv with hv | hv | hv
          · exact .inl (own_mem.2 (.inr ⟨v, (other v (.inl hv)).1, h1⟩))
          · rcases hnew v hv q h1 with h2 | h2
            · exact .inl (ownu q h2)
            · exact .inr (x2.none h2)
          · exact .inl (own_mem.2 (.inr ⟨v, (other v (.inr hv)).1, h1⟩))
      · have h2 : H2 q ≠ none := by rw [ext_at x2 hq]; exact hq
        have h17 := Fr17.al q h2
        have h21 := F21.al q h17
        exact F38.al q (F31.al q h21)
    · -- the kid stays one
      have h9 := of_decide_eq_false h9
      obtain ⟨t', ht'⟩ : ∃ t' : MT, t' = .mk t.g t.eA t.ec t.es t.kA t.kc (K1 ++ u' :: K2) := ⟨_, rfl⟩
      have hpt : (K1 ++ u' :: K2).flatMap ptC = t.ks.flatMap ptC := by rw [hk]; exact pt_same hg17
      have hlen : (K1 ++ u' :: K2).length = t.ks.length := by rw [hk]; simp
      have Nt' : NodeM H17 t' := by
        obtain ⟨cc, er, kr⟩ := N17
        rw [← hlen] at cc kr
        rw [← hpt] at kr
        rw [ht']
        exact ⟨cc, er, kr⟩
      have ho1 : own1 t' = own1 t := by rw [ht']; rfl
      refine hq H17 t' ⟨Nt', fun v hv => ?_⟩ ?_ ?_ (by rw [ht']; rfl) (hPut _ ?_) ⟨fun q hq => ?_, fun q hq => ?_, fun q hq => ?_⟩
      · rw [ht'] at hv
        have hv : v ∈ K1 ++ u' :: K2 := hv
        rcases List.mem_append.1 hv with hv | hv
        · exact M17o v (.inl hv)
        · rcases List.mem_cons.1 hv with rfl | hv
          · exact M17
          · exact M17o v (.inr hv)
      · refine sep_replace (H := H2) (L := [u']) S hk lv2 (fun v hv => ?_) (by simp) (fun v hv q hq => ?_) (by rw [ht']; simp [MT.ks]) (by rw [ho1]; exact S.1) fun q hq => .inl (by rw [ho1] at hq; exact hq)
        · rw [List.mem_singleton] at hv; subst hv; exact S17
        · rw [List.mem_singleton] at hv; subst hv; exact Fr17.nw q hq
      · rw [ht']
        refine ⟨by show (K1 ++ u' :: K2).length = _; rw [hlen]; exact f1, f2, by show t.es.length ≤ 9; omega, fun v hv => ?_⟩
        have hv : v ∈ K1 ++ u' :: K2 := hv
        rcases List.mem_append.1 hv with hv | hv
        · exact f4 v (other v (.inl hv)).1
        · rcases List.mem_cons.1 hv with rfl | hv
          · cases h with
            | zero => exact ⟨F17.1, F17.2.1, by omega⟩
            | succ h => exact ⟨F17.1, F17.2.1, by omega, F17.2.2.2⟩
          · exact f4 v (other v (.inr hv)).1
      · rw [ht']
        show inter ((K1 ++ u' :: K2).map (flatM h)) t.es = _
        conv => lhs; rw [show t.es = t.es.take i ++ t.es.drop i from (List.take_append_drop _ _).symm]
        rw [List.map_append, List.map_cons, inter_app (by rw [List.length_map, hl1, List.length_take]; omega), inter_head, List.append_assoc]
      · by_cases e4 : H17 q = H2 q
        · rw [e4] at hq
          exact .inr (Classical.byContradiction fun hn => hq (ext_at x2 hn))
        · rcases Fr17.ch q e4 with h2 | h2
          · exact .inl (ownu q h2)
          · exact .inr (x2.none h2)
      · rcases own_mem.1 hq with h1 | ⟨v, hv, h1⟩
        · rw [ho1] at h1; exact .inl (own_mem.2 (.inl h1))
        · rw [ht'] at hv
          have hv : v ∈ K1 ++ u' :: K2 := hv
          rcases List.mem_append.1 hv with hv | hv
          · exact .inl (own_mem.2 (.inr ⟨v, (other v (.inl hv)).1, h1⟩))
          · rcases List.mem_cons.1 hv with rfl | hv
            · rcases Fr17.nw q h1 with h2 | h2
              · exact .inl (ownu q h2)
              · exact .inr (x2.none h2)
            · exact .inl (own_mem.2 (.inr ⟨v, (other v (.inr hv)).1, h1⟩))
      · exact Fr17.al q (by rw [ext_at x2 hq]; exact hq)
end
end Go.Proofs.YtmelbipidffmpaaGreatDoor.Hw

/- Nodes laid out as blocks: flat, tree. -/
set_option linter.unusedVariables false
set_option linter.unusedSimpArgs false
set_option linter.unusedSectionVars false
set_option maxRecDepth 20000
namespace Go.Proofs.YtmelbipidffmpaaGreatDoor.Hw
open Go Go.Proofs
/-- Where lists begin that stand one behind the other. -/
def starts : Nat → List (List NdM) → List Int
  | _, [] => []
  | s, l :: r => (s : Int) :: starts (s + l.length) r
def BlkOf : Nat → MT → Nat → List NdM → Prop
  | 0, t, _, l => ∃ b, l = [b] ∧ b.es = t.es ∧ b.ks = []
  | h + 1, t, s, l => ∃ b ls, l = b :: ls.flatten ∧ b.es = t.es ∧ b.ks = starts (s + 1) ls ∧ ls.length = t.ks.length ∧ ∀ (i : Nat) (u : MT) (l' : List NdM), t.ks[i]? = some u → ls[i]? = some l' → BlkOf h u (s + 1 + (ls.take i).flatten.length) l'
theorem ndC_len (b : NdM) : (ndC b).length = 2 := rfl
theorem ndC_one (x : NdM) : ∀ v ∈ ndC x, v.oneCell' = true := fun v hv => by
  unfold ndC at hv
  simp only [List.mem_cons, List.not_mem_nil, or_false] at hv
  rcases hv with rfl | rfl <;> rfl
theorem flat_set {α : Type} {f : α → List Value} {k : Nat} (hf : ∀ x, (f x).length = k) {l : List α} {p : Nat} {x : α} (hp : p < l.length) : setR (l.flatMap f) (p * k) (f x) = (l.set p x).flatMap f := by
  unfold setR
  rw [hf, show p * k + k = (p + 1) * k from (Nat.succ_mul _ _).symm, flat_take hf, flat_drop hf, List.set_eq_take_append_cons_drop, if_pos hp, List.flatMap_append, List.flatMap_cons, List.append_assoc]
theorem starts_snoc {l : List NdM} : ∀ {ls : List (List NdM)} {s : Nat}, starts s (ls ++ [l]) = starts s ls ++ [((s + ls.flatten.length : Nat) : Int)]
  | [], s => by simp [starts]
  | x :: r, s => by
    show (s : Int) :: starts (s + x.length) (r ++ [l]) = (s : Int) :: starts (s + x.length) r ++ [_]
    rw [starts_snoc]
    simp only [List.flatten_cons, List.length_append, List.cons_append, Nat.add_assoc]
theorem starts_len : ∀ {ls : List (List NdM)} {s : Nat}, (starts s ls).length = ls.length
  | [], s => rfl
  | x :: r, s => by show (starts _ r).length + 1 = _; rw [starts_len]; rfl
/-- Blocks under way. -/
structure FlAt (H : Hp) (g : Nat) (A : Option Addr) (c : Nat) (cols : Int) (bl : List NdM) : Prop where
  cell : ∃ ty, H g = some (.cells [.slice A bl.length c, .int .i64 0, .int .i64 cols].toArray ty (0, 0))
  row : RowO H A bl.length c 2 (bl.flatMap ndC)
  sep : ¬ rowB A g
  kid : ∀ b ∈ bl, SlAt inC H b.kA b.ks.length b.ks ∧ (b.ks ≠ [] → ∀ q, rowB b.kA q → q ≠ g ∧ ¬ rowB A q)
def flO (g : Nat) (A : Option Addr) : List Nat := g :: blkA A
theorem flO_mem {g q : Nat} {A : Option Addr} : q ∈ flO g A ↔ q = g ∨ rowB A q := by unfold flO; rw [List.mem_cons, blk_row]
theorem inC_keep {H H' : Hp} {b : NdM} (h : SlAt inC H b.kA b.ks.length b.ks) (hk : b.ks ≠ [] → ∀ q, rowB b.kA q → H q ≠ none → H' q = H q) : SlAt inC H' b.kA b.ks.length b.ks := by
  by_cases h0 : b.ks = []
  · exact ⟨rfl, .inl (by rw [h0]; rfl), by rw [h0]; simp [huge]⟩
  · exact h.stay (hk h0)
theorem inC_live {H : Hp} {b : NdM} (h : SlAt inC H b.kA b.ks.length b.ks) (h0 : b.ks ≠ []) {q : Nat} (hq : rowB b.kA q) : H q ≠ none := h.live (k := 1) (fun _ => rfl) (by omega) h0 hq
section
variable {H H' : Hp} {g : Nat} {A A' : Option Addr} {c c' : Nat} {cols : Int} {bl : List NdM} {Q : Value → Hp → Prop}
theorem FlAt.cl0 (F : FlAt H g A c cols bl) : cl H g (0 + 0) = some (.slice A bl.length c) := by
  obtain ⟨ty, hc⟩ := F.cell
  rw [cl_cells hc]; rfl
theorem FlAt.more (F : FlAt H g A c cols bl) (hx : Ext H H') : FlAt H' g A c cols bl := by
  obtain ⟨⟨ty, hc⟩, r, s, k⟩ := F
  exact ⟨⟨ty, hx _ _ hc⟩, r.ext hx, s, fun b hb => ⟨(k b hb).1.ext hx, (k b hb).2⟩⟩
/-- A block more: nothing in it as yet. -/
theorem FlAt.grow (F : FlAt H g A c cols bl) (hs : bl.length < 1000000) {K : Hp → Prop}
    (hk : ∀ H' A' c', FlAt H' g A' c' cols (bl ++ [⟨none, 0, [], none, 0, []⟩]) → FrM H H' (flO g A) (flO g A') → K H') :
    newF H 60 [.slice none 0 0, .slice none 0 0] fun g3 H4 => appendF H4 60 2 48 A bl.length c (some ⟨g3, 0, none⟩) 1 fun A5 n5 c5 H6 => storeF H6 g (0 + 0) [.slice A5 n5 c5] K := by
  intro g3 hg3
  have x4 : Ext H (upd g3 (.cells (ndC ⟨none, 0, [], none, 0, []⟩).toArray 60 (0, 0)) H) := Ext.new hg3
  have F4 := F.more x4
  refine F4.row.append (new := ndC ⟨none, 0, [], none, 0, []⟩) (cellsAt_one upd_at) rfl (ndC_one _) (by unfold big; omega) (by omega) fun A' c' H6 R6 Fr6 _ => ?_
  obtain ⟨ty, hc⟩ := F4.cell
  have gl : H g ≠ none := by obtain ⟨ty, hc⟩ := F.cell; rw [hc]; simp
  have off6 : ∀ q, ¬ rowB A q → (upd g3 (.cells (ndC ⟨none, 0, [], none, 0, []⟩).toArray 60 (0, 0)) H) q ≠ none → H6 q = (upd g3 (.cells (ndC ⟨none, 0, [], none, 0, []⟩).toArray 60 (0, 0)) H) q := fun q hq hn => Classical.byContradiction fun hne => by
    rcases Fr6.ch q hne with h | h
    · exact hq h
    · exact hn h
  have nA : ∀ q, rowB A' q → rowB A q ∨ H q = none := fun q hq => (Fr6.nw q hq).imp id fun h => x4.none h
  have hsep : ¬ rowB A' g := fun h => by
    rcases nA _ h with h | h
    · exact F.sep h
    · exact gl h
  have e1 : (bl ++ [(⟨none, 0, [], none, 0, []⟩ : NdM)]).flatMap ndC = bl.flatMap ndC ++ ndC ⟨none, 0, [], none, 0, []⟩ := by simp
  refine ⟨_, ty, (off6 g F.sep (by rw [hc]; simp)).trans hc, by simp, hk _ A' c' ⟨⟨ty, ?_⟩, ?_, hsep, fun b hb => ?_⟩ ⟨fun q hq => ?_, fun q hq => ?_, fun q hq => ?_⟩⟩
  · rw [upd_at, List.length_append]; rfl
  · rw [e1, List.length_append]
    exact R6.keep fun q hq _ => upd_off fun e => hsep (e ▸ hq)
  · rcases List.mem_append.1 hb with hb | hb
    · obtain ⟨k1, k2⟩ := F.kid b hb
      refine ⟨inC_keep k1 fun h0 q hq hn => ?_, fun h0 q hq => ⟨(k2 h0 q hq).1, fun h => ?_⟩⟩
      · obtain ⟨z1, z2⟩ := k2 h0 q hq
        rw [upd_off z1, off6 q z2 (by rw [ext_at x4 hn]; exact hn)]
        exact ext_at x4 hn
      · rcases nA q h with h | h
        · exact (k2 h0 q hq).2 h
        · exact inC_live k1 h0 hq h
    · rw [List.mem_singleton] at hb
      subst hb
      exact ⟨⟨rfl, .inl rfl, by simp [huge]⟩, fun h0 => absurd rfl h0⟩
  · rw [flO_mem]
    by_cases e : q = g
    · exact .inl (.inl e)
    · rw [upd_off e] at hq
      by_cases e2 : H6 q = (upd g3 (.cells (ndC ⟨none, 0, [], none, 0, []⟩).toArray 60 (0, 0)) H) q
      · rw [e2] at hq
        exact .inr (Classical.byContradiction fun hn => hq (ext_at x4 hn))
      · rcases Fr6.ch q e2 with h | h
        · exact .inl (.inr h)
        · exact .inr (x4.none h)
  · rw [flO_mem] at hq ⊢
    rcases hq with h | h
    · exact .inl (.inl h)
    · exact (nA q h).imp .inr id
  · by_cases e : q = g
    · subst e; rw [upd_at]; simp
    · rw [upd_off e]
      exact Fr6.al q fun e => hq ((ext_at x4 hq).symm.trans e)
/-- A block is filled. -/
theorem FlAt.fill (F : FlAt H g A c cols bl) {p : Nat} {b : NdM} {K : Hp → Prop} (hp : p < bl.length) (hb : SlAt inC H b.kA b.ks.length b.ks) (hs : b.ks ≠ [] → ∀ q, rowB b.kA q → q ≠ g ∧ ¬ rowB A q)
    (hk : ∀ H', FlAt H' g A c cols (bl.set p b) → FrM H H' (flO g A) (flO g A) → K H') : onPtr A fun b23 o23 => storeF H b23 (o23 + p * 2) (ndC b) K := by
  have hle := F.row.le
  refine F.row.store (p := p) (m := 1) (n' := bl.length) rfl (by omega) (by omega) (by omega) (by omega) fun H' R' Fr => hk H' ?_ ⟨fun q hq => ?_, fun q hq => .inl hq, Fr.al⟩
  · rw [flat_set ndC_len hp] at R'
    have off : ∀ q, ¬ rowB A q → H q ≠ none → H' q = H q := fun q hq hn => Classical.byContradiction fun hne => by
      rcases Fr.ch q hne with h | h
      · exact hq h
      · exact hn h
    obtain ⟨ty, hc⟩ := F.cell
    refine ⟨⟨ty, by rw [List.length_set]; exact (off g F.sep (by rw [hc]; simp)).trans hc⟩, by rw [List.length_set]; exact R', F.sep, fun b' hb' => ?_⟩
    have old : ∀ b' : NdM, SlAt inC H b'.kA b'.ks.length b'.ks → (b'.ks ≠ [] → ∀ q, rowB b'.kA q → q ≠ g ∧ ¬ rowB A q) → SlAt inC H' b'.kA b'.ks.length b'.ks ∧ (b'.ks ≠ [] → ∀ q, rowB b'.kA q → q ≠ g ∧ ¬ rowB A q) := fun b' k1 k2 =>
      ⟨inC_keep k1 fun h0 q hq hn => off q (k2 h0 q hq).2 hn, k2⟩
    rcases List.mem_or_eq_of_mem_set hb' with h | rfl
    · exact old b' (F.kid b' h).1 (F.kid b' h).2
    · exact old b' hb hs
  · rw [flO_mem]
    exact (Fr.ch q hq).imp .inr id
end
end Go.Proofs.YtmelbipidffmpaaGreatDoor.Hw

/- Nodes laid out as blocks: flat, tree, walked. -/
set_option linter.unusedVariables false
set_option linter.unusedSimpArgs false
set_option linter.unusedSectionVars false
set_option maxRecDepth 20000
namespace Go.Proofs.YtmelbipidffmpaaGreatDoor.Hw
open Go Go.Proofs
def sizeM : Nat → MT → Nat
  | 0, _ => 1
  | h + 1, t => 1 + (t.ks.map (sizeM h)).sum
theorem blk_len : ∀ {h : Nat} {t : MT} {s : Nat} {l : List NdM}, BlkOf h t s l → l.length = sizeM h t
  | 0, t, s, l, ⟨b, hl, _⟩ => by rw [hl]; rfl
  | h + 1, t, s, l, ⟨b, ls, hl, _, _, hn, hk⟩ => by
    rw [hl, List.length_cons, List.length_flatten]
    show _ = 1 + (t.ks.map (sizeM h)).sum
    have : ls.map List.length = t.ks.map (sizeM h) := by
      apply List.ext_getElem?
      intro i
      rw [List.getElem?_map, List.getElem?_map]
      by_cases hi : i < t.ks.length
      · obtain ⟨u, hu⟩ := get_of hi
        obtain ⟨l', hl'⟩ := get_of (l := ls) (i := i) (by omega)
        rw [hu, hl']
        exact congrArg some (blk_len (hk i u l' hu hl'))
      · rw [List.getElem?_eq_none (by omega), List.getElem?_eq_none (by omega)]; rfl
    rw [this]; omega
section
variable {H0 : Hp} {g : Nat} {cols : Int}
theorem FlAt.keep {H H' : Hp} {A : Option Addr} {c : Nat} {bl : List NdM} (F : FlAt H g A c cols bl) (hk : ∀ q, H q ≠ none → (q = g ∨ rowB A q ∨ ∃ b ∈ bl, b.ks ≠ [] ∧ rowB b.kA q) → H' q = H q) : FlAt H' g A c cols bl := by
  obtain ⟨⟨ty, hc⟩, r, s, k⟩ := F
  exact ⟨⟨ty, (hk g (by rw [hc]; simp) (.inl rfl)).trans hc⟩, r.keep fun q hq hn => hk q hn (.inr (.inl hq)), s, fun b hb => ⟨inC_keep (k b hb).1 fun h0 q hq hn => hk q hn (.inr (.inr ⟨b, hb, h0, hq⟩)), (k b hb).2⟩⟩
/-- What is known of a block that was laid out. -/
def EOk (H0 H : Hp) (F : List EnM) (b : NdM) : Prop := SlAt enC H0 b.eA b.es.length b.es ∧ b.es.length ≤ b.ec ∧ (∀ e ∈ b.es, e ∈ F) ∧ (b.ks ≠ [] → ∀ q, rowB b.kA q → H q = none) ∧ b.es.length ≤ 1000
theorem c82 : ∀ {h : Nat} {H : Hp} {t : MT} {A : Option Addr} {c : Nat} {bl : List NdM} {Q : Value → Hp → Prop}, MemM H0 h t → FullM 0 1000 h t → Ext H0 H → (∀ q ∈ flO g A, H0 q = none) → FlAt H g A c cols bl → bl.length + sizeM h t ≤ 900000 →
    (∀ H' A' c' l, FlAt H' g A' c' cols (bl ++ l) → BlkOf h t bl.length l → FrM H H' (flO g A) (flO g A') → (∀ b ∈ l, EOk H0 H (flatM h t) b) → Q (.int .i64 ((bl.length : Nat) : Int)) H') →
    HCalls Tryz.prog 82 [.pointer (some ⟨t.g, 0, none⟩), .pointer (some ⟨g, 0, none⟩)] H Q := by
  intro h
  induction h with
  | zero =>
    intro H t A c bl Q M Fu hX hid F hsz hq
    refine f82.ok _ _ _ _ ?_
    unfold f82
    have N := M.1
    have hk0 := M.2
    have hsz : bl.length + 1 ≤ 900000 := hsz
    refine ⟨_, _, _, F.cl0, _, _, _, F.cl0, F.grow (by omega) fun H7 A7 c7 F7 Fr7 => ?_⟩
    have x7 := Fr7.ext hX hid
    have N7 := N.ext x7
    refine ⟨_, _, _, N7.cl0, _, _, _, N7.cl1, ?_⟩
    refine loop_to 0 (fun i st H' => st = ((0, ()), (((t.eA, t.es.length, t.ec), ((none, 0, 0), ())), ())) ∧ H' = H7) ⟨rfl, rfl⟩ ?_
    rintro i st H11 next hi ⟨rfl, rfl⟩ hnext
    dsimp only
    refine cndF (by rw [hk0]; rfl) ⟨_, _, _, F7.cl0, by omega, by rw [List.length_append]; simp; omega, ?_⟩
    have hset : (bl ++ [(⟨none, 0, [], none, 0, []⟩ : NdM)]).set bl.length ⟨t.eA, t.ec, t.es, none, 0, []⟩ = bl ++ [⟨t.eA, t.ec, t.es, none, 0, []⟩] := by simp
    refine F7.fill (p := bl.length) (b := ⟨t.eA, t.ec, t.es, none, 0, []⟩) (by simp) ⟨rfl, .inl rfl, by simp [huge]⟩ (fun h0 => absurd rfl h0) fun H24 F24 Fr24 => hq H24 A7 c7 [⟨t.eA, t.ec, t.es, none, 0, []⟩] (by rw [hset] at F24; exact F24) ⟨_, rfl, rfl, rfl⟩ (Fr7.trans Fr24) fun b hb => ?_
    rw [List.mem_singleton] at hb
    subst hb
    have := Fu.2.2
    exact ⟨N.esAt (by unfold huge; omega), N.er.le, fun e he => he, fun h0 => absurd rfl h0, this⟩
  | succ h ih =>
    intro H t A c bl Q M Fu hX hid F hsz hq
    refine f82.ok _ _ _ _ ?_
    unfold f82
    have N := M.1
    obtain ⟨f1, f2, f3, f4⟩ := id Fu
    have hsz' : bl.length + (1 + (t.ks.map (sizeM h)).sum) ≤ 900000 := hsz
    refine ⟨_, _, _, F.cl0, _, _, _, F.cl0, F.grow (by omega) fun H7 A7 c7 F7 Fr7 => ?_⟩
    have x7 := Fr7.ext hX hid
    have hid7 := Fr7.hid hX hid
    have N7 := N.ext x7
    refine ⟨_, _, _, N7.cl0, _, _, _, N7.cl1, ?_⟩
    obtain ⟨ph, hph⟩ : ∃ ph : NdM, ph = ⟨none, 0, [], none, 0, []⟩ := ⟨_, rfl⟩
    rw [← hph] at F7
    have hin : ∀ u ∈ t.ks, ∀ e ∈ flatM h u, e ∈ flatM (h + 1) t := fun u hu e he => (inter_mem (by rw [List.length_map]; exact f1)).2 (.inr ⟨_, List.mem_map_of_mem hu, he⟩)
    refine loop_to t.ks.length (fun i st H' => ∃ A' c' ls KA KC, st = (((i : Int), ()), (((t.eA, t.es.length, t.ec), ((KA, i, KC), ())), ())) ∧ FlAt H' g A' c' cols (bl ++ ph :: List.flatten ls) ∧ ls.length = i ∧
        (∀ (j : Nat) (u : MT) (l' : List NdM), t.ks[j]? = some u → ls[j]? = some l' → BlkOf h u (bl.length + 1 + (ls.take j).flatten.length) l') ∧ RowO H' KA i KC 1 ((starts (bl.length + 1) ls).flatMap inC) ∧
        (∀ q, rowB KA q → H7 q = none ∧ q ≠ g ∧ ¬ rowB A' q) ∧ FrM H7 H' (flO g A7) (flO g A') ∧ (∀ b ∈ ls.flatten, EOk H0 H (flatM (h + 1) t) b) ∧ (∀ b ∈ bl ++ ph :: ls.flatten, b.ks ≠ [] → ∀ q, rowB b.kA q → ¬ rowB KA q))
      ⟨A7, c7, [], none, 0, rfl, F7, rfl, fun j u l' _ hl => by simp at hl, RowO.nil, fun q ⟨_, _, hh⟩ => (by cases hh), FrM.refl, fun b hb => by simp at hb, fun b hb h0 q _ ⟨_, _, hh⟩ => by cases hh⟩ ?_
    rintro i st H11 next hi ⟨A', c', ls, KA, KC, rfl, F11, hls, hblk, RK, hKA, G, hE, hsep⟩ hnext
    dsimp only
    have x11 : Ext H0 H11 := G.ext x7 hid7
    have hid11 := G.hid x7 hid7
    have hlen : ls.flatten.length = ((t.ks.take i).map (sizeM h)).sum := by
      rw [List.length_flatten]
      congr 1
      apply List.ext_getElem?
      intro j
      rw [List.getElem?_map, List.getElem?_map]
      by_cases hj : j < i
      · obtain ⟨u, hu⟩ := get_of (l := t.ks) (i := j) (by omega)
        obtain ⟨l', hl'⟩ := get_of (l := ls) (i := j) (by omega)
        rw [List.getElem?_take_of_lt hj, hu, hl']
        exact congrArg some (blk_len (hblk j u l' hu hl'))
      · rw [List.getElem?_eq_none (by omega), List.getElem?_eq_none (by rw [List.length_take]; omega)]; rfl
    refine cndI (fun hlt => ?_) fun hlt => ?_
    · have hlt := of_decide_eq_true hlt
      obtain ⟨u, hu⟩ := get_of (l := t.ks) (i := i) (by omega)
      have hum := List.mem_of_getElem? hu
      have hsum : (t.ks.map (sizeM h)).sum = ((t.ks.take i).map (sizeM h)).sum + (sizeM h u + ((t.ks.drop (i + 1)).map (sizeM h)).sum) := by
        conv => lhs; rw [kids_split hu]
        rw [List.map_append, List.sum_append, List.map_cons, List.sum_cons]
      have hbl : (bl ++ ph :: ls.flatten).length = bl.length + 1 + ls.flatten.length := by simp; omega
      refine ⟨by omega, by omega, rd_pt (N.ksAt (by unfold huge; omega) |>.ext x11) hu fun q o _ kp => ⟨_, by simpa using kp, ?_⟩⟩
      refine ih (M.2 u hum) (by
        have := f4 u hum
        cases h with
        | zero => exact ⟨this.1, by omega, by have := this.2.2; omega⟩
        | succ h => exact ⟨this.1, by omega, by have := this.2.2.1; omega, this.2.2.2⟩) x11 hid11 F11 (by omega) fun H16 A16 c16 l F16 hB Fr16 hE16 => ⟨_, rfl, fun g18 hg18 => ?_⟩
      have KA11 : ∀ q, rowB KA q → H11 q ≠ none := fun q hq => RK.live hq
      have RK16 : RowO H16 KA i KC 1 ((starts (bl.length + 1) ls).flatMap inC) := RK.keep fun q hq hn => Fr16.off (fun h1 => by
        rw [flO_mem] at h1
        rcases h1 with h1 | h1
        · exact (hKA q hq).2.1 h1
        · exact (hKA q hq).2.2 h1) hn
      have x19 : Ext H16 (upd g18 (.cells [Value.int .i64 (((bl ++ ph :: ls.flatten).length : Nat) : Int)].toArray 3 (0, 0)) H16) := Ext.new hg18
      have KA16 : ∀ q, rowB KA q → q ≠ g ∧ ¬ rowB A16 q := fun q hq => ⟨(hKA q hq).2.1, fun h1 => by
        rcases Fr16.nw q (flO_mem.2 (.inr h1)) with h2 | h2
        · rw [flO_mem] at h2
          rcases h2 with h2 | h2
          · exact (hKA q hq).2.1 h2
          · exact (hKA q hq).2.2 h2
        · exact KA11 q hq h2⟩
      have hsep16 : ∀ b ∈ (bl ++ ph :: ls.flatten) ++ l, b.ks ≠ [] → ∀ q, rowB b.kA q → ¬ rowB KA q := fun b hb h0 q hq hK => by
        rcases List.mem_append.1 hb with hb | hb
        · exact hsep b hb h0 q hq hK
        · exact KA11 q hK ((hE16 b hb).2.2.2.1 h0 q hq)
      refine (RK16.ext x19).append (new := inC (((bl ++ ph :: ls.flatten).length : Nat) : Int)) (cellsAt_one upd_at) rfl (fun v hv => by simp [inC] at hv; subst hv; rfl) (by unfold big; omega) (by omega) fun A20 c20 H21 R20 Fr21 _ => ⟨rfl, ?_⟩
      have off21 : ∀ q, H16 q ≠ none → ¬ rowB KA q → H21 q = H16 q := fun q hn hK => by
        have e1 := ext_at x19 hn
        by_cases e : H21 q = (upd g18 (.cells [Value.int .i64 (((bl ++ ph :: ls.flatten).length : Nat) : Int)].toArray 3 (0, 0)) H16) q
        · rw [e, e1]
        · rcases Fr21.ch q e with h1 | h1
          · exact absurd h1 hK
          · rw [e1] at h1; exact absurd h1 hn
      have F21 : FlAt H21 g A16 c16 cols ((bl ++ ph :: ls.flatten) ++ l) := F16.keep fun q hn hq => off21 q hn fun hK => by
        rcases hq with h1 | h1 | ⟨b, hb, h0, h1⟩
        · exact (KA16 q hK).1 h1
        · exact (KA16 q hK).2 h1
        · exact hsep16 b hb h0 q h1 hK
      have G16 := G.trans Fr16
      have nwK : ∀ q, rowB A20 q → rowB KA q ∨ H16 q = none := fun q hq => (Fr21.nw q hq).imp id fun h1 => x19.none h1
      have eqf : (bl ++ ph :: ls.flatten) ++ l = bl ++ ph :: (ls ++ [l]).flatten := by simp
      have e16 : ∀ q, H16 q = none → H7 q = none := fun q hn => Classical.byContradiction fun h7 => G16.al q h7 hn
      refine hnext _ _ (by omega) ⟨A16, c16, ls ++ [l], A20, c20, ?_, by rw [← eqf]; exact F21, by simp [hls], fun j v l' hv hl' => ?_, ?_, fun q hq => ?_, ⟨fun q hq => ?_, fun q hq => ?_, fun q hq => ?_⟩, fun b hb => ?_, fun b hb h0 q hq hK => ?_⟩
      · rw [wrap_id (by omega) (by omega)]; rfl
      · by_cases hj : j < ls.length
        · rw [List.getElem?_append_left hj] at hl'
          rw [List.take_append_of_le_length (by omega)]
          exact hblk j v l' hv hl'
        · have hj' : j = i := by
            have := (List.getElem?_eq_some_iff.1 hl').1
            simp at this; omega
          subst hj'
          rw [← hls, List.getElem?_append_right (Nat.le_refl _)] at hl'
          simp at hl'
          subst hl'
          rw [hu] at hv; cases hv
          rw [← hls, List.take_left']
          · rw [hbl] at hB; exact hB
          · rfl
      · rw [starts_snoc, List.flatMap_append]
        have e2 : ((bl ++ ph :: ls.flatten).length : Nat) = bl.length + 1 + ls.flatten.length := hbl
        rw [← e2]
        simpa using R20
      · rcases nwK q hq with h1 | h1
        · exact ⟨(hKA q h1).1, KA16 q h1⟩
        · refine ⟨e16 q h1, fun e => ?_, fun hA => ?_⟩
          · subst e
            obtain ⟨ty, hc⟩ := F16.cell
            rw [hc] at h1; cases h1
          · exact F16.row.live hA h1
      · by_cases hn : H16 q = none
        · exact .inr (e16 q hn)
        · by_cases hK : rowB KA q
          · exact .inr (hKA q hK).1
          · rw [off21 q hn hK] at hq
            exact G16.ch q hq
      · exact G16.nw q hq
      · have h16 := G16.al q hq
        exact Fr21.al q fun e => h16 ((ext_at x19 h16).symm.trans e)
      · have hb : b ∈ ls.flatten ∨ b ∈ l := by simpa using hb
        rcases hb with hb | hb
        · exact hE b hb
        · obtain ⟨z1, z2, z3, z4, z5⟩ := hE16 b hb
          refine ⟨z1, z2, fun e he => hin u hum e (z3 e he), fun h0 q hq => ?_, z5⟩
          have h11 := z4 h0 q hq
          have h7 : H7 q = none := Classical.byContradiction fun h7 => G.al q h7 h11
          exact Classical.byContradiction fun hn => Fr7.al q hn h7
      · rw [← eqf] at hb
        rcases nwK q hK with h1 | h1
        · exact hsep16 b hb h0 q hq h1
        · exact inC_live (F16.kid b hb).1 h0 hq h1
    · have hlt := of_decide_eq_false hlt
      have hin' : i = t.ks.length := by omega
      subst hin'
      have sl : (starts (bl.length + 1) ls).length = ls.length := starts_len
      refine ⟨_, _, _, F11.cl0, by omega, by rw [List.length_append]; simp; omega, ?_⟩
      have hset : (bl ++ ph :: ls.flatten).set bl.length ⟨t.eA, t.ec, t.es, KA, KC, starts (bl.length + 1) ls⟩ = bl ++ (⟨t.eA, t.ec, t.es, KA, KC, starts (bl.length + 1) ls⟩ :: ls.flatten) := by simp
      have hsl : SlAt inC H11 KA (starts (bl.length + 1) ls).length (starts (bl.length + 1) ls) := ⟨rfl, RK.cells, by rw [sl, hls]; unfold huge; omega⟩
      have fl := F11.fill (p := bl.length) (b := ⟨t.eA, t.ec, t.es, KA, KC, starts (bl.length + 1) ls⟩) (K := fun H24 => Q (.int .i64 ((bl.length : Nat) : Int)) H24) (by simp) hsl (fun _ q hq => (hKA q hq).2) fun H24 F24 Fr24 => hq H24 A' c' _ (by rw [hset] at F24; exact F24) ⟨_, ls, rfl, rfl, rfl, hls, hblk⟩ ((Fr7.trans G).trans Fr24) fun b hb => ?_
      · have : ndC ⟨t.eA, t.ec, t.es, KA, KC, starts (bl.length + 1) ls⟩ = [.slice t.eA t.es.length t.ec, .slice KA t.ks.length KC] := by
          unfold ndC
          simp only [sl, hls]
        rw [this] at fl
        exact fl
      · rcases List.mem_cons.1 hb with rfl | hb
        · exact ⟨N.esAt (by unfold huge; omega), N.er.le, fun e he => (es_sub Fu).subset he, fun _ q hq => Classical.byContradiction fun hn => Fr7.al q hn (hKA q hq).1, f3⟩
        · exact hE b hb
end
end Go.Proofs.YtmelbipidffmpaaGreatDoor.Hw

/- Blocks that were laid out are a good tree; plain. -/
set_option linter.unusedVariables false
set_option linter.unusedSimpArgs false
set_option linter.unusedSectionVars false
set_option maxRecDepth 20000
namespace Go.Proofs.YtmelbipidffmpaaGreatDoor.Hw
open Go Go.Proofs
theorem good_of {cols : Int} {l : List EnM} (h1 : ∀ e ∈ l, entB cols e = true) (h2 : SrtE l) : goodE cols l = true := by
  unfold goodE
  rw [List.all_eq_true]
  intro i hi
  have hi := List.mem_range.1 hi
  obtain ⟨e, he⟩ := get_of hi
  unfold okAt
  rw [he]
  simp only [Bool.and_eq_true]
  refine ⟨h1 e (List.mem_of_getElem? he), ?_⟩
  by_cases h0 : i = 0
  · rw [if_pos h0]
  · rw [if_neg h0]
    obtain ⟨p, hp⟩ := get_of (l := l) (i := i - 1) (by omega)
    rw [hp]
    obtain ⟨a1, a2⟩ := List.getElem?_eq_some_iff.1 hp
    obtain ⟨a3, a4⟩ := List.getElem?_eq_some_iff.1 he
    have := List.pairwise_iff_getElem.1 h2 (i - 1) i a1 a3 (by omega)
    rw [a2, a4] at this
    exact decide_eq_true this
theorem good_srt {cols : Int} {l : List EnM} (h : goodE cols l = true) : SrtE l := by
  unfold SrtE
  rw [List.pairwise_iff_getElem]
  intro i j hi hj hij
  exact good_lt h hij (List.getElem?_eq_getElem hi) (List.getElem?_eq_getElem hj)
section
variable {bl : List NdM} {root : Int}
/-- What a visit leaves that goes through some blocks. -/
structure Gone (S T : Sv) (s n : Nat) (lf : Int) (F : List EnM) : Prop where
  out : T.out = S.out ++ F
  leaf : T.leaf = lf
  len : T.seen.length = S.seen.length
  seen : ∀ j, T.seen[j]? = if s ≤ j ∧ j < s + n then some true else S.seen[j]?
theorem kids_blk {h m : Nat} {d : Int} (hv : ∀ {u : MT} {s : Nat} {l : List NdM} {S : Sv}, BlkOf h u s l → (∀ j, j < l.length → bl[s + j]? = l[j]?) → FullM 3 8 h u → S.seen.length = bl.length → (∀ j, s ≤ j → j < s + l.length → S.seen[j]? = some false) → (S.leaf = 0 ∨ S.leaf = d + 1 + h) → ∃ T, visit bl root m S (s : Int) (d + 1) = some T ∧ Gone S T s l.length (d + 1 + h) (flatM h u)) :
    ∀ {ls : List (List NdM)} {us : List MT} {es : List EnM} {s : Nat} {S : Sv}, ls.length = us.length → us.length = es.length + 1 → (∀ (i : Nat) (u : MT) (l' : List NdM), us[i]? = some u → ls[i]? = some l' → BlkOf h u (s + (ls.take i).flatten.length) l') → (∀ j, j < ls.flatten.length → bl[s + j]? = ls.flatten[j]?) → (∀ u ∈ us, FullM 3 8 h u) →
      S.seen.length = bl.length → (∀ j, s ≤ j → j < s + ls.flatten.length → S.seen[j]? = some false) → (S.leaf = 0 ∨ S.leaf = d + 1 + h) →
      ∃ T, kidsV (fun S k => visit bl root m S k (d + 1)) (starts s ls) es S = some T ∧ Gone S T s ls.flatten.length (d + 1 + h) (inter (us.map (flatM h)) es)
  | [], us, es, s, S, h1, h2, _, _, _, _, _, _ => by simp at h1; omega
  | l :: ls, [], es, s, S, h1, h2, _, _, _, _, _, _ => by simp at h1
  | l :: ls, u :: us, es, s, S, h1, h2, hb, hbl, hF, hlen, hseen, hleaf => by
    have hb0 : BlkOf h u s l := by have := hb 0 u l rfl rfl; simpa using this
    have hfl : (l :: ls).flatten.length = l.length + ls.flatten.length := by simp
    obtain ⟨U, hU, g1, g2, g3, g4⟩ := hv (S := S) hb0 (fun j hj => by
      have := hbl j (by omega)
      rw [this, List.flatten_cons, List.getElem?_append_left hj]) (hF u (List.mem_cons_self ..)) hlen (fun j h3 h4 => hseen j h3 (by omega)) hleaf
    cases es with
    | nil =>
      have hus : us = [] := List.eq_nil_of_length_eq_zero (by simpa using h2)
      subst hus
      have hls : ls = [] := List.eq_nil_of_length_eq_zero (by simpa using h1)
      subst hls
      refine ⟨U, ?_, ?_⟩
      · show kidsV _ [(s : Int)] [] S = some U
        unfold kidsV
        rw [hU]; rfl
      · simp only [List.flatten_cons, List.flatten_nil, List.append_nil, List.map_cons, List.map_nil]
        exact ⟨by rw [g1]; simp [inter], g2, g3, g4⟩
    | cons e es =>
      obtain ⟨T, hT, k1, k2, k3, k4⟩ := kids_blk hv (ls := ls) (us := us) (es := es) (s := s + l.length) (S := ⟨U.seen, U.leaf, U.out ++ [e]⟩) (by simpa using h1) (by simpa using h2)
        (fun i u' l' hu' hl' => by
          have := hb (i + 1) u' l' (by simpa using hu') (by simpa using hl')
          simp only [List.take_succ_cons, List.flatten_cons, List.length_append] at this
          rw [← Nat.add_assoc] at this; exact this)
        (fun j hj => by
          have := hbl (l.length + j) (by omega)
          rw [← Nat.add_assoc] at this
          rw [this, List.flatten_cons, List.getElem?_append_right (by omega)]
          congr 1; omega)
        (fun v hv' => hF v (List.mem_cons_of_mem _ hv')) (g3.trans hlen) (fun j h3 h4 => by
          show U.seen[j]? = _
          rw [g4, if_neg (by omega)]
          exact hseen j (by omega) (by omega)) (.inr g2)
      refine ⟨T, ?_, ?_⟩
      · show kidsV _ ((s : Int) :: starts (s + l.length) ls) (e :: es) S = some T
        unfold kidsV
        rw [hU]; exact hT
      · refine ⟨?_, k2, k3.trans g3, fun j => ?_⟩
        · rw [k1]
          show U.out ++ [e] ++ _ = S.out ++ (flatM h u ++ e :: inter (us.map (flatM h)) es)
          rw [g1]; simp
        · rw [k4, hfl]
          show (if _ then _ else U.seen[j]?) = _
          rw [g4]
          by_cases c1 : s + l.length ≤ j ∧ j < s + l.length + ls.flatten.length
          · rw [if_pos c1, if_pos (by omega)]
          · rw [if_neg c1]
            by_cases c2 : s ≤ j ∧ j < s + l.length
            · rw [if_pos c2, if_pos (by omega)]
            · rw [if_neg c2, if_neg (by omega)]
theorem visit_blk : ∀ {h m : Nat} {t : MT} {s lo : Nat} {l : List NdM} {S : Sv} {d : Int}, BlkOf h t s l → (∀ j, j < l.length → bl[s + j]? = l[j]?) → FullM lo 8 h t → ((s : Int) = root ∨ 3 ≤ lo) → (h = 0 ∨ 1 ≤ lo) → h < m → S.seen.length = bl.length → (∀ j, s ≤ j → j < s + l.length → S.seen[j]? = some false) → (S.leaf = 0 ∨ S.leaf = d + h) →
    ∃ T, visit bl root m S (s : Int) d = some T ∧ Gone S T s l.length (d + h) (flatM h t)
  | 0, m + 1, t, s, lo, l, S, d, ⟨b, hl, he, hk⟩, hbl, F, hroot, _, hm, hlen, hseen, hleaf => by
    subst hl
    have hb : bl[((s : Nat) : Int).toNat]? = some b := by have := hbl 0 (by simp); simpa using this
    have hs : S.seen[((s : Nat) : Int).toNat]? = some false := hseen s (Nat.le_refl _) (by simp)
    obtain ⟨f1, f2, f3⟩ := F
    have hok : leafOk b (s : Int) root S.leaf d = true := by
      unfold leafOk
      rw [he]
      simp only [Bool.and_eq_true, Bool.or_eq_true, decide_eq_true_eq, beq_iff_eq]
      refine ⟨f3, ?_, ?_⟩
      · rcases hroot with h | h
        · exact .inl h
        · exact .inr (by omega)
      · simpa using hleaf
    refine ⟨_, by rw [visit_hit (by omega) hb hs, if_pos (by rw [hk]; rfl), if_pos hok], ⟨by rw [he]; rfl, by simp, by simp, fun j => ?_⟩⟩
    rw [List.getElem?_set, Int.toNat_natCast]
    have hsl := (List.getElem?_eq_some_iff.1 hs).1
    rw [Int.toNat_natCast] at hsl
    by_cases e : s = j
    · subst e; rw [if_pos rfl, if_pos hsl, if_pos (by simp)]
    · rw [if_neg e, if_neg (by simp; omega)]
  | h + 1, m + 1, t, s, lo, l, S, d, ⟨b, ls, hl, he, hk, hn, hkid⟩, hbl, F, hroot, h1, hm, hlen, hseen, hleaf => by
    subst hl
    obtain ⟨f1, f2, f3, f4⟩ := F
    have hb : bl[((s : Nat) : Int).toNat]? = some b := by have := hbl 0 (by simp); simpa using this
    have hs : S.seen[((s : Nat) : Int).toNat]? = some false := hseen s (Nat.le_refl _) (by simp)
    have hsl := (List.getElem?_eq_some_iff.1 hs).1
    rw [Int.toNat_natCast] at hsl
    have hkl : b.ks.length = b.es.length + 1 := by rw [hk, starts_len, hn, f1, he]
    have hok : nodeOk b (s : Int) root = true := by
      unfold nodeOk
      rw [he]
      simp only [Bool.and_eq_true, Bool.or_eq_true, decide_eq_true_eq, beq_iff_eq]
      refine ⟨f3, ?_, by omega, by rw [hkl, he]⟩
      rcases hroot with h | h
      · exact .inl h
      · exact .inr (by omega)
    obtain ⟨T, hT, k1, k2, k3, k4⟩ := kids_blk (bl := bl) (root := root) (h := h) (m := m) (d := d) (fun {u s' l' S'} q1 q2 q3 q4 q5 q6 => visit_blk q1 q2 q3 (.inr (Nat.le_refl _)) (.inr (by omega)) (by omega) q4 q5 q6) (ls := ls) (us := t.ks) (es := b.es) (s := s + 1) (S := ⟨S.seen.set s true, S.leaf, S.out⟩) hn (by rw [he]; exact f1) hkid
      (fun j hj => by
        have := hbl (j + 1) (by simp only [List.length_cons]; omega)
        rw [show s + 1 + j = s + (j + 1) by omega, this]; rfl) f4 (by simpa using hlen) (fun j h3 h4 => by
        show (S.seen.set s true)[j]? = _
        rw [List.getElem?_set, if_neg (by omega)]
        exact hseen j (by omega) (by simp only [List.length_cons]; omega)) (by
        show S.leaf = 0 ∨ S.leaf = _
        rcases hleaf with e | e
        · exact .inl e
        · exact .inr (by rw [e]; omega))
    refine ⟨T, ?_, ⟨?_, by rw [k2]; omega, k3.trans (by simp), fun j => ?_⟩⟩
    · rw [visit_hit (by omega) hb hs, if_neg (by omega), if_pos hok, Int.toNat_natCast, hk]
      exact hT
    · rw [k1, he]; rfl
    · rw [k4]
      show (if _ then _ else (S.seen.set s true)[j]?) = _
      rw [List.getElem?_set]
      simp only [List.length_cons]
      by_cases c1 : s + 1 ≤ j ∧ j < s + 1 + ls.flatten.length
      · rw [if_pos c1, if_pos (by omega)]
      · rw [if_neg c1]
        by_cases e : s = j
        · subst e; rw [if_pos rfl, if_pos hsl, if_pos (by omega)]
        · rw [if_neg e, if_neg (by omega)]
/-- The blocks of a good tree of nodes are a good tree. -/
theorem tree_blk {h : Nat} {t : MT} {lo : Nat} {cols : Int} (hB : BlkOf h t 0 bl) (F : FullM lo 8 h t) (h1 : h = 0 ∨ 1 ≤ lo) (hc : 1 ≤ cols ∧ cols ≤ 20) (hn : sizeM h t ≤ 2000) (hh : h < sizeM h t + 1) (hs : SrtE (flatM h t)) (he : ∀ e ∈ flatM h t, entB cols e = true) :
    ∃ S, treeV bl 0 cols = some S ∧ S.out = flatM h t ∧ S.leaf = 1 + h := by
  have hl := blk_len hB
  have hpos : 1 ≤ sizeM h t := by cases h <;> simp [sizeM]
  obtain ⟨T, hT, k1, k2, k3, k4⟩ := visit_blk (bl := bl) (root := 0) (m := bl.length + 1) (S := start bl.length) (d := 1) hB (fun j _ => by rw [Nat.zero_add]) F (.inl rfl) h1 (by omega) (by simp [start]) (fun j _ hj => by
    show (List.replicate bl.length false)[j]? = _
    rw [List.getElem?_replicate, if_pos (by omega)]) (.inl rfl)
  have hsh : Shape bl.length cols := ⟨hc.1, hc.2, by omega, by omega⟩
  have hall : T.seen.all id = true := by
    rw [List.all_eq_true]
    intro x hx
    obtain ⟨j, hj⟩ := List.mem_iff_getElem?.1 hx
    have hjl := (List.getElem?_eq_some_iff.1 hj).1
    rw [k4, if_pos ⟨by omega, by
      have : T.seen.length = bl.length := by rw [k3]; simp [start]
      omega⟩] at hj
    cases hj; rfl
  have ho : T.out = flatM h t := by rw [k1]; simp [start]
  refine ⟨T, ?_, ho, by rw [k2]⟩
  unfold treeV
  rw [if_pos hsh]
  have hT : visit bl 0 (bl.length + 1) (start bl.length) 0 1 = some T := hT
  rw [hT]
  simp only [hall, Bool.true_and, ho, good_of he hs, if_true]
end
theorem len_inter {α : Type} : ∀ {K : List (List α)} {E : List α}, K.length = E.length + 1 → (inter K E).length = (K.map List.length).sum + E.length
  | [], _, h => by simp at h
  | k :: K, [], h => by
    have : K = [] := List.eq_nil_of_length_eq_zero (by simpa using h)
    subst this
    simp [inter]
  | k :: K, e :: E, h => by
    show (k ++ e :: inter K E).length = _
    rw [List.length_append, List.length_cons, len_inter (K := K) (E := E) (by simpa using h)]
    simp; omega
/-- So many blocks need so many entries. -/
theorem size_le : ∀ {h lo : Nat} {t : MT}, FullM lo 1000 h t → lo + 3 * sizeM h t ≤ (flatM h t).length + 3
  | 0, lo, t, F => by
    show lo + 3 * 1 ≤ t.es.length + 3
    have := F.2.1
    omega
  | h + 1, lo, t, ⟨f1, f2, f3, f4⟩ => by
    have hl : (flatM (h + 1) t).length = ((t.ks.map (flatM h)).map List.length).sum + t.es.length := len_inter (by rw [List.length_map]; exact f1)
    rw [hl]
    show lo + 3 * (1 + (t.ks.map (sizeM h)).sum) ≤ _
    have key : ∀ l : List MT, (∀ u ∈ l, FullM 3 8 h u) → 3 * (l.map (sizeM h)).sum ≤ ((l.map (flatM h)).map List.length).sum := by
      intro l
      induction l with
      | nil => intro _; simp
      | cons u l ih =>
        intro hF
        have h1 := hF u (List.mem_cons_self ..)
        have h2 : FullM 3 1000 h u := by
          cases h with
          | zero => exact ⟨h1.1, h1.2.1, by have := h1.2.2; omega⟩
          | succ h => exact ⟨h1.1, h1.2.1, by have := h1.2.2.1; omega, h1.2.2.2⟩
        have h3 := size_le h2
        have h4 := ih fun v hv => hF v (List.mem_cons_of_mem _ hv)
        simp only [List.map_cons, List.sum_cons]
        omega
    have := key t.ks f4
    omega
/-- A tree is not deeper than it has blocks. -/
theorem deep_lt : ∀ {h lo hi : Nat} {t : MT}, FullM lo hi h t → h < sizeM h t
  | 0, _, _, t, _ => by simp [sizeM]
  | h + 1, lo, hi, t, ⟨f1, f2, f3, f4⟩ => by
    cases hk : t.ks with
    | nil => rw [hk] at f1; simp at f1
    | cons u l =>
      have := deep_lt (f4 u (by rw [hk]; exact List.mem_cons_self ..))
      show h + 1 < 1 + (t.ks.map (sizeM h)).sum
      rw [hk]
      simp only [List.map_cons, List.sum_cons]
      omega
end Go.Proofs.YtmelbipidffmpaaGreatDoor.Hw
