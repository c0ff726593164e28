/- Locks: how far it is back, and the way back: plain laws. -/
import Derived.Test.YtkbancdmhcnhjaaLw
set_option linter.unusedVariables false
set_option linter.unusedSimpArgs false
namespace Go.Proofs.Ytkbancdmhcnhjaa.Hw
open Go Go.Proofs
/-- So many steps lead from one back to the start, over greater ones. -/
def DP (E : Int → List Int) (s : Int) : Nat → Int → Prop
  | 0, u => u = s
  | n + 1, t => s < t ∧ ∃ u ∈ E t, DP E s n u
def IsD (E : Int → List Int) (s : Int) (n : Nat) (u : Int) : Prop := DP E s n u ∧ ∀ k, k < n → ¬ DP E s k u
noncomputable def dOf (E : Int → List Int) (s : Int) (u : Int) : Option Nat := @dite _ (∃ n, IsD E s n u) (Classical.propDecidable _) (fun h => some (Classical.choose h)) (fun _ => none)
theorem isD_uniq {E : Int → List Int} {s u : Int} {m n : Nat} (h : IsD E s m u) (h' : IsD E s n u) : m = n := by
  refine Nat.le_antisymm ?_ ?_
  · exact Nat.le_of_not_lt fun hlt => h.2 n hlt h'.1
  · exact Nat.le_of_not_lt fun hlt => h'.2 m hlt h.1
theorem dOf_some {E : Int → List Int} {s u : Int} {n : Nat} : dOf E s u = some n ↔ IsD E s n u := by
  unfold dOf
  by_cases h : ∃ n, IsD E s n u
  · rw [dif_pos h]
    constructor
    · intro e; cases e; exact Classical.choose_spec h
    · intro h'; exact congrArg some (isD_uniq (Classical.choose_spec h) h')
  · rw [dif_neg h]
    constructor
    · intro e; cases e
    · intro h'; exact absurd ⟨n, h'⟩ h
theorem dp_min {E : Int → List Int} {s u : Int} : ∀ {n : Nat}, DP E s n u → ∃ k, k ≤ n ∧ IsD E s k u := by
  intro n
  induction n using Nat.strongRecOn with
  | ind n ih =>
    intro h
    by_cases hc : ∃ k, k < n ∧ DP E s k u
    · obtain ⟨k, hk, hd⟩ := hc
      obtain ⟨j, hj, hi⟩ := ih k hk hd
      exact ⟨j, by omega, hi⟩
    · exact ⟨n, Nat.le_refl _, h, fun k hk hd => hc ⟨k, hk, hd⟩⟩
theorem dp_ge {E : Int → List Int} {s u : Int} {n : Nat} (h : DP E s n u) : s ≤ u := by
  cases n with
  | zero => have : u = s := h; omega
  | succ n => have := h.1; omega
theorem isD_zero {E : Int → List Int} {s : Int} : IsD E s 0 s := ⟨rfl, fun k hk => by omega⟩
theorem isD_step {E : Int → List Int} {s u : Int} {n : Nat} (h : IsD E s (n + 1) u) : ∃ v ∈ E u, IsD E s n v := by
  obtain ⟨⟨hu, v, hv, hd⟩, hmin⟩ := h
  refine ⟨v, hv, hd, fun k hk hk' => hmin (k + 1) (by omega) ⟨hu, v, hv, hk'⟩⟩
/-- The next one of the way: of the nearest ones the first. -/
noncomputable def pickStep (E : Int → List Int) (s : Int) (acc : Option Int) (u : Int) : Option Int := match dOf E s u with
  | none => acc
  | some d => match acc with
    | none => some u
    | some b => if d < (dOf E s b).getD 0 then some u else some b
noncomputable def pickM (E : Int → List Int) (s : Int) (l : List Int) : Option Int := l.foldl (pickStep E s) none
theorem pickM_succ {E : Int → List Int} {s x : Int} {l : List Int} {i : Nat} (h : l[i]? = some x) : pickM E s (l.take (i + 1)) = pickStep E s (pickM E s (l.take i)) x := by
  unfold pickM
  rw [List.take_add_one, h, List.foldl_append]; rfl
theorem pick_spec {E : Int → List Int} {s : Int} {l : List Int} : ∀ i, i ≤ l.length → (∀ b, pickM E s (l.take i) = some b → b ∈ l ∧ ∃ d, dOf E s b = some d ∧ ∀ u ∈ l.take i, ∀ d', dOf E s u = some d' → d ≤ d') ∧ (pickM E s (l.take i) = none → ∀ u ∈ l.take i, dOf E s u = none)
  | 0, _ => ⟨fun b h => (by simp [pickM] at h), fun _ u h => (by simp at h)⟩
  | i + 1, hi => by
    obtain ⟨h1, h2⟩ := pick_spec (E := E) (s := s) (l := l) i (by omega)
    obtain ⟨x, hx⟩ := get_of (l := l) (i := i) (by omega)
    have hmem : x ∈ l := List.mem_of_getElem? hx
    have ht : ∀ u, u ∈ l.take (i + 1) ↔ u ∈ l.take i ∨ u = x := fun u => by rw [List.take_add_one, hx]; simp
    rw [pickM_succ hx]
    unfold pickStep
    cases hd : dOf E s x with
    | none =>
      simp only
      refine ⟨fun b hb => ?_, fun hb u hu => ?_⟩
      · obtain ⟨g1, d, g2, g3⟩ := h1 b hb
        refine ⟨g1, d, g2, fun u hu d' hd' => ?_⟩
        rcases (ht u).1 hu with hu | rfl
        · exact g3 u hu d' hd'
        · rw [hd] at hd'; cases hd'
      · rcases (ht u).1 hu with hu | rfl
        · exact h2 hb u hu
        · exact hd
    | some d =>
      simp only
      cases hp : pickM E s (l.take i) with
      | none =>
        simp only
        refine ⟨fun b hb => ?_, fun hb => (by cases hb)⟩
        cases hb
        refine ⟨hmem, d, hd, fun u hu d' hd' => ?_⟩
        rcases (ht u).1 hu with hu | rfl
        · rw [h2 hp u hu] at hd'; cases hd'
        · rw [hd] at hd'; cases hd'; exact Nat.le_refl _
      | some b0 =>
        obtain ⟨g1, d0, g2, g3⟩ := h1 b0 hp
        simp only [g2, Option.getD_some]
        by_cases hlt : d < d0
        · rw [if_pos hlt]
          refine ⟨fun b hb => ?_, fun hb => (by cases hb)⟩
          cases hb
          refine ⟨hmem, d, hd, fun u hu d' hd' => ?_⟩
          rcases (ht u).1 hu with hu | rfl
          · have := g3 u hu d' hd'; omega
          · rw [hd] at hd'; cases hd'; exact Nat.le_refl _
        · rw [if_neg hlt]
          refine ⟨fun b hb => ?_, fun hb => (by cases hb)⟩
          cases hb
          refine ⟨g1, d0, g2, fun u hu d' hd' => ?_⟩
          rcases (ht u).1 hu with hu | rfl
          · exact g3 u hu d' hd'
          · rw [hd] at hd'; cases hd'; omega
/-- The way on from one of them. -/
inductive Way (E : Int → List Int) (s : Int) : Int → List Int → Option (List Int) → Prop
  | stop {a : Int} {out : List Int} (h : pickM E s (E a) = none) : Way E s a out none
  | done {a : Int} {out : List Int} (h : pickM E s (E a) = some s) : Way E s a out (some out)
  | step {a b : Int} {out : List Int} {r : Option (List Int)} (h : pickM E s (E a) = some b) (hb : b ≠ s) (hr : Way E s b (out ++ [b]) r) : Way E s a out r
theorem way_uniq {E : Int → List Int} {s a : Int} {out : List Int} {r r' : Option (List Int)} (h : Way E s a out r) (h' : Way E s a out r') : r = r' := by
  induction h with
  | stop h =>
    cases h' with
    | stop _ => rfl
    | done g => rw [h] at g; cases g
    | step g _ _ => rw [h] at g; cases g
  | done h =>
    cases h' with
    | stop g => rw [h] at g; cases g
    | done _ => rfl
    | step g hb _ => rw [h] at g; cases g; exact absurd rfl hb
  | step h hb _ ih =>
    cases h' with
    | stop g => rw [h] at g; cases g
    | done g => rw [h] at g; cases g; exact absurd rfl hb
    | step g _ hr => rw [h] at g; cases g; exact ih hr
/-! ### distances in a map -/
def distOf (dm : KV) (u : Int) : Option Nat := match kvGet dm u with
  | some (.int _ d) => some d.toNat
  | _ => none
def DmOk (E : Int → List Int) (s : Int) (K : List Int) (dm : KV) : Prop :=
  keysD dm ∧ kvGet dm s = some (.int .i64 0) ∧ ∀ u v, (u, v) ∈ dm → (u = s ∨ u ∈ K) ∧ ∃ d : Nat, v = .int .i64 (d : Int) ∧ DP E s d u ∧ d < dm.length
theorem dm_get {E : Int → List Int} {s u : Int} {K : List Int} {dm : KV} (h : DmOk E s K dm) : (kvGet dm u).getD (.int .i64 0) = .int .i64 (((distOf dm u).getD 0 : Nat) : Int) ∧ (kvGet dm u).isSome = (distOf dm u).isSome := by
  unfold distOf
  cases hg : kvGet dm u with
  | none => exact ⟨rfl, rfl⟩
  | some v =>
    obtain ⟨_, d, rfl, _⟩ := h.2.2 u v ((kvGet_mem h.1).1 hg)
    simp
theorem dm_some {E : Int → List Int} {s u : Int} {K : List Int} {dm : KV} {d : Nat} (h : DmOk E s K dm) (hd : distOf dm u = some d) : DP E s d u ∧ d < dm.length ∧ (u = s ∨ u ∈ K) := by
  unfold distOf at hd
  cases hg : kvGet dm u with
  | none => rw [hg] at hd; cases hd
  | some v =>
    obtain ⟨hk, d', rfl, h1, h2⟩ := h.2.2 u v ((kvGet_mem h.1).1 hg)
    rw [hg] at hd
    simp only [Int.toNat_natCast, Option.some.injEq] at hd
    subst hd
    exact ⟨h1, h2, hk⟩
theorem kvPut_len {kv : KV} {x : Int} {v : Value} : kv.length ≤ (kvPut kv x v).length ∧ (kvGet kv x = none → (kvPut kv x v).length = kv.length + 1) := by
  unfold kvPut
  split
  · rename_i i hi
    refine ⟨by rw [List.length_set]; exact Nat.le_refl _, fun hn => ?_⟩
    rw [List.findIdx?_eq_some_iff_getElem] at hi
    obtain ⟨hlt, hp, _⟩ := hi
    unfold kvGet at hn
    simp only [Option.map_eq_none_iff, List.find?_eq_none] at hn
    exact absurd hp (hn _ (List.getElem_mem hlt))
  · exact ⟨by simp, fun _ => by simp⟩
theorem dm_put {E : Int → List Int} {s t u : Int} {K : List Int} {dm : KV} {d : Nat} (h : DmOk E s K dm) (hst : s < t) (ht : t ∈ K) (hu : u ∈ E t) (hd : distOf dm u = some d) (hlt : ∀ d', distOf dm t = some d' → d + 1 < d') : DmOk E s K (kvPut dm t (.int .i64 ((d + 1 : Nat) : Int))) := by
  have hk := keysD_put (x := t) (v := .int .i64 ((d + 1 : Nat) : Int)) h.1
  obtain ⟨g1, g2, _⟩ := dm_some h hd
  refine ⟨hk, ?_, fun x v hm => ?_⟩
  · rw [kvGet_put, if_neg (by omega)]; exact h.2.1
  · have hg := (kvGet_mem hk).2 hm
    rw [kvGet_put] at hg
    split at hg
    · rename_i e
      subst e
      cases hg
      refine ⟨.inr ht, d + 1, rfl, ⟨hst, u, hu, g1⟩, ?_⟩
      have hl := kvPut_len (kv := dm) (x := x) (v := .int .i64 ((d + 1 : Nat) : Int))
      cases hx : distOf dm x with
      | none =>
        have hn : kvGet dm x = none := by
          have := (dm_get (u := x) h).2
          rw [hx] at this
          simpa using this
        rw [hl.2 hn]; omega
      | some d' =>
        have := hlt d' hx
        have := (dm_some h hx).2.1
        omega
    · obtain ⟨e1, d', e2, e3, e4⟩ := h.2.2 x v ((kvGet_mem h.1).1 hg)
      exact ⟨e1, d', e2, e3, Nat.lt_of_lt_of_le e4 kvPut_len.1⟩
theorem distOf_put {dm : KV} {t x : Int} {d : Nat} : distOf (kvPut dm t (.int .i64 (d : Int))) x = if x = t then some d else distOf dm x := by
  unfold distOf
  rw [kvGet_put]
  by_cases e : x = t
  · rw [if_pos e, if_pos e]; simp
  · rw [if_neg e, if_neg e]
def relaxed (dm : KV) (t u : Int) : Prop := ∀ d, distOf dm u = some d → ∃ d', distOf dm t = some d' ∧ d' ≤ d + 1
theorem dm_done {E : Int → List Int} {s : Int} {K : List Int} {dm : KV} (h : DmOk E s K dm) (hE : ∀ t u, u ∈ E t → t ∈ K) (hf : ∀ t ∈ K, s < t → ∀ u ∈ E t, relaxed dm t u) : ∀ u, distOf dm u = dOf E s u := by
  have key : ∀ n u, DP E s n u → ∃ d, distOf dm u = some d ∧ d ≤ n := by
    intro n
    induction n with
    | zero =>
      intro u hu
      have : u = s := hu
      subst this
      exact ⟨0, by unfold distOf; rw [h.2.1]; rfl, Nat.le_refl _⟩
    | succ n ih =>
      rintro t ⟨hst, u, hu, hd⟩
      obtain ⟨d, h1, h2⟩ := ih u hd
      obtain ⟨d', h3, h4⟩ := hf t (hE t u hu) hst u hu d h1
      exact ⟨d', h3, by omega⟩
  intro u
  cases hd : distOf dm u with
  | none =>
    cases ho : dOf E s u with
    | none => rfl
    | some n =>
      obtain ⟨d, h1, _⟩ := key n u (dOf_some.1 ho).1
      rw [hd] at h1; cases h1
  | some d =>
    refine (dOf_some.2 ⟨(dm_some h hd).1, fun k hk hdk => ?_⟩).symm
    obtain ⟨d', h1, h2⟩ := key k u hdk
    rw [hd] at h1
    cases h1
    omega
/-! ### how much there is still to do -/
def valD (N : Nat) (dm : KV) (t : Int) : Nat := (distOf dm t).getD (N + 1)
def msr (N : Nat) (K : List Int) (dm : KV) : Nat := (K.map (valD N dm)).sum
theorem sum_lt {f g : Int → Nat} {t : Int} : ∀ {K : List Int}, t ∈ K → (∀ x, f x ≤ g x) → f t < g t → (K.map f).sum < (K.map g).sum
  | [], h, _, _ => by cases h
  | a :: r, h, hle, hlt => by
    have hs : (r.map f).sum ≤ (r.map g).sum := by
      clear h
      induction r with
      | nil => exact Nat.le_refl _
      | cons b r ih => simp only [List.map_cons, List.sum_cons]; have := hle b; omega
    simp only [List.map_cons, List.sum_cons]
    rcases List.mem_cons.1 h with rfl | h
    · omega
    · have := sum_lt h hle hlt
      have := hle a
      omega
theorem msr_put {E : Int → List Int} {s t : Int} {K : List Int} {dm : KV} {d N : Nat} (h : DmOk E s K dm) (hN : dm.length ≤ N) (ht : t ∈ K) (hd : d < dm.length) (hlt : ∀ d', distOf dm t = some d' → d + 1 < d') : msr N K (kvPut dm t (.int .i64 ((d + 1 : Nat) : Int))) < msr N K dm := by
  have e : valD N (kvPut dm t (.int .i64 ((d + 1 : Nat) : Int))) t < valD N dm t := by
    unfold valD
    rw [distOf_put, if_pos rfl]
    cases hx : distOf dm t with
    | none => simp only [Option.getD_some, Option.getD_none]; omega
    | some d' => have := hlt d' hx; simpa using this
  refine sum_lt ht (fun x => ?_) e
  by_cases ex : x = t
  · subst ex; omega
  · unfold valD
    rw [distOf_put, if_neg ex]; exact Nat.le_refl _
theorem dm_len {E : Int → List Int} {s : Int} {K : List Int} {dm : KV} (h : DmOk E s K dm) : dm.length ≤ K.length + 1 := by
  have h1 : (dm.map (·.1)).Nodup := h.1
  have h2 : dm.map (·.1) ⊆ s :: K := fun x hx => by
    obtain ⟨p, hp, rfl⟩ := List.mem_map.1 hx
    rcases (h.2.2 p.1 p.2 hp).1 with e | e
    · rw [e]; exact List.mem_cons_self
    · exact List.mem_cons_of_mem _ e
  have := h1.length_le_of_subset h2
  simpa using this
end Go.Proofs.Ytkbancdmhcnhjaa.Hw
