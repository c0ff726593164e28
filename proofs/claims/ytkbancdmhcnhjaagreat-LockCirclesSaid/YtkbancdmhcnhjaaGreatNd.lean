/- Locks: the search by levels finds what the way back finds: plain law. -/
import Derived.Test.YtkbancdmhcnhjaaGreatNa
set_option linter.unusedVariables false
set_option linter.unusedSimpArgs false
namespace Go.Proofs.YtkbancdmhcnhjaaGreat.Hw
open Go Go.Proofs
def lastD (r : List Int) : Int := r.getLast?.getD 0
theorem lastD_snoc {r : List Int} {m : Int} : lastD (r ++ [m]) = m := by unfold lastD; simp
abbrev LvS := List (List Int) × List Int
def stepP (s : Int) (r : List Int) (acc : LvS) (m : Int) : LvS := if decide (m > s) && (!(r.any (· == m)) && !(acc.2.any (· == m))) then (acc.1 ++ [r ++ [m]], acc.2 ++ [m]) else acc
def stepR (E : Int → List Int) (s : Int) (acc : LvS) (r : List Int) : LvS := (E (lastD r)).foldl (stepP s r) acc
def stepL (E : Int → List Int) (s : Int) (rows : List (List Int)) : List (List Int) := (rows.foldl (stepR E s) ([], [])).1
def foundR (E : Int → List Int) (s : Int) (rows : List (List Int)) : Option (List Int) := rows.find? fun r => (E (lastD r)).any (· == s)
def circR (E : Int → List Int) (s : Int) : Nat → List (List Int) → Option (List Int)
  | 0, _ => none
  | k + 1, rows => if rows.isEmpty then none else match foundR E s rows with
    | some r => some r
    | none => circR E s k (stepL E s rows)
section
variable {E : Int → List Int} {s : Int}
theorem stepP_grow {r : List Int} : ∀ {l : List Int} {acc : LvS}, ∃ T, (l.foldl (stepP s r) acc).1 = acc.1 ++ T
  | [], acc => ⟨[], by simp⟩
  | m :: l, acc => by
    obtain ⟨T, hT⟩ := stepP_grow (r := r) (l := l) (acc := stepP s r acc m)
    rw [List.foldl_cons, hT]
    unfold stepP
    split
    · exact ⟨[r ++ [m]] ++ T, by simp⟩
    · exact ⟨T, rfl⟩
theorem stepR_grow : ∀ {rows : List (List Int)} {acc : LvS}, ∃ T, (rows.foldl (stepR E s) acc).1 = acc.1 ++ T
  | [], acc => ⟨[], by simp⟩
  | r :: rows, acc => by
    obtain ⟨T, hT⟩ := stepR_grow (rows := rows) (acc := stepR E s acc r)
    obtain ⟨T', hT'⟩ := stepP_grow (s := s) (r := r) (l := E (lastD r)) (acc := acc)
    rw [List.foldl_cons, hT]
    unfold stepR
    rw [hT']
    exact ⟨T' ++ T, by simp⟩
/-- What a fold over rows keeps. -/
theorem stepP_all {P : List Int → Prop} {q : Int → Prop} {r : List Int} : ∀ {l : List Int} {acc : LvS}, (∀ m ∈ l, s < m → P (r ++ [m]) ∧ q m) → (∀ x ∈ acc.1, P x) → (∀ m ∈ acc.2, q m) → (∀ x ∈ (l.foldl (stepP s r) acc).1, P x) ∧ ∀ m ∈ (l.foldl (stepP s r) acc).2, q m
  | [], acc, _, h1, h2 => ⟨h1, h2⟩
  | m :: l, acc, h, h1, h2 => by
    rw [List.foldl_cons]
    refine stepP_all (fun x hx => h x (List.mem_cons_of_mem _ hx)) ?_ ?_
    · intro x hx
      unfold stepP at hx
      split at hx
      · rename_i hc
        simp only [Bool.and_eq_true, decide_eq_true_eq] at hc
        rcases List.mem_append.1 hx with hx | hx
        · exact h1 x hx
        · obtain rfl := List.mem_singleton.1 hx
          exact (h m List.mem_cons_self hc.1).1
      · exact h1 x hx
    · intro x hx
      unfold stepP at hx
      split at hx
      · rename_i hc
        simp only [Bool.and_eq_true, decide_eq_true_eq] at hc
        rcases List.mem_append.1 hx with hx | hx
        · exact h2 x hx
        · obtain rfl := List.mem_singleton.1 hx
          exact (h x List.mem_cons_self hc.1).2
      · exact h2 x hx
theorem stepR_all {P : List Int → Prop} {q : Int → Prop} : ∀ {rows : List (List Int)} {acc : LvS}, (∀ r ∈ rows, ∀ m ∈ E (lastD r), s < m → P (r ++ [m]) ∧ q m) → (∀ x ∈ acc.1, P x) → (∀ m ∈ acc.2, q m) → (∀ x ∈ (rows.foldl (stepR E s) acc).1, P x) ∧ ∀ m ∈ (rows.foldl (stepR E s) acc).2, q m
  | [], acc, _, h1, h2 => ⟨h1, h2⟩
  | r :: rows, acc, h, h1, h2 => by
    rw [List.foldl_cons]
    obtain ⟨g1, g2⟩ := stepP_all (P := P) (q := q) (s := s) (r := r) (l := E (lastD r)) (acc := acc) (h r List.mem_cons_self) h1 h2
    exact stepR_all (fun x hx => h x (List.mem_cons_of_mem _ hx)) g1 g2
def RowOk (E : Int → List Int) (s : Int) (n : Nat) (r : List Int) : Prop := r.length = n ∧ ((n = 1 ∧ r = [s]) ∨ (2 ≤ n ∧ s < lastD r ∧ ∀ k, DP E s k (lastD r) → ∃ u ∈ E s, DP E s (k + (n - 2)) u))
theorem rowOk_step {n : Nat} {r : List Int} {m : Int} (h : RowOk E s n r) (hm : m ∈ E (lastD r)) (hs : s < m) : RowOk E s (n + 1) (r ++ [m]) := by
  obtain ⟨h1, h2⟩ := h
  refine ⟨by rw [List.length_append, h1]; rfl, .inr ⟨?_, by rw [lastD_snoc]; exact hs, fun k hk => ?_⟩⟩
  · rcases h2 with ⟨h, _⟩ | ⟨h, _⟩ <;> omega
  · rw [lastD_snoc] at hk
    rcases h2 with ⟨e, rfl⟩ | ⟨h2, h3, h4⟩
    · subst e
      exact ⟨m, by simpa [lastD] using hm, by simpa using hk⟩
    · obtain ⟨u, hu, hd⟩ := h4 (k + 1) ⟨h3, m, hm, hk⟩
      exact ⟨u, hu, by rw [show k + (n + 1 - 2) = k + 1 + (n - 2) by omega]; exact hd⟩
theorem rows_step {n : Nat} {rows : List (List Int)} (h : ∀ r ∈ rows, RowOk E s n r) : ∀ r ∈ stepL E s rows, RowOk E s (n + 1) r := by
  unfold stepL
  exact (stepR_all (P := RowOk E s (n + 1)) (q := fun _ => True) (acc := ([], [])) (fun r hr m hm hs => ⟨rowOk_step (h r hr) hm hs, trivial⟩) (fun x hx => by cases hx) (fun x hx => by cases hx)).1
theorem has_mem {l : List Int} {x : Int} : l.any (· == x) = true ↔ x ∈ l := by
  rw [List.any_eq_true]
  constructor
  · rintro ⟨y, hy, e⟩; rw [← (by simpa using e : y = x)]; exact hy
  · intro h; exact ⟨x, h, by simp⟩
theorem dOf_le {u : Int} {n : Nat} (h : DP E s n u) : ∃ d, dOf E s u = some d ∧ d ≤ n := by
  obtain ⟨k, hk, hi⟩ := dp_min h
  exact ⟨k, dOf_some.2 hi, hk⟩
/-- A row of which the start is reached at once bounds the nearest one. -/
theorem found_near {n : Nat} {r : List Int} (h : RowOk E s n r) (hm : s ∈ E (lastD r)) : ∃ u ∈ E s, ∃ d, dOf E s u = some d ∧ d + 1 ≤ n := by
  obtain ⟨h1, ⟨rfl, rfl⟩ | ⟨h2, h3, h4⟩⟩ := h
  · exact ⟨s, by simpa [lastD] using hm, 0, dOf_some.2 isD_zero, by omega⟩
  · obtain ⟨u, hu, hd⟩ := h4 1 ⟨h3, s, hm, rfl⟩
    obtain ⟨d, hd1, hd2⟩ := dOf_le hd
    exact ⟨u, hu, d, hd1, by omega⟩
theorem circ_none (hp : ∀ u ∈ E s, dOf E s u = none) : ∀ k n rows, (∀ r ∈ rows, RowOk E s n r) → circR E s k rows = none
  | 0, _, _, _ => rfl
  | k + 1, n, rows, h => by
    have hf : foundR E s rows = none := by
      unfold foundR
      rw [List.find?_eq_none]
      intro r hr hc
      obtain ⟨u, hu, d, hd, _⟩ := found_near (h r hr) (has_mem.1 hc)
      rw [hp u hu] at hd; cases hd
    unfold circR
    rw [hf]
    simp only
    split
    · rfl
    · exact circ_none hp k (n + 1) _ (rows_step h)
theorem pick_first {l : List Int} : ∀ i, i ≤ l.length → ∀ b, pickM E s (l.take i) = some b → ∃ X Y, l.take i = X ++ b :: Y ∧ ∀ x ∈ X, dOf E s x ≠ dOf E s b
  | 0, _, b, h => by simp [pickM] at h
  | i + 1, hi, b, h => by
    obtain ⟨x, hx⟩ := get_of (l := l) (i := i) (by omega)
    obtain ⟨ps1, ps2⟩ := pick_spec (E := E) (s := s) (l := l) i (by omega)
    have ht : l.take (i + 1) = l.take i ++ [x] := by rw [List.take_add_one, hx]; rfl
    rw [pickM_succ hx] at h
    unfold pickStep at h
    have old : pickM E s (l.take i) = some b → ∃ X Y, l.take (i + 1) = X ++ b :: Y ∧ ∀ x ∈ X, dOf E s x ≠ dOf E s b := fun h => by
      obtain ⟨X, Y, h1, h2⟩ := pick_first i (by omega) b h
      exact ⟨X, Y ++ [x], by rw [ht, h1]; simp, h2⟩
    cases hd : dOf E s x with
    | none => rw [hd] at h; exact old h
    | some d =>
      rw [hd] at h
      simp only at h
      cases hp : pickM E s (l.take i) with
      | none =>
        rw [hp] at h
        simp only [Option.some.injEq] at h
        subst h
        exact ⟨l.take i, [], ht, fun y hy e => by rw [ps2 hp y hy, hd] at e; cases e⟩
      | some b0 =>
        rw [hp] at h
        obtain ⟨g1, d0, g2, g3⟩ := ps1 b0 hp
        simp only [g2, Option.getD_some] at h
        split at h
        · rename_i hlt
          cases h
          exact ⟨l.take i, [], ht, fun y hy e => by have := g3 y hy d (e.trans hd); omega⟩
        · cases h; exact old hp
structure GoodRow (E : Int → List Int) (s : Int) (d1 n : Nat) (r : List Int) : Prop where
  way : ∀ res, Way E s (lastD r) r res → Way E s s [s] res
  near : (n = 1 ∧ r = [s]) ∨ (2 ≤ n ∧ IsD E s (d1 + 2 - n) (lastD r))
  els : ∀ x ∈ r, x = s ∨ ∃ d, IsD E s d x ∧ d1 + 2 - n ≤ d
theorem circ_some {p1 : Int} {d1 : Nat} (hp : pickM E s (E s) = some p1) (hd1 : dOf E s p1 = some d1) (hmin : ∀ u ∈ E s, ∀ d', dOf E s u = some d' → d1 ≤ d') :
    ∀ (k n : Nat) (rows A B : List (List Int)) (r0 : List Int), 1 ≤ n → n ≤ d1 + 1 → d1 + 1 - n < k → (∀ r ∈ rows, RowOk E s n r) → rows = A ++ r0 :: B → GoodRow E s d1 n r0 → (n = 1 → A = []) → (2 ≤ n → ∀ r ∈ A, ¬ DP E s (d1 + 2 - n) (lastD r)) → ∃ res, circR E s k rows = some res ∧ Way E s s [s] (some res)
  | 0, n, _, _, _, _, _, _, h, _, _, _, _, _ => by omega
  | k + 1, n, rows, A, B, r0, h1, h2, h3, hok, hrows, hgood, hA1, hA2 => by
    have hne : rows.isEmpty = false := by rw [hrows]; cases A <;> rfl
    have hok0 := hok r0 (by rw [hrows]; simp)
    by_cases hlast : n = d1 + 1
    · -- found
      have hpick : pickM E s (E (lastD r0)) = some s := by
        rcases hgood.near with ⟨e, rfl⟩ | ⟨h, hi⟩
        · have e0 : d1 = 0 := by omega
          have hl : lastD [s] = s := rfl
          rw [hl, hp]
          have := dOf_some.1 hd1
          rw [e0] at this
          exact congrArg some this.1
        · have e1 : d1 + 2 - n = 0 + 1 := by omega
          rw [e1] at hi
          obtain ⟨v, hv, hiv⟩ := isD_step hi
          have hvs : v = s := hiv.1
          subst hvs
          obtain ⟨ps1, ps2⟩ := pick_spec (E := E) (s := v) (l := E (lastD r0)) _ (Nat.le_refl _)
          rw [List.take_length] at ps1 ps2
          cases hpp : pickM E v (E (lastD r0)) with
          | none => have := ps2 hpp v hv; rw [dOf_some.2 isD_zero] at this; cases this
          | some b =>
            obtain ⟨_, d, hd, hm⟩ := ps1 b hpp
            have := hm v hv 0 (dOf_some.2 isD_zero)
            have e : d = 0 := by omega
            subst e
            exact congrArg some (dOf_some.1 hd).1
      have hsm : s ∈ E (lastD r0) := by
        obtain ⟨ps1, _⟩ := pick_spec (E := E) (s := s) (l := E (lastD r0)) _ (Nat.le_refl _)
        rw [List.take_length] at ps1
        exact (ps1 s hpick).1
      have hf : foundR E s rows = some r0 := by
        unfold foundR
        rw [hrows, List.find?_append, List.find?_cons, has_mem.2 hsm]
        have : A.find? (fun r => (E (lastD r)).any (· == s)) = none := by
          rw [List.find?_eq_none]
          intro r hr hc
          have hc := has_mem.1 hc
          by_cases e : n = 1
          · rw [hA1 e] at hr; cases hr
          · obtain ⟨_, ⟨e', _⟩ | ⟨g2, g3, _⟩⟩ := hok r (by rw [hrows]; exact List.mem_append_left _ hr)
            · exact e e'
            · refine hA2 g2 r hr ?_
              rw [show d1 + 2 - n = 0 + 1 by omega]
              exact ⟨g3, s, hc, rfl⟩
        rw [this]; rfl
      refine ⟨r0, ?_, hgood.way _ (.done hpick)⟩
      unfold circR
      rw [hf, hne]; rfl
    · -- a level on
      have hf : foundR E s rows = none := by
        unfold foundR
        rw [List.find?_eq_none]
        intro r hr hc
        obtain ⟨u, hu, d, hd, hle⟩ := found_near (hok r hr) (has_mem.1 hc)
        have := hmin u hu d hd
        omega
      have hstep : ∃ p, pickM E s (E (lastD r0)) = some p ∧ IsD E s (d1 + 1 - n) p := by
        rcases hgood.near with ⟨rfl, rfl⟩ | ⟨h, hi⟩
        · exact ⟨p1, hp, dOf_some.1 hd1⟩
        · have e1 : d1 + 2 - n = (d1 + 1 - n) + 1 := by omega
          rw [e1] at hi
          obtain ⟨v, hv, hiv⟩ := isD_step hi
          obtain ⟨ps1, ps2⟩ := pick_spec (E := E) (s := s) (l := E (lastD r0)) _ (Nat.le_refl _)
          rw [List.take_length] at ps1 ps2
          cases hpp : pickM E s (E (lastD r0)) with
          | none => have := ps2 hpp v hv; rw [dOf_some.2 hiv] at this; cases this
          | some b =>
            obtain ⟨hb, d, hd, hm⟩ := ps1 b hpp
            have hle := hm v hv _ (dOf_some.2 hiv)
            have hge : ¬ d < d1 + 1 - n := fun hlt => hi.2 (d + 1) (by omega) ⟨hi.1.1, b, hb, (dOf_some.1 hd).1⟩
            have e : d = d1 + 1 - n := by omega
            subst e
            exact ⟨b, rfl, dOf_some.1 hd⟩
      obtain ⟨p, hpick, hip⟩ := hstep
      obtain ⟨ps1, _⟩ := pick_spec (E := E) (s := s) (l := E (lastD r0)) _ (Nat.le_refl _)
      rw [List.take_length] at ps1
      obtain ⟨_, dp, hdp, hpm⟩ := ps1 p hpick
      obtain ⟨X, Y, hXY, hX⟩ := pick_first (E := E) (s := s) (l := E (lastD r0)) _ (Nat.le_refl _) p (by rw [List.take_length]; exact hpick)
      rw [List.take_length] at hXY
      have edp : dp = d1 + 1 - n := isD_uniq (dOf_some.1 hdp) hip
      have hps : p ≠ s := fun e => by
        rw [e] at hip
        have := isD_uniq hip isD_zero
        omega
      have hpgt : s < p := by have := dp_ge hip.1; omega
      have badA : ∀ r ∈ A, ∀ m ∈ E (lastD r), s < m → True ∧ ¬ DP E s (d1 + 1 - n) m := fun r hr m hm _ => ⟨trivial, fun hd => by
        by_cases e : n = 1
        · rw [hA1 e] at hr; cases hr
        · obtain ⟨_, ⟨e', _⟩ | ⟨g2, g3, _⟩⟩ := hok r (by rw [hrows]; exact List.mem_append_left _ hr)
          · exact e e'
          · refine hA2 g2 r hr ?_
            rw [show d1 + 2 - n = (d1 + 1 - n) + 1 by omega]
            exact ⟨g3, m, hm, hd⟩⟩
      have badX : ∀ m ∈ X, ¬ DP E s (d1 + 1 - n) m := fun m hm hd => by
        obtain ⟨d, hd1', hd2⟩ := dOf_le hd
        have h3 := hpm m (by rw [hXY]; exact List.mem_append_left _ hm) d hd1'
        have : d = dp := by omega
        subst this
        exact hX m hm (hd1'.trans hdp.symm)
      have accA := stepR_all (E := E) (s := s) (P := fun r => ¬ DP E s (d1 + 1 - n) (lastD r)) (q := fun m => ¬ DP E s (d1 + 1 - n) m) (rows := A) (acc := ([], [])) (fun r hr m hm hs => ⟨by rw [lastD_snoc]; exact (badA r hr m hm hs).2, (badA r hr m hm hs).2⟩) (fun x hx => by cases hx) (fun x hx => by cases hx)
      have accX := stepP_all (s := s) (P := fun r => ¬ DP E s (d1 + 1 - n) (lastD r)) (q := fun m => ¬ DP E s (d1 + 1 - n) m) (r := r0) (l := X) (acc := A.foldl (stepR E s) ([], [])) (fun m hm _ => ⟨by rw [lastD_snoc]; exact badX m hm, badX m hm⟩) accA.1 accA.2
      have hnew : stepP s r0 (X.foldl (stepP s r0) (A.foldl (stepR E s) ([], []))) p = ((X.foldl (stepP s r0) (A.foldl (stepR E s) ([], []))).1 ++ [r0 ++ [p]], (X.foldl (stepP s r0) (A.foldl (stepR E s) ([], []))).2 ++ [p]) := by
        have hn1 : r0.any (· == p) = false := by
          cases hh : r0.any (· == p) with
          | false => rfl
          | true =>
            rcases hgood.els p (has_mem.1 hh) with e | ⟨d, hid, hle⟩
            · exact absurd e hps
            · have := isD_uniq hid hip; omega
        have hn2 : (X.foldl (stepP s r0) (A.foldl (stepR E s) ([], []))).2.any (· == p) = false := by
          cases hh : (X.foldl (stepP s r0) (A.foldl (stepR E s) ([], []))).2.any (· == p) with
          | false => rfl
          | true => exact absurd hip.1 (accX.2 p (has_mem.1 hh))
        unfold stepP
        rw [if_pos (by unfold stepP at hn2; rw [hn1, hn2, decide_eq_true hpgt]; rfl)]
      obtain ⟨T1, hT1⟩ := stepP_grow (s := s) (r := r0) (l := Y) (acc := stepP s r0 (X.foldl (stepP s r0) (A.foldl (stepR E s) ([], []))) p)
      obtain ⟨T2, hT2⟩ := stepR_grow (E := E) (s := s) (rows := B) (acc := stepR E s (A.foldl (stepR E s) ([], [])) r0)
      have hlev : stepL E s rows = (X.foldl (stepP s r0) (A.foldl (stepR E s) ([], []))).1 ++ (r0 ++ [p]) :: (T1 ++ T2) := by
        unfold stepL
        rw [hrows, List.foldl_append, List.foldl_cons, hT2]
        have : (stepR E s (A.foldl (stepR E s) ([], [])) r0).1 = (Y.foldl (stepP s r0) (stepP s r0 (X.foldl (stepP s r0) (A.foldl (stepR E s) ([], []))) p)).1 := by
          unfold stepR
          rw [hXY, List.foldl_append, List.foldl_cons]
        rw [this, hT1, hnew]
        simp
      have hres := circ_some hp hd1 hmin k (n + 1) (stepL E s rows) _ _ (r0 ++ [p]) (by omega) (by omega) (by omega) (rows_step hok) hlev
        ⟨fun res hw => hgood.way res (.step hpick hps (by rw [lastD_snoc] at hw; exact hw)), .inr ⟨by omega, by rw [lastD_snoc, show d1 + 2 - (n + 1) = d1 + 1 - n by omega]; exact hip⟩, fun x hx => ?_⟩ (fun e => by omega) (fun _ r hr => by rw [show d1 + 2 - (n + 1) = d1 + 1 - n by omega]; exact accX.1 r hr)
      · obtain ⟨res, hr1, hr2⟩ := hres
        refine ⟨res, ?_, hr2⟩
        unfold circR
        rw [hf, hne]
        exact hr1
      · rcases List.mem_append.1 hx with hx | hx
        · rcases hgood.els x hx with e | ⟨d, hid, hle⟩
          · exact .inl e
          · exact .inr ⟨d, hid, by omega⟩
        · obtain rfl := List.mem_singleton.1 hx
          exact .inr ⟨_, hip, by omega⟩
theorem isD_bound {K : List Int} (hE : ∀ t u, u ∈ E t → t ∈ K) : ∀ {n : Nat} {u : Int}, IsD E s n u → ∃ L : List Int, L.length = n ∧ L.Nodup ∧ ∀ x ∈ L, x ∈ K ∧ ∃ d, d ≤ n ∧ 1 ≤ d ∧ IsD E s d x
  | 0, u, _ => ⟨[], rfl, List.nodup_nil, fun x h => by cases h⟩
  | n + 1, u, h => by
    obtain ⟨v, hv, hi⟩ := isD_step h
    obtain ⟨L, h1, h2, h3⟩ := isD_bound hE hi
    refine ⟨u :: L, by rw [List.length_cons, h1], List.nodup_cons.2 ⟨fun hm => ?_, h2⟩, fun x hx => ?_⟩
    · obtain ⟨_, d, hd, _, hid⟩ := h3 u hm
      have := isD_uniq hid h
      omega
    · rcases List.mem_cons.1 hx with rfl | hx
      · exact ⟨hE _ v hv, n + 1, by omega, by omega, h⟩
      · obtain ⟨g1, d, g2, g3, g4⟩ := h3 x hx
        exact ⟨g1, d, by omega, g3, g4⟩
/-- The search finds what the way back finds. -/
theorem circ_way {K : List Int} (hE : ∀ t u, u ∈ E t → t ∈ K) {f : Nat} (hK : K.length < f) : Way E s s [s] (circR E s f [[s]]) := by
  have hok : ∀ r ∈ [[s]], RowOk E s 1 r := fun r hr => by
    obtain rfl := List.mem_singleton.1 hr
    exact ⟨rfl, .inl ⟨rfl, rfl⟩⟩
  obtain ⟨ps1, ps2⟩ := pick_spec (E := E) (s := s) (l := E s) _ (Nat.le_refl _)
  rw [List.take_length] at ps1 ps2
  cases hp : pickM E s (E s) with
  | none =>
    rw [circ_none (ps2 hp) f 1 _ hok]
    exact .stop hp
  | some p1 =>
    obtain ⟨_, d1, hd1, hmin⟩ := ps1 p1 hp
    obtain ⟨L, hL, hnd, hLK⟩ := isD_bound hE (dOf_some.1 hd1)
    have hle := hnd.length_le_of_subset (fun x hx => (hLK x hx).1)
    obtain ⟨res, h1, h2⟩ := circ_some hp hd1 hmin f 1 [[s]] [] [] [s] (Nat.le_refl _) (by omega) (by omega) hok rfl ⟨fun res h => h, .inl ⟨rfl, rfl⟩, fun x hx => .inl (List.mem_singleton.1 hx)⟩ (fun _ => rfl) (fun h => by omega)
    rw [h1]; exact h2
end
end Go.Proofs.YtkbancdmhcnhjaaGreat.Hw
