/- Locks, the other half: plain laws: no deadlock means no circle is found; edges; what keeps locks without circles. -/
import Derived.Test.YtkbancdmhcnhjaaSa
set_option linter.unusedVariables false
set_option linter.unusedSimpArgs false
namespace Go.Proofs.Ytkbancdmhcnhjaa.Hw
open Go Go.Proofs
theorem dp_reach {l : LK} {s : Int} : ∀ {n : Nat} {u : Int}, DP (rowE l) s n u → u = s ∨ Reach l u s
  | 0, u, h => .inl h
  | n + 1, u, ⟨_, v, hv, h⟩ => by
    have e : v ∈ waitedL l u := mem_rise.1 hv
    rcases dp_reach h with rfl | h
    · exact .inr (.one e)
    · exact .inr ((Reach.one e).trans h)
theorem back_none {l : LK} {s : Int} (h : ¬ Cyc l) : backM l s = none := by
  refine backM_of (.stop ?_)
  obtain ⟨ps1, ps2⟩ := pick_spec (E := rowE l) (s := s) (l := rowE l s) _ (Nat.le_refl _)
  rw [List.take_length] at ps1 ps2
  cases hp : pickM (rowE l) s (rowE l s) with
  | none => rfl
  | some b =>
    obtain ⟨hb, d, hd, _⟩ := ps1 b hp
    have hb : b ∈ waitedL l s := mem_rise.1 hb
    refine absurd ⟨s, ?_⟩ h
    rcases dp_reach (dOf_some.1 hd).1 with rfl | h
    · exact .one hb
    · exact (Reach.one hb).trans h
theorem circ_free {l : LK} (hv : validM l = true) (h : ¬ Cyc l) : circM l = ([], 4) := by
  have key : ∀ ts : List Int, bestM l ts = none := fun ts => by
    unfold bestM
    induction ts with
    | nil => rfl
    | cons a r ih => rw [List.foldl_cons, back_none h]; exact ih
  unfold circM
  rw [if_pos hv, key]
theorem cyc_sink {l l' : LK} (h : ¬ Cyc l) (he : ∀ a b, b ∈ waitedL l' a → b ∈ waitedL l a ∨ waitedL l' b = []) : ¬ Cyc l' := by
  rintro ⟨n, hn⟩
  have key : ∀ x y, Reach l' x y → Reach l x y ∨ waitedL l' y = [] := fun x y hr => by
    induction hr with
    | one e =>
      rcases he _ _ e with h | h
      · exact .inl (.one h)
      · exact .inr h
    | more _ e ih =>
      rcases ih with ih | ih
      · rcases he _ _ e with h | h
        · exact .inl (.more ih h)
        · exact .inr h
      · rw [ih] at e; cases e
  rcases key n n hn with hr | hr
  · exact h ⟨n, hr⟩
  · obtain ⟨u, hu, _⟩ := hn.first
    rw [hr] at hu; cases hu
/-- One waits for another directly. -/
def EdgeL (l : LK) (a b : Int) : Prop :=
  (∃ X w Y, l.waits = X ++ w :: Y ∧ w.txn = a ∧ ((∃ h ∈ l.held, clashM h a w.thing w.share = true ∧ h.txn = b) ∨ ((heldM l.held a w.thing).isSome = false ∧ ∃ v ∈ X, clashM (lockOf v) a w.thing w.share = true ∧ v.txn = b))) ∨ ∃ p ∈ l.inner, p.1 = a ∧ p.2 = b
theorem edge_iff {l : LK} {a b : Int} : b ∈ waitedL l a ↔ EdgeL l a b := by
  unfold waitedL EdgeL
  rw [List.mem_append]
  have hin : b ∈ innL l a l.inner.length ↔ ∃ p ∈ l.inner, p.1 = a ∧ p.2 = b := by
    unfold innL
    rw [List.take_length, List.mem_map]
    constructor
    · rintro ⟨p, hp, rfl⟩
      have := List.mem_filter.1 hp
      exact ⟨p, this.1, of_decide_eq_true this.2, rfl⟩
    · rintro ⟨p, hp, h1, h2⟩
      exact ⟨p, List.mem_filter.2 ⟨hp, decide_eq_true h1⟩, h2⟩
  rw [hin]
  refine or_congr ?_ Iff.rfl
  unfold rowsL
  rw [List.mem_flatMap]
  constructor
  · rintro ⟨i, hi, h⟩
    unfold waitRow at h
    split at h
    · cases h
    · rename_i w hw
      split at h
      · rename_i e
        obtain ⟨hil, hwi⟩ := List.getElem?_eq_some_iff.1 hw
        refine ⟨l.waits.take i, w, l.waits.drop (i + 1), ?_, e, ?_⟩
        · rw [← hwi, ← List.drop_eq_getElem_cons hil, List.take_append_drop]
        · rw [e] at h
          rcases List.mem_append.1 h with h | h
          · obtain ⟨z, hz, hb⟩ := List.mem_map.1 h
            have := List.mem_filter.1 hz
            exact .inl ⟨z, this.1, this.2, hb⟩
          · split at h
            · cases h
            · rename_i hno
              obtain ⟨z, hz, hb⟩ := List.mem_map.1 h
              have := List.mem_filter.1 hz
              exact .inr ⟨by simpa using hno, z, this.1, this.2, hb⟩
      · cases h
  · rintro ⟨X, w, Y, hX, rfl, h⟩
    refine ⟨X.length, List.mem_range.2 (by rw [hX, List.length_append, List.length_cons]; omega), ?_⟩
    have hw : l.waits[X.length]? = some w := by rw [hX, List.getElem?_append_right (Nat.le_refl _), Nat.sub_self]; rfl
    have ht : l.waits.take X.length = X := by rw [hX]; exact List.take_left
    unfold waitRow
    simp only [hw, if_true]
    rw [ht]
    rcases h with ⟨z, h1, h2, h3⟩ | ⟨h0, z, h1, h2, h3⟩
    · exact List.mem_append_left _ (List.mem_map.2 ⟨z, List.mem_filter.2 ⟨h1, h2⟩, h3⟩)
    · refine List.mem_append_right _ ?_
      rw [if_neg (by rw [h0]; decide)]
      exact List.mem_map.2 ⟨z, List.mem_filter.2 ⟨h1, h2⟩, h3⟩
theorem no_edge {l : LK} {a : Int} (h1 : ∀ w ∈ l.waits, w.txn ≠ a) (h2 : ∀ p ∈ l.inner, p.1 ≠ a) : waitedL l a = [] := by
  rw [List.eq_nil_iff_forall_not_mem]
  intro b hb
  rcases edge_iff.1 hb with ⟨X, w, Y, hX, e, _⟩ | ⟨p, hp, e, _⟩
  · exact h1 w (by rw [hX]; simp) e
  · exact h2 p hp e
/-! ### valid held locks -/
def CalmL (l : List Lk) : Prop := ∀ a ∈ l, ∀ b ∈ l, a.thing = b.thing → a.txn ≠ b.txn → a.share = true ∧ b.share = true
theorem held_iff {l : List Lk} : upTo l.length (heldT l) = true ↔ (∀ x ∈ l, elOk x.thing x.txn = true) ∧ Rising l ∧ CalmL l := by
  constructor
  · intro h
    have hr := rising_of h
    refine ⟨fun x hx => ?_, hr, ?_⟩
    · obtain ⟨k, hk⟩ := List.getElem?_of_mem hx
      have := upTo_at h (List.getElem?_eq_some_iff.1 hk).1
      unfold heldT at this
      rw [hk] at this
      simp only [Bool.and_eq_true] at this
      exact this.1
    · have step : ∀ (k : Nat) x y, l[k]? = some x → l[k + 1]? = some y → adjOk x y = true := fun k x y hx hy => by
        have := upTo_at h (List.getElem?_eq_some_iff.1 hy).1
        unfold heldT at this
        simp only [hy, hx, Bool.and_eq_true] at this
        exact this.2
      have far : ∀ (d i : Nat) x y, l[i]? = some x → l[i + d + 1]? = some y → x.thing = y.thing → x.share = true ∧ y.share = true := by
        intro d
        induction d with
        | zero =>
          intro i x y hx hy e
          have := step i x y hx hy
          unfold adjOk at this
          rw [e, strL_irrefl] at this
          simp at this
          exact ⟨this.2.1, this.2.2⟩
        | succ d ih =>
          intro i x y hx hy e
          obtain ⟨z, hz⟩ := get_of (l := l) (i := i + d + 1) (by have := (List.getElem?_eq_some_iff.1 hy).1; omega)
          have h1 := hr i (i + d + 1) x z (by omega) hx hz
          have h2 := hr (i + d + 1) (i + (d + 1) + 1) z y (by omega) hz hy
          have ez : z.thing = y.thing := by
            unfold ltL at h1 h2
            rw [ordL_lt] at h1 h2
            rcases h2 with h2 | h2
            · rcases h1 with h1 | h1
              · have := strL_trans h1 h2
                rw [e, strL_irrefl] at this; cases this
              · rw [← h1.1, e, strL_irrefl] at h2; cases h2
            · exact h2.1
          have g1 := ih i x z hx hz (e.trans ez.symm)
          have := step (i + d + 1) z y hz hy
          unfold adjOk at this
          rw [ez, strL_irrefl] at this
          simp at this
          exact ⟨g1.1, this.2.2⟩
      intro a ha b hb e hne
      obtain ⟨i, hi⟩ := List.getElem?_of_mem ha
      obtain ⟨j, hj⟩ := List.getElem?_of_mem hb
      rcases Nat.lt_trichotomy i j with h | h | h
      · exact far (j - i - 1) i a b hi (by rw [show i + (j - i - 1) + 1 = j by omega]; exact hj) e
      · subst h; rw [hi] at hj; cases hj; exact absurd rfl hne
      · have := far (i - j - 1) j b a hj (by rw [show j + (i - j - 1) + 1 = i by omega]; exact hi) e.symm
        exact ⟨this.2, this.1⟩
  · rintro ⟨h1, h2, h3⟩
    unfold upTo
    rw [List.all_eq_true]
    intro k hk
    obtain ⟨x, hx⟩ := get_of (l := l) (i := k) (List.mem_range.1 hk)
    unfold heldT
    rw [hx]
    simp only [Bool.and_eq_true]
    refine ⟨h1 x (List.mem_of_getElem? hx), ?_⟩
    cases k with
    | zero => rfl
    | succ k =>
      obtain ⟨y, hy⟩ := get_of (l := l) (i := k) (by have := (List.getElem?_eq_some_iff.1 hx).1; omega)
      simp only [hy]
      have hlt := h2 k (k + 1) y x (by omega) hy hx
      unfold ltL at hlt
      rw [ordL_lt] at hlt
      unfold adjOk
      rcases hlt with h | ⟨h, h'⟩
      · rw [h]; rfl
      · have := h3 y (List.mem_of_getElem? hy) x (List.mem_of_getElem? hx) h (by omega)
        simp [h, h', this]
end Go.Proofs.Ytkbancdmhcnhjaa.Hw
