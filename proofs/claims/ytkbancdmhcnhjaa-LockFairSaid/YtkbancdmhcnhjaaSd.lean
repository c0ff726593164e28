/- Locks, the other half: Within, Free, Leave keep locks safe. -/
import Derived.Test.YtkbancdmhcnhjaaSc
set_option linter.unusedVariables false
set_option linter.unusedSimpArgs false
namespace Go.Proofs.Ytkbancdmhcnhjaa.Hw
open Go Go.Proofs
theorem upTo_all {n : Nat} {t : Nat → Bool} : upTo n t = true ↔ ∀ k, k < n → t k = true := by
  unfold upTo
  rw [List.all_eq_true]
  exact ⟨fun h k hk => h k (List.mem_range.2 hk), fun h k hk => h k (List.mem_range.1 hk)⟩
theorem wait_iff {l : List Wt} : upTo l.length (waitT l) = true ↔ (∀ w ∈ l, elOk w.thing w.txn = true) ∧ l.Pairwise (fun a b => a.txn ≠ b.txn) := by
  rw [upTo_all, List.pairwise_iff_getElem]
  constructor
  · intro h
    have hk : ∀ (k : Nat) w, l[k]? = some w → elOk w.thing w.txn = true ∧ ∀ v ∈ l.take k, v.txn ≠ w.txn := fun k w hw => by
      have := h k (List.getElem?_eq_some_iff.1 hw).1
      unfold waitT at this
      rw [hw] at this
      simp only [Bool.and_eq_true] at this
      refine ⟨this.1, fun v hv e => ?_⟩
      have h2 : (l.take k).any (fun v => v.txn == w.txn) = true := List.any_eq_true.2 ⟨v, hv, by simpa using e⟩
      rw [h2] at this
      exact absurd this.2 (by decide)
    refine ⟨fun w hw => ?_, fun i j hi hj hij => ?_⟩
    · obtain ⟨k, hk'⟩ := List.getElem?_of_mem hw
      exact (hk k w hk').1
    · exact (hk j _ (List.getElem?_eq_getElem hj)).2 _ (List.mem_of_getElem? (i := i) (by rw [List.getElem?_take_of_lt hij]; exact List.getElem?_eq_getElem hi))
  · rintro ⟨h1, h2⟩ k hk
    obtain ⟨w, hw⟩ := get_of hk
    unfold waitT
    rw [hw]
    simp only [Bool.and_eq_true]
    refine ⟨h1 w (List.mem_of_getElem? hw), ?_⟩
    have : (l.take k).any (fun v => v.txn == w.txn) = false := by
      rw [List.any_eq_false]
      intro v hv e
      obtain ⟨j, hj⟩ := List.getElem?_of_mem hv
      rw [List.getElem?_take] at hj
      split at hj
      · rename_i hjk
        obtain ⟨hj1, rfl⟩ := List.getElem?_eq_some_iff.1 hj
        obtain ⟨hk1, rfl⟩ := List.getElem?_eq_some_iff.1 hw
        exact h2 j k hj1 hk1 hjk (by simpa using e)
      · cases hj
    rw [this]; rfl
theorem inner_iff {l : List (Int × Int)} : upTo l.length (innerT l) = true ↔ (∀ p ∈ l, numB p.1 = true ∧ numB p.2 = true ∧ p.1 ≠ p.2) ∧ l.Pairwise (fun a b => a.1 ≠ b.1) := by
  rw [upTo_all, List.pairwise_iff_getElem]
  constructor
  · intro h
    have hk : ∀ (k : Nat) w, l[k]? = some w → (numB w.1 = true ∧ numB w.2 = true ∧ w.1 ≠ w.2) ∧ ∀ v ∈ l.take k, v.1 ≠ w.1 := fun k w hw => by
      have := h k (List.getElem?_eq_some_iff.1 hw).1
      unfold innerT at this
      rw [hw] at this
      simp only [Bool.and_eq_true] at this
      refine ⟨⟨this.1, this.2.1, by simpa using this.2.2.1⟩, fun v hv e => ?_⟩
      have h2 : (l.take k).any (fun v => w.1 == v.1) = true := List.any_eq_true.2 ⟨v, hv, by simpa using e.symm⟩
      rw [h2] at this
      exact absurd this.2.2.2 (by decide)
    refine ⟨fun w hw => ?_, fun i j hi hj hij => ?_⟩
    · obtain ⟨k, hk'⟩ := List.getElem?_of_mem hw
      exact (hk k w hk').1
    · exact (hk j _ (List.getElem?_eq_getElem hj)).2 _ (List.mem_of_getElem? (i := i) (by rw [List.getElem?_take_of_lt hij]; exact List.getElem?_eq_getElem hi))
  · rintro ⟨h1, h2⟩ k hk
    obtain ⟨w, hw⟩ := get_of hk
    obtain ⟨g1, g2, g3⟩ := h1 w (List.mem_of_getElem? hw)
    unfold innerT
    rw [hw]
    simp only [Bool.and_eq_true]
    have : (l.take k).any (fun v => w.1 == v.1) = false := by
      rw [List.any_eq_false]
      intro v hv e
      obtain ⟨j, hj⟩ := List.getElem?_of_mem hv
      rw [List.getElem?_take] at hj
      split at hj
      · rename_i hjk
        obtain ⟨hj1, rfl⟩ := List.getElem?_eq_some_iff.1 hj
        obtain ⟨hk1, rfl⟩ := List.getElem?_eq_some_iff.1 hw
        have e : l[k].1 = l[j].1 := by simpa using e
        exact h2 j k hj1 hk1 hjk e.symm
      · cases hj
    exact ⟨g1, g2, by simpa using g3, by rw [this]; rfl⟩
theorem valid_iff {l : LK} : validM l = true ↔ (l.waits.length ≤ 100 ∧ l.held.length + l.waits.length ≤ 5000 ∧ l.inner.length ≤ 100) ∧ upTo l.held.length (heldT l.held) = true ∧ upTo l.waits.length (waitT l.waits) = true ∧ upTo l.inner.length (innerT l.inner) = true := by
  unfold validM lensB
  simp only [Bool.and_eq_true, decide_eq_true_eq]
theorem within_safe {l : LK} {o i : Int} (h : SafeK l) : SafeK (withinM l o i).1 := by
  obtain ⟨hv, hc, ha⟩ := h
  unfold withinM
  split
  · rename_i hok
    simp only [Bool.and_eq_true] at hok
    split
    · exact safe_nil
    · rename_i hw
      split
      · exact safe_nil
      · rename_i hi
        split
        · exact safe_nil
        · rename_i hd
          split
          · exact safe_nil
          · rename_i hlim
            have hv' := valid_iff.1 hv
            obtain ⟨g1, g2⟩ := inner_iff.1 hv'.2.2.2
            have hi' : ∀ p ∈ l.inner, p.1 ≠ o := fun p hp e => hi (List.any_eq_true.2 ⟨p, hp, by simpa using e⟩)
            refine ⟨valid_iff.2 ⟨⟨hv'.1.1, hv'.1.2.1, ?_⟩, hv'.2.1, hv'.2.2.1, inner_iff.2 ⟨fun p hp => ?_, ?_⟩⟩, fun hcy => hd (dead_yes hcy), fun w hm p hp => ?_⟩
            · simp only [decide_eq_true_eq] at hlim
              unfold pushI
              simp only [List.length_append, List.length_singleton]; omega
            · rcases List.mem_append.1 hp with hp | hp
              · exact g1 p hp
              · obtain rfl := List.mem_singleton.1 hp
                exact ⟨hok.2.1, hok.2.2.1, by simpa using hok.2.2.2⟩
            · unfold pushI
              rw [List.pairwise_append]
              refine ⟨g2, List.pairwise_singleton _ _, fun a ha' b hb => ?_⟩
              obtain rfl := List.mem_singleton.1 hb
              exact hi' a ha'
            · rcases List.mem_append.1 hp with hp | hp
              · exact ha w hm p hp
              · obtain rfl := List.mem_singleton.1 hp
                exact fun e => hw (List.any_eq_true.2 ⟨w, hm, by simpa using e⟩)
  · exact safe_nil
/-- Less of everything makes no circle. -/
theorem sub_cyc {h h' : List Lk} {ws ws' : List Wt} {inn inn' : List (Int × Int)} (hh : ∀ z ∈ h', z ∈ h) (hk : ∀ w ∈ ws', ∀ thing, (heldM h w.txn thing).isSome = true → (heldM h' w.txn thing).isSome = true) (hw : ws'.Sublist ws) (hi : ∀ p ∈ inn', p ∈ inn) (hc : ¬ Cyc ⟨h, ws, inn⟩) : ¬ Cyc ⟨h', ws', inn'⟩ := by
  refine cyc_sink hc fun a b hb => .inl (edge_iff.2 ?_)
  rcases edge_iff.1 hb with ⟨X, w, Y, hX, ew, hh'⟩ | ⟨p, hp, e⟩
  · have hX : ws' = X ++ w :: Y := hX
    rw [hX] at hw
    obtain ⟨r1, r2, e1, s1, s2⟩ := List.append_sublist_iff.1 hw
    obtain ⟨r3, r4, e2, m3, s4⟩ := List.cons_sublist_iff.1 s2
    obtain ⟨P, S, e3⟩ := List.append_of_mem m3
    refine .inl ⟨r1 ++ P, w, S ++ r4, by show ws = _; rw [e1, e2, e3]; simp, ew, ?_⟩
    rcases hh' with ⟨z, hz, h1, h2⟩ | ⟨hno, v, hv, h1, h2⟩
    · exact .inl ⟨z, hh z hz, h1, h2⟩
    · refine .inr ⟨?_, v, List.mem_append_left _ (s1.subset hv), h1, h2⟩
      cases hs : (heldM h a w.thing).isSome with
      | false => rfl
      | true =>
        have := hk w (by rw [hX]; simp) w.thing (by rw [ew]; exact hs)
        rw [ew] at this
        rw [this] at hno; cases hno
  · exact .inr ⟨p, hi p hp, e⟩
theorem wake_step {hd : List Lk} {st rest : List Wt} {inn : List (Int × Int)} {w : Wt} (h : SafeK ⟨hd, st ++ w :: rest, inn⟩) (hf : freeM hd st w.txn w.thing w.share = true) : SafeK ⟨takeM hd (lockOf w), st ++ rest, inn⟩ := by
  obtain ⟨hv, hc, ha⟩ := h
  have hv' := valid_iff.1 hv
  obtain ⟨w1, w2⟩ := wait_iff.1 hv'.2.2.1
  have hsub : (st ++ rest).Sublist (st ++ w :: rest) := List.Sublist.append_left (List.sublist_cons_self _ _) _
  have hl := hv'.1
  simp only [List.length_append, List.length_cons] at hl
  have htl := take_len (l := hd) (x := lockOf w)
  have hne : ∀ v ∈ st ++ rest, v.txn ≠ w.txn := fun v hm => by
    rw [List.pairwise_append] at w2
    rcases List.mem_append.1 hm with hm | hm
    · exact w2.2.2 v hm w (by simp)
    · exact ((List.pairwise_cons.1 w2.2.1).1 v hm).symm
  refine ⟨valid_iff.2 ⟨⟨?_, ?_, hl.2.2⟩, take_held (x := lockOf w) hv'.2.1 (w1 w (by simp)) (no_clash hf), wait_iff.2 ⟨fun v hm => w1 v (hsub.subset hm), w2.sublist hsub⟩, hv'.2.2.2⟩, take_cyc (x := lockOf w) hne (fun p hp e => ha w (by simp) p hp e.symm) (sub_cyc (fun z hz => hz) (fun _ _ _ h => h) hsub (fun p hp => hp) hc), fun v hm p hp => ha v (hsub.subset hm) p hp⟩
  · simp only [List.length_append]; omega
  · simp only [List.length_append]; omega
theorem wake_safe {hd : List Lk} {ws : List Wt} {inn : List (Int × Int)} (h : SafeK ⟨hd, ws, inn⟩) : SafeK ⟨(wakeM hd ws).1, (wakeM hd ws).2.1, inn⟩ := by
  have key : ∀ i, i ≤ ws.length → SafeK ⟨(wakeM hd (ws.take i)).1, (wakeM hd (ws.take i)).2.1 ++ ws.drop i, inn⟩ := by
    intro i
    induction i with
    | zero => intro _; simpa [wakeM] using h
    | succ i ih =>
      intro hi
      have ih := ih (by omega)
      obtain ⟨w, hw⟩ := get_of (l := ws) (i := i) (by omega)
      obtain ⟨hil, ewi⟩ := List.getElem?_eq_some_iff.1 hw
      rw [List.drop_eq_getElem_cons hil, ewi] at ih
      rw [wakeM_succ hw]
      unfold wakeStep
      split
      · rename_i hf
        exact wake_step ih hf
      · simpa using ih
  have := key ws.length (Nat.le_refl _)
  rw [List.take_length, List.drop_length, List.append_nil] at this
  exact this
theorem heldT_filter {l : List Lk} {p : Lk → Bool} (h : upTo l.length (heldT l) = true) : upTo (l.filter p).length (heldT (l.filter p)) = true := by
  obtain ⟨h1, h2, h3⟩ := held_iff.1 h
  exact held_iff.2 ⟨fun x hx => h1 x (List.mem_filter.1 hx).1, rising_filter h2, fun a ha b hb => h3 a (List.mem_filter.1 ha).1 b (List.mem_filter.1 hb).1⟩
theorem free_safe {l : LK} {t : Int} (h : SafeK l) : SafeK (freeLM l t).1 := by
  unfold freeLM
  split
  · obtain ⟨hv, hc, ha⟩ := h
    have hv' := valid_iff.1 hv
    obtain ⟨w1, w2⟩ := wait_iff.1 hv'.2.2.1
    obtain ⟨i1, i2⟩ := inner_iff.1 hv'.2.2.2
    have b1 := List.length_filter_le (fun x : Lk => !(x.txn == t)) l.held
    have b2 := List.length_filter_le (fun w : Wt => !(w.txn == t)) l.waits
    have b3 := List.length_filter_le (fun p : Int × Int => !(p.1 == t || p.2 == t)) l.inner
    refine wake_safe ⟨valid_iff.2 ⟨⟨by simp only; omega, by simp only; omega, by simp only; omega⟩, heldT_filter hv'.2.1, wait_iff.2 ⟨fun w hw => w1 w (List.mem_filter.1 hw).1, w2.sublist List.filter_sublist⟩, inner_iff.2 ⟨fun p hp => i1 p (List.mem_filter.1 hp).1, i2.sublist List.filter_sublist⟩⟩, sub_cyc (h := l.held) (ws := l.waits) (inn := l.inner) (fun z hz => (List.mem_filter.1 hz).1) (fun w hw thing hs => ?_) List.filter_sublist (fun p hp => (List.mem_filter.1 hp).1) hc, fun w hw p hp => ha w (List.mem_filter.1 hw).1 p (List.mem_filter.1 hp).1⟩
    obtain ⟨z, hz, e1, e2⟩ := held_some.1 hs
    have := (List.mem_filter.1 hw).2
    exact held_some.2 ⟨z, List.mem_filter.2 ⟨hz, by rw [e1]; exact this⟩, e1, e2⟩
  · exact safe_nil
theorem leave_safe {l : LK} {t : Int} (h : SafeK l) : SafeK (leaveM l t).1 := by
  unfold leaveM
  split
  · split
    · obtain ⟨hv, hc, ha⟩ := h
      have hv' := valid_iff.1 hv
      obtain ⟨w1, w2⟩ := wait_iff.1 hv'.2.2.1
      have b2 := List.length_filter_le (fun w : Wt => !(w.txn == t)) l.waits
      exact wake_safe ⟨valid_iff.2 ⟨⟨by simp only; omega, by simp only; omega, by simp only; omega⟩, hv'.2.1, wait_iff.2 ⟨fun w hw => w1 w (List.mem_filter.1 hw).1, w2.sublist List.filter_sublist⟩, hv'.2.2.2⟩, sub_cyc (h := l.held) (ws := l.waits) (inn := l.inner) (fun z hz => hz) (fun _ _ _ h => h) List.filter_sublist (fun p hp => hp) hc, fun w hw p hp => ha w (List.mem_filter.1 hw).1 p hp⟩
    · exact safe_nil
  · exact safe_nil
theorem do_safe {l : LK} {a : Act} (h : SafeK l) : SafeK (doM l a).1 := by
  unfold doM
  split
  · exact h
  · unfold actR
    split
    · exact ask_safe h
    · split
      · exact free_safe h
      · split
        · exact leave_safe h
        · exact within_safe h
end Go.Proofs.Ytkbancdmhcnhjaa.Hw
