/- Locks, the other half: Ask and Within keep locks safe. -/
import Derived.Test.YtkbancdmhcnhjaaSb
set_option linter.unusedVariables false
set_option linter.unusedSimpArgs false
namespace Go.Proofs.Ytkbancdmhcnhjaa.Hw
open Go Go.Proofs
def likeLk (a x : Lk) : Prop := a.thing = x.thing ∧ a.txn = x.txn
theorem take_mem {l : List Lk} {x a : Lk} (h : a ∈ takeM l x) : a ∈ l ∨ (likeLk a x ∧ (a = x ∨ ∃ y ∈ l, likeLk y x ∧ a.share = (y.share && x.share))) := by
  unfold takeM at h
  split at h
  · rename_i hat
    obtain ⟨y, hy, hz⟩ := isAt_get hat
    have hk := ordL_eq.1 (show ordL y x.thing x.txn = 0 from hz)
    rcases List.mem_or_eq_of_mem_set h with h | rfl
    · exact .inl h
    · rw [hy]
      exact .inr ⟨⟨hk.1, hk.2⟩, .inr ⟨y, List.mem_of_getElem? hy, ⟨hk.1, hk.2⟩, rfl⟩⟩
  · unfold insL at h
    rcases List.mem_append.1 h with h | h
    · exact .inl (List.mem_of_mem_take h)
    · rcases List.mem_cons.1 h with rfl | h
      · exact .inr ⟨⟨rfl, rfl⟩, .inl rfl⟩
      · exact .inl (List.mem_of_mem_drop h)
theorem take_old {l : List Lk} {x a : Lk} (h : a ∈ l) (hn : a.txn ≠ x.txn) : a ∈ takeM l x := by
  unfold takeM
  split
  · rename_i hat
    obtain ⟨y, hy, hz⟩ := isAt_get hat
    have hk := ordL_eq.1 (show ordL y x.thing x.txn = 0 from hz)
    obtain ⟨k, hk'⟩ := List.getElem?_of_mem h
    have hne : posL (ordX x) l ≠ k := fun e => by
      rw [e, hk'] at hy; cases hy; exact hn hk.2
    refine List.mem_of_getElem? (i := k) ?_
    rw [List.getElem?_set_ne hne]; exact hk'
  · unfold insL
    rw [← List.take_append_drop (posL (ordX x) l) l] at h
    rcases List.mem_append.1 h with h | h
    · exact List.mem_append_left _ h
    · exact List.mem_append_right _ (List.mem_cons_of_mem _ h)
theorem no_clash {l : List Lk} {ws : List Wt} {t : Int} {thing : ByteArray} {share : Bool} (h : freeM l ws t thing share = true) : ∀ z ∈ l, z.thing = thing → z.txn ≠ t → z.share = true ∧ share = true := by
  unfold freeM at h
  rw [Bool.and_eq_true] at h
  intro z hz e1 e2
  have h1 : (l.any fun h => clashM h t thing share) = false := by simpa using h.1
  rw [List.any_eq_false] at h1
  have := h1 z hz
  unfold clashM at this
  rw [decide_eq_true e1, decide_eq_true e2] at this
  simpa using this
theorem take_held {l : List Lk} {x : Lk} (h : upTo l.length (heldT l) = true) (hx : elOk x.thing x.txn = true) (hc : ∀ z ∈ l, z.thing = x.thing → z.txn ≠ x.txn → z.share = true ∧ x.share = true) : upTo (takeM l x).length (heldT (takeM l x)) = true := by
  obtain ⟨h1, h2, h3⟩ := held_iff.1 h
  have key : ∀ a ∈ takeM l x, ∀ b ∈ l, likeLk a x → b.thing = x.thing → b.txn ≠ x.txn → a.share = true ∧ b.share = true := fun a ha b hb hk e1 e2 => by
    have hs := hc b hb e1 e2
    refine ⟨?_, hs.1⟩
    rcases take_mem ha with ha | ⟨_, rfl | ⟨y, hy, hky, e⟩⟩
    · exact (h3 a ha b hb (hk.1.trans e1.symm) (fun e => e2 (e.symm.trans hk.2))).1
    · exact hs.2
    · rw [e, hs.2, (h3 y hy b hb (hky.1.trans e1.symm) (fun e => e2 (e.symm.trans hky.2))).1]; rfl
  refine held_iff.2 ⟨fun a ha => ?_, take_rising h2, fun a ha b hb e hne => ?_⟩
  · rcases take_mem ha with ha | ⟨hk, _⟩
    · exact h1 a ha
    · rw [hk.1, hk.2]; exact hx
  · rcases take_mem ha with ha' | ⟨hka, _⟩
    · rcases take_mem hb with hb' | ⟨hkb, _⟩
      · exact h3 a ha' b hb' e hne
      · have := key b hb a ha' hkb (e.trans hkb.1) (fun e' => hne (e'.trans hkb.2.symm))
        exact ⟨this.2, this.1⟩
    · rcases take_mem hb with hb' | ⟨hkb, _⟩
      · exact key a ha b hb' hka (e.symm.trans hka.1) (fun e' => hne (hka.2.trans e'.symm))
      · exact absurd (hka.2.trans hkb.2.symm) hne
theorem held_some {l : List Lk} {t : Int} {thing : ByteArray} : (heldM l t thing).isSome = true ↔ ∃ z ∈ l, z.txn = t ∧ z.thing = thing := by
  unfold heldM
  rw [List.find?_isSome]
  unfold isMine
  constructor
  · rintro ⟨z, hz, h⟩; exact ⟨z, hz, by simpa using h⟩
  · rintro ⟨z, hz, h⟩; exact ⟨z, hz, by simpa using h⟩
/-- A lock that is given to one that waits for none makes no circle. -/
theorem take_cyc {h0 : List Lk} {ws : List Wt} {inn : List (Int × Int)} {x : Lk} (hw : ∀ w ∈ ws, w.txn ≠ x.txn) (hi : ∀ p ∈ inn, p.1 ≠ x.txn) (h : ¬ Cyc ⟨h0, ws, inn⟩) : ¬ Cyc ⟨takeM h0 x, ws, inn⟩ := by
  refine cyc_sink h fun a b hb => ?_
  by_cases e : b = x.txn
  · exact .inr (by rw [e]; exact no_edge hw hi)
  · refine .inl (edge_iff.2 ?_)
    rcases edge_iff.1 hb with ⟨X, w, Y, hX, ew, hh⟩ | hp
    · refine .inl ⟨X, w, Y, hX, ew, ?_⟩
      rcases hh with ⟨z, hz, hc, hzb⟩ | ⟨hno, hv⟩
      · rcases take_mem hz with hz | ⟨hk, _⟩
        · exact .inl ⟨z, hz, hc, hzb⟩
        · exact absurd (hzb.symm.trans hk.2) e
      · refine .inr ⟨?_, hv⟩
        have hax : a ≠ x.txn := fun e' => hw w (by rw [show ws = X ++ w :: Y from hX]; simp) (ew.trans e')
        cases hs : (heldM h0 a w.thing).isSome with
        | false => rfl
        | true =>
          obtain ⟨z, hz, h1, h2⟩ := held_some.1 hs
          have := held_some.2 ⟨z, take_old hz (fun e' => hax (h1.symm.trans e')), h1, h2⟩
          rw [this] at hno; cases hno
    · exact .inr hp
def SafeK (l : LK) : Prop := validM l = true ∧ ¬ Cyc l ∧ ∀ w ∈ l.waits, ∀ p ∈ l.inner, w.txn ≠ p.1
theorem safe_nil : SafeK nilK := by
  refine ⟨by kernel_rfl, ?_, fun w h => by cases h⟩
  rintro ⟨n, hn⟩
  obtain ⟨u, hu, _⟩ := hn.first
  have : waitedL nilK n = [] := no_edge (fun w h => by cases h) (fun p h => by cases h)
  rw [this] at hu; cases hu
theorem take_len2 {l : List Lk} {x : Lk} (hr : Rising l) (h : (heldM l x.txn x.thing).isSome = true) : (takeM l x).length = l.length := by
  unfold takeM
  split
  · exact List.length_set
  · rename_i hat
    have hat : isAtL (fun y => ordL y x.thing x.txn) l = false := by
      cases hh : isAtL (fun y => ordL y x.thing x.txn) l with
      | false => rfl
      | true => exact absurd hh hat
    rw [(held_rising hr).2 hat] at h; cases h
theorem ask_safe {l : LK} {t : Int} {thing : ByteArray} {share : Bool} (h : SafeK l) : SafeK (askM l t thing share).1 := by
  obtain ⟨hv, hc, ha⟩ := h
  unfold askM
  split
  · rename_i hok
    simp only [Bool.and_eq_true] at hok
    split
    · exact safe_nil
    · rename_i hno
      have hno : ((l.waits.any fun w => w.txn == t) || (l.inner.any fun p => p.1 == t)) = false := by
        cases hh : ((l.waits.any fun w => w.txn == t) || (l.inner.any fun p => p.1 == t)) with
        | false => rfl
        | true => exact absurd hh hno
      obtain ⟨hw, hi⟩ := Bool.or_eq_false_iff.1 hno
      have hw' : ∀ w ∈ l.waits, w.txn ≠ t := fun w hm e => by
        rw [List.any_eq_false] at hw
        exact hw w hm (by simpa using e)
      have hi' : ∀ p ∈ l.inner, p.1 ≠ t := fun p hm e => by
        rw [List.any_eq_false] at hi
        exact hi p hm (by simpa using e)
      split
      · exact ⟨hv, hc, ha⟩
      · split
        · rename_i hf
          split
          · exact safe_nil
          · rename_i hlim
            refine ⟨?_, take_cyc (x := ⟨thing, t, share⟩) hw' hi' hc, ha⟩
            have hv' := hv
            unfold validM lensB at hv'
            simp only [Bool.and_eq_true, decide_eq_true_eq] at hv'
            have hth := take_held (x := ⟨thing, t, share⟩) hv'.2.1 (by unfold elOk; rw [hok.2.2, hok.2.1]; rfl) (no_clash hf)
            have hlen : (takeM l.held ⟨thing, t, share⟩).length + l.waits.length ≤ 5000 := by
              cases hs : (heldM l.held t thing).isSome with
              | true => rw [take_len2 (x := ⟨thing, t, share⟩) (valid_rising hv) hs]; exact hv'.1.2.1
              | false =>
                rw [hs] at hlim
                have := take_len (l := l.held) (x := ⟨thing, t, share⟩)
                have : l.held.length + l.waits.length < 5000 := by simpa using hlim
                omega
            unfold validM lensB
            simp only [Bool.and_eq_true, decide_eq_true_eq]
            exact ⟨⟨hv'.1.1, hlen, hv'.1.2.2⟩, hth, hv'.2.2.1, hv'.2.2.2⟩
        · split
          · exact safe_nil
          · rename_i hd
            split
            · exact safe_nil
            · rename_i hlim
              refine ⟨?_, fun hcy => hd (dead_yes hcy), fun w hm p hp => ?_⟩
              · rw [valid_push (w := ⟨t, thing, share⟩) hv hok.2.1 hok.2.2 hw]
                simp only [Bool.or_eq_true, Bool.not_eq_true', decide_eq_false_iff_not, decide_eq_true_eq, not_or] at hlim
                simp only [Bool.and_eq_true, decide_eq_true_eq]
                omega
              · rcases List.mem_append.1 hm with hm | hm
                · exact ha w hm p hp
                · obtain rfl := List.mem_singleton.1 hm
                  exact fun e => hi' p hp e.symm
  · exact safe_nil
end Go.Proofs.Ytkbancdmhcnhjaa.Hw
