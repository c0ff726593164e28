/- Locks, the other half: LockFair, plain law: an exclusive wait is not overtaken. -/
import Derived.Test.YtkbancdmhcnhjaaSi
set_option linter.unusedVariables false
set_option linter.unusedSimpArgs false
namespace Go.Proofs.Ytkbancdmhcnhjaa.Hw
open Go Go.Proofs
theorem two_sub {α : Type} {R : α → α → Prop} {a b : α} : ∀ {l : List α}, l.Pairwise R → [a, b].Sublist l → R a b := fun h hs =>
  (List.pairwise_cons.1 (h.sublist hs)).1 b List.mem_cons_self
theorem sub_two {α : Type} {a b : α} {l X Y : List α} (h : (X ++ a :: Y).Sublist l) (hb : b ∈ Y) : [a, b].Sublist l := by
  refine List.Sublist.trans ?_ h
  refine List.Sublist.trans ?_ (List.sublist_append_right X (a :: Y))
  exact List.Sublist.cons_cons _ (List.singleton_sublist.2 hb)
/-- In a list without repeats of a key, two cannot stand in both orders. -/
theorem no_both {l : List Wt} {a b : Wt} : l.Pairwise (fun a b => a.txn ≠ b.txn) → [a, b].Sublist l → [b, a].Sublist l → False := by
  induction l with
  | nil => intro _ h _; cases h
  | cons c l ih =>
    intro hp h1 h2
    obtain ⟨p1, p2⟩ := List.pairwise_cons.1 hp
    have hne := two_sub hp h1
    cases h1 with
    | cons _ h1 =>
      cases h2 with
      | cons _ h2 => exact ih p2 h1 h2
      | cons_cons _ h2 => exact p1 _ (h1.subset (by simp)) rfl
    | cons_cons _ h1 =>
      cases h2 with
      | cons _ h2 => exact p1 _ (h2.subset (by simp)) rfl
      | cons_cons _ h2 => exact hne rfl
theorem same_txn {l : List Wt} {a b : Wt} (h : l.Pairwise (fun a b => a.txn ≠ b.txn)) (ha : a ∈ l) (hb : b ∈ l) (e : a.txn = b.txn) : a = b := by
  induction l with
  | nil => cases ha
  | cons c l ih =>
    obtain ⟨p1, p2⟩ := List.pairwise_cons.1 h
    rcases List.mem_cons.1 ha with e1 | ha
    · rcases List.mem_cons.1 hb with e2 | hb
      · rw [e1, e2]
      · exact absurd (e1 ▸ e) (p1 b hb)
    · rcases List.mem_cons.1 hb with e2 | hb
      · exact absurd (e2 ▸ e.symm) (p1 a ha)
      · exact ih p2 ha hb
theorem isSome_false {l : List Lk} {t : Int} {thing : ByteArray} : (heldM l t thing).isSome = false ↔ ∀ z ∈ l, z.txn = t → z.thing ≠ thing := by
  constructor
  · intro h z hz e1 e2
    rw [held_some.2 ⟨z, hz, e1, e2⟩] at h; cases h
  · intro h
    cases hs : (heldM l t thing).isSome with
    | false => rfl
    | true => obtain ⟨z, hz, e1, e2⟩ := held_some.1 hs; exact absurd e2 (h z hz e1)
theorem wake_fair {W : List Wt} (hp : W.Pairwise (fun a b => a.txn ≠ b.txn)) {hd : List Lk} {ws : List Wt} (hs : ws.Sublist W) : ∀ i, i ≤ ws.length → ((wakeM hd (ws.take i)).2.1 ++ ws.drop i).Sublist ws ∧ ∀ v w, [v, w].Sublist W → v.thing = w.thing → v.share = false →
    (v ∈ ws → (heldM hd w.txn w.thing).isSome = false) → v ∈ (wakeM hd (ws.take i)).2.1 ++ ws.drop i → (heldM (wakeM hd (ws.take i)).1 w.txn w.thing).isSome = false := by
  intro i
  induction i with
  | zero => intro _; exact ⟨by simp [wakeM], fun v w _ _ _ h hv => h (by simpa [wakeM] using hv)⟩
  | succ i ih =>
    intro hi
    obtain ⟨a, b⟩ := ih (by omega)
    obtain ⟨u, hu⟩ := get_of (l := ws) (i := i) (by omega)
    obtain ⟨hil, eu⟩ := List.getElem?_eq_some_iff.1 hu
    rw [List.drop_eq_getElem_cons hil, eu] at a b
    rw [wakeM_succ hu]
    unfold wakeStep
    generalize wakeM hd (ws.take i) = s at a b
    split
    · rename_i hf
      have hsub : (s.2.1 ++ ws.drop (i + 1)).Sublist (s.2.1 ++ u :: ws.drop (i + 1)) := List.Sublist.append_left (List.sublist_cons_self _ _) _
      refine ⟨hsub.trans a, fun v w hvw ht hsh h0 hv => ?_⟩
      have hold := b v w hvw ht hsh h0 (hsub.subset hv)
      refine isSome_false.2 fun z hz e1 e2 => ?_
      rcases take_mem hz with hz | ⟨⟨k1, k2⟩, _⟩
      · exact isSome_false.1 hold z hz e1 e2
      · have aW := a.trans hs
        have euw : u = w := same_txn hp (aW.subset (by simp)) (hvw.subset (by simp)) (by rw [← e1, k2]; rfl)
        subst euw
        rcases List.mem_append.1 hv with hv | hv
        · unfold freeM at hf
          rw [hold] at hf
          have : (s.2.1.any fun w => clashM (lockOf w) u.txn u.thing u.share) = true := by
            refine List.any_eq_true.2 ⟨v, hv, ?_⟩
            have hne := two_sub hp hvw
            unfold clashM lockOf
            simp [ht, hsh, hne]
          rw [this] at hf
          simp at hf
        · exact no_both hp hvw (sub_two aW hv)
    · refine ⟨by simpa using a, fun v w hvw ht hsh h0 hv => b v w hvw ht hsh h0 (by simpa using hv)⟩
theorem wake_fair' {W : List Wt} (hp : W.Pairwise (fun a b => a.txn ≠ b.txn)) {hd : List Lk} {ws : List Wt} (hs : ws.Sublist W) : (wakeM hd ws).2.1.Sublist ws ∧ ∀ v w, [v, w].Sublist W → v.thing = w.thing → v.share = false →
    (v ∈ ws → (heldM hd w.txn w.thing).isSome = false) → v ∈ (wakeM hd ws).2.1 → (heldM (wakeM hd ws).1 w.txn w.thing).isSome = false := by
  have := wake_fair hp (hd := hd) hs ws.length (Nat.le_refl _)
  rw [List.take_length, List.drop_length, List.append_nil] at this
  exact this
/-- What frees after the locks `was` leave. -/
def FairK (was x : LK) : Prop := SafeK x ∧ x.waits.Sublist was.waits ∧ ∀ v w, [v, w].Sublist was.waits → v.thing = w.thing → v.share = false → (heldM was.held w.txn w.thing).isSome = false → v ∈ x.waits → (heldM x.held w.txn w.thing).isSome = false
theorem fair_self {x : LK} (h : SafeK x) : FairK x x := ⟨h, List.Sublist.refl _, fun v w _ _ _ h _ => h⟩
theorem fair_free {was x : LK} {n : Int} (h0 : SafeK was) (h : FairK was x) (hc : (freeLM x n).2.2 = 0) : FairK was (freeLM x n).1 := by
  obtain ⟨hs, hsub, hf⟩ := h
  refine ⟨free_safe hs, ?_⟩
  have hw := (wait_iff.1 (valid_iff.1 h0.1).2.2.1).2
  unfold freeLM at hc ⊢
  split at hc
  · rename_i hg
    rw [if_pos hg]
    have hfs : (x.waits.filter fun w => !(w.txn == n)).Sublist was.waits := List.filter_sublist.trans hsub
    obtain ⟨a, b⟩ := wake_fair' hw (hd := x.held.filter fun x => !(x.txn == n)) hfs
    refine ⟨a.trans hfs, fun v w hvw ht hsh h1 hv => b v w hvw ht hsh (fun hvx => ?_) hv⟩
    have := hf v w hvw ht hsh h1 (List.mem_filter.1 hvx).1
    exact isSome_false.2 fun z hz => isSome_false.1 this z (List.mem_filter.1 hz).1
  · cases hc
end Go.Proofs.Ytkbancdmhcnhjaa.Hw
