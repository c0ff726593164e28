/- Locks, the other half: LockEnds, plain law: whose locks there are. -/
import Derived.Test.YtkbancdmhcnhjaaSd
set_option linter.unusedVariables false
set_option linter.unusedSimpArgs false
namespace Go.Proofs.Ytkbancdmhcnhjaa.Hw
open Go Go.Proofs
/-- All transactions that the locks name have a property. -/
def OfK (S : Int → Prop) (l : LK) : Prop := (∀ x ∈ l.held, S x.txn) ∧ (∀ w ∈ l.waits, S w.txn) ∧ ∀ p ∈ l.inner, S p.1 ∧ S p.2
theorem of_nil {S : Int → Prop} : OfK S nilK := ⟨fun x h => (by cases h), fun x h => (by cases h), fun x h => (by cases h)⟩
theorem OfK.mono {S T : Int → Prop} {l : LK} (h : OfK S l) (hs : ∀ n, S n → T n) : OfK T l :=
  ⟨fun x hx => hs _ (h.1 x hx), fun x hx => hs _ (h.2.1 x hx), fun x hx => ⟨hs _ (h.2.2 x hx).1, hs _ (h.2.2 x hx).2⟩⟩
theorem take_of {S : Int → Prop} {l : List Lk} {x : Lk} (h : ∀ z ∈ l, S z.txn) (hx : S x.txn) : ∀ z ∈ takeM l x, S z.txn := fun z hz => by
  rcases take_mem hz with hz | ⟨⟨_, e⟩, _⟩
  · exact h z hz
  · rw [e]; exact hx
theorem wake_of {S : Int → Prop} {hd : List Lk} {ws : List Wt} (h0 : ∀ z ∈ hd, S z.txn) (h1 : ∀ w ∈ ws, S w.txn) : ∀ i, i ≤ ws.length → (∀ z ∈ (wakeM hd (ws.take i)).1, S z.txn) ∧ (∀ w ∈ (wakeM hd (ws.take i)).2.1, S w.txn) ∧ (wakeM hd (ws.take i)).2.1.length + (wakeM hd (ws.take i)).2.2.length = i := by
  intro i
  induction i with
  | zero => intro _; simpa [wakeM] using h0
  | succ i ih =>
    intro hi
    obtain ⟨a, b, c⟩ := ih (by omega)
    obtain ⟨w, hw⟩ := get_of (l := ws) (i := i) (by omega)
    have hm := h1 w (List.mem_of_getElem? hw)
    rw [wakeM_succ hw]
    unfold wakeStep
    split
    · refine ⟨take_of a hm, b, ?_⟩
      simp only [List.length_append, List.length_singleton]; omega
    · refine ⟨a, fun v hv => ?_, ?_⟩
      · rcases List.mem_append.1 hv with hv | hv
        · exact b v hv
        · obtain rfl := List.mem_singleton.1 hv; exact hm
      · simp only [List.length_append, List.length_singleton]; omega
theorem wake_all {S : Int → Prop} {hd : List Lk} {ws : List Wt} (h0 : ∀ z ∈ hd, S z.txn) (h1 : ∀ w ∈ ws, S w.txn) : (∀ z ∈ (wakeM hd ws).1, S z.txn) ∧ (∀ w ∈ (wakeM hd ws).2.1, S w.txn) ∧ (wakeM hd ws).2.1.length + (wakeM hd ws).2.2.length = ws.length := by
  have := wake_of h0 h1 ws.length (Nat.le_refl _)
  rw [List.take_length] at this; exact this
theorem free_of {S : Int → Prop} {l : LK} {t : Int} (h : OfK (fun n => n = t ∨ S n) l) : OfK S (freeLM l t).1 := by
  unfold freeLM
  split
  · have k0 : ∀ z ∈ l.held.filter fun x => !(x.txn == t), S z.txn := fun z hz => by
      obtain ⟨h1, h2⟩ := List.mem_filter.1 hz
      rcases h.1 z h1 with e | e
      · simp [e] at h2
      · exact e
    have k1 : ∀ z ∈ l.waits.filter fun x => !(x.txn == t), S z.txn := fun z hz => by
      obtain ⟨h1, h2⟩ := List.mem_filter.1 hz
      rcases h.2.1 z h1 with e | e
      · simp [e] at h2
      · exact e
    obtain ⟨a, b, _⟩ := wake_all k0 k1
    refine ⟨a, b, fun p hp => ?_⟩
    obtain ⟨h1, h2⟩ := List.mem_filter.1 hp
    simp only [Bool.not_eq_true', Bool.or_eq_false_iff, beq_eq_false_iff_ne] at h2
    obtain ⟨a, b⟩ := h.2.2 p h1
    exact ⟨a.resolve_left h2.1, b.resolve_left h2.2⟩
  · exact of_nil
theorem leave_of {S : Int → Prop} {l : LK} {t : Int} (h : OfK S l) : OfK S (leaveM l t).1 := by
  unfold leaveM
  split
  · split
    · obtain ⟨a, b, _⟩ := wake_all (ws := l.waits.filter fun w => !(w.txn == t)) h.1 fun w hw => h.2.1 w (List.mem_filter.1 hw).1
      exact ⟨a, b, h.2.2⟩
    · exact of_nil
  · exact of_nil
theorem ask_of {S : Int → Prop} {l : LK} {t : Int} {thing : ByteArray} {share : Bool} (h : OfK S l) (ht : S t) : OfK S (askM l t thing share).1 := by
  have hp : OfK S (pushK l ⟨t, thing, share⟩) := ⟨h.1, fun w hw => by
    rcases List.mem_append.1 hw with hw | hw
    · exact h.2.1 w hw
    · obtain rfl := List.mem_singleton.1 hw; exact ht, h.2.2⟩
  unfold askM
  split
  · split
    · exact of_nil
    · split
      · exact h
      · split
        · split
          · exact of_nil
          · exact ⟨take_of h.1 ht, h.2.1, h.2.2⟩
        · split
          · exact of_nil
          · split
            · exact of_nil
            · exact hp
  · exact of_nil
theorem within_of {S : Int → Prop} {l : LK} {o i : Int} (h : OfK S l) (ho : S o) (hi : S i) : OfK S (withinM l o i).1 := by
  unfold withinM
  split
  · split
    · exact of_nil
    · split
      · exact of_nil
      · split
        · exact of_nil
        · split
          · exact of_nil
          · refine ⟨h.1, h.2.1, fun p hp => ?_⟩
            rcases List.mem_append.1 hp with hp | hp
            · exact h.2.2 p hp
            · obtain rfl := List.mem_singleton.1 hp; exact ⟨ho, hi⟩
  · exact of_nil
theorem do_of {S : Int → Prop} {l : LK} {a : Act} (h : OfK S l) (ht : S a.txn) (hi : S a.inner) : OfK S (doM l a).1 := by
  unfold doM
  split
  · exact h
  · unfold actR
    split
    · exact ask_of h ht
    · split
      · exact free_of (h.mono fun n hn => .inr hn)
      · split
        · exact leave_of h
        · exact within_of h ht hi
/-- The numbers that acts name, in their order. -/
def numsA (l : List Act) : List Int := l.flatMap fun a => [a.txn, a.inner]
theorem made_keep {P : LK → Prop} {l : List Act} (h0 : P nilK) (hs : ∀ x, ∀ a ∈ l, P x → P (doM x a).1) : P (madeM l) := by
  unfold madeM
  have : ∀ (m : List Act) (x : LK), (∀ a ∈ m, a ∈ l) → P x → P (m.foldl (fun x a => (doM x a).1) x) := by
    intro m
    induction m with
    | nil => intro x _ hx; exact hx
    | cons a m ih => intro x hm hx; exact ih _ (fun b hb => hm b (List.mem_cons_of_mem _ hb)) (hs x a (hm a List.mem_cons_self) hx)
  exact this l nilK (fun a h => h) h0
theorem made_of {l : List Act} : OfK (fun n => n ∈ numsA l) (madeM l) :=
  made_keep of_nil fun x a ha hx => do_of hx (List.mem_flatMap.2 ⟨a, ha, by simp⟩) (List.mem_flatMap.2 ⟨a, ha, by simp⟩)
theorem made_safe {l : List Act} : SafeK (madeM l) := made_keep safe_nil fun x a _ hx => do_safe hx
/-- What LockEnds has before it frees the rest of the numbers. -/
def EndsK (rest : List Int) (x : LK) : Prop := SafeK x ∧ OfK (fun n => n ∈ rest) x
theorem ends_bad {x : LK} {n : Int} {rest : List Int} (h : EndsK (n :: rest) x) (hn : numB n = false) : EndsK rest x := by
  have hv := valid_iff.1 h.1.1
  obtain ⟨w1, _⟩ := wait_iff.1 hv.2.2.1
  obtain ⟨i1, _⟩ := inner_iff.1 hv.2.2.2
  obtain ⟨e1, _, _⟩ := held_iff.1 hv.2.1
  have key : ∀ m, numB m = true → m ∈ n :: rest → m ∈ rest := fun m hm hr => by
    rcases List.mem_cons.1 hr with rfl | hr
    · rw [hn] at hm; cases hm
    · exact hr
  have el : ∀ {t m}, elOk t m = true → numB m = true := fun {t m} h => by unfold elOk at h; simp only [Bool.and_eq_true] at h; exact h.2
  exact ⟨h.1, fun z hz => key _ (el (e1 z hz)) (h.2.1 z hz), fun z hz => key _ (el (w1 z hz)) (h.2.2.1 z hz), fun p hp => ⟨key _ (i1 p hp).1 (h.2.2.2 p hp).1, key _ (i1 p hp).2.1 (h.2.2.2 p hp).2⟩⟩
theorem free_code {x : LK} {n : Int} (h : validM x = true) : (freeLM x n).2.2 = if numB n then 0 else 2 := by
  unfold freeLM
  rw [h, Bool.true_and]
  cases numB n <;> rfl
theorem ends_ok {x : LK} {n : Int} {rest : List Int} (h : EndsK (n :: rest) x) (hn : numB n = true) : EndsK rest (freeLM x n).1 ∧ (freeLM x n).1.waits.length + (freeLM x n).2.1.length ≤ x.waits.length := by
  refine ⟨⟨free_safe h.1, free_of (h.2.mono fun m hm => List.mem_cons.1 hm)⟩, ?_⟩
  unfold freeLM
  rw [h.1.1, hn, Bool.true_and, if_pos rfl]
  have := (wake_all (S := fun _ => True) (hd := x.held.filter fun x => !(x.txn == n)) (ws := x.waits.filter fun w => !(w.txn == n)) (fun _ _ => trivial) fun _ _ => trivial).2.2
  have b2 := List.length_filter_le (fun w : Wt => !(w.txn == n)) x.waits
  show _ + _ ≤ _
  simp only
  omega
theorem ends_nil {x : LK} (h : EndsK [] x) : x.held = [] ∧ x.waits = [] ∧ x.inner = [] :=
  ⟨List.eq_nil_iff_forall_not_mem.2 fun a ha => (by cases h.2.1 a ha), List.eq_nil_iff_forall_not_mem.2 fun a ha => (by cases h.2.2.1 a ha), List.eq_nil_iff_forall_not_mem.2 fun a ha => (by cases (h.2.2.2 a ha).1)⟩
end Go.Proofs.Ytkbancdmhcnhjaa.Hw
