/- Locks: Ask. -/
import Derived.Test.YtkbancdmhcnhjaaLp
set_option linter.unusedVariables false
set_option linter.unusedSimpArgs false
namespace Go.Proofs.Ytkbancdmhcnhjaa.Hw
open Go Go.Proofs
noncomputable def deadB (l : LK) : Bool := @decide (Cyc l) (Classical.propDecidable _)
theorem deadB_of {l : LK} {b : Bool} (h : b = true ↔ Cyc l) : b = deadB l := by
  unfold deadB
  cases b with
  | true => exact (@decide_eq_true _ (Classical.propDecidable _) (h.1 rfl)).symm
  | false => exact (@decide_eq_false _ (Classical.propDecidable _) (fun hc => by have := h.2 hc; cases this)).symm
def nilK : LK := ⟨[], [], []⟩
theorem LocksAt.nil (H : Hp) : LocksAt H none 0 0 none 0 0 none 0 0 nilK :=
  ⟨⟨rfl, .inl rfl, by decide⟩, ⟨rfl, .inl rfl, by decide⟩, ⟨rfl, .inl rfl, by decide⟩, Nat.le_refl _, Nat.le_refl _, Nat.le_refl _, fun x h => (by cases h), fun x h => (by cases h)⟩
def pushK (l : LK) (w : Wt) : LK := ⟨l.held, l.waits ++ [w], l.inner⟩
noncomputable def askM (l : LK) (txn : Int) (thing : ByteArray) (share : Bool) : LK × Bool × Int :=
  if validM l && (numB txn && thingB thing) then
    if (l.waits.any fun w => w.txn == txn) || (l.inner.any fun p => p.1 == txn) then (nilK, false, 5)
    else if (heldM l.held txn thing).isSome && (share || !((heldM l.held txn thing).getD zeroLk).share) then (l, true, 0)
    else if freeM l.held l.waits txn thing share then
      if !(heldM l.held txn thing).isSome && !decide (l.held.length + l.waits.length < 5000) then (nilK, false, 3)
      else (⟨takeM l.held ⟨thing, txn, share⟩, l.waits, l.inner⟩, true, 0)
    else if deadB (pushK l ⟨txn, thing, share⟩) then (nilK, false, 28)
    else if !decide (l.held.length + l.waits.length < 5000) || decide (l.waits.length + 1 > 100) then (nilK, false, 3)
    else (pushK l ⟨txn, thing, share⟩, false, 0)
  else (nilK, false, 2)
theorem thing_size {t : ByteArray} (h : thingB t = true) : t.size ≤ 100 := by
  unfold thingB at h
  simp only [Bool.and_eq_true, decide_eq_true_eq] at h
  exact h.2.2
theorem valid_lens {l : LK} (h : validM l = true) : l.waits.length ≤ 100 ∧ l.held.length + l.waits.length ≤ 5000 ∧ l.inner.length ≤ 100 := by
  unfold validM lensB at h
  simp only [Bool.and_eq_true, decide_eq_true_eq] at h
  exact ⟨h.1.1, h.1.2.1, h.1.2.2⟩
theorem valid_rising {l : LK} (h : validM l = true) : Rising l.held := by
  unfold validM at h
  simp only [Bool.and_eq_true] at h
  exact rising_of h.2.1
theorem valid_once {l : LK} (h : validM l = true) : Once l.waits := by
  unfold validM at h
  simp only [Bool.and_eq_true] at h
  intro i j v w hij hv hw he
  have := upTo_at h.2.2.1 (List.getElem?_eq_some_iff.1 hw).1
  unfold waitT at this
  rw [hw] at this
  simp only [Bool.and_eq_true] at this
  have h2 : (l.waits.take j).any (fun v => v.txn == w.txn) = true := List.any_eq_true.2 ⟨v, List.mem_of_getElem? (i := i) (by rw [List.getElem?_take_of_lt hij]; exact hv), by simpa using he⟩
  rw [h2] at this
  exact absurd this.2 (by decide)
theorem take_len {l : List Lk} {x : Lk} : (takeM l x).length ≤ l.length + 1 := by
  unfold takeM
  split
  · rw [List.length_set]; omega
  · rw [insL_len posL_le]; omega
theorem take_str {l : List Lk} {x : Lk} (h : ∀ y ∈ l, y.thing.size < huge) (hx : x.thing.size < huge) : ∀ y ∈ takeM l x, y.thing.size < huge := by
  unfold takeM
  split
  · rename_i hat
    obtain ⟨z, hz, _⟩ := isAt_get hat
    intro y hy
    rcases List.mem_or_eq_of_mem_set hy with hy | rfl
    · exact h y hy
    · rw [hz]; exact h z (List.mem_of_getElem? hz)
  · intro y hy
    unfold insL at hy
    rcases List.mem_append.1 hy with hy | hy
    · exact h y (List.mem_of_mem_take hy)
    · rcases List.mem_cons.1 hy with rfl | hy
      · exact hx
      · exact h y (List.mem_of_mem_drop hy)
theorem once_push {l : List Wt} {w : Wt} (h : Once l) (hn : (l.any fun v => v.txn == w.txn) = false) : Once (l ++ [w]) := by
  intro i j v z hij hv hz
  have hj := (List.getElem?_eq_some_iff.1 hz).1
  rw [List.length_append, List.length_singleton] at hj
  rw [List.getElem?_append_left (by omega)] at hv
  by_cases e : j < l.length
  · rw [List.getElem?_append_left e] at hz
    exact h i j v z hij hv hz
  · rw [List.getElem?_append_right (by omega), show j - l.length = 0 by omega] at hz
    cases hz
    intro e2
    have : (l.any fun v => v.txn == w.txn) = true := List.any_eq_true.2 ⟨v, List.mem_of_getElem? hv, by simpa using e2⟩
    rw [this] at hn; cases hn
theorem upTo_congr {n : Nat} {t t' : Nat → Bool} (h : ∀ k, k < n → t k = t' k) : upTo n t = upTo n t' := by
  induction n with
  | zero => rfl
  | succ n ih => rw [upTo_succ, upTo_succ, ih (fun k hk => h k (by omega)), h n (by omega)]
theorem valid_push {l : LK} {w : Wt} (h : validM l = true) (hn : numB w.txn = true) (ht : thingB w.thing = true) (hw : (l.waits.any fun v => v.txn == w.txn) = false) :
    validM (pushK l w) = (decide (l.waits.length + 1 ≤ 100) && decide (l.held.length + (l.waits.length + 1) ≤ 5000)) := by
  unfold validM at h
  simp only [Bool.and_eq_true] at h
  unfold lensB at h
  simp only [Bool.and_eq_true, decide_eq_true_eq] at h
  have e1 : upTo (l.waits ++ [w]).length (waitT (l.waits ++ [w])) = true := by
    rw [List.length_append, List.length_singleton, upTo_succ]
    have : upTo l.waits.length (waitT (l.waits ++ [w])) = upTo l.waits.length (waitT l.waits) := upTo_congr fun k hk => by
      unfold waitT
      rw [List.getElem?_append_left hk, List.take_append_of_le_length (by omega)]
    rw [this, h.2.2.1]
    unfold waitT elOk
    rw [List.getElem?_append_right (Nat.le_refl _), Nat.sub_self]
    simp only [List.getElem?_cons_zero, List.take_left', hn, ht, Bool.and_self, Bool.true_and]
    rw [hw]; rfl
  unfold validM pushK
  simp only
  rw [e1, h.2.1, h.2.2.2]
  unfold lensB
  simp only [List.length_append, List.length_singleton, Bool.and_true]
  rw [decide_eq_true h.1.2.2, Bool.and_true]
section
variable {H0 H : Hp} {Q : Value → Hp → Prop}
theorem wtC_one1 {w : Wt} : ∀ v ∈ wtC w, v.oneCell' = true := fun v hv => by
  simp only [wtC, List.mem_cons, List.not_mem_nil, or_false] at hv
  rcases hv with rfl | rfl | rfl <;> rfl
theorem OwnL.pushW {B0 B1 B2 : Option Addr} {d0 d1 d2 g : Nat} {l : LK} {w : Wt} {K : Option Addr → Nat → Nat → Hp → Prop} (o : OwnL H0 H B0 d0 B1 d1 B2 d2 l) (hs : l.waits.length < big) (hg : H g = none)
    (hk : ∀ A' c' H', OwnL H0 H' B0 d0 A' c' B2 d2 (pushK l w) → (∀ b, H' b ≠ H b → rowB B1 b ∨ H b = none) → (∀ b, rowB A' b → rowB B1 b ∨ H b = none) → K A' (l.waits.length + 1) c' H') :
    appendF (upd g (.cells [Value.int .i64 w.txn, .string w.thing, .bool w.share].toArray 42 (0, 0)) H) 42 3 32 B1 l.waits.length d1 (some ⟨g, 0, none⟩) 1 K := by
  unfold big at hs
  have hx1 : Ext H (upd g (.cells [Value.int .i64 w.txn, .string w.thing, .bool w.share].toArray 42 (0, 0)) H) := Ext.new hg
  have o1 := o.more hx1
  refine o1.waits.append o1.ext (new := wtC w) (.inr ⟨g, 0, rfl, fun j v hj => by rw [cl_cells upd_at, Nat.zero_add]; exact hj⟩) rfl wtC_one1 (by omega) (by omega) fun A' c' H' R' x' ch nw _ => ?_
  have old : ∀ b, (upd g (.cells [Value.int .i64 w.txn, .string w.thing, .bool w.share].toArray 42 (0, 0)) H) b = none → H b = none := fun b h => hx1.none h
  have keep : ∀ b, H b ≠ none → ¬ rowB B1 b → H' b = H b := fun b hn hb => by
    have h1 := ext_at hx1 hn
    rw [← h1]
    refine Classical.byContradiction fun hne => ?_
    rcases (ch b hne).2 with h | h
    · exact hb h
    · exact hn (old b h)
  refine hk A' c' H' ⟨x', o.held.keep fun b hb => keep b (o.held.lt hb).1 (o.s01 b hb), ?_, o.inner.keep fun b hb => keep b (o.inner.lt hb).1 (fun h => o.s12 b h hb), fun b h0 h1 => ?_, o.s02, fun b h1 h2 => ?_⟩ (fun b hb => ?_) (fun b hb => (nw b hb).imp id (old b))
  · unfold pushK
    simp only [List.length_append, List.length_singleton, List.flatMap_append]
    simpa using R'
  · rcases nw b h1 with h | h
    · exact o.s01 b h0 h
    · exact (o.held.lt h0).1 (old b h)
  · rcases nw b h1 with h | h
    · exact o.s12 b h h2
    · exact (o.inner.lt h2).1 (old b h)
  · by_cases e : b = g
    · subst e; exact .inr hg
    · have : H' b ≠ (upd g (.cells [Value.int .i64 w.txn, .string w.thing, .bool w.share].toArray 42 (0, 0)) H) b := by rw [upd_off e]; exact hb
      exact (ch b this).2.imp id (old b)
/-- What Ask hands back. -/
def AskR (H : Hp) (Q : Value → Hp → Prop) (r : LK × Bool × Int) : Prop := ∀ B0 d0 B1 d1 B2 d2 H', Ext H H' → LocksAt H' B0 r.1.held.length d0 B1 r.1.waits.length d1 B2 r.1.inner.length d2 r.1 →
  Q (.tuple #[.agg #[.slice B0 r.1.held.length d0, .slice B1 r.1.waits.length d1, .slice B2 r.1.inner.length d2], .bool r.2.1, .int .i64 r.2.2]) H'
theorem AskR.err {b : Bool} {n : Int} {H' : Hp} (h : AskR H Q (nilK, b, n)) (hx : Ext H H') : Q (.tuple #[.agg #[.slice none 0 0, .slice none 0 0, .slice none 0 0], .bool b, .int .i64 n]) H' :=
  h none 0 none 0 none 0 H' hx (LocksAt.nil H')
theorem small_of {l : LK} (h : validM l = true) (hs : StrOk l) : Small l := by
  have := valid_lens h
  unfold Small big
  exact ⟨by omega, by omega, by omega, hs⟩
theorem push_ok {l : LK} {w : Wt} (h : validM l = true) (hs : StrOk l) (ht : w.thing.size < huge) : Small (pushK l w) ∧ Tame (pushK l w) := by
  have := valid_lens h
  have hs' : StrOk (pushK l w) := ⟨hs.1, fun v hv => by
    rcases List.mem_append.1 hv with hv | hv
    · exact hs.2 v hv
    · obtain rfl := List.mem_singleton.1 hv; exact ht⟩
  unfold Small Tame big pushK at *
  simp only [List.length_append, List.length_singleton]
  exact ⟨⟨by omega, by omega, by omega, hs'⟩, by omega, by omega, by omega, hs'⟩
theorem take_small {l : LK} {x : Lk} (h : validM l = true) (hs : StrOk l) (ht : x.thing.size < huge) : Small ⟨takeM l.held x, l.waits, l.inner⟩ := by
  have := valid_lens h
  have := take_len (l := l.held) (x := x)
  unfold Small big
  exact ⟨by simp only; omega, by simp only; omega, by simp only; omega, take_str hs.1 ht, hs.2⟩
end
end Go.Proofs.Ytkbancdmhcnhjaa.Hw
