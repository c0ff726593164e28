/- Locks: what the fixed calls come to. -/
import Derived.Test.YtkbancdmhcnhjaaLz
set_option linter.unusedVariables false
set_option linter.unusedSimpArgs false
namespace Go.Proofs.Ytkbancdmhcnhjaa.Hw
open Go Go.Proofs
def sA : ByteArray := { data := #[97] }
def sB : ByteArray := { data := #[98] }
def sZ : ByteArray := { data := #[122] }
def kA : LK := ⟨[⟨sA, 1, false⟩], [], []⟩
def kB : LK := ⟨[⟨sA, 1, false⟩, ⟨sB, 2, false⟩], [], []⟩
def kC : LK := ⟨[⟨sA, 1, false⟩, ⟨sB, 2, false⟩], [⟨1, sB, false⟩], []⟩
def kD : LK := ⟨[⟨sA, 1, false⟩, ⟨sB, 1, false⟩], [], []⟩
def kO : LK := ⟨[⟨sA, 1, false⟩], [], [(5, 6)]⟩
def kI : LK := ⟨[], [], [(3, 4), (4, 3)]⟩
theorem no_cyc {l : LK} {a b : Int} (hab : a ≠ b) (h : ∀ x y, y ∈ waitedL l x → x = a ∧ y = b) : ¬ Cyc l := by
  rintro ⟨n, hn⟩
  have key : ∀ x y, Reach l x y → x = a ∧ y = b := fun x y hr => by
    induction hr with
    | one e => exact h _ _ e
    | more _ e ih => exact absurd (ih.2.symm.trans (h _ _ e).1).symm hab
  obtain ⟨h1, h2⟩ := key n n hn
  exact hab (h1.symm.trans h2)
theorem dead_no {l : LK} (h : ¬ Cyc l) : deadB l = false := (deadB_of ⟨fun e => (by cases e), fun e => absurd e h⟩).symm
theorem dead_yes {l : LK} (h : Cyc l) : deadB l = true := (deadB_of ⟨fun _ => h, fun _ => rfl⟩).symm
theorem aw1 : askM nilK 1 sA false = (kA, true, 0) := by kernel_rfl
theorem aw2 : askM kA 2 sB false = (kB, true, 0) := by kernel_rfl
theorem wC1 : waitedL kC 1 = [2] := by kernel_rfl
theorem wC {x : Int} (h : x ≠ 1) : waitedL kC x = [] := by
  have e : ¬ (1 : Int) = x := fun e => h e.symm
  have : waitedL kC x = (if (1 : Int) = x then (waitRow kC x 0) else []) ++ [] := by
    rw [if_neg e]
    unfold waitedL rowsL innL
    simp [kC, waitRow, e]
  rw [this, if_neg e]; rfl
theorem ncC : ¬ Cyc kC := no_cyc (a := 1) (b := 2) (by decide) fun x y hy => by
  by_cases h : x = 1
  · subst h; rw [wC1] at hy; exact ⟨rfl, List.mem_singleton.1 hy⟩
  · rw [wC h] at hy; cases hy
theorem aw3 : askM kB 1 sB false = (kC, false, 0) := by
  have e : pushK kB ⟨1, sB, false⟩ = kC := rfl
  have : askM kB 1 sB false = if deadB (pushK kB ⟨1, sB, false⟩) then (nilK, false, 28) else (kC, false, 0) := by kernel_rfl
  rw [this, e, dead_no ncC]; rfl
theorem aw4 : askM kC 2 sA false = (nilK, false, 28) := by
  have : askM kC 2 sA false = if deadB (pushK kC ⟨2, sA, false⟩) then (nilK, false, 28) else (pushK kC ⟨2, sA, false⟩, false, 0) := by kernel_rfl
  rw [this, dead_yes]
  · rfl
  · refine ⟨1, .more (y := 2) (.one ?_) ?_⟩
    · have : waitedL (pushK kC ⟨2, sA, false⟩) 1 = [2] := by kernel_rfl
      rw [this]; exact List.mem_singleton.2 rfl
    · have : waitedL (pushK kC ⟨2, sA, false⟩) 2 = [1] := by kernel_rfl
      rw [this]; exact List.mem_singleton.2 rfl
theorem aw5 : forM kC 1 = ([2], 0) := by kernel_rfl
theorem aw6 : freeLM kC 2 = (kD, [1], 0) := by kernel_rfl
theorem aw8 : hasM kD 1 sB = (true, false, 0) := by kernel_rfl
theorem aw9 : withinM kC 2 1 = (nilK, 28) := by
  have : withinM kC 2 1 = if deadB (pushI kC (2, 1)) then (nilK, 28) else (pushI kC (2, 1), 0) := by kernel_rfl
  rw [this, dead_yes]
  · rfl
  · refine ⟨1, .more (y := 2) (.one ?_) ?_⟩
    · have : waitedL (pushI kC (2, 1)) 1 = [2] := by kernel_rfl
      rw [this]; exact List.mem_singleton.2 rfl
    · have : waitedL (pushI kC (2, 1)) 2 = [1] := by kernel_rfl
      rw [this]; exact List.mem_singleton.2 rfl
theorem aw10 : withinM kA 5 6 = (kO, 0) := by
  have e : pushI kA (5, 6) = kO := rfl
  have : withinM kA 5 6 = if deadB (pushI kA (5, 6)) then (nilK, 28) else (kO, 0) := by kernel_rfl
  rw [this, e, dead_no]
  · rfl
  · refine no_cyc (a := 5) (b := 6) (by decide) fun x y hy => ?_
    have : waitedL kO x = if (5 : Int) = x then [6] else [] := by
      unfold waitedL rowsL innL
      by_cases h : (5 : Int) = x <;> simp [kO, h]
    rw [this] at hy
    split at hy
    · rename_i h; exact ⟨h.symm, List.mem_singleton.1 hy⟩
    · cases hy
theorem aw11 : leaveM kC 1 = (kB, [], 0) := by kernel_rfl
theorem aw12 : askM kC 1 sZ true = (nilK, false, 5) := by kernel_rfl
theorem dOf_none {E : Int → List Int} {s u : Int} (hne : u ≠ s) (h : u < s ∨ E u = []) : dOf E s u = none := by
  cases hd : dOf E s u with
  | none => rfl
  | some n =>
    have hi := dOf_some.1 hd
    cases n with
    | zero => exact absurd hi.1 hne
    | succ n =>
      rcases h with h | h
      · have := dp_ge hi.1; omega
      · obtain ⟨v, hv, _⟩ := isD_step hi
        rw [h] at hv; cases hv
theorem aw7 : circM kC = ([], 4) := by
  have e1 : rowE kC 1 = [2] := by kernel_rfl
  have e2 : rowE kC 2 = [] := by kernel_rfl
  have hb : backM kC 1 = none := backM_of (.stop (by
    rw [e1]
    show pickStep (rowE kC) 1 none 2 = none
    unfold pickStep
    rw [dOf_none (by decide) (.inr e2)]))
  have hall : rise (allL kC) = [1] := by kernel_rfl
  have hv : validM kC = true := by kernel_rfl
  unfold circM
  rw [if_pos hv, hall]
  have : bestM kC [1] = circStep none (backM kC 1) := rfl
  rw [this, hb]; rfl
theorem aw13 : circM kI = ([3, 4], 0) := by
  have e3 : rowE kI 3 = [4] := by kernel_rfl
  have e4 : rowE kI 4 = [3] := by kernel_rfl
  have d4 : dOf (rowE kI) 3 4 = some 1 := dOf_some.2 ⟨⟨by decide, 3, by rw [e4]; exact List.mem_singleton.2 rfl, rfl⟩, fun k hk h => by
    obtain rfl : k = 0 := by omega
    have : (4 : Int) = 3 := h
    omega⟩
  have d3 : dOf (rowE kI) 3 3 = some 0 := dOf_some.2 isD_zero
  have hb3 : backM kI 3 = some [3, 4] := backM_of (.step (b := 4) (by
    rw [e3]
    show pickStep (rowE kI) 3 none 4 = some 4
    unfold pickStep
    rw [d4]) (by decide) (.done (by
    rw [e4]
    show pickStep (rowE kI) 3 none 3 = some 3
    unfold pickStep
    rw [d3])))
  have hb4 : backM kI 4 = none := backM_of (.stop (by
    rw [e4]
    show pickStep (rowE kI) 4 none 3 = none
    unfold pickStep
    rw [dOf_none (by decide) (.inl (by decide))]))
  have hall : rise (allL kI) = [3, 4] := by kernel_rfl
  have hv : validM kI = true := by kernel_rfl
  unfold circM
  rw [if_pos hv, hall]
  have : bestM kI [3, 4] = circStep (circStep none (backM kI 3)) (backM kI 4) := rfl
  rw [this, hb3, hb4]; rfl
theorem aw14 : validM kC = true := by kernel_rfl
end Go.Proofs.Ytkbancdmhcnhjaa.Hw
