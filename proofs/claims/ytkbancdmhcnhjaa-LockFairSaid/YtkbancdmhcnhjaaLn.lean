/- Locks: the program's waiters, waitsFor. -/
import Derived.Test.YtkbancdmhcnhjaaLm
set_option linter.unusedVariables false
set_option linter.unusedSimpArgs false
namespace Go.Proofs.Ytkbancdmhcnhjaa.Hw
open Go Go.Proofs
theorem compact_up {d : Array Int} (hd : ∀ i j, i ≤ j → j < d.size → d[i]! ≤ d[j]!) : ∀ m, m ≤ d.size → Strict (Lib.compactUpTo d m) ∧ ∀ x, x ∈ Lib.compactUpTo d m ↔ ∃ j, j < m ∧ d[j]! = x
  | 0, _ => ⟨by unfold Lib.compactUpTo; exact List.Pairwise.nil, fun x => by unfold Lib.compactUpTo; simp⟩
  | m + 1, hm => by
    obtain ⟨h1, h2⟩ := compact_up hd m (by omega)
    rw [Lib.compactUpTo_succ]
    by_cases hk : Lib.keeps d m = true
    · rw [if_pos hk]
      have hk' : m = 0 ∨ d[m]! ≠ d[m - 1]! := of_decide_eq_true hk
      refine ⟨?_, fun x => ?_⟩
      · unfold Strict
        rw [List.pairwise_append]
        refine ⟨h1, List.pairwise_singleton _ _, fun a ha b hb => ?_⟩
        obtain rfl := List.mem_singleton.1 hb
        obtain ⟨j, hj, rfl⟩ := (h2 a).1 ha
        have g1 := hd j (m - 1) (by omega) (by omega)
        have g2 := hd (m - 1) m (by omega) (by omega)
        rcases hk' with h0 | h0
        · omega
        · omega
      · rw [List.mem_append, h2, List.mem_singleton]
        constructor
        · rintro (⟨j, hj, h⟩ | h)
          · exact ⟨j, by omega, h⟩
          · exact ⟨m, by omega, h.symm⟩
        · rintro ⟨j, hj, h⟩
          by_cases e : j = m
          · subst e; exact .inr h.symm
          · exact .inl ⟨j, by omega, h⟩
    · rw [if_neg hk, List.append_nil]
      refine ⟨h1, fun x => ?_⟩
      rw [h2]
      have hk' : ¬ (m = 0 ∨ d[m]! ≠ d[m - 1]!) := fun h => hk (decide_eq_true h)
      have e1 : d[m]! = d[m - 1]! := Classical.byContradiction fun h => hk' (.inr h)
      constructor
      · rintro ⟨j, hj, h⟩; exact ⟨j, by omega, h⟩
      · rintro ⟨j, hj, h⟩
        by_cases e : j = m
        · subst e; exact ⟨j - 1, by have : j ≠ 0 := fun h => hk' (.inl h); omega, e1 ▸ h⟩
        · exact ⟨j, by omega, h⟩
theorem compact_sort {l : List Int} : Lib.compact (sortM l) = rise l := by
  have hs : (sortM l).Pairwise (fun a b => decide (a ≤ b) = true) := List.pairwise_mergeSort (fun a b c h1 h2 => by simp at *; omega) (fun a b => by simp; omega) l
  have hd : ∀ i j, i ≤ j → j < (sortM l).toArray.size → (sortM l).toArray[i]! ≤ (sortM l).toArray[j]! := fun i j hij hj => by
    have hj' : j < (sortM l).length := by simpa using hj
    rw [getElem!_pos (sortM l).toArray j hj, getElem!_pos (sortM l).toArray i (by omega)]
    by_cases e : i = j
    · subst e; exact Int.le_refl _
    · have := List.pairwise_iff_getElem.1 hs i j (by omega) hj' (by omega)
      simpa using this
  obtain ⟨h1, h2⟩ := compact_up hd (sortM l).length (by simp)
  refine strict_ext h1 strict_rise fun x => ?_
  have : x ∈ Lib.compact (sortM l) ↔ ∃ j, j < (sortM l).length ∧ (sortM l).toArray[j]! = x := h2 x
  rw [this, mem_rise]
  have hp : x ∈ sortM l ↔ x ∈ l := (List.mergeSort_perm l _).mem_iff
  rw [← hp]
  constructor
  · rintro ⟨j, hj, h⟩
    rw [getElem!_pos _ _ (by simpa using hj)] at h
    rw [← h]; simp
  · intro h
    obtain ⟨j, hj⟩ := List.getElem?_of_mem h
    obtain ⟨hl, e⟩ := List.getElem?_eq_some_iff.1 hj
    exact ⟨j, hl, by rw [getElem!_pos _ _ (by simpa using hl)]; simpa using e⟩
section
variable {H0 H : Hp} {Q : Value → Hp → Prop}
theorem pushr {A : Option Addr} {c : Nat} {P : List Int} {x : Int} {K : Option Addr → Nat → Nat → Hp → Prop} (R : RowI H0 H A c P) (hx : Ext H0 H) (hs : P.length < big)
    (hk : ∀ A' c' H', RowI H0 H' A' c' (P ++ [x]) → Ext H0 H' → K A' (P ++ [x]).length c' H') : newF H 3 [.int .i64 x] fun g H9 => appendF H9 3 1 8 A P.length c (some ⟨g, 0, none⟩) 1 K := by
  intro g hg
  refine R.push hx hs hg fun A' c' H' R' x' _ _ => ?_
  have := hk A' c' H' R' x'
  rw [List.length_append] at this
  exact this
theorem settle {A : Option Addr} {c : Nat} {P : List Int} (R : RowI H0 H A c P) (hx : Ext H0 H) (hs : P.length < big)
    (hq : ∀ A' c' H', RowI H0 H' A' c' (rise P) → Ext H0 H' → Q (.slice A' (rise P).length c') H') : HCalls Try.prog 44 [.slice A P.length c] H fun v93 H94 => v93 = .tuple #[] ∧ HCalls Try.prog 45 [.slice A P.length c] H94 fun v95 H96 => ∃ (A97 : Option Addr) (n97 c86 : Nat), v95 = .slice A97 n97 c86 ∧ Q (.slice A97 n97 c86) H96 := by
  refine c44 R hx hs fun H1 R1 hl1 x1 _ => ⟨rfl, ?_⟩
  rw [← hl1]
  refine c45 R1 x1 (by rw [hl1]; exact hs) fun H2 R2 x2 _ => ⟨_, _, _, rfl, ?_⟩
  rw [compact_sort] at R2 ⊢
  exact hq _ _ _ R2 x2
theorem c21 {A0 A1 A2 : Option Addr} {n0 c0 n1 c1 n2 c2 : Nat} {l : LK} (hl : LocksAt H A0 n0 c0 A1 n1 c1 A2 n2 c2 l) (ht : Tame l)
    (hq : ∀ A c H', RowI H H' A c (rise (allL l)) → Ext H H' → Q (.slice A (rise (allL l)).length c) H') : HCalls Try.prog 21 [.agg #[.slice A0 n0 c0, .slice A1 n1 c1, .slice A2 n2 c2]] H Q := by
  refine f21.ok _ _ _ _ _ _ _ _ _ ?_
  unfold f21
  obtain rfl := hl.waits.len
  obtain rfl := hl.inner.len
  have t1 := ht.2.1
  have t2 := ht.2.2.1
  refine gather (H0 := H) (fun i => (l.waits.take i).map (·.txn)) hl.waits.lt rfl RowI.nil (Ext.refl _) ?_ ?_
  · rintro i A c H' next hi R hx hnext
    obtain ⟨x, hx'⟩ := get_of hi
    have e : (l.waits.take (i + 1)).map (·.txn) = (l.waits.take i).map (·.txn) ++ [x.txn] := by rw [List.take_add_one, hx']; simp
    refine cndT (by simpa using hi) ⟨by simp, by simpa using hi, rd_wt (hl.waits.ext hx) hx' fun p o _ k1 k2 k3 => ⟨x.txn, by simpa using k1, x.thing, by simpa using k2, x.share, by simpa using k3, ?_⟩⟩
    refine pushr R hx (by rw [List.length_map, List.length_take]; unfold big; omega) fun A' c' H2 R2 x2 => ⟨rfl, ?_⟩
    have := hnext A' c' H2
    simp only [e] at this
    exact this R2 x2
  · rintro A c H' next R hx
    refine cndF (by simp) ?_
    refine gather (H0 := H) (fun i => l.waits.map (·.txn) ++ (l.inner.take i).map (·.1)) hl.inner.lt (by simp) (by simpa using R) hx ?_ ?_
    · rintro i A c H' next hi R hx hnext
      obtain ⟨x, hx'⟩ := get_of hi
      have e : l.waits.map (·.txn) ++ (l.inner.take (i + 1)).map (·.1) = (l.waits.map (·.txn) ++ (l.inner.take i).map (·.1)) ++ [x.1] := by rw [List.take_add_one, hx']; simp
      refine cndT (by simpa using hi) ⟨by simp, by simpa using hi, rd_pr (hl.inner.ext hx) hx' fun p o _ k1 k2 => ⟨x.1, by simpa using k1, x.2, by simpa using k2, by omega, by omega, ?_⟩⟩
      refine pushr R hx (by rw [List.length_append, List.length_map, List.length_map, List.length_take]; unfold big; omega) fun A' c' H2 R2 x2 => ⟨rfl, ?_⟩
      have := hnext A' c' H2
      simp only [e] at this
      exact this R2 x2
    · rintro A c H' next R hx
      refine cndF (by simp) ?_
      simp only [List.take_length] at R ⊢
      exact settle R hx (by rw [List.length_append, List.length_map, List.length_map]; unfold big; omega) hq
theorem c22 {A0 A1 A2 : Option Addr} {n0 c0 n1 c1 n2 c2 : Nat} {l : LK} {t : Int} (hl : LocksAt H A0 n0 c0 A1 n1 c1 A2 n2 c2 l) (ht : Tame l) (hr : Rising l.held)
    (hq : ∀ A c H', RowI H H' A c (rise (waitedL l t)) → Ext H H' → Q (.slice A (rise (waitedL l t)).length c) H') : HCalls Try.prog 22 [.agg #[.slice A0 n0 c0, .slice A1 n1 c1, .slice A2 n2 c2], .int .i64 t] H Q := by
  refine f22.ok _ _ _ _ _ _ _ _ _ _ ?_
  unfold f22
  obtain rfl := hl.held.len
  obtain rfl := hl.waits.len
  obtain rfl := hl.inner.len
  have t0 := ht.1
  have t1 := ht.2.1
  have t2 := ht.2.2.1
  have hc1 := hl.cap1
  refine gather (H0 := H) (fun i => rowsL l t i) hl.waits.lt rfl RowI.nil (Ext.refl _) ?_ ?_
  · rintro i A c H' next hi R hx hnext
    have hrl := rows_len (t := t) ht (n := i)
    obtain ⟨x, hx'⟩ := get_of hi
    refine cndT (by simpa using hi) (jn_intro (fun J => ∀ A' c' H2, RowI H H2 A' c' (rowsL l t (i + 1)) → Ext H H2 → J A' (rowsL l t (i + 1)).length c' H2) (fun A' c' H2 R2 x2 => ⟨rfl, hnext A' c' H2 R2 x2⟩) fun J hJ => ?_)
    refine ⟨by simp, by simpa using hi, rd_wt (hl.waits.ext hx) hx' fun p o _ k1 k2 k3 => ⟨x.txn, by simpa using k1, x.thing, by simpa using k2, x.share, by simpa using k3, cndI (fun hne => ?_) (fun heq => ?_)⟩⟩
    · have e : waitRow l t i = [] := by unfold waitRow; simp only [hx']; rw [if_neg (by simpa using hne)]
      have := hJ A c H'
      rw [rowsL_succ, e, List.append_nil] at this
      exact this R hx
    · have heq : x.txn = t := by simpa using heq
      subst heq
      refine c46b hl hx hr fun Ao no co H5 hx5 hon => ⟨_, _, _, rfl, ?_⟩
      have R : RowI H H5 A c (rowsL l x.txn i) := R.more hx5
      have hx : Ext H H5 := hx.trans hx5
      obtain rfl := hon.len
      have hol : (onM l.held x.thing).length ≤ 10000 := Nat.le_trans (List.length_filter_le _ _) t0
      refine gather (H0 := H) (fun j => rowsL l x.txn i ++ (((onM l.held x.thing).take j).filter fun h => clashM h x.txn x.thing x.share).map (·.txn)) hon.lt (by simp) (by simpa using R) hx ?_ ?_
      · rintro j A c H' next hj R hx hnext
        obtain ⟨y, hy⟩ := get_of hj
        have e := fm_succ (p := fun h => clashM h x.txn x.thing x.share) (g := (·.txn)) hy
        refine cndT (by simpa using hj) (jn_intro (fun J => ∀ A' c' H2, RowI H H2 A' c' (rowsL l x.txn i ++ (((onM l.held x.thing).take (j + 1)).filter fun h => clashM h x.txn x.thing x.share).map (·.txn)) → Ext H H2 → J A' (rowsL l x.txn i ++ (((onM l.held x.thing).take (j + 1)).filter fun h => clashM h x.txn x.thing x.share).map (·.txn)).length c' H2) (fun A' c' H2 R2 x2 => ⟨rfl, hnext A' c' H2 R2 x2⟩) fun J hJ => ?_)
        rw [e] at hJ
        refine ⟨by simp, by simpa using hj, rd_lk (hon.ext hx) hy fun p o _ k1 k2 k3 => ⟨y.thing, by simpa using k1, y.txn, by simpa using k2, y.share, by simpa using k3, c48 ⟨_, _, _, rfl, c47 (a := lockOf x) (b := y) ⟨_, rfl, ?_⟩⟩⟩⟩
        rw [clash_sym]
        refine cndI (fun hcl => ?_) (fun hcl => ?_)
        · have hcl : clashM y x.txn x.thing x.share = true := hcl
          rw [if_pos hcl, ← List.append_assoc] at hJ
          refine pushr R hx ?_ hJ
          have := List.length_filter_le (fun h => clashM h x.txn x.thing x.share) ((onM l.held x.thing).take j)
          rw [List.length_take] at this
          rw [List.length_append, List.length_map]; unfold big; omega
        · rw [if_neg (by have : clashM y x.txn x.thing x.share = false := hcl; rw [this]; simp), List.append_nil] at hJ
          exact hJ A c H' R hx
      · rintro A c H' next R hx
        have eo : (onM l.held x.thing).filter (fun h => clashM h x.txn x.thing x.share) = l.held.filter fun h => clashM h x.txn x.thing x.share := by
          unfold onM
          rw [List.filter_filter]
          congr 1
          funext h
          unfold clashM
          cases decide (h.thing = x.thing) <;> simp
        simp only [List.take_length, eo] at R ⊢
        have er : waitRow l x.txn i = (l.held.filter fun h => clashM h x.txn x.thing x.share).map (·.txn) ++ (if (heldM l.held x.txn x.thing).isSome then [] else ((l.waits.take i).filter fun v => clashM (lockOf v) x.txn x.thing x.share).map (·.txn)) := by unfold waitRow; simp only [hx']; exact if_pos trivial
        have hfl := List.length_filter_le (fun h => clashM h x.txn x.thing x.share) l.held
        rw [rowsL_succ, er, ← List.append_assoc] at hJ
        refine cndF (by simp) (c38 (hl.ext hx) hr fun H6 hx6 => ⟨_, _, _, _, rfl, by omega, by omega, ?_⟩)
        have R := R.more hx6
        have hx := hx.trans hx6
        generalize (heldM l.held x.txn x.thing).isSome = has at hJ ⊢
        simp only [Int.toNat_natCast, Nat.sub_zero]
        refine gather (H0 := H) (N := i) (fun j => rowsL l x.txn i ++ (l.held.filter fun h => clashM h x.txn x.thing x.share).map (·.txn) ++ (if has then [] else (((l.waits.take i).take j).filter fun v => clashM (lockOf v) x.txn x.thing x.share).map (·.txn))) (by omega) (by simp) (by simpa using R) hx ?_ ?_
        · rintro j A c H2 next hj R hx2 hnext
          have hjl : j < (l.waits.take i).length := by rw [List.length_take]; omega
          obtain ⟨y, hy⟩ := get_of hjl
          have e := fm_succ (p := fun v => clashM (lockOf v) x.txn x.thing x.share) (g := (·.txn)) hy
          have hw2 := SlAt.cut (k := 3) (fun _ => rfl) (hl.ext hx2).waits hc1 (p := 0) (m := i) (by omega)
          rw [List.drop_zero] at hw2
          refine cndT (by simpa using hj) (jn_intro (fun J => ∀ A' c' H2, RowI H H2 A' c' (rowsL l x.txn i ++ (l.held.filter fun h => clashM h x.txn x.thing x.share).map (·.txn) ++ (if has then [] else (((l.waits.take i).take (j + 1)).filter fun v => clashM (lockOf v) x.txn x.thing x.share).map (·.txn))) → Ext H H2 → J A' (rowsL l x.txn i ++ (l.held.filter fun h => clashM h x.txn x.thing x.share).map (·.txn) ++ (if has then [] else (((l.waits.take i).take (j + 1)).filter fun v => clashM (lockOf v) x.txn x.thing x.share).map (·.txn))).length c' H2) (fun A' c' H2 R2 x2 => ⟨rfl, hnext A' c' H2 R2 x2⟩) fun J' hJ' => ?_)
          rw [e] at hJ'
          refine ⟨by simp, by simpa using hj, rd_wt hw2 hy fun p o _ k1 k2 k3 => ⟨y.txn, by simpa using k1, y.thing, by simpa using k2, y.share, by simpa using k3, ?_⟩⟩
          cases has with
          | true =>
            simp only [if_true] at hJ' R
            unfold jn
            exact cndF rfl (cndF rfl (hJ' A c H2 R hx2))
          | false =>
            simp only [Bool.false_eq_true, if_false] at hJ' R ⊢
            unfold jn
            refine cndT rfl (c48 ⟨_, _, _, rfl, c48 ⟨_, _, _, rfl, c47 (a := lockOf x) (b := lockOf y) ⟨_, rfl, ?_⟩⟩⟩)
            rw [clash_sym]
            refine cndI (fun hcl => ?_) (fun hcl => ?_)
            · have hcl : clashM (lockOf y) x.txn x.thing x.share = true := hcl
              rw [if_pos hcl, ← List.append_assoc] at hJ'
              refine pushr R hx2 ?_ hJ'
              have := List.length_filter_le (fun v => clashM (lockOf v) x.txn x.thing x.share) ((l.waits.take i).take j)
              rw [List.length_take, List.length_take] at this
              rw [List.length_append, List.length_append, List.length_map, List.length_map]; unfold big; omega
            · rw [if_neg (by have : clashM (lockOf y) x.txn x.thing x.share = false := hcl; rw [this]; simp), List.append_nil] at hJ'
              exact hJ' A c H2 R hx2
        · rintro A c H2 next R hx2
          rw [List.take_take, Nat.min_self] at R
          have := hJ A c H2 R hx2
          simp only [List.take_take, Nat.min_self]
          exact cndF (by simp) this
  · rintro A c H' next R hx
    refine cndF (by simp) ?_
    have hrl := rows_len (t := t) ht (n := l.waits.length)
    refine gather (H0 := H) (fun i => rowsL l t l.waits.length ++ innL l t i) hl.inner.lt (by simp [innL]) (by simpa [innL] using R) hx ?_ ?_
    · rintro i A c H' next hi R hx hnext
      have hil := inn_len (t := t) ht (n := i)
      obtain ⟨x, hx'⟩ := get_of hi
      have e : innL l t (i + 1) = innL l t i ++ (if decide (x.1 = t) then [x.2] else []) := fm_succ (p := fun p : Int × Int => decide (p.1 = t)) (g := fun p : Int × Int => p.2) hx'
      refine cndT (by simpa using hi) (jn_intro (fun J => ∀ A' c' H2, RowI H H2 A' c' (rowsL l t l.waits.length ++ innL l t (i + 1)) → Ext H H2 → J A' (rowsL l t l.waits.length ++ innL l t (i + 1)).length c' H2) (fun A' c' H2 R2 x2 => ⟨rfl, hnext A' c' H2 R2 x2⟩) fun J hJ => ?_)
      rw [e] at hJ
      refine ⟨by simp, by simpa using hi, rd_pr (hl.inner.ext hx) hx' fun p o _ k1 k2 => ⟨x.1, by simpa using k1, x.2, by simpa using k2, by omega, by omega, cndI (fun h => ⟨by omega, by omega, ?_⟩) (fun h => ?_)⟩⟩
      · rw [if_pos (by simpa using h), ← List.append_assoc] at hJ
        exact pushr R hx (by rw [List.length_append]; unfold big; omega) fun A' c' H2 R2 x2 => hJ A' c' H2 R2 x2
      · rw [if_neg (by simpa using h), List.append_nil] at hJ
        exact hJ A c H' R hx
    · rintro A c H' next R hx
      have hil := inn_len (t := t) ht (n := l.inner.length)
      exact cndF (by simp) (settle R hx (by rw [List.length_append]; unfold big; omega) hq)
end
end Go.Proofs.Ytkbancdmhcnhjaa.Hw
