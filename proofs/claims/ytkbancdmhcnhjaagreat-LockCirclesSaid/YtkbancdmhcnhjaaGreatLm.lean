/- Locks: the reference's all, Waited. -/
import Derived.Test.YtkbancdmhcnhjaaGreatLl
set_option linter.unusedVariables false
set_option linter.unusedSimpArgs false
namespace Go.Proofs.YtkbancdmhcnhjaaGreat.Hw
open Go Go.Proofs
theorem rise_len {l : List Int} : (rise l).length ≤ l.length := by
  have key : ∀ (l acc : List Int), Strict acc → (l.foldl addM acc).length ≤ acc.length + l.length := by
    intro l
    induction l with
    | nil => intro acc h; simp
    | cons a r ih =>
      intro acc h
      have h1 := ih (addM acc a) (strict_add h)
      have h2 := add_len (n := a) h
      rw [List.foldl_cons, List.length_cons]; omega
  have := key l [] List.Pairwise.nil
  unfold rise; simpa using this
theorem rise_nil : rise [] = [] := rfl
/-- Locks of no great size. -/
def Tame (l : LK) : Prop := l.held.length ≤ 10000 ∧ l.waits.length ≤ 10000 ∧ l.inner.length ≤ 10000 ∧ StrOk l
/-- No transaction has two Waits. -/
def Once (l : List Wt) : Prop := ∀ (i j : Nat) v w, i < j → l[i]? = some v → l[j]? = some w → v.txn ≠ w.txn
def allL (l : LK) : List Int := l.waits.map (·.txn) ++ l.inner.map (·.1)
def waitRow (l : LK) (t : Int) (i : Nat) : List Int := match l.waits[i]? with
  | none => []
  | some w => if w.txn = t then (l.held.filter fun h => clashM h w.txn w.thing w.share).map (·.txn) ++ (if (heldM l.held t w.thing).isSome then [] else ((l.waits.take i).filter fun v => clashM (lockOf v) w.txn w.thing w.share).map (·.txn)) else []
def rowsL (l : LK) (t : Int) (n : Nat) : List Int := (List.range n).flatMap (waitRow l t)
def innL (l : LK) (t : Int) (n : Nat) : List Int := ((l.inner.take n).filter fun p => decide (p.1 = t)).map (·.2)
def waitedL (l : LK) (t : Int) : List Int := rowsL l t l.waits.length ++ innL l t l.inner.length
theorem row_len {l : LK} {t : Int} {i : Nat} : (waitRow l t i).length ≤ l.held.length + l.waits.length := by
  unfold waitRow
  split
  · simp
  · rename_i w hw
    split
    · have h1 := List.length_filter_le (fun h => clashM h w.txn w.thing w.share) l.held
      have h2 := List.length_filter_le (fun v => clashM (lockOf v) w.txn w.thing w.share) (l.waits.take i)
      rw [List.length_take] at h2
      split
      · simp only [List.append_nil, List.length_map]; omega
      · simp only [List.length_append, List.length_map]; omega
    · simp
theorem rowsL_succ {l : LK} {t : Int} {n : Nat} : rowsL l t (n + 1) = rowsL l t n ++ waitRow l t n := by
  unfold rowsL; rw [List.range_succ, List.flatMap_append]; simp
theorem rows_len {l : LK} {t : Int} (hl : Tame l) : ∀ {n : Nat}, (rowsL l t n).length ≤ n * 20000
  | 0 => by simp [rowsL]
  | n + 1 => by
    rw [rowsL_succ, List.length_append]
    have := rows_len (t := t) hl (n := n)
    have := row_len (l := l) (t := t) (i := n)
    have h := hl.1
    have h' := hl.2.1
    omega
theorem inn_len {l : LK} {t : Int} (hl : Tame l) {n : Nat} : (innL l t n).length ≤ 10000 := by
  unfold innL
  rw [List.length_map]
  refine Nat.le_trans (List.length_filter_le _ _) ?_
  have := hl.2.2.1
  rw [List.length_take]; omega
theorem fm_succ {α β : Type} {p : α → Bool} {g : α → β} {l : List α} {j : Nat} {x : α} (h : l[j]? = some x) : ((l.take (j + 1)).filter p).map g = ((l.take j).filter p).map g ++ (if p x then [g x] else []) := by
  rw [List.take_add_one, h, List.filter_append, List.map_append]
  congr 1
  cases hp : p x <;> simp [hp]
section
variable {H0 H : Hp} {Q : Value → Hp → Prop}
theorem gather {N : Nat} {A : Option Addr} {n c : Nat} {body : (((Option Addr × Nat × Nat) × (Int × Unit)) × Unit) → Hp → ((((Option Addr × Nat × Nat) × (Int × Unit)) × Unit) → Hp → Prop) → Prop} (f : Nat → List Int)
    (hN : N < 4611686018427387904) (hn : n = (f 0).length) (R : RowI H0 H A c (f 0)) (hx : Ext H0 H)
    (hs : ∀ (i : Nat) A c H' next, i < N → RowI H0 H' A c (f i) → Ext H0 H' → (∀ A' c' H2, RowI H0 H2 A' c' (f (i + 1)) → Ext H0 H2 → next (((A', (f (i + 1)).length, c'), (IntKind.i64.wrap ((i : Int) + 1), ())), ()) H2) → body (((A, (f i).length, c), ((i : Int), ())), ()) H' next)
    (he : ∀ A c H' next, RowI H0 H' A c (f N) → Ext H0 H' → body (((A, (f N).length, c), ((N : Int), ())), ()) H' next) : LoopF (((A, n, c), ((0 : Int), ())), ()) H body := by
  refine loop_to N (fun i s H' => ∃ A c, s = (((A, (f i).length, c), ((i : Int), ())), ()) ∧ RowI H0 H' A c (f i) ∧ Ext H0 H') ⟨A, c, by rw [hn]; rfl, R, hx⟩ ?_
  rintro i s H' next hi ⟨A, c, rfl, R, hx⟩ hnext
  by_cases h : i < N
  · refine hs i A c H' next h R hx fun A' c' H2 R2 x2 => hnext _ _ h ⟨A', c', ?_, R2, x2⟩
    rw [wrap_id (by omega) (by omega)]; rfl
  · obtain rfl : i = N := by omega
    exact he A c H' next R hx
theorem RowI.nil {H0 H : Hp} : RowI H0 H none 0 [] := Row.nil
theorem c86r {A : Option Addr} {c : Nat} {P : List Int} {x : Int} (R : RowI H0 H A c (rise P)) (hx : Ext H0 H) (hs : P.length < big)
    (hq : ∀ A' c' H', RowI H0 H' A' c' (rise (P ++ [x])) → Ext H0 H' → Q (.slice A' (rise (P ++ [x])).length c') H') : HCalls Tryz.prog 86 [.slice A (rise P).length c, .int .i64 x] H Q := by
  refine c86 R hx (Nat.lt_of_le_of_lt rise_len hs) strict_rise fun A' c' H' R' x' _ _ => ?_
  rw [rise_snoc] at hq
  exact hq A' c' H' R' x'
theorem c60 {A0 A1 A2 : Option Addr} {n0 c0 n1 c1 n2 c2 : Nat} {l : LK} (hl : LocksAt H A0 n0 c0 A1 n1 c1 A2 n2 c2 l) (ht : Tame l)
    (hq : ∀ A c H', RowI H H' A c (rise (allL l)) → Ext H H' → Q (.slice A (rise (allL l)).length c) H') : HCalls Tryz.prog 60 [.agg #[.slice A0 n0 c0, .slice A1 n1 c1, .slice A2 n2 c2]] H Q := by
  refine f60.ok _ _ _ _ _ _ _ _ _ ?_
  unfold f60
  obtain rfl := hl.waits.len
  obtain rfl := hl.inner.len
  have t1 := ht.2.1
  have t2 := ht.2.2.1
  refine gather (H0 := H) (fun i => rise ((l.waits.take i).map (·.txn))) hl.waits.lt rfl RowI.nil (Ext.refl _) ?_ ?_
  · rintro i A c H' next hi R hx hnext
    obtain ⟨x, hx'⟩ := get_of hi
    have e : (l.waits.take (i + 1)).map (·.txn) = (l.waits.take i).map (·.txn) ++ [x.txn] := by rw [List.take_add_one, hx']; simp
    refine cndT (by simpa using hi) ⟨by simp, by simpa using hi, rd_wt (hl.waits.ext hx) hx' fun p o _ k1 k2 k3 => ⟨x.txn, by simpa using k1, x.thing, by simpa using k2, x.share, by simpa using k3, ?_⟩⟩
    refine c86r R hx (by rw [List.length_map, List.length_take]; unfold big; omega) fun A' c' H2 R2 x2 => ⟨_, _, _, rfl, rfl, ?_⟩
    have := hnext A' c' H2
    simp only [e] at this
    exact this R2 x2
  · rintro A c H' next R hx
    refine cndF (by simp) ?_
    refine gather (H0 := H) (fun i => rise (l.waits.map (·.txn) ++ (l.inner.take i).map (·.1))) hl.inner.lt (by simp) (by simpa using R) hx ?_ ?_
    · rintro i A c H' next hi R hx hnext
      obtain ⟨x, hx'⟩ := get_of hi
      have e : l.waits.map (·.txn) ++ (l.inner.take (i + 1)).map (·.1) = (l.waits.map (·.txn) ++ (l.inner.take i).map (·.1)) ++ [x.1] := by rw [List.take_add_one, hx']; simp
      refine cndT (by simpa using hi) ⟨by simp, by simpa using hi, rd_pr (hl.inner.ext hx) hx' fun p o _ k1 k2 => ⟨x.1, by simpa using k1, x.2, by simpa using k2, by omega, by omega, ?_⟩⟩
      refine c86r R hx (by rw [List.length_append, List.length_map, List.length_map, List.length_take]; unfold big; omega) fun A' c' H2 R2 x2 => ⟨_, _, _, rfl, rfl, ?_⟩
      have := hnext A' c' H2
      simp only [e] at this
      exact this R2 x2
    · rintro A c H' next R hx
      refine cndF (by simp) ?_
      simp only [List.take_length] at R ⊢
      exact hq _ _ _ R hx
theorem c55 {A0 A1 A2 : Option Addr} {n0 c0 n1 c1 n2 c2 : Nat} {l : LK} {t : Int} (hl : LocksAt H A0 n0 c0 A1 n1 c1 A2 n2 c2 l) (ht : Tame l) (ho : Once l.waits)
    (hq : ∀ A c H', RowI H H' A c (rise (waitedL l t)) → Ext H H' → Q (.slice A (rise (waitedL l t)).length c) H') : HCalls Tryz.prog 55 [.agg #[.slice A0 n0 c0, .slice A1 n1 c1, .slice A2 n2 c2], .int .i64 t] H Q := by
  refine f55.ok _ _ _ _ _ _ _ _ _ _ ?_
  unfold f55
  obtain rfl := hl.held.len
  obtain rfl := hl.waits.len
  obtain rfl := hl.inner.len
  have t0 := ht.1
  have t1 := ht.2.1
  have t2 := ht.2.2.1
  have hc1 := hl.cap1
  refine gather (H0 := H) (fun i => rise (rowsL l t i)) hl.waits.lt rfl RowI.nil (Ext.refl _) ?_ ?_
  · rintro i A c H' next hi R hx hnext
    have hrl := rows_len (t := t) ht (n := i)
    obtain ⟨x, hx'⟩ := get_of hi
    refine cndT (by simpa using hi) (jn_intro (fun J => ∀ A' c' H2, RowI H H2 A' c' (rise (rowsL l t (i + 1))) → Ext H H2 → J A' (rise (rowsL l t (i + 1))).length c' H2) (fun A' c' H2 R2 x2 => ⟨rfl, hnext A' c' H2 R2 x2⟩) fun J hJ => ?_)
    refine ⟨by simp, by simpa using hi, rd_wt (hl.waits.ext hx) hx' fun p o _ k1 k2 k3 => ⟨x.txn, by simpa using k1, x.thing, by simpa using k2, x.share, by simpa using k3, cndI (fun hne => ?_) (fun heq => ?_)⟩⟩
    · have e : waitRow l t i = [] := by unfold waitRow; simp only [hx']; rw [if_neg (by simpa using hne)]
      have := hJ A c H'
      rw [rowsL_succ, e, List.append_nil] at this
      exact this R hx
    · have heq : x.txn = t := by simpa using heq
      subst heq
      refine gather (H0 := H) (fun j => rise (rowsL l x.txn i ++ ((l.held.take j).filter fun h => clashM h x.txn x.thing x.share).map (·.txn))) hl.held.lt (by simp) (by simpa using R) hx ?_ ?_
      · rintro j A c H' next hj R hx hnext
        obtain ⟨y, hy⟩ := get_of hj
        have e := fm_succ (p := fun h => clashM h x.txn x.thing x.share) (g := (·.txn)) hy
        refine cndT (by simpa using hj) (jn_intro (fun J => ∀ A' c' H2, RowI H H2 A' c' (rise (rowsL l x.txn i ++ ((l.held.take (j + 1)).filter fun h => clashM h x.txn x.thing x.share).map (·.txn))) → Ext H H2 → J A' (rise (rowsL l x.txn i ++ ((l.held.take (j + 1)).filter fun h => clashM h x.txn x.thing x.share).map (·.txn))).length c' H2) (fun A' c' H2 R2 x2 => ⟨rfl, hnext A' c' H2 R2 x2⟩) fun J hJ => ?_)
        rw [e] at hJ
        refine ⟨by simp, by simpa using hj, rd_lk (hl.held.ext hx) hy fun p o _ k1 k2 k3 => ⟨y.thing, by simpa using k1, y.txn, by simpa using k2, y.share, by simpa using k3, c79 ⟨_, rfl, cndI (fun hcl => ?_) (fun hcl => ?_)⟩⟩⟩
        · rw [if_pos hcl, ← List.append_assoc] at hJ
          refine c86r R hx ?_ fun A' c' H2 R2 x2 => ⟨_, _, _, rfl, hJ A' c' H2 R2 x2⟩
          have := List.length_filter_le (fun h => clashM h x.txn x.thing x.share) (l.held.take j)
          rw [List.length_take] at this
          rw [List.length_append, List.length_map]; unfold big; omega
        · rw [if_neg (by rw [hcl]; simp), List.append_nil] at hJ
          exact hJ A c H' R hx
      · rintro A c H' next R hx
        simp only [List.take_length] at R ⊢
        have er : waitRow l x.txn i = (l.held.filter fun h => clashM h x.txn x.thing x.share).map (·.txn) ++ (if (heldM l.held x.txn x.thing).isSome then [] else ((l.waits.take i).filter fun v => clashM (lockOf v) x.txn x.thing x.share).map (·.txn)) := by unfold waitRow; simp only [hx']; exact if_pos trivial
        have hfl := List.length_filter_le (fun h => clashM h x.txn x.thing x.share) l.held
        rw [rowsL_succ, er, ← List.append_assoc] at hJ
        refine cndF (by simp) (c40 (hl.ext hx) ⟨_, _, _, _, rfl, cndI (fun hh => ?_) (fun hh => ?_)⟩)
        · rw [if_pos hh, List.append_nil] at hJ
          exact hJ A c H' R hx
        · rw [if_neg (by rw [hh]; simp)] at hJ
          refine ⟨by omega, by omega, ?_⟩
          simp only [Int.toNat_natCast, Nat.sub_zero]
          have hw := SlAt.cut (k := 3) (fun _ => rfl) (hl.ext hx).waits hc1 (p := 0) (m := i) (by omega)
          rw [List.drop_zero] at hw
          refine gather (H0 := H) (N := i) (fun j => rise (rowsL l x.txn i ++ (l.held.filter fun h => clashM h x.txn x.thing x.share).map (·.txn) ++ (((l.waits.take i).take j).filter fun v => clashM (lockOf v) x.txn x.thing x.share).map (·.txn))) (by omega) (by simp) (by simpa using R) hx ?_ ?_
          · rintro j A c H2 next hj R hx2 hnext
            have hjl : j < (l.waits.take i).length := by rw [List.length_take]; omega
            obtain ⟨y, hy⟩ := get_of hjl
            have e := fm_succ (p := fun v => clashM (lockOf v) x.txn x.thing x.share) (g := (·.txn)) hy
            have hne : y.txn ≠ x.txn := by
              rw [List.getElem?_take_of_lt hj] at hy
              exact ho j i y x hj hy hx'
            have hw2 := SlAt.cut (k := 3) (fun _ => rfl) (hl.ext hx2).waits hc1 (p := 0) (m := i) (by omega)
            rw [List.drop_zero] at hw2
            refine cndT (by simpa using hj) (jn_intro (fun J => ∀ A' c' H2, RowI H H2 A' c' (rise (rowsL l x.txn i ++ (l.held.filter fun h => clashM h x.txn x.thing x.share).map (·.txn) ++ (((l.waits.take i).take (j + 1)).filter fun v => clashM (lockOf v) x.txn x.thing x.share).map (·.txn))) → Ext H H2 → J A' (rise (rowsL l x.txn i ++ (l.held.filter fun h => clashM h x.txn x.thing x.share).map (·.txn) ++ (((l.waits.take i).take (j + 1)).filter fun v => clashM (lockOf v) x.txn x.thing x.share).map (·.txn))).length c' H2) (fun A' c' H2 R2 x2 => ⟨rfl, hnext A' c' H2 R2 x2⟩) fun J' hJ' => ?_)
            rw [e] at hJ'
            have yes : clashM (lockOf y) x.txn x.thing x.share = true → HCalls Tryz.prog 86 [.slice A (rise (rowsL l x.txn i ++ (l.held.filter fun h => clashM h x.txn x.thing x.share).map (·.txn) ++ (((l.waits.take i).take j).filter fun v => clashM (lockOf v) x.txn x.thing x.share).map (·.txn))).length c, .int .i64 y.txn] H2 fun v41 H42 => ∃ (A43 : Option Addr) (n43 c43 : Nat), v41 = .slice A43 n43 c43 ∧ J' A43 n43 c43 H42 := fun hcl => by
              rw [if_pos hcl, ← List.append_assoc] at hJ'
              refine c86r R hx2 ?_ fun A' c' H3 R3 x3 => ⟨_, _, _, rfl, hJ' A' c' H3 R3 x3⟩
              have := List.length_filter_le (fun v => clashM (lockOf v) x.txn x.thing x.share) ((l.waits.take i).take j)
              rw [List.length_take, List.length_take] at this
              rw [List.length_append, List.length_append, List.length_map, List.length_map]; unfold big; omega
            have no : clashM (lockOf y) x.txn x.thing x.share = false → J' A (rise (rowsL l x.txn i ++ (l.held.filter fun h => clashM h x.txn x.thing x.share).map (·.txn) ++ (((l.waits.take i).take j).filter fun v => clashM (lockOf v) x.txn x.thing x.share).map (·.txn))).length c H2 := fun hcl => by
              rw [if_neg (by rw [hcl]; simp), List.append_nil] at hJ'
              exact hJ' A c H2 R hx2
            unfold clashM lockOf at yes no
            refine ⟨by simp, by simpa using hj, rd_wt hw2 hy fun p o _ k1 k2 k3 => ⟨y.txn, by simpa using k1, y.thing, by simpa using k2, y.share, by simpa using k3, ?_⟩⟩
            unfold jn
            rw [str_eq]
            refine cndI (fun g1 => cndI (fun g2 => cndI (fun g3 => yes ?_) (fun g3 => no ?_)) (fun g2 => cndT rfl (yes ?_))) (fun g1 => cndF rfl (no ?_))
            all_goals simp_all
          · rintro A c H2 next R hx2
            rw [List.take_take, Nat.min_self] at R
            have := hJ A c H2 R hx2
            simp only [List.take_take, Nat.min_self]
            exact cndF (by simp) this
  · rintro A c H' next R hx
    refine cndF (by simp) ?_
    have hrl := rows_len (t := t) ht (n := l.waits.length)
    refine gather (H0 := H) (fun i => rise (rowsL l t l.waits.length ++ innL l t i)) hl.inner.lt (by simp [innL]) (by simpa [innL] using R) hx ?_ ?_
    · rintro i A c H' next hi R hx hnext
      have hil := inn_len (t := t) ht (n := i)
      obtain ⟨x, hx'⟩ := get_of hi
      have e : innL l t (i + 1) = innL l t i ++ (if decide (x.1 = t) then [x.2] else []) := fm_succ (p := fun p : Int × Int => decide (p.1 = t)) (g := fun p : Int × Int => p.2) hx'
      refine cndT (by simpa using hi) (jn_intro (fun J => ∀ A' c' H2, RowI H H2 A' c' (rise (rowsL l t l.waits.length ++ innL l t (i + 1))) → Ext H H2 → J A' (rise (rowsL l t l.waits.length ++ innL l t (i + 1))).length c' H2) (fun A' c' H2 R2 x2 => ⟨rfl, hnext A' c' H2 R2 x2⟩) fun J hJ => ?_)
      rw [e] at hJ
      refine ⟨by simp, by simpa using hi, rd_pr (hl.inner.ext hx) hx' fun p o _ k1 k2 => ⟨x.1, by simpa using k1, x.2, by simpa using k2, by omega, by omega, cndI (fun h => ⟨by omega, by omega, ?_⟩) (fun h => ?_)⟩⟩
      · rw [if_pos (by simpa using h), ← List.append_assoc] at hJ
        exact c86r R hx (by rw [List.length_append]; unfold big; omega) fun A' c' H2 R2 x2 => ⟨_, _, _, rfl, hJ A' c' H2 R2 x2⟩
      · rw [if_neg (by simpa using h), List.append_nil] at hJ
        exact hJ A c H' R hx
    · rintro A c H' next R hx
      exact cndF (by simp) (hq _ _ _ R hx)
end
end Go.Proofs.YtkbancdmhcnhjaaGreat.Hw
