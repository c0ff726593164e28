/- The pair: whether two are the same; whether one is small; whether a side has written a phase. -/
import Derived.Test.YtkkmoeimcedkgaaPc
set_option linter.unusedVariables false
set_option linter.unusedSimpArgs false
namespace Go.Proofs.Ytkkmoeimcedkgaa.Hw
open Go Go.Proofs
variable {H : Hp} {Q : Value → Hp → Prop}
section
variable {A0 A1 B0 B1 : Option Addr} {n0 c0 n1 c1 m0 d0 m1 d1 : Nat} {la lb : List RS} {na nb : List (Int × Int)}
theorem take_all {α : Type} {l m : List α} (hl : l.length = m.length) (h : ∀ j x y, j < l.length → l[j]? = some x → m[j]? = some y → x = y) : l = m := by
  apply List.ext_getElem? 
  intro j
  by_cases hj : j < l.length
  · have hj2 : j < m.length := by omega
    rw [List.getElem?_eq_getElem hj, List.getElem?_eq_getElem hj2]
    exact congrArg some (h j _ _ hj (List.getElem?_eq_getElem hj) (List.getElem?_eq_getElem hj2))
  · rw [List.getElem?_eq_none (by omega), List.getElem?_eq_none (by omega)]
theorem c13 (hp : PairAt H A0 n0 A1 n1 la na) (hp2 : PairAt H B0 m0 B1 m1 lb nb) (hq : Q (.bool (decide (psOf la na = psOf lb nb))) H) : HCalls Try.prog 13 [.agg #[.slice A0 n0 c0, .slice A1 n1 c1], .agg #[.slice B0 m0 d0, .slice B1 m1 d1]] H Q := by
  have hno : psOf la na ≠ psOf lb nb → Q (.bool false) H := fun h => by rw [decide_eq_false h] at hq; exact hq
  have hyes : psOf la na = psOf lb nb → Q (.bool true) H := fun h => by rw [decide_eq_true h] at hq; exact hq
  clear hq
  refine f13.ok _ _ _ _ _ _ _ _ _ _ _ _ ?_
  unfold f13 jn
  obtain rfl := hp.sides.len
  obtain rfl := hp.notes.len
  obtain rfl := hp2.sides.len
  obtain rfl := hp2.notes.len
  have hbig : la.length < 4611686018427387904 := by have := hp.small.1; unfold huge at this; omega
  have hbig2 : na.length < 4611686018427387904 := by have := hp.small.2; unfold huge at this; omega
  have hsd : psOf la na = psOf lb nb → la.map RS.side = lb.map RS.side := fun h => congrArg PS.sides h
  have hnt : psOf la na = psOf lb nb → na = nb := fun h => congrArg PS.notes h
  refine cndI (fun h => cndT rfl (hno fun e => ?_)) (fun h => cndI (fun h2 => hno fun e => ?_) (fun h2 => ?_))
  · have := congrArg List.length (hsd e)
    simp only [List.length_map] at this
    simp [this] at h
  · have := congrArg List.length (hnt e)
    simp [this] at h2
  have hl0 : la.length = lb.length := by simp only [bne_eq_false_iff_eq] at h; omega
  have hl1 : na.length = nb.length := by simp only [bne_eq_false_iff_eq] at h2; omega
  refine scan hbig (fun i H' => H' = H ∧ ∀ j x y, j < i → la[j]? = some x → lb[j]? = some y → x.side = y.side) ⟨rfl, fun j x y hj => by omega⟩ ?_ ?_
  · rintro i H next hi ⟨rfl, hI⟩ hnext
    obtain ⟨x, hx⟩ : ∃ x, la[i]? = some x := ⟨_, List.getElem?_eq_getElem hi⟩
    obtain ⟨y, hy⟩ : ∃ y, lb[i]? = some y := ⟨_, List.getElem?_eq_getElem (by omega)⟩
    have hxl := hp.sides.logs x (List.mem_of_getElem? hx)
    have hyl := hp2.sides.logs y (List.mem_of_getElem? hy)
    have hdiff : x.side ≠ y.side → Q (.bool false) H := fun hne => hno fun e => hne (by
      have h3 := congrArg (fun l => l[i]?) (hsd e)
      simp only [List.getElem?_map, hx, hy, Option.map_some, Option.some.injEq] at h3
      exact h3)
    refine cndT (by simpa using hi) ⟨by simp, by simpa using hi, rd_side hp.sides hx fun b o _ k1 k2 k3 => ⟨x.ph, by simpa using k1, x.up, by simpa using k2, x.A, x.n, x.c, by simpa using k3, by simp, by simp; omega, rd_side hp2.sides hy fun b o _ k1 k2 k3 => ⟨y.ph, by simpa using k1, y.up, by simpa using k2, y.A, y.n, y.c, by simpa using k3, ?_⟩⟩⟩
    refine cndI (fun g => cndT rfl (hdiff fun e => ?_)) (fun g => cndI (fun g2 => cndT rfl (hdiff fun e => ?_)) (fun g2 => cndI (fun g3 => hdiff fun e => ?_) (fun g3 => ?_)))
    · have := congrArg Side.ph e
      simp only [RS.side] at this
      simp [this] at g
    · have := congrArg Side.up e
      simp only [RS.side] at this
      simp [this] at g2
    · have := congrArg (fun s => s.log.length) e
      simp only [RS.side] at this
      rw [hxl.1, hyl.1, this] at g3
      simp at g3
    · have hlen : x.log.length = y.log.length := by
        rw [hxl.1, hyl.1] at g3
        simp only [bne_eq_false_iff_eq] at g3; omega
      rw [hxl.1, hyl.1]
      refine scan (n := x.log.length) (by have := hxl.2.2; unfold huge at this; omega) (fun j H' => H' = _ ∧ ∀ k u v, k < j → x.log[k]? = some u → y.log[k]? = some v → u = v) ⟨rfl, fun k u v hk => by omega⟩ ?_ ?_
      · rintro j H next2 hj ⟨rfl, hJ⟩ hnext2
        obtain ⟨u, hu⟩ : ∃ u, x.log[j]? = some u := ⟨_, List.getElem?_eq_getElem hj⟩
        obtain ⟨v, hv⟩ : ∃ v, y.log[j]? = some v := ⟨_, List.getElem?_eq_getElem (by omega)⟩
        refine cndT (by simpa using hj) ⟨by simp, by simpa using hj, rd_ints hxl.2.1 hu fun b o _ hc => ⟨u, by simpa using hc, by simp, by simp; omega, rd_ints hyl.2.1 hv fun b o _ hc => ⟨v, by simpa using hc, cndI (fun h4 => hdiff fun e => ?_) (fun h4 => ⟨rfl, hnext2 _ ⟨rfl, ?_⟩⟩)⟩⟩⟩
        · have h5 := congrArg (fun s => s.log[j]?) e
          simp only [RS.side, hu, hv, Option.some.injEq] at h5
          simp [h5] at h4
        · intro k u' v' hk hu' hv'
          rcases Nat.lt_succ_iff_lt_or_eq.1 hk with hk | rfl
          · exact hJ k u' v' hk hu' hv'
          · rw [hu] at hu'; rw [hv] at hv'
            cases hu'; cases hv'
            simpa using h4
      · rintro H next2 ⟨rfl, hJ⟩
        refine cndF (by simp) ⟨rfl, hnext _ ⟨rfl, ?_⟩⟩
        intro k x' y' hk hx' hy'
        rcases Nat.lt_succ_iff_lt_or_eq.1 hk with hk | rfl
        · exact hI k x' y' hk hx' hy'
        · rw [hx] at hx'; rw [hy] at hy'
          cases hx'; cases hy'
          have e3 : x.log = y.log := take_all hlen fun j u v hj => hJ j u v hj
          have e1 : x.ph = y.ph := by simpa using g
          have e2 : x.up = y.up := by simpa using g2
          simp only [RS.side, e1, e2, e3]
  · rintro H next ⟨rfl, hI⟩
    refine cndF (by simp) ?_
    have hss : la.map RS.side = lb.map RS.side := take_all (by simpa using hl0) fun j u v hj hu hv => by
      simp only [List.getElem?_map, Option.map_eq_some_iff] at hu hv
      obtain ⟨x, hx, rfl⟩ := hu
      obtain ⟨y, hy, rfl⟩ := hv
      exact hI j x y (by simpa using hj) hx hy
    refine scan hbig2 (fun i H' => H' = _ ∧ ∀ j x y, j < i → na[j]? = some x → nb[j]? = some y → x = y) ⟨rfl, fun j x y hj => by omega⟩ ?_ ?_
    · rintro i H next hi ⟨rfl, hJ⟩ hnext
      obtain ⟨x, hx⟩ : ∃ x, na[i]? = some x := ⟨_, List.getElem?_eq_getElem hi⟩
      obtain ⟨y, hy⟩ : ∃ y, nb[i]? = some y := ⟨_, List.getElem?_eq_getElem (by omega)⟩
      refine cndT (by simpa using hi) ⟨by simp, by simpa using hi, rd_note hp.notes hx fun b o _ k1 k2 => ⟨x.1, by simpa using k1, x.2, by simpa using k2, by simp, by simp; omega, rd_note hp2.notes hy fun b o _ k1 k2 => ⟨y.1, by simpa using k1, y.2, by simpa using k2, cndI (fun g => hno fun e => ?_) (fun g => ⟨rfl, hnext _ ⟨rfl, ?_⟩⟩)⟩⟩⟩
      · have h3 := congrArg (fun l => l[i]?) (hnt e)
        simp only [hx, hy, Option.some.injEq] at h3
        simp [h3] at g
      · intro k x' y' hk hx' hy'
        rcases Nat.lt_succ_iff_lt_or_eq.1 hk with hk | rfl
        · exact hJ k x' y' hk hx' hy'
        · rw [hx] at hx'; rw [hy] at hy'
          cases hx'; cases hy'
          simp only [Bool.and_true, Bool.not_eq_false', Bool.and_eq_true, beq_iff_eq] at g
          exact Prod.ext g.1 g.2
    · rintro H next ⟨rfl, hJ⟩
      refine cndF (by simp) (hyes ?_)
      unfold psOf
      rw [hss, take_all hl1 hJ]

/-! ### small pairs -/
def partsP (l : List RS) (ns : List (Int × Int)) : Nat := l.length + ns.length + (l.map fun r => r.log.length).sum
theorem sum_take_succ {l : List Nat} {i x : Nat} (h : l[i]? = some x) : (l.take (i + 1)).sum = (l.take i).sum + x := by
  rw [List.take_add_one, h]; simp
theorem sum_take_le {l : List Nat} : ∀ {i : Nat}, (l.take i).sum ≤ l.sum := by
  intro i
  conv => rhs; rw [← List.take_append_drop i l, List.sum_append]
  exact Nat.le_add_right _ _
theorem c8 (hp : PairAt H A0 n0 A1 n1 la na) (hq : ∀ b : Bool, (b = true → partsP la na < 1000) → Q (.bool b) H) : HCalls Try.prog 8 [.agg #[.slice A0 n0 c0, .slice A1 n1 c1]] H Q := by
  refine f8.ok _ _ _ _ _ _ ?_
  unfold f8 jn
  obtain rfl := hp.sides.len
  obtain rfl := hp.notes.len
  have hs1 := hp.small.1
  have hs2 := hp.small.2
  unfold huge at hs1 hs2
  -- whether the loop's end is reached
  refine loop_to la.length (fun i s H' => H' = H ∧ i ≤ la.length ∧ s = ((((la.length + na.length + ((la.map fun r => r.log.length).take i).sum : Nat) : Int), ((i : Int), ())), ()) ∧ (la.length + na.length + ((la.map fun r => r.log.length).take i).sum < 2000000000000000)) ?_ ?_
  · refine ⟨rfl, by omega, ?_, by simp; omega⟩
    rw [wrap_id (by omega) (by omega)]
    simp
  · rintro i s H next hi ⟨rfl, _, rfl, hsm⟩ hnext
    have hS : ∃ S : Nat, la.length + na.length + ((la.map fun r => r.log.length).take i).sum = S := ⟨_, rfl⟩
    obtain ⟨S, hS⟩ := hS
    rw [hS] at hsm ⊢
    have stop : ∀ b : Bool, (b = true → (S : Int) < 1000 ∧ i = la.length) → Q (.bool b) H := fun b h => by
      refine hq b fun hb => ?_
      obtain ⟨h1, h2⟩ := h hb
      subst h2
      unfold partsP
      rw [List.take_of_length_le (by simp)] at hS
      omega
    dsimp only
    obtain ⟨t, ht⟩ : ∃ t : Bool, decide ((S : Int) < 1000) = t := ⟨_, rfl⟩
    rw [ht]
    have ht' : t = true ↔ (S : Int) < 1000 := by rw [← ht]; exact decide_eq_true_iff
    refine cndI (fun h => cndI (fun h2 => ?_) (fun h2 => stop _ (fun h3 => by rw [h3] at h2; cases h2))) (fun h => cndF rfl (stop _ (fun h3 => ⟨ht'.1 h3, by have := of_decide_eq_false h; omega⟩)))
    · have hil : i < la.length := by have := of_decide_eq_true h; omega
      obtain ⟨x, hx⟩ : ∃ x, la[i]? = some x := ⟨_, List.getElem?_eq_getElem hil⟩
      have hxl := hp.sides.logs x (List.mem_of_getElem? hx)
      have h2' := ht'.1 h2
      have hnext' := hnext (((IntKind.i64.wrap ((S : Int) + ((x.n : Nat) : Int)), (IntKind.i64.wrap ((i : Int) + 1), ())), ()) ) H hil
      rw [sum_take_succ (l := la.map fun r => r.log.length) (x := x.log.length) (by simp [hx]), ← Nat.add_assoc, hS] at hnext'
      have hb := hxl.2.2
      unfold huge at hb
      refine ⟨by simp, by simpa using hil, rd_side hp.sides hx fun b o _ k1 k2 k3 => ⟨x.A, x.n, x.c, by simpa using k3, rfl, hnext' ⟨rfl, by omega, ?_, by omega⟩⟩⟩
      rw [hxl.1, wrap_id (by omega) (by omega), wrap_id (by omega) (by omega)]
      simp
theorem c25 {r : RS} {p : Int} (hr : r.n = r.log.length ∧ cellsAt H r.A (ints r.log) ∧ r.log.length < huge) (hq : Q (.bool (r.log.any (p == ·))) H) : HCalls Try.prog 25 [.agg #[.int .i64 r.ph, .bool r.up, .slice r.A r.n r.c], .int .i64 p] H Q := by
  refine f25.ok _ _ _ _ _ _ ?_
  unfold f25
  rw [hr.1]
  refine scan (n := r.log.length) (by have := hr.2.2; unfold huge at this; omega) (fun i H' => H' = H ∧ (r.log.take i).any (p == ·) = false) ⟨rfl, by simp⟩ ?_ ?_
  · rintro i H next hi ⟨rfl, hI⟩ hnext
    obtain ⟨x, hx⟩ : ∃ x, r.log[i]? = some x := ⟨_, List.getElem?_eq_getElem hi⟩
    refine cndT (by simpa using hi) ⟨by simp, by simpa using hi, rd_ints hr.2.1 hx fun b o _ hc => ⟨x, by simpa using hc, cndI (fun h => ?_) (fun h => ⟨rfl, hnext _ ⟨rfl, ?_⟩⟩)⟩⟩
    · rw [any_hit hx (by rw [beq_iff_eq] at h ⊢; exact h.symm)] at hq; exact hq
    · rw [any_take_succ hx, hI, Bool.false_or, beq_eq_false_iff_ne]
      exact fun e => by rw [e] at h; simp at h
  · rintro H next ⟨rfl, hI⟩
    rw [any_done hI] at hq
    exact cndF (by simp) hq
end
end Go.Proofs.Ytkkmoeimcedkgaa.Hw
