/- The pair: its form, its outcome, its doubt, whether it is settled. -/
import Derived.Test.YtkkmoeimcedkgaaPa
set_option linter.unusedVariables false
set_option linter.unusedSimpArgs false
namespace Go.Proofs.Ytkkmoeimcedkgaa.Hw
open Go Go.Proofs
variable {H : Hp} {Q : Value → Hp → Prop}

theorem all_take_succ {α : Type} {g : α → Bool} {l : List α} {i : Nat} {x : α} (hx : l[i]? = some x) : (l.take (i + 1)).all g = ((l.take i).all g && g x) := by
  rw [List.take_add_one, hx]; simp
theorem all_miss {α : Type} {g : α → Bool} {l : List α} {i : Nat} {x : α} (hx : l[i]? = some x) (hg : g x = false) : l.all g = false := by
  cases h : l.all g with
  | false => rfl
  | true => rw [List.all_eq_true.1 h x (List.mem_of_getElem? hx)] at hg; cases hg
theorem all_done {α : Type} {g : α → Bool} {l : List α} (h : (l.take l.length).all g = true) : l.all g = true := by
  rwa [List.take_length] at h
theorem any_not {α : Type} {g : α → Bool} {l : List α} : l.any (fun x => !g x) = !l.all g := by
  induction l with
  | nil => rfl
  | cons a r ih => simp [ih]

section
variable {A0 A1 : Option Addr} {n0 c0 n1 c1 : Nat} {l : List RS} {ns : List (Int × Int)}
theorem formed_two (h : formed (psOf l ns) = true) : l.length = 2 ∧ ns.length ≤ 20 := by
  unfold formed psOf at h
  simp only [Bool.and_eq_true, decide_eq_true_eq, List.length_map] at h
  exact ⟨h.1.1.1, h.1.1.2⟩
theorem formed_eq : formed (psOf l ns) = (decide (l.length = 2) && decide (ns.length ≤ 20) && l.all (fun r => phOk r.ph && r.log.all phOk) && ns.all noteOk) := by
  unfold formed psOf
  simp only [List.length_map, List.all_map]
  rfl
theorem c28 (hp : PairAt H A0 n0 A1 n1 l ns) (hq : Q (.bool (formed (psOf l ns))) H) : HCalls Try.prog 28 [.agg #[.slice A0 n0 c0, .slice A1 n1 c1]] H Q := by
  refine f28.ok _ _ _ _ _ _ ?_
  unfold f28 jn
  rw [formed_eq] at hq
  obtain rfl := hp.sides.len
  obtain rfl := hp.notes.len
  have hbig : l.length < 4611686018427387904 := by have := hp.small.1; unfold huge at this; omega
  by_cases h2 : l.length = 2
  rotate_left
  · refine cndT (by simp; omega) (cndT rfl ?_)
    rw [decide_eq_false h2] at hq; exact hq
  refine cndF (by simp; omega) (cndI (fun h => ?_) (fun h => ?_))
  · rw [decide_eq_false (p := ns.length ≤ 20) (by simp at h; omega)] at hq
    simpa using hq
  · rw [decide_eq_true h2, decide_eq_true (p := ns.length ≤ 20) (by simp at h; omega)] at hq
    simp only [Bool.true_and] at hq
    refine scan hbig (fun i H' => H' = H ∧ (l.take i).all (fun r => phOk r.ph && r.log.all phOk) = true) ⟨rfl, by simp⟩ ?_ ?_
    · rintro i _ next hi ⟨rfl, hI⟩ hnext
      obtain ⟨x, hx⟩ : ∃ x, l[i]? = some x := ⟨_, List.getElem?_eq_getElem hi⟩
      have hxl := hp.sides.logs x (List.mem_of_getElem? hx)
      refine cndT (by simpa using hi) ⟨by simp, by simpa using hi, rd_side hp.sides hx fun b o _ hc hc2 hc3 => ⟨x.ph, by simpa using hc, x.up, by simpa using hc2, x.A, x.n, x.c, by simpa using hc3, c39 ⟨_, rfl, cndI (fun h3 => ?_) (fun h3 => ?_)⟩⟩⟩
      · refine cndT rfl ?_
        rw [all_miss (g := fun r => phOk r.ph && r.log.all phOk) hx (by simp at h3; simp [h3])] at hq
        exact hq
      · simp only [Bool.not_eq_false'] at h3
        refine c40 (g := fun x => !phOk x) hxl.2.1 hxl.1 hxl.2.2 (fnOk 41 rfl) (fun y _ Q' hQ' => c41 hQ') ⟨_, rfl, cndI (fun h4 => ?_) (fun h4 => ⟨rfl, hnext _ ⟨rfl, ?_⟩⟩)⟩
        · rw [any_not] at h4
          rw [all_miss (g := fun r => phOk r.ph && r.log.all phOk) hx (by simp only [Bool.not_eq_true'] at h4; simp only [h4, Bool.and_false])] at hq
          exact hq
        · rw [any_not] at h4
          rw [all_take_succ hx, hI]
          simp only [Bool.not_eq_false'] at h4
          simp only [h3, h4, Bool.and_self]
    · rintro _ next ⟨rfl, hI⟩
      rw [all_done hI, Bool.true_and] at hq
      refine cndF (by simp) (c42 (g := fun x => !noteOk x) hp.notes hp.small.2 (fnOk 43 rfl) (fun y _ Q' hQ' => c43 hQ') ⟨_, rfl, ?_⟩)
      rw [any_not, Bool.not_not]; exact hq
theorem c21 (hp : PairAt H A0 n0 A1 n1 l ns) (hq : Q (.bool (formed (psOf l ns))) H) : HCalls Try.prog 21 [.agg #[.slice A0 n0 c0, .slice A1 n1 c1]] H Q := by
  refine f21.ok _ _ _ _ _ _ ?_
  unfold f21 jn
  rw [formed_eq] at hq
  obtain rfl := hp.sides.len
  obtain rfl := hp.notes.len
  have hbig : l.length < 4611686018427387904 := by have := hp.small.1; unfold huge at this; omega
  have hbig2 : ns.length < 4611686018427387904 := by have := hp.small.2; unfold huge at this; omega
  by_cases h2 : l.length = 2
  rotate_left
  · refine cndT (by simp; omega) (cndT rfl ?_)
    rw [decide_eq_false h2] at hq; exact hq
  refine cndF (by simp; omega) (cndI (fun h => ?_) (fun h => ?_))
  · rw [decide_eq_false (p := ns.length ≤ 20) (by simp at h; omega)] at hq
    simpa using hq
  · rw [decide_eq_true h2, decide_eq_true (p := ns.length ≤ 20) (by simp at h; omega)] at hq
    simp only [Bool.true_and] at hq
    refine scan hbig (fun i H' => H' = H ∧ (l.take i).all (fun r => phOk r.ph && r.log.all phOk) = true) ⟨rfl, by simp⟩ ?_ ?_
    · rintro i _ next hi ⟨rfl, hI⟩ hnext
      obtain ⟨x, hx⟩ : ∃ x, l[i]? = some x := ⟨_, List.getElem?_eq_getElem hi⟩
      have hxl := hp.sides.logs x (List.mem_of_getElem? hx)
      refine cndT (by simpa using hi) ⟨by simp, by simpa using hi, rd_side hp.sides hx fun b o _ hc hc2 hc3 => ⟨x.ph, by simpa using hc, x.up, by simpa using hc2, x.A, x.n, x.c, by simpa using hc3, c38 ⟨_, rfl, cndI (fun h3 => ?_) (fun h3 => ?_)⟩⟩⟩
      · rw [all_miss (g := fun r => phOk r.ph && r.log.all phOk) hx (by simp at h3; simp [h3])] at hq
        exact hq
      · simp only [Bool.not_eq_false'] at h3
        rw [hxl.1]
        refine scan (n := x.log.length) (by have := hxl.2.2; unfold huge at this; omega) (fun j H' => H' = _ ∧ (x.log.take j).all phOk = true) ⟨rfl, by simp⟩ ?_ ?_
        · rintro j _ next2 hj ⟨rfl, hJ⟩ hnext2
          obtain ⟨y, hy⟩ : ∃ y, x.log[j]? = some y := ⟨_, List.getElem?_eq_getElem hj⟩
          refine cndT (by simpa using hj) ⟨by simp, by simpa using hj, rd_ints hxl.2.1 hy fun b o _ hc => ⟨y, by simpa using hc, c38 ⟨_, rfl, cndI (fun h4 => ?_) (fun h4 => ⟨rfl, hnext2 _ ⟨rfl, ?_⟩⟩)⟩⟩⟩
          · simp only [Bool.not_eq_true'] at h4
            rw [all_miss (g := fun r => phOk r.ph && r.log.all phOk) hx (by simp only [all_miss hy h4, Bool.and_false])] at hq
            exact hq
          · simp only [Bool.not_eq_false'] at h4
            rw [all_take_succ hy, hJ, h4]; rfl
        · rintro _ next2 ⟨rfl, hJ⟩
          refine cndF (by simp) ⟨rfl, hnext _ ⟨rfl, ?_⟩⟩
          rw [all_take_succ hx, hI]
          simp only [h3, all_done hJ, Bool.and_self]
    · rintro _ next ⟨rfl, hI⟩
      rw [all_done hI, Bool.true_and] at hq
      refine cndF (by simp) ?_
      refine scan hbig2 (fun i H1 => H1 = H1 ∧ H1 = _ ∧ (ns.take i).all noteOk = true) ⟨rfl, rfl, by simp⟩ ?_ ?_
      · rintro i H next hi ⟨-, rfl, hI⟩ hnext
        obtain ⟨x, hx⟩ : ∃ x, ns[i]? = some x := ⟨_, List.getElem?_eq_getElem hi⟩
        refine cndT (by simpa using hi) ⟨by simp, by simpa using hi, rd_note hp.notes hx fun b o _ hc hc2 => ⟨x.1, by simpa using hc, x.2, by simpa using hc2, ?_⟩⟩
        have key : ∀ j : Bool, j = (!noteOk x) → cnd j (Q (.bool false) H) (KeepX [some (.v (.slice A1 ns.length c1)), some (.v (.int .i64 ((ns.length : Nat) : Int)))] [] ∧ next ((IntKind.i64.wrap ((i : Int) + 1), ()), ()) H) := by
          rintro j rfl
          refine cndI (fun h4 => ?_) (fun h4 => ⟨rfl, hnext _ ⟨rfl, rfl, ?_⟩⟩)
          · simp only [Bool.not_eq_true'] at h4
            rw [all_miss hx h4] at hq; exact hq
          · simp only [Bool.not_eq_false'] at h4
            rw [all_take_succ hx, hI, h4]; rfl
        have e : ∀ b : Bool, (noteOk x = !b) → b = (!noteOk x) := fun b hb => by rw [hb, Bool.not_not]
        unfold noteOk at e
        refine cndI (fun g => cndI (fun g2 => key _ (e _ ?_)) (fun g2 => cndI (fun g3 => key _ (e _ ?_)) (fun g3 => key _ (e _ ?_)))) (fun g => cndI (fun g3 => key _ (e _ ?_)) (fun g3 => key _ (e _ ?_)))
        all_goals
          simp only [decide_eq_true_eq, decide_eq_false_iff_not, bne_iff_ne, ne_eq, Bool.not_eq_true, bne_eq_false_iff_eq] at *
          rw [Bool.eq_iff_iff]
          simp only [Bool.and_eq_true, decide_eq_true_eq, Bool.not_eq_true', decide_eq_false_iff_not, Bool.not_true, Bool.false_eq_true, iff_false]
          omega
      · rintro _ next ⟨-, rfl, hI⟩
        rw [all_done hI] at hq
        exact cndF (by simp) hq

/-! ### how a log ends -/
def lastP (l : List Int) : Int := l.getLast?.getD 0
theorem lastP_get {l : List Int} (h : 0 < l.length) : l[l.length - 1]? = some (lastP l) := by
  unfold lastP
  rw [List.getLast?_eq_getElem?]
  rw [List.getElem?_eq_getElem (by omega)]; rfl
theorem c34 {ph : Int} {up : Bool} {A : Option Addr} {n c : Nat} {lg : List Int} (hA : cellsAt H A (ints lg)) (hl : n = lg.length) (hb : lg.length < huge) (hq : Q (.int .i64 (lastP lg)) H) : HCalls Try.prog 34 [.agg #[.int .i64 ph, .bool up, .slice A n c]] H Q := by
  refine f34.ok _ _ _ _ _ ?_
  unfold f34
  subst hl
  unfold huge at hb
  refine cndI (fun h => ?_) (fun h => ?_)
  · have h' : 0 < lg.length := by simpa using h
    rw [wrap_id (by omega) (by omega), show ((lg.length : Nat) : Int) - 1 = ((lg.length - 1 : Nat) : Int) by omega]
    exact ⟨by omega, by omega, rd_ints hA (lastP_get h') fun b o _ hc => ⟨_, by simpa using hc, hq⟩⟩
  · have : lg = [] := by
      cases lg with
      | nil => rfl
      | cons a r => simp at h
    subst this
    exact hq
theorem c35 {ph : Int} {up : Bool} {A : Option Addr} {n c : Nat} {lg : List Int} (hA : cellsAt H A (ints lg)) (hl : n = lg.length) (hb : lg.length < huge) (hq : Q (.int .i64 (lastP lg)) H) : HCalls Try.prog 35 [.agg #[.int .i64 ph, .bool up, .slice A n c]] H Q := by
  refine f35.ok _ _ _ _ _ ?_
  unfold f35
  subst hl
  unfold huge at hb
  refine cndI (fun h => ?_) (fun h => ?_)
  · have h' : 0 < lg.length := by simpa using h
    rw [wrap_id (by omega) (by omega), show ((lg.length : Nat) : Int) - 1 = ((lg.length - 1 : Nat) : Int) by omega]
    exact ⟨by omega, by omega, rd_ints hA (lastP_get h') fun b o _ hc => ⟨_, by simpa using hc, hq⟩⟩
  · have : lg = [] := by
      cases lg with
      | nil => rfl
      | cons a r => simp at h
    subst this
    exact hq
end
end Go.Proofs.Ytkkmoeimcedkgaa.Hw
