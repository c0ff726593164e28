/- Locks, the other half: LockEnds, walked. -/
import Derived.Test.YtkbancdmhcnhjaaSi
set_option linter.unusedVariables false
set_option linter.unusedSimpArgs false
set_option maxRecDepth 20000
namespace Go.Proofs.Ytkbancdmhcnhjaa.Hw
open Go Go.Proofs
theorem nums_drop {l : List Act} {i : Nat} {a : Act} (h : l[i]? = some a) : numsA (l.drop i) = a.txn :: a.inner :: numsA (l.drop (i + 1)) := by
  obtain ⟨hi, rfl⟩ := List.getElem?_eq_some_iff.1 h
  rw [List.drop_eq_getElem_cons hi]
  rfl
section
variable {H0 H : Hp} {Q : Value → Hp → Prop}
theorem c5 {A : Option Addr} {n c : Nat} {l : List Act} (hA : SlAt atC H A n l) (hs : ∀ a ∈ l, a.thing.size < huge) (hq : ∀ H', Ext H H' → Q (.bool true) H') : HCalls Try.prog 5 [.slice A n c] H Q := by
  refine f5.ok _ _ _ ?_
  unfold f5
  obtain rfl := hA.len
  have hlt := hA.lt
  refine cndI (fun h => c7 fun H2 x2 => ⟨_, rfl, hq H2 x2⟩) (fun h => c11 hA hs fun B0 d0 B1 d1 B2 d2 H5 x5 hl5 => ⟨_, _, _, _, _, _, _, _, _, rfl, ?_⟩)
  refine loop_to l.length (fun i s H' => ∃ B0 d0 B1 d1 B2 d2 x, s = (((i : Int), ()), (((B0, x.held.length, d0), ((B1, x.waits.length, d1), ((B2, x.inner.length, d2), ()))), ())) ∧ Ext H H' ∧ LocksAt H' B0 x.held.length d0 B1 x.waits.length d1 B2 x.inner.length d2 x ∧ EndsK (numsA (l.drop i)) x) ⟨B0, d0, B1, d1, B2, d2, madeM l, rfl, x5, hl5, made_safe, made_of⟩ ?_
  rintro i s H10 next hi ⟨B0, d0, B1, d1, B2, d2, x, rfl, hx, hl, he⟩ hnext
  dsimp only
  by_cases h : i < l.length
  · obtain ⟨a, ha⟩ := get_of h
    have ei : IntKind.i64.wrap ((i : Int) + 1) = ((i + 1 : Nat) : Int) := by rw [wrap_id (by omega) (by omega)]; rfl
    rw [nums_drop ha] at he
    refine cndT (decide_eq_true (by omega)) ⟨by omega, by omega, rd_at (hA.ext hx) ha fun p o _ k1 k2 k3 k4 k5 => ⟨a.op, by simpa using k1, a.txn, by simpa using k2, a.inner, by simpa using k3, a.thing, by simpa using k4, a.share, by simpa using k5, fun g hg => ?_⟩⟩
    generalize hH19 : upd g (Obj.cells _ _ _) H10 = H19
    have hn : ∀ o, cl H19 g o = ([Value.int .i64 a.txn, .int .i64 a.inner])[o]? := fun o => by subst hH19; exact cl_cells upd_at o
    have x19 : Ext H10 H19 := by subst hH19; exact Ext.new hg
    refine loop_to 2 (fun k s H' => ∃ B0 d0 B1 d1 B2 d2 x, s = (((k : Int), ()), (((B0, x.held.length, d0), ((B1, x.waits.length, d1), ((B2, x.inner.length, d2), ()))), ())) ∧ Ext H19 H' ∧ LocksAt H' B0 x.held.length d0 B1 x.waits.length d1 B2 x.inner.length d2 x ∧ EndsK (([a.txn, a.inner]).drop k ++ numsA (l.drop (i + 1))) x) ⟨B0, d0, B1, d1, B2, d2, x, rfl, Ext.refl _, hl.ext x19, he⟩ ?_
    clear he hl
    rintro k s H21 next2 hk ⟨C0, e0, C1, e1, C2, e2, y, rfl, hy, hly, hey⟩ hnext2
    dsimp only
    by_cases h2 : k < 2
    · obtain ⟨m, hm⟩ := get_of (l := [a.txn, a.inner]) (i := k) h2
      have ek : IntKind.i64.wrap ((k : Int) + 1) = ((k + 1 : Nat) : Int) := by rw [wrap_id (by omega) (by omega)]; rfl
      have hdrop : ([a.txn, a.inner]).drop k ++ numsA (l.drop (i + 1)) = m :: (([a.txn, a.inner]).drop (k + 1) ++ numsA (l.drop (i + 1))) := by
        obtain ⟨hi, rfl⟩ := List.getElem?_eq_some_iff.1 hm
        rw [List.drop_eq_getElem_cons hi]
        rfl
      rw [hdrop] at hey
      have hcell : cl H21 g (0 + k * 1) = some (.int .i64 m) := cl_ext hy (by rw [hn, Nat.zero_add, Nat.mul_one, show [Value.int .i64 a.txn, .int .i64 a.inner] = [a.txn, a.inner].map (fun x => Value.int .i64 x) from rfl, List.getElem?_map, hm]; rfl)
      refine cndT (decide_eq_true (by omega)) (jn_intro (fun J => ∀ z E0 d0 E1 d1 E2 d2 H', Ext H21 H' → LocksAt H' E0 z.held.length d0 E1 z.waits.length d1 E2 z.inner.length d2 z → EndsK (([a.txn, a.inner]).drop (k + 1) ++ numsA (l.drop (i + 1))) z → J E0 z.held.length d0 E1 z.waits.length d1 E2 z.inner.length d2 H') (fun z E0 d0 E1 d1 E2 d2 H' x' hl' he' => ⟨rfl, hnext2 _ _ h2 ⟨E0, d0, E1, d1, E2, d2, z, by rw [ek], hy.trans x', hl', he'⟩⟩) fun J hJ => ⟨by omega, by omega, m, by simpa using hcell, c13 hly fun E0 d0 E1 d1 E2 d2 W w H25 x25 hl25 hw _ => ⟨_, _, _, _, _, _, _, _, _, _, _, _, _, rfl, ?_⟩⟩)
      have hlw := hw.len
      have hc := free_code (n := m) hey.1.1
      refine jn_intro (fun J => (numB m = false → J true) ∧ (numB m = true → J false)) ⟨fun hb => cndT rfl (cndF ?_ (hJ y _ _ _ _ _ _ H25 x25 (hly.ext x25) (ends_bad hey hb))), fun hb => cndF rfl ?_⟩ fun J h32 => ?_
      · rw [hc, hb]; rfl
      · obtain ⟨k1, k2⟩ := ends_ok hey hb
        have hsm := hly.waits.small
        have hlt1 : (freeLM y m).1.waits.length + (freeLM y m).2.1.length < 4611686018427387904 := by have := hly.waits.lt; omega
        refine jn_intro (fun J => J false) (cndF rfl (hJ _ _ _ _ _ _ _ H25 x25 hl25 k1)) fun J h34 => cndF ?_ ?_
        · rw [hc, hb]; rfl
        · rw [decide_eq_false]
          · exact h34
          · rw [wrap_id (by omega) (by omega)]; omega
      · unfold numB at h32
        refine cndI (fun g1 => h32.1 ?_) (fun g1 => ?_)
        · have := of_decide_eq_true g1
          rw [decide_eq_false (by omega)]; rfl
        · have g1 := of_decide_eq_false g1
          cases g2 : decide (m > 1099511627776) with
          | true => exact h32.1 (by have := of_decide_eq_true g2; rw [decide_eq_false (p := m ≤ _) (by omega), Bool.and_false])
          | false => exact h32.2 (by have := of_decide_eq_false g2; rw [decide_eq_true (by omega), decide_eq_true (by omega)]; rfl)
    · obtain rfl : k = 2 := by omega
      exact cndF rfl ⟨rfl, hnext _ _ h ⟨C0, e0, C1, e1, C2, e2, y, by rw [ei], (hx.trans x19).trans hy, hly, hey⟩⟩
  · obtain rfl : i = l.length := by omega
    rw [List.drop_length] at he
    obtain ⟨k1, k2, k3⟩ := ends_nil he
    rw [k1, k2, k3]
    refine cndF (decide_eq_false (by omega)) ?_
    unfold jn
    exact cndT rfl (c7 fun H46 x46 => ⟨_, rfl, hq H46 (hx.trans x46)⟩)
end
end Go.Proofs.Ytkbancdmhcnhjaa.Hw
