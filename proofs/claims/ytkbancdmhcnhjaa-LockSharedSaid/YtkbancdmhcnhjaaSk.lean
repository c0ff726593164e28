/- Locks, the other half: LockShared, walked. -/
import Derived.Test.YtkbancdmhcnhjaaSg
set_option linter.unusedVariables false
set_option linter.unusedSimpArgs false
set_option maxRecDepth 20000
namespace Go.Proofs.Ytkbancdmhcnhjaa.Hw
open Go Go.Proofs
theorem ask_step {thing : ByteArray} {l : List Int} {i : Nat} {t : Int} (ht : l[i]? = some t) (h : l.length < 5000) : askM (shK thing (goodP thing (l.take i))) t thing true = if numB t && thingB thing then (shK thing (goodP thing (l.take (i + 1))), true, 0) else (nilK, false, 2) := by
  rw [ask_shK (Nat.lt_of_le_of_lt (by rw [List.length_take]; omega) h), List.take_add_one, ht]
  rfl
theorem ask_stay {thing : ByteArray} {l : List Int} {i : Nat} {t : Int} (ht : l[i]? = some t) (h : (numB t && thingB thing) = false) : goodP thing (l.take (i + 1)) = goodP thing (l.take i) := by
  rw [List.take_add_one, ht]
  exact good_bad h
section
variable {H0 H : Hp} {Q : Value → Hp → Prop}
theorem c6 {A : Option Addr} {n c : Nat} {l : List Int} {thing : ByteArray} (hA : SlAt inC H A n l) (hb : thing.size < huge) (hq : ∀ H', Ext H H' → Q (.bool true) H') : HCalls Try.prog 6 [.string thing, .slice A n c] H Q := by
  refine f6.ok _ _ _ _ ?_
  unfold f6
  obtain rfl := hA.len
  have hlt := hA.lt
  refine jn_intro (fun J => J true ∧ (l.length ≤ 60 → J false)) ⟨cndT rfl (c7 fun H4 x4 => ⟨_, rfl, hq H4 x4⟩), fun hl => cndF rfl ?_⟩ fun J hJ => cndI (fun _ => hJ.1) (fun h => ?_)
  rotate_left
  · have h := of_decide_eq_false h
    cases decide ((((thing.size : Nat) : Int) : Int) > 300) with
    | true => exact hJ.1
    | false => exact hJ.2 (by omega)
  refine loop_to l.length (fun i s H' => ∃ B0 d0 B1 d1 B2 d2 C0 e0 C1 e1 C2 e2, s = (((i : Int), ()), (((B0, (shK thing (goodP thing (l.take i))).held.length, d0), ((B1, 0, d1), ((B2, 0, d2), ()))), (((C0, (shK thing (goodP thing (l.reverse.take i))).held.length, e0), ((C1, 0, e1), ((C2, 0, e2), ()))), ()))) ∧ Ext H H' ∧ LocksAt H' B0 (shK thing (goodP thing (l.take i))).held.length d0 B1 0 d1 B2 0 d2 (shK thing (goodP thing (l.take i))) ∧ LocksAt H' C0 (shK thing (goodP thing (l.reverse.take i))).held.length e0 C1 0 e1 C2 0 e2 (shK thing (goodP thing (l.reverse.take i)))) ⟨none, 0, none, 0, none, 0, none, 0, none, 0, none, 0, rfl, Ext.refl _, LocksAt.nil H, LocksAt.nil H⟩ ?_
  rintro i s H7 next hi ⟨B0, d0, B1, d1, B2, d2, C0, e0', C1, e1', C2, e2', rfl, hx, hlx, hly⟩ hnext
  dsimp only
  by_cases h : i < l.length
  · obtain ⟨t, ht⟩ := get_of h
    obtain ⟨u, hu⟩ := get_of (l := l.reverse) (i := i) (by simpa using h)
    have hu' : l[l.length - 1 - i]? = some u := by rw [List.getElem?_reverse h] at hu; exact hu
    have ei : IntKind.i64.wrap ((i : Int) + 1) = ((i + 1 : Nat) : Int) := by rw [wrap_id (by omega) (by omega)]; rfl
    have ej : IntKind.i64.wrap (IntKind.i64.wrap ((l.length : Int) - 1) - (i : Int)) = ((l.length - 1 - i : Nat) : Int) := by
      rw [wrap_id (x := (l.length : Int) - 1) (by omega) (by omega), wrap_id (by omega) (by omega)]; omega
    have a1 := ask_step (thing := thing) ht (by omega)
    have a2 := ask_step (thing := thing) hu (by rw [List.length_reverse]; omega)
    rw [ej]
    refine cndT (decide_eq_true (by omega)) (jn_intro (fun J => ∀ (r : LK × Bool × Int) E0 e0 E1 e1 E2 e2 H', r = askM (shK thing (goodP thing (l.take i))) t thing true → Ext H7 H' → LocksAt H' E0 r.1.held.length e0 E1 r.1.waits.length e1 E2 r.1.inner.length e2 r.1 → J r.2.1 r.2.2 E0 r.1.held.length e0 E1 r.1.waits.length e1 E2 r.1.inner.length e2 H') (fun r E0 e0 E1 e1 E2 e2 H8 hr x8 hl8 => ?_) fun J hJ => ⟨by omega, by omega, rd_in (hA.ext hx) ht fun p o _ k1 => ⟨t, by simpa using k1, c15 hlx hb fun E0 e0 E1 e1 E2 e2 H' hx' hl' => ⟨_, _, _, _, _, _, _, _, _, _, _, rfl, hJ _ _ _ _ _ _ _ H' rfl hx' hl'⟩, c15 hlx hb fun E0 e0 E1 e1 E2 e2 H' hx' hl' => ⟨_, _, _, _, _, _, _, _, _, _, _, rfl, hJ _ _ _ _ _ _ _ H' rfl hx' hl'⟩⟩⟩)
    refine jn_intro (fun J => ∀ (s : LK × Bool × Int) F0 f0 F1 f1 F2 f2 H', s = askM (shK thing (goodP thing (l.reverse.take i))) u thing true → Ext H8 H' → LocksAt H' F0 s.1.held.length f0 F1 s.1.waits.length f1 F2 s.1.inner.length f2 s.1 → J s.2.1 s.2.2 F0 s.1.held.length f0 F1 s.1.waits.length f1 F2 s.1.inner.length f2 H') (fun s F0 f0 F1 f1 F2 f2 H9 hs x9 hl9 => ?_) fun J hJ => ⟨by omega, by omega, rd_in ((hA.ext hx).ext x8) hu' fun p o _ k1 => ⟨u, by simpa using k1, c15 (hly.ext x8) hb fun E0 e0 E1 e1 E2 e2 H' hx' hl' => ⟨_, _, _, _, _, _, _, _, _, _, _, rfl, hJ _ _ _ _ _ _ _ H' rfl hx' hl'⟩, c15 (hly.ext x8) hb fun E0 e0 E1 e1 E2 e2 H' hx' hl' => ⟨_, _, _, _, _, _, _, _, _, _, _, rfl, hJ _ _ _ _ _ _ _ H' rfl hx' hl'⟩⟩⟩
    rw [a1] at hr
    rw [a2] at hs
    have hx9 : Ext H H9 := (hx.trans x8).trans x9
    cases g1 : (numB t && thingB thing) with
    | true =>
      rw [g1, if_pos rfl] at hr
      subst hr
      cases g2 : (numB u && thingB thing) with
      | true =>
        rw [g2, if_pos rfl] at hs
        subst hs
        unfold jn
        exact cndT rfl (cndT rfl (cndT rfl (cndF rfl (cndT rfl (cndF rfl (cndF rfl (cndF rfl (cndF rfl ⟨rfl, hnext _ _ h ⟨E0, e0, E1, e1, E2, e2, F0, f0, F1, f1, F2, f2, by rw [ei]; rfl, hx9, hl8.ext x9, hl9⟩⟩))))))))
      | false =>
        rw [g2, if_neg (by decide)] at hs
        subst hs
        have e2 := ask_stay hu g2
        unfold jn
        exact cndT rfl (cndF rfl (cndT rfl (cndF rfl (cndF rfl (cndF rfl (cndT rfl (cndF rfl ⟨rfl, hnext _ _ h ⟨E0, e0, E1, e1, E2, _, C0, e0', C1, e1', C2, e2', by rw [ei, e2]; rfl, hx9, hl8.ext x9, by rw [e2]; exact (hly.ext x8).ext x9⟩⟩)))))))
    | false =>
      rw [g1, if_neg (by decide)] at hr
      subst hr
      have e1 := ask_stay ht g1
      cases g2 : (numB u && thingB thing) with
      | true =>
        rw [g2, if_pos rfl] at hs
        subst hs
        unfold jn
        exact cndF rfl (cndT rfl (cndF rfl (cndT rfl (cndF rfl (cndT rfl (cndF rfl (cndF rfl (cndF rfl ⟨rfl, hnext _ _ h ⟨B0, d0, B1, d1, B2, d2, F0, f0, F1, f1, F2, f2, by rw [ei, e1]; rfl, hx9, by rw [e1]; exact (hlx.ext x8).ext x9, hl9⟩⟩))))))))
      | false =>
        rw [g2, if_neg (by decide)] at hs
        subst hs
        have e2 := ask_stay hu g2
        unfold jn
        exact cndF rfl (cndF rfl (cndF rfl (cndF rfl (cndT rfl (cndF rfl (cndT rfl (cndF rfl ⟨rfl, hnext _ _ h ⟨B0, d0, B1, d1, B2, d2, C0, e0', C1, e1', C2, e2', by rw [ei, e1, e2], hx9, by rw [e1]; exact (hlx.ext x8).ext x9, by rw [e2]; exact (hly.ext x8).ext x9⟩⟩)))))))
  · obtain rfl : i = l.length := by omega
    have e1' : l.reverse.take l.length = l.reverse := List.take_of_length_le (by simp)
    rw [List.take_length] at hlx ⊢
    rw [e1', shK_rev] at hly ⊢
    refine cndF (decide_eq_false (by omega)) ?_
    unfold jn
    exact c16 hlx hly fun b hb => ⟨_, rfl, cndT (hb.2 rfl) (c7 fun H93 x93 => ⟨_, rfl, hq H93 (hx.trans x93)⟩)⟩
end
end Go.Proofs.Ytkbancdmhcnhjaa.Hw
