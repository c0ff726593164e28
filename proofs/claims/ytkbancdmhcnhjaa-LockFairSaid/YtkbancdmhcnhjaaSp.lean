/- Locks, the other half: LockFair, walked. -/
import Derived.Test.YtkbancdmhcnhjaaSj
set_option linter.unusedVariables false
set_option linter.unusedSimpArgs false
set_option maxRecDepth 20000
namespace Go.Proofs.Ytkbancdmhcnhjaa.Hw
open Go Go.Proofs
theorem wt_eq {u v : Wt} (h : (((u.txn : Int) == v.txn) && ((u.thing.toList == v.thing.toList) && ((u.share == v.share) && true))) = true) : u = v := by
  rw [str_eq] at h
  simp only [Bool.and_eq_true, beq_iff_eq, decide_eq_true_eq, and_true] at h
  obtain ⟨a, b, c⟩ := h
  cases u; cases v
  simp only at a b c
  subst a; subst b; subst c; rfl
/-- What 'fair' looks for is not there. -/
def FairF (was x : LK) : Prop := ∀ (i : Nat) w, was.waits[i]? = some w → w.share = false → (hasM x w.txn w.thing).1 = true → (hasM was w.txn w.thing).1 = false → ∀ v ∈ was.waits.take i, v.thing = w.thing → v.share = false → v ∈ x.waits → v.txn = w.txn
theorem fair_f {was x : LK} (h0 : SafeK was) (h : FairK was x) : FairF was x := by
  intro i w hw hs h1 h2 v hv ht hvs hvx
  exfalso
  obtain ⟨hi, rfl⟩ := List.getElem?_eq_some_iff.1 hw
  have hsub : [v, was.waits[i]].Sublist was.waits := by
    have e := List.take_append_drop i was.waits
    rw [List.drop_eq_getElem_cons hi] at e
    have : ([v] ++ [was.waits[i]]).Sublist (was.waits.take i ++ was.waits[i] :: was.waits.drop (i + 1)) := List.Sublist.append (List.singleton_sublist.2 hv) (List.Sublist.cons_cons _ (List.nil_sublist _))
    rw [e] at this
    exact this
  have hel := (wait_iff.1 (valid_iff.1 h0.1).2.2.1).1 _ (List.getElem_mem hi)
  unfold elOk at hel
  simp only [Bool.and_eq_true] at hel
  have hwas : (heldM was.held was.waits[i].txn was.waits[i].thing).isSome = false := by
    unfold hasM at h2
    rw [h0.1, hel.1, hel.2] at h2
    exact h2
  have := h.2.2 v _ hsub ht hvs hwas hvx
  unfold hasM at h1
  rw [h.1.1, hel.1, hel.2] at h1
  have h1 : (heldM x.held was.waits[i].txn was.waits[i].thing).isSome = true := h1
  rw [this] at h1
  cases h1
section
variable {H0 H : Hp} {Q : Value → Hp → Prop}
theorem c14 {A0 A1 A2 : Option Addr} {n0 c0 n1 c1 n2 c2 : Nat} {was : LK} {B0 B1 B2 : Option Addr} {m0 d0 m1 d1 m2 d2 : Nat} {x : LK} (hw : LocksAt H A0 n0 c0 A1 n1 c1 A2 n2 c2 was) (hl : LocksAt H B0 m0 d0 B1 m1 d1 B2 m2 d2 x) (hf : FairF was x)
    (hq : ∀ H', Ext H H' → Q (.bool true) H') : HCalls Try.prog 14 [.agg #[.slice A0 n0 c0, .slice A1 n1 c1, .slice A2 n2 c2], .agg #[.slice B0 m0 d0, .slice B1 m1 d1, .slice B2 m2 d2]] H Q := by
  refine f14.ok _ _ _ _ _ _ _ _ _ _ _ _ _ _ _ _ _ _ ?_
  unfold f14
  obtain rfl := hw.waits.len
  obtain rfl := hl.waits.len
  have hlt := hw.waits.lt
  refine scan hw.waits.lt (fun i H' => Ext H H') (Ext.refl _) (fun i H2 next hi hx hnext => ?_) (fun H2 next hx => ?_)
  rotate_left
  · dsimp only
    exact cndF (decide_eq_false (by omega)) (hq H2 hx)
  obtain ⟨w, hwi⟩ := get_of hi
  have hsz := hw.str.2 w (List.mem_of_getElem? hwi)
  dsimp only
  refine cndT (decide_eq_true (by omega)) (jn_intro (fun J => ∀ H', Ext H H' → J H') (fun H' hx' => ⟨rfl, hnext H' hx'⟩) fun J hJ => ⟨by omega, by omega, rd_wt (hw.waits.ext hx) hwi fun p o _ k1 k2 k3 => ⟨w.txn, by simpa using k1, w.thing, by simpa using k2, w.share, by simpa using k3, c17 (hl.ext hx) hsz (fun H9 x9 => ⟨_, _, _, rfl, c17 (hw.ext (hx.trans x9)) hsz fun H14 x14 => ⟨_, _, _, rfl, ?_⟩⟩)⟩⟩)
  have hx14 : Ext H H14 := (hx.trans x9).trans x14
  refine jn_intro (fun J => J true ∧ (w.share = false → (hasM x w.txn w.thing).1 = true → (hasM was w.txn w.thing).1 = false → J false)) ⟨cndT rfl (hJ H14 hx14), fun a b c => cndF rfl ⟨by omega, by have := hw.cap1; omega, ?_⟩⟩ fun J h => cndI (fun _ => h.1) fun a => cndI (fun _ => h.1) fun b => cndI (fun _ => h.1) fun c => ?_
  rotate_left
  · cases hh : (hasM was w.txn w.thing).1 with
    | true => exact h.1
    | false => exact h.2 a (by simpa using b) hh
  rw [show ((i : Int).toNat - 0) = i from by omega]
  have hv := SlAt.cut (k := 3) (p := 0) (m := i) (fun _ => rfl) (hw.waits.ext hx14) hw.cap1 (by omega)
  refine scan (n := i) (by omega) (fun j H' => H' = H14) rfl ?_ ?_
  rotate_left
  · rintro H21 next2 rfl
    dsimp only
    exact cndF (decide_eq_false (by omega)) (hJ _ hx14)
  rintro j H21 next2 hj rfl hnext2
  obtain ⟨v, hvj⟩ := get_of (l := (was.waits.drop 0).take i) (i := j) (by rw [List.length_take, List.length_drop]; omega)
  dsimp only
  have hvm : v ∈ was.waits.take i := by have := List.mem_of_getElem? hvj; rwa [List.drop_zero] at this
  refine cndT (decide_eq_true (by omega)) (jn_intro (fun J => J H21) ⟨rfl, hnext2 _ rfl⟩ fun J39 hJ39 => ⟨by omega, by omega, rd_wt hv hvj fun p o _ k1 k2 k3 => ⟨v.txn, by simpa using k1, v.thing, by simpa using k2, v.share, by simpa using k3, ?_⟩⟩)
  refine jn_intro (fun J => J true ∧ (v.thing = w.thing → v.share = false → J false)) ⟨cndT rfl hJ39, fun ht hs => cndF rfl ?_⟩ fun J h => cndI (fun _ => h.1) fun e => ?_
  rotate_left
  · rw [str_eq] at e
    have e : v.thing = w.thing := by simpa using e
    cases hh : v.share with
    | true => exact h.1
    | false => exact h.2 e hh
  refine scan hl.waits.lt (fun k H' => H' = H21) rfl ?_ ?_
  rotate_left
  · rintro H30 next3 rfl
    dsimp only
    exact cndF (decide_eq_false (by omega)) hJ39
  rintro k H30 next3 hk rfl hnext3
  obtain ⟨u, huk⟩ := get_of hk
  dsimp only
  refine cndT (decide_eq_true (by omega)) ⟨by omega, by omega, rd_wt (hl.waits.ext hx14) huk fun p o _ k1 k2 k3 => ⟨u.txn, by simpa using k1, u.thing, by simpa using k2, u.share, by simpa using k3, ?_⟩⟩
  refine jn_intro (fun J => J false) (cndF rfl ⟨rfl, hnext3 _ rfl⟩) fun J h => cndI (fun e => ?_) fun _ => h
  obtain rfl := wt_eq e
  rw [hf i w hwi a b c u hvm ht hs (List.mem_of_getElem? huk)]
  simpa using h
theorem c4 {A : Option Addr} {n c : Nat} {l : List Act} (hA : SlAt atC H A n l) (hs : ∀ a ∈ l, a.thing.size < huge) (hq : ∀ H', Ext H H' → Q (.bool true) H') : HCalls Try.prog 4 [.slice A n c] H Q := by
  refine f4.ok _ _ _ ?_
  unfold f4
  obtain rfl := hA.len
  refine cndI (fun h => c7 fun H2 x2 => ⟨_, rfl, hq H2 x2⟩) (fun h => c11 hA hs fun B0 d0 B1 d1 B2 d2 H5 x5 hl5 => ⟨_, _, _, _, _, _, _, _, _, rfl, ?_⟩)
  have hlt := hl5.waits.lt
  have en : IntKind.i64.wrap (((madeM l).waits.length : Int) + 1) = (((madeM l).waits.length + 1 : Nat) : Int) := by rw [wrap_id (by omega) (by omega)]; rfl
  rw [en]
  have hN : (madeM l).waits.length + 1 < 4611686018427387905 := by omega
  have hsf : SafeK (madeM l) := made_safe
  generalize (madeM l).waits.length + 1 = N at hN ⊢
  generalize madeM l = x0 at hl5 hsf hlt
  refine loop_to N (fun i s H' => ∃ B0 d0 B1 d1 B2 d2 x, s = (((i : Int), ()), (((B0, x.held.length, d0), ((B1, x.waits.length, d1), ((B2, x.inner.length, d2), ()))), ())) ∧ Ext H H' ∧ LocksAt H' B0 x.held.length d0 B1 x.waits.length d1 B2 x.inner.length d2 x ∧ SafeK x ∧ N < 4611686018427387905) ⟨_, _, _, _, _, _, x0, rfl, x5, hl5, hsf, hN⟩ ?_
  rintro i s H10 next hi ⟨B0, d0, B1, d1, B2, d2, x, rfl, hx, hl, hsx, hN⟩ hnext
  dsimp only
  by_cases h : i < N
  · have ei : IntKind.i64.wrap ((i : Int) + 1) = ((i + 1 : Nat) : Int) := by rw [wrap_id (by omega) (by omega)]; rfl
    refine cndT (decide_eq_true (by omega)) (cndI (fun _ => c7 fun H2 x2 => ⟨_, rfl, hq H2 (hx.trans x2)⟩) fun hz => ?_)
    have hz : x.waits.length ≠ 0 := by simpa using hz
    obtain ⟨w, hw⟩ := get_of (l := x.waits) (i := 0) (by omega)
    have hel := (wait_iff.1 (valid_iff.1 hsx.1).2.2.1).1 w (List.mem_of_getElem? hw)
    unfold elOk at hel
    simp only [Bool.and_eq_true] at hel
    have hfor : forM x w.txn = (rise (waitedL x w.txn), 0) := by unfold forM; rw [hsx.1, hel.2]; rfl
    refine ⟨by omega, by omega, rd_wt hl.waits hw fun p o _ k1 k2 k3 => ⟨w.txn, by simpa using k1, c12 hl ?_⟩⟩
    rw [hfor]
    intro A19 n19 c19 H18 x18 hby _
    refine ⟨_, _, _, _, rfl, cndF rfl ?_⟩
    have hby0 : SlAt inC H18 A19 n19 (rise (waitedL x w.txn)) := hby
    clear hby
    generalize rise (waitedL x w.txn) = by0 at hby0
    obtain rfl := hby0.len
    have hbl := hby0.lt
    refine loop_to by0.length (fun k s H' => ∃ C0 e0 C1 e1 C2 e2 y, s = (((k : Int), ()), (((C0, y.held.length, e0), ((C1, y.waits.length, e1), ((C2, y.inner.length, e2), ()))), ())) ∧ Ext H18 H' ∧ LocksAt H' C0 y.held.length e0 C1 y.waits.length e1 C2 y.inner.length e2 y ∧ FairK x y) ⟨_, _, _, _, _, _, x, rfl, Ext.refl _, hl.ext x18, fair_self hsx⟩ ?_
    rintro k s H22 next2 hk ⟨C0, e0, C1, e1, C2, e2, y, rfl, hy, hly, hfy⟩ hnext2
    dsimp only
    by_cases h2 : k < by0.length
    · obtain ⟨m, hm⟩ := get_of h2
      have ek : IntKind.i64.wrap ((k : Int) + 1) = ((k + 1 : Nat) : Int) := by rw [wrap_id (by omega) (by omega)]; rfl
      refine cndT (decide_eq_true (by omega)) (jn_intro (fun J => ∀ z E0 d0 E1 d1 E2 d2 H', Ext H22 H' → LocksAt H' E0 z.held.length d0 E1 z.waits.length d1 E2 z.inner.length d2 z → FairK x z → J E0 z.held.length d0 E1 z.waits.length d1 E2 z.inner.length d2 H') (fun z E0 d0 E1 d1 E2 d2 H' x' hl' hf' => ⟨rfl, hnext2 _ _ h2 ⟨E0, d0, E1, d1, E2, d2, z, by rw [ek], hy.trans x', hl', hf'⟩⟩) fun J hJ => ⟨by omega, by omega, rd_in (hby0.ext hy) hm fun p o _ k1 => ⟨m, by simpa using k1, c13 hly fun E0 d0 E1 d1 E2 d2 W w H27 x27 hl27 _ _ => ⟨_, _, _, _, _, _, _, _, _, _, _, _, _, rfl, cndI (fun hc => ?_) (fun _ => hJ y _ _ _ _ _ _ H27 x27 (hly.ext x27) hfy)⟩⟩⟩)
      exact hJ _ _ _ _ _ _ _ H27 x27 hl27 (fair_free hsx hfy (by simpa using hc))
    · obtain rfl : k = by0.length := by omega
      refine cndF (decide_eq_false (by omega)) (c14 ((hl.ext x18).ext hy) hly (fair_f hsx hfy) fun H45 x45 => ⟨_, rfl, cndF rfl ⟨rfl, hnext _ _ h ⟨C0, e0, C1, e1, C2, e2, y, by rw [ei], ((hx.trans x18).trans hy).trans x45, hly.ext x45, hfy.1, hN⟩⟩⟩)
  · obtain rfl : i = N := by omega
    exact cndF (decide_eq_false (by omega)) (c7 fun H48 x48 => ⟨_, rfl, hq H48 (hx.trans x48)⟩)
end
end Go.Proofs.Ytkbancdmhcnhjaa.Hw
