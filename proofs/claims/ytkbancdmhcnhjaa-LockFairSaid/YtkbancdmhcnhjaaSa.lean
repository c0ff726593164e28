/- Locks, the other half: acts; do, made; the walk of LockSafe over a property that acts keep. -/
import Derived.Test.YtkbancdmhcnhjaaMb
set_option linter.unusedVariables false
set_option linter.unusedSimpArgs false
set_option maxRecDepth 20000
namespace Go.Proofs.Ytkbancdmhcnhjaa.Hw
open Go Go.Proofs
structure Act where
  op : Int
  txn : Int
  inner : Int
  thing : ByteArray
  share : Bool
def atC (a : Act) : List Value := [.int .i64 a.op, .int .i64 a.txn, .int .i64 a.inner, .string a.thing, .bool a.share]
def kindA (a : Act) : Int := Int.tmod (IntKind.u64.wrap a.op) 4
noncomputable def actR (l : LK) (a : Act) : LK × Int :=
  if kindA a == 0 then ((askM l a.txn a.thing a.share).1, (askM l a.txn a.thing a.share).2.2)
  else if kindA a == 1 then ((freeLM l a.txn).1, (freeLM l a.txn).2.2)
  else if kindA a == 2 then ((leaveM l a.txn).1, (leaveM l a.txn).2.2)
  else withinM l a.txn a.inner
noncomputable def doM (l : LK) (a : Act) : LK × Bool := if (actR l a).2 != 0 then (l, false) else ((actR l a).1, true)
theorem rd_at {H : Hp} {A : Option Addr} {n : Nat} {l : List Act} {i : Nat} {x : Act} (h : SlAt atC H A n l) (hi : l[i]? = some x) {K : Nat → Nat → Prop}
    (hk : ∀ p o, A = some ⟨p, o, none⟩ → cl H p (o + i * 5) = some (.int .i64 x.op) → cl H p (o + i * 5 + 1) = some (.int .i64 x.txn) → cl H p (o + i * 5 + 1 + 1) = some (.int .i64 x.inner) → cl H p (o + i * 5 + 1 + 1 + 1) = some (.string x.thing) → cl H p (o + i * 5 + 1 + 1 + 1 + 1) = some (.bool x.share) → K p o) : onPtr A K := by
  have hlen : ∀ x ∈ l, (atC x).length = 5 := fun x _ => rfl
  have hne : l ≠ [] := fun e => by subst e; simp at hi
  refine at_cells h.cells (flat_ne hlen (by omega) hne) fun p o hA hc => hk p o hA ?_ ?_ ?_ ?_ ?_
  · have := hc (i * 5 + 0) _ (flat_get hlen hi (by omega)); rw [Nat.add_zero] at this; exact this
  · have := hc (i * 5 + 1) _ (flat_get hlen hi (by omega)); rw [← Nat.add_assoc] at this; exact this
  · have := hc (i * 5 + 2) _ (flat_get hlen hi (by omega)); rw [← Nat.add_assoc] at this; exact this
  · have := hc (i * 5 + 3) _ (flat_get hlen hi (by omega)); rw [← Nat.add_assoc] at this; exact this
  · have := hc (i * 5 + 4) _ (flat_get hlen hi (by omega)); rw [← Nat.add_assoc] at this; exact this
section
variable {H0 H : Hp} {Q : Value → Hp → Prop}
theorem c8 {A0 A1 A2 : Option Addr} {n0 c0 n1 c1 n2 c2 : Nat} {l : LK} {a : Act} (hl : LocksAt H A0 n0 c0 A1 n1 c1 A2 n2 c2 l) (hb : a.thing.size < huge)
    (hq : ∀ B0 d0 B1 d1 B2 d2 H', Ext H H' → LocksAt H' B0 (doM l a).1.held.length d0 B1 (doM l a).1.waits.length d1 B2 (doM l a).1.inner.length d2 (doM l a).1 → Q (.tuple #[.agg #[.slice B0 (doM l a).1.held.length d0, .slice B1 (doM l a).1.waits.length d1, .slice B2 (doM l a).1.inner.length d2], .bool (doM l a).2]) H') :
    HCalls Try.prog 8 [.agg #[.slice A0 n0 c0, .slice A1 n1 c1, .slice A2 n2 c2], .agg #[.int .i64 a.op, .int .i64 a.txn, .int .i64 a.inner, .string a.thing, .bool a.share]] H Q := by
  refine f8.ok _ _ _ _ _ _ _ _ _ _ _ _ _ _ ?_
  unfold f8
  obtain rfl := hl.held.len
  obtain rfl := hl.waits.len
  obtain rfl := hl.inner.len
  refine jn_intro (fun J => ∀ (r : LK × Int) B0 d0 B1 d1 B2 d2 H', r = actR l a → Ext H H' → LocksAt H' B0 r.1.held.length d0 B1 r.1.waits.length d1 B2 r.1.inner.length d2 r.1 → J r.2 B0 r.1.held.length d0 B1 r.1.waits.length d1 B2 r.1.inner.length d2 H') (fun r B0 d0 B1 d1 B2 d2 H' hr hx hl' => ?_) fun J hJ => ⟨by omega, ?_⟩
  · unfold doM at hq
    rw [← hr] at hq
    refine cndI (fun h => ?_) (fun h => ?_)
    · rw [if_pos h] at hq
      exact hq _ _ _ _ _ _ H' hx (hl.ext hx)
    · rw [if_neg (by rw [h]; decide)] at hq
      exact hq _ _ _ _ _ _ H' hx hl'
  · unfold actR kindA at hJ
    refine cndI (fun h => ?_) (fun h => ?_)
    · rw [if_pos h] at hJ
      refine c15 hl hb fun B0 d0 B1 d1 B2 d2 H' hx hl' => ⟨_, _, _, _, _, _, _, _, _, _, _, rfl, hJ _ _ _ _ _ _ _ H' rfl hx hl'⟩
    · rw [if_neg (by rw [h]; decide)] at hJ
      refine cndI (fun h => ?_) (fun h => ?_)
      · rw [if_pos h] at hJ
        refine c13 hl fun B0 d0 B1 d1 B2 d2 A c H' hx hl' _ _ => ⟨_, _, _, _, _, _, _, _, _, _, _, _, _, rfl, hJ _ _ _ _ _ _ _ H' rfl hx hl'⟩
      · rw [if_neg (by rw [h]; decide)] at hJ
        refine cndI (fun h => ?_) (fun h => ?_)
        · rw [if_pos h] at hJ
          refine c19 hl fun B0 d0 B1 d1 B2 d2 A c H' hx hl' _ _ => ⟨_, _, _, _, _, _, _, _, _, _, _, _, _, rfl, hJ _ _ _ _ _ _ _ H' rfl hx hl'⟩
        · rw [if_neg (by rw [h]; decide)] at hJ
          refine c18 hl fun B0 d0 B1 d1 B2 d2 H' hx hl' => ⟨_, _, _, _, _, _, _, _, _, _, rfl, hJ _ _ _ _ _ _ _ H' rfl hx hl'⟩
noncomputable def madeM (l : List Act) : LK := l.foldl (fun x a => (doM x a).1) nilK
theorem c11 {A : Option Addr} {n c : Nat} {l : List Act} (hA : SlAt atC H A n l) (hs : ∀ a ∈ l, a.thing.size < huge)
    (hq : ∀ B0 d0 B1 d1 B2 d2 H', Ext H H' → LocksAt H' B0 (madeM l).held.length d0 B1 (madeM l).waits.length d1 B2 (madeM l).inner.length d2 (madeM l) → Q (.agg #[.slice B0 (madeM l).held.length d0, .slice B1 (madeM l).waits.length d1, .slice B2 (madeM l).inner.length d2]) H') :
    HCalls Try.prog 11 [.slice A n c] H Q := by
  refine f11.ok _ _ _ ?_
  unfold f11
  obtain rfl := hA.len
  have hlt := hA.lt
  refine loop_to l.length (fun i s H' => ∃ B0 d0 B1 d1 B2 d2, s = (((i : Int), ()), (((B0, (madeM (l.take i)).held.length, d0), ((B1, (madeM (l.take i)).waits.length, d1), ((B2, (madeM (l.take i)).inner.length, d2), ()))), ())) ∧ Ext H H' ∧ LocksAt H' B0 (madeM (l.take i)).held.length d0 B1 (madeM (l.take i)).waits.length d1 B2 (madeM (l.take i)).inner.length d2 (madeM (l.take i))) ⟨none, 0, none, 0, none, 0, rfl, Ext.refl _, LocksAt.nil H⟩ ?_
  rintro i s H2 next hi ⟨B0, d0, B1, d1, B2, d2, rfl, hx, hl⟩ hnext
  dsimp only
  by_cases h : i < l.length
  · obtain ⟨a, ha⟩ := get_of h
    have ei : IntKind.i64.wrap ((i : Int) + 1) = ((i + 1 : Nat) : Int) := by rw [wrap_id (by omega) (by omega)]; rfl
    have e : madeM (l.take (i + 1)) = (doM (madeM (l.take i)) a).1 := by unfold madeM; rw [List.take_add_one, ha, List.foldl_append]; rfl
    rw [e] at hnext
    refine cndT (decide_eq_true (by omega)) ⟨by omega, by omega, rd_at (hA.ext hx) ha fun p o _ k1 k2 k3 k4 k5 => ⟨a.op, by simpa using k1, a.txn, by simpa using k2, a.inner, by simpa using k3, a.thing, by simpa using k4, a.share, by simpa using k5, c8 hl (hs a (List.mem_of_getElem? ha)) fun E0 e0 E1 e1 E2 e2 H' hx' hl' => ⟨_, _, _, _, _, _, _, _, _, _, rfl, rfl, hnext _ _ h ⟨E0, e0, E1, e1, E2, e2, by rw [ei], hx.trans hx', hl'⟩⟩⟩⟩
  · obtain rfl : i = l.length := by omega
    rw [List.take_length] at hl ⊢
    exact cndF (decide_eq_false (by omega)) (hq _ _ _ _ _ _ H2 hx hl)
theorem c3 {A : Option Addr} {n c : Nat} {l : List Act} {S : LK → Prop} (hA : SlAt atC H A n l) (hs : ∀ a ∈ l, a.thing.size < huge) (h0 : S nilK) (hS : ∀ x a, S x → S (doM x a).1) (hv : ∀ x, S x → validM x = true ∧ circM x = ([], 4))
    (hq : ∀ H', Ext H H' → Q (.bool true) H') : HCalls Try.prog 3 [.slice A n c] H Q := by
  refine f3.ok _ _ _ ?_
  unfold f3
  obtain rfl := hA.len
  have hlt := hA.lt
  refine cndI (fun h => c7 fun H2 x2 => ⟨_, rfl, hq H2 x2⟩) (fun h => ?_)
  refine loop_to l.length (fun i s H' => ∃ B0 n0 d0 B1 n1 d1 B2 n2 d2 x, s = (((i : Int), ()), (((B0, n0, d0), ((B1, n1, d1), ((B2, n2, d2), ()))), ())) ∧ Ext H H' ∧ LocksAt H' B0 n0 d0 B1 n1 d1 B2 n2 d2 x ∧ S x) ⟨none, 0, 0, none, 0, 0, none, 0, 0, nilK, rfl, Ext.refl _, LocksAt.nil H, h0⟩ ?_
  rintro i s H2 next hi ⟨B0, n0, d0, B1, n1, d1, B2, n2, d2, x, rfl, hx, hl, hSx⟩ hnext
  dsimp only
  by_cases h : i < l.length
  · obtain ⟨a, ha⟩ := get_of h
    have ei : IntKind.i64.wrap ((i : Int) + 1) = ((i + 1 : Nat) : Int) := by rw [wrap_id (by omega) (by omega)]; rfl
    have hSy := hS x a hSx
    obtain ⟨hvy, hcy⟩ := hv _ hSy
    refine cndT (decide_eq_true (by omega)) ⟨by omega, by omega, rd_at (hA.ext hx) ha fun p o _ k1 k2 k3 k4 k5 => ⟨a.op, by simpa using k1, a.txn, by simpa using k2, a.inner, by simpa using k3, a.thing, by simpa using k4, a.share, by simpa using k5, c8 hl (hs a (List.mem_of_getElem? ha)) fun E0 e0 E1 e1 E2 e2 H' hx' hl' => ⟨_, _, _, _, _, _, _, _, _, _, rfl, c9 hl' ?_⟩⟩⟩
    rw [hcy]
    intro A21 n21 c21 H20 x20 _ _
    refine ⟨_, _, _, _, rfl, ?_⟩
    unfold jn
    refine c10 (hl'.ext x20) fun H24 x24 => ⟨_, rfl, ?_⟩
    rw [hvy]
    exact cndF rfl (cndF rfl ⟨rfl, hnext _ _ h ⟨E0, _, e0, E1, _, e1, E2, _, e2, _, by rw [ei], ((hx.trans hx').trans x20).trans x24, (hl'.ext x20).ext x24, hSy⟩⟩)
  · obtain rfl : i = l.length := by omega
    exact cndF (decide_eq_false (by omega)) (c7 fun H30 x30 => ⟨_, rfl, hq H30 (hx.trans x30)⟩)
end
end Go.Proofs.Ytkbancdmhcnhjaa.Hw
