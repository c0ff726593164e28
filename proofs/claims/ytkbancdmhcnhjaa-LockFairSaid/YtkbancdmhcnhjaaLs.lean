/- Locks: Has, Same, Few, For. -/
import Derived.Test.YtkbancdmhcnhjaaLr
set_option linter.unusedVariables false
set_option linter.unusedSimpArgs false
namespace Go.Proofs.Ytkbancdmhcnhjaa.Hw
open Go Go.Proofs
def hasM (l : LK) (txn : Int) (thing : ByteArray) : Bool × Bool × Int :=
  if validM l && (numB txn && thingB thing) then ((heldM l.held txn thing).isSome, ((heldM l.held txn thing).getD zeroLk).share, 0) else (false, false, 2)
noncomputable def forM (l : LK) (txn : Int) : List Int × Int := if validM l && numB txn then (rise (waitedL l txn), 0) else ([], 2)
def fewB (l : LK) : Bool := decide (l.held.length ≤ 300) && (decide (l.waits.length ≤ 60) && decide (l.inner.length ≤ 60))
theorem valid_tame {l : LK} (h : validM l = true) (hs : StrOk l) : Tame l := by
  have := valid_lens h
  exact ⟨by omega, by omega, by omega, hs⟩
section
variable {H0 H : Hp} {Q : Value → Hp → Prop}
def HasR (H : Hp) (Q : Value → Hp → Prop) (r : Bool × Bool × Int) : Prop := ∀ H', Ext H H' → Q (.tuple #[.bool r.1, .bool r.2.1, .int .i64 r.2.2]) H'
def ForR (H : Hp) (Q : Value → Hp → Prop) (r : List Int × Int) : Prop := ∀ A n c H', Ext H H' → SlAt inC H' A n r.1 → n ≤ c → Q (.tuple #[.slice A n c, .int .i64 r.2]) H'
theorem nilI (H : Hp) : SlAt inC H none 0 [] := ⟨rfl, .inl rfl, by decide⟩
theorem c17 {A0 A1 A2 : Option Addr} {n0 c0 n1 c1 n2 c2 : Nat} {l : LK} {txn : Int} {thing : ByteArray} (hl : LocksAt H A0 n0 c0 A1 n1 c1 A2 n2 c2 l) (hb : thing.size < huge) (hq : HasR H Q (hasM l txn thing)) :
    HCalls Try.prog 17 [.agg #[.slice A0 n0 c0, .slice A1 n1 c1, .slice A2 n2 c2], .int .i64 txn, .string thing] H Q := by
  refine f17.ok _ _ _ _ _ _ _ _ _ _ _ ?_
  unfold f17
  unfold hasM at hq
  refine jn_intro (fun J => ∀ b H', Ext H H' → b = !(validM l && (numB txn && thingB thing)) → J b H') (fun b H11 hx11 hb' => ?_) fun J hJ => c10 hl fun H4 hx4 => ⟨_, rfl, cndI (fun h => hJ true _ hx4 ?_) (fun h => c26 ⟨_, rfl, cndI (fun h2 => hJ true _ hx4 ?_) (fun h2 => c25 (by unfold huge at hb; omega) ⟨_, rfl, hJ _ _ hx4 ?_⟩)⟩)⟩
  rotate_left
  · have h : validM l = false := by simpa using h
    rw [h]; rfl
  · have h2 : numB txn = false := by simpa using h2
    rw [h2]; simp
  · have h : validM l = true := by simpa using h
    have h2 : numB txn = true := by simpa using h2
    rw [h, h2]; simp
  subst hb'
  refine cndI (fun hbad => ?_) (fun hgood => ?_)
  · rw [Bool.not_eq_true'] at hbad
    rw [if_neg (by rw [hbad]; decide)] at hq
    exact hq H11 hx11
  have hok : (validM l && (numB txn && thingB thing)) = true := by simpa using hgood
  rw [if_pos hok] at hq
  simp only [Bool.and_eq_true] at hok
  refine c38 (hl.ext hx11) (valid_rising hok.1) fun H14 hx14 => ⟨_, _, _, _, rfl, ?_⟩
  have := hq H14 (hx11.trans hx14)
  unfold jn
  refine cndI (fun h => this) (fun h => ?_)
  have e : heldM l.held txn thing = none := by simpa using h
  rw [e] at this ⊢
  exact this
theorem c16 {A0 A1 A2 B0 B1 B2 : Option Addr} {n0 c0 n1 c1 n2 c2 m0 d0 m1 d1 m2 d2 : Nat} {l r : LK} (hl : LocksAt H A0 n0 c0 A1 n1 c1 A2 n2 c2 l) (hr : LocksAt H B0 m0 d0 B1 m1 d1 B2 m2 d2 r) (hq : ∀ b : Bool, (b = true ↔ l = r) → Q (.bool b) H) :
    HCalls Try.prog 16 [.agg #[.slice A0 n0 c0, .slice A1 n1 c1, .slice A2 n2 c2], .agg #[.slice B0 m0 d0, .slice B1 m1 d1, .slice B2 m2 d2]] H Q := by
  refine f16.ok _ _ _ _ _ _ _ _ _ _ _ _ _ _ _ _ _ _ ?_
  unfold f16
  obtain rfl := hl.held.len
  obtain rfl := hl.waits.len
  obtain rfl := hl.inner.len
  obtain rfl := hr.held.len
  obtain rfl := hr.waits.len
  obtain rfl := hr.inner.len
  have no : l ≠ r → Q (.bool false) H := fun hne => hq false ⟨fun h => (by cases h), fun h => absurd h hne⟩
  refine jn_intro (fun J => (l ≠ r → J true) ∧ (l.held.length = r.held.length → l.waits.length = r.waits.length → l.inner.length = r.inner.length → J false)) ⟨fun h => cndT rfl (no h), fun h0 h1 h2 => cndF rfl ?_⟩ fun J hJ => cndI (fun h => hJ.1 ?_) (fun h => cndI (fun h2 => hJ.1 ?_) (fun h2 => ?_))
  · refine scan hl.held.lt (fun i H' => H' = H ∧ ∀ k, k < i → l.held[k]? = r.held[k]?) ⟨rfl, fun k hk => by omega⟩ ?_ ?_
    · rintro i H next hi ⟨rfl, hI⟩ hnext
      obtain ⟨x, hx⟩ := get_of hi
      obtain ⟨y, hy⟩ := get_of (l := r.held) (i := i) (by omega)
      dsimp only
      refine cndT (by simpa using hi) ⟨by simp, by simpa using hi, rd_lk hl.held hx fun p o _ k1 k2 k3 => ⟨x.thing, by simpa using k1, x.txn, by simpa using k2, x.share, by simpa using k3, by simp, by omega, rd_lk hr.held hy fun p' o' _ g1 g2 g3 => ⟨y.thing, by simpa using g1, y.txn, by simpa using g2, y.share, by simpa using g3, ?_⟩⟩⟩
      rw [str_eq]
      refine cndI (fun h => no fun e => ?_) (fun h => ⟨rfl, hnext _ ⟨rfl, fun k hk => ?_⟩⟩)
      · subst e
        rw [hx] at hy; cases hy
        simp at h
      · by_cases e : k = i
        · subst e
          rw [hx, hy]
          have : x.thing = y.thing ∧ x.txn = y.txn ∧ x.share = y.share := by simpa using h
          cases x; cases y
          simp only at this
          obtain ⟨rfl, rfl, rfl⟩ := this
          rfl
        · exact hI k (by omega)
    · rintro H next ⟨rfl, hI0⟩
      refine cndF (by simp) (scan hl.waits.lt (fun i H' => H' = H ∧ ∀ k, k < i → l.waits[k]? = r.waits[k]?) ⟨rfl, fun k hk => by omega⟩ ?_ ?_)
      · rintro i H next hi ⟨rfl, hI⟩ hnext
        obtain ⟨x, hx⟩ := get_of hi
        obtain ⟨y, hy⟩ := get_of (l := r.waits) (i := i) (by omega)
        dsimp only
        refine cndT (by simpa using hi) ⟨by simp, by simpa using hi, rd_wt hl.waits hx fun p o _ k1 k2 k3 => ⟨x.txn, by simpa using k1, x.thing, by simpa using k2, x.share, by simpa using k3, by simp, by omega, rd_wt hr.waits hy fun p' o' _ g1 g2 g3 => ⟨y.txn, by simpa using g1, y.thing, by simpa using g2, y.share, by simpa using g3, ?_⟩⟩⟩
        rw [str_eq]
        refine cndI (fun h => no fun e => ?_) (fun h => ⟨rfl, hnext _ ⟨rfl, fun k hk => ?_⟩⟩)
        · subst e
          rw [hx] at hy; cases hy
          simp at h
        · by_cases e : k = i
          · subst e
            rw [hx, hy]
            have : x.txn = y.txn ∧ x.thing = y.thing ∧ x.share = y.share := by simpa using h
            cases x; cases y
            simp only at this
            obtain ⟨rfl, rfl, rfl⟩ := this
            rfl
          · exact hI k (by omega)
      · rintro H next ⟨rfl, hI1⟩
        refine cndF (by simp) (scan hl.inner.lt (fun i H' => H' = H ∧ ∀ k, k < i → l.inner[k]? = r.inner[k]?) ⟨rfl, fun k hk => by omega⟩ ?_ ?_)
        · rintro i H next hi ⟨rfl, hI⟩ hnext
          obtain ⟨x, hx⟩ := get_of hi
          obtain ⟨y, hy⟩ := get_of (l := r.inner) (i := i) (by omega)
          dsimp only
          refine cndT (by simpa using hi) ⟨by simp, by simpa using hi, rd_pr hl.inner hx fun p o _ k1 k2 => ⟨x.1, by simpa using k1, x.2, by simpa using k2, by simp, by omega, rd_pr hr.inner hy fun p' o' _ g1 g2 => ⟨y.1, by simpa using g1, y.2, by simpa using g2, cndI (fun h => no fun e => ?_) (fun h => ⟨rfl, hnext _ ⟨rfl, fun k hk => ?_⟩⟩)⟩⟩⟩
          · subst e
            rw [hx] at hy; cases hy
            simp at h
          · by_cases e : k = i
            · subst e
              rw [hx, hy]
              have : x.1 = y.1 ∧ x.2 = y.2 := by simpa using h
              rw [Prod.ext this.1 this.2]
            · exact hI k (by omega)
        · rintro H next ⟨rfl, hI2⟩
          refine cndF (by simp) (hq true ⟨fun _ => ?_, fun _ => rfl⟩)
          have ext : ∀ {α : Type} (a b : List α), a.length = b.length → (∀ k, k < a.length → a[k]? = b[k]?) → a = b := fun a b hlen hk => List.ext_getElem? fun k => by
            by_cases h : k < a.length
            · exact hk k h
            · rw [List.getElem?_eq_none (by omega), List.getElem?_eq_none (by omega)]
          cases l; cases r
          simp only at h0 h1 h2 hI0 hI1 hI2
          rw [ext _ _ h0 hI0, ext _ _ h1 hI1, ext _ _ h2 hI2]
  · rintro rfl; simp at h
  · rintro rfl; simp at h2
  · have h : l.held.length = r.held.length := by
      have : ((l.held.length : Nat) : Int) = ((r.held.length : Nat) : Int) := by simpa using h
      omega
    have h2 : l.waits.length = r.waits.length := by
      have : ((l.waits.length : Nat) : Int) = ((r.waits.length : Nat) : Int) := by simpa using h2
      omega
    cases h3 : ((((l.inner.length : Nat) : Int)) != ((r.inner.length : Nat) : Int)) with
    | true => exact hJ.1 (by rintro rfl; simp at h3)
    | false => exact hJ.2 h h2 (by
      have : ((l.inner.length : Nat) : Int) = ((r.inner.length : Nat) : Int) := by simpa using h3
      omega)
theorem c12 {A0 A1 A2 : Option Addr} {n0 c0 n1 c1 n2 c2 : Nat} {l : LK} {txn : Int} (hl : LocksAt H A0 n0 c0 A1 n1 c1 A2 n2 c2 l) (hq : ForR H Q (forM l txn)) :
    HCalls Try.prog 12 [.agg #[.slice A0 n0 c0, .slice A1 n1 c1, .slice A2 n2 c2], .int .i64 txn] H Q := by
  refine f12.ok _ _ _ _ _ _ _ _ _ _ ?_
  unfold f12
  unfold forM at hq
  refine jn_intro (fun J => ∀ b H', Ext H H' → b = !(validM l && numB txn) → J b H') (fun b H11 hx11 hb' => ?_) fun J hJ => c10 hl fun H4 hx4 => ⟨_, rfl, cndI (fun h => hJ true _ hx4 ?_) (fun h => c26 ⟨_, rfl, hJ _ _ hx4 ?_⟩)⟩
  rotate_left
  · have h : validM l = false := by simpa using h
    rw [h]; rfl
  · have h : validM l = true := by simpa using h
    rw [h]; rfl
  subst hb'
  refine cndI (fun hbad => ?_) (fun hgood => ?_)
  · rw [Bool.not_eq_true'] at hbad
    rw [if_neg (by rw [hbad]; decide)] at hq
    exact hq none 0 0 H11 hx11 (nilI H11) (Nat.le_refl _)
  have hok : (validM l && numB txn) = true := by simpa using hgood
  rw [if_pos hok] at hq
  simp only [Bool.and_eq_true] at hok
  have ht := valid_tame hok.1 hl.str
  exact c22 (hl.ext hx11) ht (valid_rising hok.1) fun A c H' R hx' => ⟨_, _, _, rfl, hq A _ c H' (hx11.trans hx') (R.at (rise_big (waited_len ht))) R.2.1⟩
end
end Go.Proofs.Ytkbancdmhcnhjaa.Hw
