/- Locks: the reference's take. -/
import Derived.Test.YtkbancdmhcnhjaaGreatLg
set_option linter.unusedVariables false
set_option linter.unusedSimpArgs false
namespace Go.Proofs.YtkbancdmhcnhjaaGreat.Hw
open Go Go.Proofs
section
variable {H0 H : Hp} {Q : Value → Hp → Prop}
theorem Row.head {A : Option Addr} {c p : Nat} {l : List Lk} (R : Row H0 H A l.length c 3 (l.flatMap lkC)) (hp : p ≤ l.length) : Row H0 H A p p 3 ((l.take p).flatMap lkC) := by
  obtain ⟨h1, h2, h3⟩ := R
  refine ⟨by rw [lkC_len, List.length_take, Nat.min_eq_left hp], Nat.le_refl _, ?_⟩
  rcases h3 with ⟨rfl, hc⟩ | ⟨b, cs, ty, rfl, hb, hcl, ht, hz⟩
  · exact .inl ⟨rfl, by omega⟩
  · refine .inr ⟨b, cs, ty, rfl, hb, by have := Nat.mul_le_mul_right 3 (Nat.le_trans hp h2); omega, ?_, hz⟩
    have : l.flatMap lkC = (l.take p).flatMap lkC ++ (l.drop p).flatMap lkC := by rw [← List.flatMap_append, List.take_append_drop]
    rw [this] at ht
    have e : cs.take (p * 3) = (cs.take (l.length * 3)).take (p * 3) := by rw [List.take_take, Nat.min_eq_left (by omega)]
    rw [e, ht, List.take_left' (by rw [lkC_len, List.length_take, Nat.min_eq_left hp])]
theorem ordX_lt {x h : Lk} : ordX x h < 0 ↔ strL h.thing x.thing = true ∨ (h.thing = x.thing ∧ h.txn < x.txn) := ordL_lt
theorem take_pos {l : List Lk} {x : Lk} {i : Nat} (h1 : ∀ k y, k < i → l[k]? = some y → ordX x y < 0) (h2 : ∀ y, l[i]? = some y → ¬ ordX x y < 0) (hi : i ≤ l.length) : posL (ordX x) l = i := by
  unfold posL
  induction l generalizing i with
  | nil => simp at hi; subst hi; rfl
  | cons a r ih =>
    cases i with
    | zero =>
      have := h2 a rfl
      rw [List.takeWhile_cons, if_neg (by simpa using this)]; rfl
    | succ i =>
      have := h1 0 a (by omega) rfl
      rw [List.takeWhile_cons, if_pos (by simpa using this), List.length_cons]
      congr 1
      exact ih (fun k y hk hy => h1 (k + 1) y (by omega) (by simpa using hy)) (fun y hy => h2 y (by simpa using hy)) (by simpa using hi)
theorem c42 {B0 B1 B2 : Option Addr} {d0 d1 d2 : Nat} {l : LK} {x : Lk} (o : OwnL H0 H B0 d0 B1 d1 B2 d2 l) (hs : Small l) (hq : ∀ A c H', OwnL H0 H' A c B1 d1 B2 d2 ⟨takeM l.held x, l.waits, l.inner⟩ → Q (.agg #[.slice A (takeM l.held x).length c, .slice B1 l.waits.length d1, .slice B2 l.inner.length d2]) H') :
    HCalls Tryz.prog 42 [.agg #[.slice B0 l.held.length d0, .slice B1 l.waits.length d1, .slice B2 l.inner.length d2], .int .i64 x.txn, .string x.thing, .bool x.share] H Q := by
  refine f42.ok _ _ _ _ _ _ _ _ _ _ _ _ ?_
  unfold f42
  have hl := o.at hs
  have hlt := hl.held.lt
  have hsb := hs.1
  unfold big at hsb
  refine loop_to l.held.length (fun i s H' => s = (((i : Int), ()), ()) ∧ H' = H ∧ ∀ k y, k < i → l.held[k]? = some y → ordX x y < 0) ⟨rfl, rfl, fun k y h => by omega⟩ ?_
  rintro i s H next hi ⟨rfl, rfl, hI⟩ hnext
  dsimp only
  refine jn_intro (fun J => (i < l.held.length → (∀ y, l.held[i]? = some y → ordX x y < 0) → J true) ∧ ((∀ y, l.held[i]? = some y → ¬ ordX x y < 0) → J false)) ⟨fun hil hlt' => ?_, fun hge => ?_⟩ fun J hJ => ?_
  · refine cndT rfl ⟨rfl, ?_⟩
    rw [show IntKind.i64.wrap ((i : Int) + 1) = ((i + 1 : Nat) : Int) by rw [wrap_id (by omega) (by omega)]; rfl]
    refine hnext _ _ hil ⟨rfl, rfl, fun k y hk hy => ?_⟩
    by_cases e : k = i
    · subst e; exact hlt' y hy
    · exact hI k y (by omega) hy
  · refine cndF rfl ?_
    have hpos := take_pos hI hge hi
    refine jn_intro (fun J => (isAtL (ordX x) l.held = true → J true) ∧ (isAtL (ordX x) l.held = false → J false)) ⟨fun hat => ?_, fun hat => ?_⟩ fun J hJ => ?_
    · refine cndT rfl ?_
      obtain ⟨y, hy, _⟩ := isAt_get hat
      rw [hpos] at hy
      have hil := (List.getElem?_eq_some_iff.1 hy).1
      have et : takeM l.held x = l.held.set i ⟨y.thing, y.txn, y.share && x.share⟩ := by
        unfold takeM; rw [if_pos hat, hpos, hy]; rfl
      have hlen : (l.held.set i ⟨y.thing, y.txn, y.share && x.share⟩).length = l.held.length := List.length_set
      rw [et] at hq
      refine jn_intro (fun J => ∀ H', OwnL H0 H' B0 d0 B1 d1 B2 d2 ⟨l.held.set i ⟨y.thing, y.txn, y.share && x.share⟩, l.waits, l.inner⟩ → J H') (fun H' ho => by have := hq _ _ _ ho; rw [hlen] at this; exact this) fun J hJ => ?_
      have fin : ∀ s, s = (y.share && x.share) → onPtr B0 fun b o => storeF H b ((o + ((i : Int)).toNat * 3) + 2) [.bool s] fun H' => J H' := fun s hs' => by
        subst hs'
        rw [Int.toNat_natCast]
        refine Row.share o.held o.ext hy fun H' R' hx' hch => hJ H' ?_
        have keep : ∀ b, H b ≠ none → ¬ rowB B0 b → H' b = H b := fun b _ hnb => Classical.byContradiction fun hne => hnb (hch b hne)
        exact ⟨hx', by rw [hlen]; exact R', o.waits.keep (fun b hb => keep b (o.waits.lt hb).1 (fun h => o.s01 b h hb)), o.inner.keep (fun b hb => keep b (o.inner.lt hb).1 (fun h => o.s02 b h hb)), o.s01, o.s02, o.s12⟩
      exact ⟨by omega, by omega, rd_lk hl.held hy fun p o' _ _ _ k3 => ⟨y.share, by simpa using k3, cndI (fun h => ⟨by omega, by omega, fin x.share (by rw [h]; rfl)⟩) (fun h => ⟨by omega, by omega, fin false (by rw [h]; rfl)⟩)⟩⟩
    · refine cndF rfl ?_
      have et : takeM l.held x = insL l.held i x := by
        unfold takeM; rw [if_neg (by rw [hat]; decide), hpos]
      rw [et] at hq
      have hlen := insL_len (x := x) hi
      have hcap := o.held.2.1
      simp only [Int.toNat_natCast, Nat.sub_zero, cut_zero]
      refine ⟨by omega, by omega, by omega, by omega, by omega, by omega, fun g hg => ?_⟩
      have hx1 : Ext H (upd g (.cells (lkC x).toArray 55 (0, 0)) H) := Ext.new hg
      have o1 := o.more hx1
      have R1 : Row H0 (upd g (.cells (lkC x).toArray 55 (0, 0)) H) (some ⟨g, 0, none⟩) 1 1 3 (lkC x) := ⟨rfl, Nat.le_refl _, .inr ⟨g, _, 55, rfl, upd_at, Nat.le_refl _, rfl, o.ext.none hg⟩⟩
      have hsrc := cells_cut (f := lkC) (k := 3) (fun _ => rfl) (l := l.held) (p := i) (m := l.held.length - i) (stay := decide (d0 = i)) o1.held.cells (fun h => by have := of_decide_eq_true h; omega) (by omega)
      rw [List.take_of_length_le (by rw [List.length_drop]; omega)] at hsrc
      refine R1.append o1.ext hsrc (by rw [lkC_len, List.length_drop]) lkC_one (by omega) (by omega) fun A2 c2 H2 R2 x2 ch2 nw2 _ => ?_
      have keep2 : ∀ b, H b ≠ none → H2 b = (upd g (.cells (lkC x).toArray 55 (0, 0)) H) b := fun b hb => Classical.byContradiction fun hne => by
        rcases (ch2 b hne).2 with ⟨o', q, e⟩ | h
        · cases e; exact hb hg
        · rw [upd_off (fun e : b = g => hb (by rw [e]; exact hg))] at h; exact hb h
      have keep2' : ∀ b, H b ≠ none → H2 b = H b := fun b hb => (keep2 b hb).trans (upd_off (fun e : b = g => hb (by rw [e]; exact hg)))
      have hR0 := (o.held.head hi).keep (fun b hb => keep2' b ((o.held.lt hb).1))
      refine hR0.append x2 R2.cells R2.1 (fun v hv => ?_) (by omega) (by omega) fun A3 c3 H3 R3 x3 ch3 nw3 _ => ?_
      · have : v ∈ ([x] ++ l.held.drop i).flatMap lkC := by rw [List.flatMap_append]; simpa [lkC] using hv
        exact lkC_one v this
      have keep3 : ∀ b, H b ≠ none → ¬ rowB B0 b → H3 b = H b := fun b hb hnb => by
        refine Eq.trans (Classical.byContradiction fun hne => ?_) (keep2' b hb)
        rcases (ch3 b hne).2 with h | h
        · exact hnb h
        · rw [keep2' b hb] at h; exact hb h
      have en : i + (1 + (l.held.length - i)) = (insL l.held i x).length := by rw [hlen]; omega
      have sepA : ∀ b, rowB A3 b → H b ≠ none → rowB B0 b := fun b h3 hb => by
        rcases nw3 b h3 with h | h
        · exact h
        · rw [keep2' b hb] at h; exact absurd h hb
      have := hq A3 c3 H3 ⟨x3, ?_, o.waits.keep (fun b hb => keep3 b (o.waits.lt hb).1 (fun h => o.s01 b h hb)), o.inner.keep (fun b hb => keep3 b (o.inner.lt hb).1 (fun h => o.s02 b h hb)), fun b h0 h1 => o.s01 b (sepA b h0 (o.waits.lt h1).1) h1, fun b h0 h1 => o.s02 b (sepA b h0 (o.inner.lt h1).1) h1, o.s12⟩
      · rw [← en] at this; exact this
      · rw [en, ] at R3
        dsimp only
        rw [insL_cells, List.append_assoc]
        exact R3
    · by_cases hil : i < l.held.length
      · obtain ⟨y, hy⟩ := get_of hil
        have hat : isAtL (ordX x) l.held = (decide (y.thing = x.thing) && decide (y.txn = x.txn)) := by
          unfold isAtL atZ
          rw [hpos, hy]
          have : (ordX x y = 0) ↔ (y.thing = x.thing ∧ y.txn = x.txn) := ordL_eq
          simp [this]
        refine cndT (by simpa using hil) ⟨by omega, by omega, rd_lk hl.held hy fun p o' _ k1 k2 _ => ⟨y.thing, by simpa using k1, ?_⟩⟩
        rw [str_eq]
        refine cndI (fun h => ⟨by omega, by omega, rd_lk hl.held hy fun p o' _ _ k2 _ => ⟨y.txn, by simpa using k2, ?_⟩⟩) (fun h => hJ.2 (by rw [hat, h, Bool.false_and]))
        cases he : (y.txn == x.txn) with
        | true => exact hJ.1 (by rw [hat, h, show decide (y.txn = x.txn) = true by simpa using he]; rfl)
        | false => exact hJ.2 (by rw [hat, h, show decide (y.txn = x.txn) = false by simpa using he]; rfl)
      · refine cndF (by simp; omega) (hJ.2 ?_)
        unfold isAtL atZ
        rw [hpos, List.getElem?_eq_none (by omega)]
  · by_cases hil : i < l.held.length
    · obtain ⟨y, hy⟩ := get_of hil
      have up : ∀ z, l.held[i]? = some z → z = y := fun z hz => by rw [hy] at hz; exact (Option.some.inj hz).symm
      refine cndT (by simpa using hil) ⟨by omega, by omega, rd_lk hl.held hy fun p o' _ k1 _ _ => ⟨y.thing, by simpa using k1, cndI (fun h => hJ.1 hil (fun z hz => by rw [up z hz]; exact ordX_lt.2 (.inl h))) (fun h => ⟨by omega, by omega, rd_lk hl.held hy fun p o' _ k1 _ _ => ⟨y.thing, by simpa using k1, ?_⟩⟩)⟩⟩
      rw [str_eq]
      refine cndI (fun h2 => ⟨by omega, by omega, rd_lk hl.held hy fun p o' _ _ k2 _ => ⟨y.txn, by simpa using k2, ?_⟩⟩) (fun h2 => hJ.2 (fun z hz => by rw [up z hz, ordX_lt]; rintro (h' | h'); exact absurd h' (by unfold strL; rw [h]; decide); exact of_decide_eq_false h2 h'.1))
      have h2 := of_decide_eq_true h2
      cases he : decide (y.txn < x.txn) with
      | true => exact hJ.1 hil (fun z hz => by rw [up z hz]; exact ordX_lt.2 (.inr ⟨h2, of_decide_eq_true he⟩))
      | false => exact hJ.2 (fun z hz => by rw [up z hz, ordX_lt]; rintro (h' | h'); exact absurd h' (by unfold strL; rw [h]; decide); exact of_decide_eq_false he h'.2)
    · exact cndF (by simp; omega) (hJ.2 (fun z hz => by have := (List.getElem?_eq_some_iff.1 hz).1; omega))
end
end Go.Proofs.YtkbancdmhcnhjaaGreat.Hw
