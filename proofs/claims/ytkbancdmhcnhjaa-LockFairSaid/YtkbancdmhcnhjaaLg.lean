/- Locks: give, and the reference's take. -/
import Derived.Test.YtkbancdmhcnhjaaLf
set_option linter.unusedVariables false
set_option linter.unusedSimpArgs false
namespace Go.Proofs.Ytkbancdmhcnhjaa.Hw
open Go Go.Proofs
def ordX (x : Lk) : Lk → Int := fun h => ordL h x.thing x.txn
/-- A transaction takes a lock. -/
def takeM (l : List Lk) (x : Lk) : List Lk :=
  if isAtL (ordX x) l = true then l.set (posL (ordX x) l) ⟨((l[posL (ordX x) l]?).getD zeroLk).thing, ((l[posL (ordX x) l]?).getD zeroLk).txn, ((l[posL (ordX x) l]?).getD zeroLk).share && x.share⟩ else insL l (posL (ordX x) l) x
theorem isAt_get {α : Type} {cmp : α → Int} {l : List α} (h : isAtL cmp l = true) : ∃ y, l[posL cmp l]? = some y ∧ cmp y = 0 := by
  unfold isAtL atZ at h
  split at h
  · rename_i y hy; exact ⟨y, hy, of_decide_eq_true h⟩
  · cases h
theorem posL_le {α : Type} {cmp : α → Int} {l : List α} : posL cmp l ≤ l.length := by
  unfold posL; exact (List.takeWhile_sublist _).length_le
section
variable {H0 H : Hp} {Q : Value → Hp → Prop}
theorem set_cells {l : List Lk} {i : Nat} {x : Lk} (h : i < l.length) : (l.set i x).flatMap lkC = (l.take i).flatMap lkC ++ lkC x ++ (l.drop (i + 1)).flatMap lkC := by
  rw [List.set_eq_take_append_cons_drop, if_pos h, List.flatMap_append, List.flatMap_cons, ← List.append_assoc]
/-- A lock's share, stored in place. -/
theorem Row.share {A : Option Addr} {c i : Nat} {l : List Lk} {x : Lk} {s : Bool} {K : Hp → Prop} (R : Row H0 H A l.length c 3 (l.flatMap lkC)) (hx : Ext H0 H) (hi : l[i]? = some x)
    (hk : ∀ H', Row H0 H' A l.length c 3 ((l.set i ⟨x.thing, x.txn, s⟩).flatMap lkC) → Ext H0 H' → (∀ b, H' b ≠ H b → rowB A b) → K H') : onPtr A fun b o => storeF H b ((o + i * 3) + 2) [.bool s] K := by
  have hlt := (List.getElem?_eq_some_iff.1 hi).1
  obtain ⟨h1, h2, h3 | ⟨bs, cs, ty, rfl, hbs, hcl, ht, hz⟩⟩ := R
  · omega
  have hP : ((l.take i).flatMap lkC).length = i * 3 := by rw [lkC_len, List.length_take, Nat.min_eq_left (by omega)]
  have hD : ((l.drop (i + 1)).flatMap lkC).length = (l.length - (i + 1)) * 3 := by rw [lkC_len, List.length_drop]
  have hcs : cs = ((l.take i).flatMap lkC ++ [Value.string x.thing, .int .i64 x.txn]) ++ [Value.bool x.share] ++ ((l.drop (i + 1)).flatMap lkC ++ cs.drop (l.length * 3)) := by
    conv => lhs; rw [← List.take_append_drop (l.length * 3) cs, ht]
    have hx' : l[i] = x := by have := List.getElem?_eq_getElem hlt; rw [hi] at this; exact (Option.some.inj this).symm
    have : l.flatMap lkC = (l.take i).flatMap lkC ++ lkC x ++ (l.drop (i + 1)).flatMap lkC := by
      conv => lhs; rw [← List.take_append_drop i l, List.drop_eq_getElem_cons hlt, hx']
      rw [List.flatMap_append, List.flatMap_cons, ← List.append_assoc]
    rw [this]
    simp [lkC, List.append_assoc]
  have e : setR cs ((0 + i * 3) + 2) [Value.bool s] = ((l.take i).flatMap lkC ++ [Value.string x.thing, .int .i64 x.txn]) ++ [Value.bool s] ++ ((l.drop (i + 1)).flatMap lkC ++ cs.drop (l.length * 3)) :=
    setR_at hcs (by rw [List.length_append, hP]; simp) rfl
  refine ⟨cs, ty, hbs, by simp only [List.length_cons, List.length_nil]; omega, ?_⟩
  rw [e]
  refine hk _ ⟨by rw [lkC_len, List.length_set], h2, .inr ⟨bs, _, ty, rfl, upd_at, ?_, ?_, hz⟩⟩ (hx.upd hz) fun q hq => ?_
  · have := congrArg List.length e
    rw [setR_length (by simp only [List.length_cons, List.length_nil]; omega)] at this
    omega
  · rw [set_cells hlt]
    have : ((l.take i).flatMap lkC ++ lkC ⟨x.thing, x.txn, s⟩ ++ (l.drop (i + 1)).flatMap lkC).length = l.length * 3 := by
      rw [List.length_append, List.length_append, hP, hD, show (lkC ⟨x.thing, x.txn, s⟩).length = 3 from rfl]; omega
    rw [show ((l.take i).flatMap lkC ++ [Value.string x.thing, .int .i64 x.txn]) ++ [Value.bool s] ++ ((l.drop (i + 1)).flatMap lkC ++ cs.drop (l.length * 3)) = ((l.take i).flatMap lkC ++ lkC ⟨x.thing, x.txn, s⟩ ++ (l.drop (i + 1)).flatMap lkC) ++ cs.drop (l.length * 3) by simp [lkC, List.append_assoc]]
    exact List.take_left' this
  · by_cases e : q = bs
    · subst e; exact ⟨_, _, rfl⟩
    · exact absurd (upd_off e) hq
/-- Locks behind a pointer. -/
def OutL (H0 H : Hp) (g : Nat) (l : LK) : Prop := ∃ B0 d0 B1 d1 B2 d2 ty, H g = some (.cells [Value.slice B0 l.held.length d0, .slice B1 l.waits.length d1, .slice B2 l.inner.length d2].toArray ty (0, 0)) ∧ OwnL H0 H B0 d0 B1 d1 B2 d2 l ∧ H0 g = none ∧ ¬ rowB B0 g ∧ ¬ rowB B1 g ∧ ¬ rowB B2 g
theorem ext_at {H H' : Hp} {b : Nat} (hx : Ext H H') (hn : H b ≠ none) : H' b = H b := by
  cases h : H b with
  | none => exact absurd h hn
  | some o => exact hx b o h
theorem OwnL.more {H H' : Hp} {B0 B1 B2 : Option Addr} {d0 d1 d2 : Nat} {l : LK} (o : OwnL H0 H B0 d0 B1 d1 B2 d2 l) (hx : Ext H H') : OwnL H0 H' B0 d0 B1 d1 B2 d2 l :=
  ⟨o.ext.trans hx, o.held.keep (fun b hb => ext_at hx (o.held.lt hb).1), o.waits.keep (fun b hb => ext_at hx (o.waits.lt hb).1), o.inner.keep (fun b hb => ext_at hx (o.inner.lt hb).1), o.s01, o.s02, o.s12⟩
theorem OutL.more {H H' : Hp} {g : Nat} {l : LK} (o : OutL H0 H g l) (hx : Ext H H') : OutL H0 H' g l := by
  obtain ⟨B0, d0, B1, d1, B2, d2, ty, h1, h2, h3⟩ := o
  exact ⟨B0, d0, B1, d1, B2, d2, ty, hx _ _ h1, h2.more hx, h3⟩
theorem c40x {g : Nat} {l : LK} {x : Lk} {B0 B1 B2 : Option Addr} {d0 d1 d2 ty : Nat} (hg : H g = some (.cells [Value.slice B0 l.held.length d0, .slice B1 l.waits.length d1, .slice B2 l.inner.length d2].toArray ty (0, 0))) (ow : OwnL H0 H B0 d0 B1 d1 B2 d2 l) (hg0 : H0 g = none) (n0 : ¬ rowB B0 g) (n1 : ¬ rowB B1 g) (n2 : ¬ rowB B2 g) (hs : Small l) (hr : Rising l.held)
    (hq : ∀ C0 e0 H', H' g = some (.cells [Value.slice C0 (takeM l.held x).length e0, .slice B1 l.waits.length d1, .slice B2 l.inner.length d2].toArray ty (0, 0)) → OwnL H0 H' C0 e0 B1 d1 B2 d2 ⟨takeM l.held x, l.waits, l.inner⟩ → ¬ rowB C0 g → (∀ q, H' q ≠ H q → q = g ∨ rowB B0 q ∨ H q = none) → (∀ q, rowB C0 q → rowB B0 q ∨ H q = none) → Q (.tuple #[]) H') :
    HCalls Try.prog 40 [.pointer (some ⟨g, 0, none⟩), .agg #[.string x.thing, .int .i64 x.txn, .bool x.share]] H Q := by
  refine f40.ok _ _ _ _ _ ?_
  unfold f40
  have hl := ow.at hs
  refine ⟨B0, l.held.length, d0, by rw [cl_cells hg]; rfl, c58 (t := x) (cmp := ordX x) hl.held (fnOk 49 rfl) hr.mono (fun y _ H' Q' hx hq' => c49 (b := x) hq') fun H3 hx3 => ⟨_, _, rfl, ?_⟩⟩
  have ow3 := ow.more hx3
  have hg3 := hx3 g _ hg
  have hpl := posL_le (cmp := ordX x) (l := l.held)
  refine cndI (fun hat => ?_) (fun hat => ?_)
  · obtain ⟨y, hy, _⟩ := isAt_get hat
    have hlt := (List.getElem?_eq_some_iff.1 hy).1
    refine jn_intro (fun J => ∀ C0 e0 H', H' g = some (.cells [Value.slice C0 (takeM l.held x).length e0, .slice B1 l.waits.length d1, .slice B2 l.inner.length d2].toArray ty (0, 0)) → OwnL H0 H' C0 e0 B1 d1 B2 d2 ⟨takeM l.held x, l.waits, l.inner⟩ → ¬ rowB C0 g → (∀ q, H' q ≠ H q → q = g ∨ rowB B0 q ∨ H q = none) → (∀ q, rowB C0 q → rowB B0 q ∨ H q = none) → J H') (fun C0 e0 H' h1 h2 h3 h4 h5 => hq C0 e0 H' h1 h2 h3 h4 h5) fun J hJ => ?_
    have keep3 : ∀ q, H q ≠ none → H3 q = H q := fun q hn => ext_at hx3 hn
    have et : takeM l.held x = l.held.set (posL (ordX x) l.held) ⟨y.thing, y.txn, y.share && x.share⟩ := by
      unfold takeM; rw [if_pos hat, hy]; rfl
    have fin : ∀ s, s = (y.share && x.share) → onPtr B0 fun b o => storeF H3 b ((o + (((posL (ordX x) l.held : Nat) : Int)).toNat * 3) + 2) [.bool s] fun H' => J H' := fun s hs' => by
      subst hs'
      rw [Int.toNat_natCast]
      refine Row.share ow3.held ow3.ext hy fun H' R' hx' hch => ?_
      have keep : ∀ b, H3 b ≠ none → ¬ rowB B0 b → H' b = H3 b := fun b _ hnb => Classical.byContradiction fun hne => hnb (hch b hne)
      have hlen : (l.held.set (posL (ordX x) l.held) ⟨y.thing, y.txn, y.share && x.share⟩).length = l.held.length := List.length_set
      rw [et] at hJ
      refine hJ B0 d0 H' ?_ ⟨hx', by rw [hlen]; exact R', ow3.waits.keep (fun b hb => keep b (ow3.waits.lt hb).1 (fun h => ow3.s01 b h hb)), ow3.inner.keep (fun b hb => keep b (ow3.inner.lt hb).1 (fun h => ow3.s02 b h hb)), ow3.s01, ow3.s02, ow3.s12⟩ n0 (fun q hne => ?_) (fun q h => .inl h)
      · rw [keep g (by rw [hg3]; simp) n0, hg3]
        simp only [hlen]
      · by_cases hn : H q = none
        · exact .inr (.inr hn)
        · exact .inr (.inl (hch q (by rw [keep3 q hn]; exact hne)))
    refine ⟨B0, l.held.length, d0, by rw [cl_cells hg3]; rfl, B0, l.held.length, d0, by rw [cl_cells hg3]; rfl, by omega, by omega, rd_lk (hl.held.ext hx3) hy fun p o _ _ _ k3 => ⟨y.share, by simpa using k3, cndI (fun h => ⟨by omega, by omega, fin x.share (by rw [h]; rfl)⟩) (fun h => ⟨by omega, by omega, fin false (by rw [h]; rfl)⟩)⟩⟩
  · refine ⟨B0, l.held.length, d0, by rw [cl_cells hg3]; rfl, fun gx hgx => ?_⟩
    have hx4 : Ext H3 (upd gx (.cells (lkC x).toArray 67 (0, 0)) H3) := Ext.new hgx
    have ow4 := ow3.more hx4
    have hg4 := hx4 g _ hg3
    have hgg : (upd gx (.cells (lkC x).toArray 67 (0, 0)) H3) gx = some (.cells (lkC x).toArray 67 (0, 0)) := upd_at
    have et : takeM l.held x = insL l.held (posL (ordX x) l.held) x := by
      unfold takeM; rw [if_neg (by rw [hat]; decide)]
    have hsb : l.held.length < big := hs.1
    refine c62 ow4.held ow4.ext hsb hpl hgg (fun hb => (ow3.held.lt hb).1 hgx) fun A' c' H' R' hx' hch hnew => ⟨_, _, _, rfl, ?_⟩
    have keep : ∀ b, (upd gx (.cells (lkC x).toArray 67 (0, 0)) H3) b ≠ none → ¬ rowB B0 b → H' b = (upd gx (.cells (lkC x).toArray 67 (0, 0)) H3) b := fun b hb hnb => Classical.byContradiction fun hne => by
      rcases hch b hne with h | h
      · exact hnb h
      · exact hb h
    have hg5 : H' g = some (.cells [Value.slice B0 l.held.length d0, .slice B1 l.waits.length d1, .slice B2 l.inner.length d2].toArray ty (0, 0)) := by rw [keep g (by rw [hg4]; simp) n0, hg4]
    have sepA : ∀ b, rowB A' b → (upd gx (.cells (lkC x).toArray 67 (0, 0)) H3) b ≠ none → rowB B0 b := fun b hb hn => (hnew b hb).resolve_right hn
    have hgA : ¬ rowB A' g := fun h => n0 (sepA g h (by rw [hg4]; simp))
    refine ⟨_, ty, hg5, by simp, ?_⟩
    rw [et] at hq
    have hlen := insL_len (x := x) hpl
    have off : ∀ (o : Obj) b, b ≠ g → (upd g o H') b = H' b := fun o b hb => upd_off hb
    have keep4 : ∀ q, H q ≠ none → (upd gx (.cells (lkC x).toArray 67 (0, 0)) H3) q = H q := fun q hn => ext_at (hx3.trans hx4) hn
    refine hq A' c' _ ?_ ⟨hx'.upd hg0, ?_, ?_, ?_, fun b h0 h1 => ?_, fun b h0 h2 => ?_, ow4.s12⟩ hgA (fun q hne => ?_) (fun q hq' => ?_)
    · rw [upd_at]
      simp only [hlen]
      rfl
    · simp only [hlen]
      exact R'.keep (fun b hb => off _ b (fun e => hgA (e ▸ hb)))
    · exact ow4.waits.keep (fun b hb => (off _ b (fun e => n1 (e ▸ hb))).trans (keep b (ow4.waits.lt hb).1 (fun h => ow4.s01 b h hb)))
    · exact ow4.inner.keep (fun b hb => (off _ b (fun e => n2 (e ▸ hb))).trans (keep b (ow4.inner.lt hb).1 (fun h => ow4.s02 b h hb)))
    · exact ow4.s01 b (sepA b h0 (ow4.waits.lt h1).1) h1
    · exact ow4.s02 b (sepA b h0 (ow4.inner.lt h2).1) h2
    · by_cases e : q = g
      · exact .inl e
      · rw [off _ q e] at hne
        by_cases hn : H q = none
        · exact .inr (.inr hn)
        · rcases hch q (fun e => hne (e.trans (keep4 q hn))) with h | h
          · exact .inr (.inl h)
          · exact absurd ((keep4 q hn).symm.trans h) hn
    · rcases hnew q hq' with h | h
      · exact .inl h
      · by_cases hn : H q = none
        · exact .inr hn
        · exact absurd ((keep4 q hn).symm.trans h) hn
theorem c40 {g : Nat} {l : LK} {x : Lk} (o : OutL H0 H g l) (hs : Small l) (hr : Rising l.held) (hq : ∀ H', OutL H0 H' g ⟨takeM l.held x, l.waits, l.inner⟩ → Q (.tuple #[]) H') :
    HCalls Try.prog 40 [.pointer (some ⟨g, 0, none⟩), .agg #[.string x.thing, .int .i64 x.txn, .bool x.share]] H Q := by
  obtain ⟨B0, d0, B1, d1, B2, d2, ty, hg, ow, hg0, n0, n1, n2⟩ := o
  exact c40x hg ow hg0 n0 n1 n2 hs hr fun C0 e0 H' h1 h2 h3 _ _ => hq H' ⟨C0, e0, B1, d1, B2, d2, ty, h1, h2, hg0, h3, n1, n2⟩
end
end Go.Proofs.Ytkbancdmhcnhjaa.Hw
