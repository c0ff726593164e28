/- Locks: copies on blocks of their own. -/
import Derived.Test.YtkbancdmhcnhjaaLd
set_option linter.unusedVariables false
set_option linter.unusedSimpArgs false
namespace Go.Proofs.Ytkbancdmhcnhjaa.Hw
open Go Go.Proofs
/-- How far a copy is: not begun; an empty slice on block g; filled. -/
inductive Sl where
  | no | opened (g : Nat) | full (A : Option Addr) (c : Nat)
def Sl.blk : Sl → Nat → Prop
  | .no, _ => False
  | .opened g, b => b = g
  | .full A _, b => rowB A b
def Sl.row (H0 H : Hp) (n esz : Nat) (vals : List Value) : Sl → Prop
  | .no => True
  | .opened g => Row H0 H (some ⟨g, 0, none⟩) 0 0 esz []
  | .full A c => Row H0 H A n c esz vals
theorem Sl.row_lt {H0 H : Hp} {n esz : Nat} {vals : List Value} : ∀ {s : Sl}, s.row H0 H n esz vals → ∀ {b}, s.blk b → H b ≠ none ∧ H0 b = none
  | .no, _, b, hb => hb.elim
  | .opened g, h, b, hb => by
    have hb : b = g := hb
    subst hb
    exact Row.lt h ⟨_, _, rfl⟩
  | .full A c, h, b, hb => Row.lt h hb
theorem Sl.row_keep {H0 H H' : Hp} {n esz : Nat} {vals : List Value} : ∀ {s : Sl}, s.row H0 H n esz vals → (∀ b, s.blk b → H' b = H b) → s.row H0 H' n esz vals
  | .no, _, _ => trivial
  | .opened g, h, hk => Row.keep h (fun b ⟨o, q, e⟩ => hk b (by cases e; rfl))
  | .full A c, h, hk => Row.keep h hk
/-- Three copies under way. -/
structure Cp (H0 : Hp) (na nb nc : Nat) (va vb vc : List Value) (a b c : Sl) (H : Hp) : Prop where
  ext : Ext H0 H
  ra : a.row H0 H na 3 va
  rb : b.row H0 H nb 3 vb
  rc : c.row H0 H nc 2 vc
  ab : ∀ x, a.blk x → ¬ b.blk x
  ac : ∀ x, a.blk x → ¬ c.blk x
  bc : ∀ x, b.blk x → ¬ c.blk x
theorem row_new {H0 H : Hp} {g ty esz : Nat} (hx : Ext H0 H) (hg : H g = none) : Row H0 (upd g (.cells ([] : List Value).toArray ty (0, 0)) H) (some ⟨g, 0, none⟩) 0 0 esz [] := ⟨by simp, Nat.le_refl _, .inr ⟨g, [], ty, rfl, upd_at, by simp, by simp, hx.none hg⟩⟩
theorem fillF {H0 H : Hp} {g n el esz eby : Nat} {A : Option Addr} {vals : List Value} {K : Option Addr → Nat → Nat → Hp → Prop} (R : Row H0 H (some ⟨g, 0, none⟩) 0 0 esz []) (hx : Ext H0 H) (hA : cellsAt H0 A vals) (hl : vals.length = n * esz) (ho : ∀ v ∈ vals, v.oneCell' = true) (hz1 : n * eby ≤ 140737488355328) (hz2 : n ≤ 140737488355328)
    (hk : ∀ A' c' H', Row H0 H' A' n c' esz vals → Ext H0 H' → (∀ x, H' x ≠ H x → x = g ∨ H x = none) → (∀ x, rowB A' x → x = g ∨ H x = none) → K A' n c' H') : appendF H el esz eby (some ⟨g, 0, none⟩) 0 0 A n K := by
  refine R.append hx (cellsAt_ext hx hA) hl ho (by rw [Nat.zero_add]; exact hz1) (by rw [Nat.zero_add]; exact hz2) ?_
  intro A' c' H' hrow hx3 hch hnew _
  rw [Nat.zero_add, List.nil_append] at hrow
  rw [Nat.zero_add]
  have own : ∀ x, rowB (some ⟨g, 0, none⟩ : Option Addr) x → x = g := fun x ⟨o, q, e⟩ => by cases e; rfl
  exact hk A' c' H' hrow hx3 (fun x hx => (hch x hx).2.imp (own x) id) (fun x hx => (hnew x hx).imp (own x) id)
section
variable {H0 H : Hp} {na nb nc : Nat} {va vb vc : List Value} {a b c : Sl}
theorem Cp.newA (S : Cp H0 na nb nc va vb vc .no b c H) {K : Nat → Hp → Prop} (hk : ∀ g H', Cp H0 na nb nc va vb vc (.opened g) b c H' → K g H') : newF H 67 [] K := by
  intro g hg
  exact hk g _ ⟨S.ext.trans (Ext.new hg), row_new S.ext hg, Sl.row_keep S.rb (fun q hq => upd_off (fun e => (Sl.row_lt S.rb hq).1 (e ▸ hg))), Sl.row_keep S.rc (fun q hq => upd_off (fun e => (Sl.row_lt S.rc hq).1 (e ▸ hg))), fun x hx hb => by cases (show x = g from hx); exact (Sl.row_lt S.rb hb).1 hg, fun x hx hc => by cases (show x = g from hx); exact (Sl.row_lt S.rc hc).1 hg, S.bc⟩
theorem Cp.fillA {g : Nat} (S : Cp H0 na nb nc va vb vc (.opened g) b c H) {A : Option Addr} {K : Option Addr → Nat → Nat → Hp → Prop} (hA : cellsAt H0 A va) (hl : va.length = na * 3) (ho : ∀ v ∈ va, v.oneCell' = true) (hz : na * 32 ≤ 140737488355328)
    (hk : ∀ A' c' H', Cp H0 na nb nc va vb vc (.full A' c') b c H' → K A' na c' H') : appendF H 67 3 32 (some ⟨g, 0, none⟩) 0 0 A na K :=
  fillF S.ra S.ext hA hl ho (by omega) (by omega) fun A' c' H' hrow hx hch hnew => hk A' c' H' ⟨hx, hrow, Sl.row_keep S.rb (fun q hq => Classical.byContradiction fun hne => (hch q hne).elim (fun e => S.ab q (e ▸ rfl) hq) (fun e => (Sl.row_lt S.rb hq).1 e)), Sl.row_keep S.rc (fun q hq => Classical.byContradiction fun hne => (hch q hne).elim (fun e => S.ac q (e ▸ rfl) hq) (fun e => (Sl.row_lt S.rc hq).1 e)), fun x hx hb => (hnew x hx).elim (fun e => S.ab x (e ▸ rfl) hb) (fun e => (Sl.row_lt S.rb hb).1 e), fun x hx hc => (hnew x hx).elim (fun e => S.ac x (e ▸ rfl) hc) (fun e => (Sl.row_lt S.rc hc).1 e), S.bc⟩
theorem Cp.newB (S : Cp H0 na nb nc va vb vc a .no c H) {K : Nat → Hp → Prop} (hk : ∀ g H', Cp H0 na nb nc va vb vc a (.opened g) c H' → K g H') : newF H 42 [] K := by
  intro g hg
  exact hk g _ ⟨S.ext.trans (Ext.new hg), Sl.row_keep S.ra (fun q hq => upd_off (fun e => (Sl.row_lt S.ra hq).1 (e ▸ hg))), row_new S.ext hg, Sl.row_keep S.rc (fun q hq => upd_off (fun e => (Sl.row_lt S.rc hq).1 (e ▸ hg))), fun x ha hx => by cases (show x = g from hx); exact (Sl.row_lt S.ra ha).1 hg, S.ac, fun x hx hc => by cases (show x = g from hx); exact (Sl.row_lt S.rc hc).1 hg⟩
theorem Cp.fillB {g : Nat} (S : Cp H0 na nb nc va vb vc a (.opened g) c H) {A : Option Addr} {K : Option Addr → Nat → Nat → Hp → Prop} (hA : cellsAt H0 A vb) (hl : vb.length = nb * 3) (ho : ∀ v ∈ vb, v.oneCell' = true) (hz : nb * 32 ≤ 140737488355328)
    (hk : ∀ A' c' H', Cp H0 na nb nc va vb vc a (.full A' c') c H' → K A' nb c' H') : appendF H 42 3 32 (some ⟨g, 0, none⟩) 0 0 A nb K :=
  fillF S.rb S.ext hA hl ho (by omega) (by omega) fun A' c' H' hrow hx hch hnew => hk A' c' H' ⟨hx, Sl.row_keep S.ra (fun q hq => Classical.byContradiction fun hne => (hch q hne).elim (fun e => S.ab q hq (e ▸ rfl)) (fun e => (Sl.row_lt S.ra hq).1 e)), hrow, Sl.row_keep S.rc (fun q hq => Classical.byContradiction fun hne => (hch q hne).elim (fun e => S.bc q (e ▸ rfl) hq) (fun e => (Sl.row_lt S.rc hq).1 e)), fun x ha hx => (hnew x hx).elim (fun e => S.ab x ha (e ▸ rfl)) (fun e => (Sl.row_lt S.ra ha).1 e), S.ac, fun x hx hc => (hnew x hx).elim (fun e => S.bc x (e ▸ rfl) hc) (fun e => (Sl.row_lt S.rc hc).1 e)⟩
theorem Cp.newC (S : Cp H0 na nb nc va vb vc a b .no H) {K : Nat → Hp → Prop} (hk : ∀ g H', Cp H0 na nb nc va vb vc a b (.opened g) H' → K g H') : newF H 53 [] K := by
  intro g hg
  exact hk g _ ⟨S.ext.trans (Ext.new hg), Sl.row_keep S.ra (fun q hq => upd_off (fun e => (Sl.row_lt S.ra hq).1 (e ▸ hg))), Sl.row_keep S.rb (fun q hq => upd_off (fun e => (Sl.row_lt S.rb hq).1 (e ▸ hg))), row_new S.ext hg, S.ab, fun x ha hx => by cases (show x = g from hx); exact (Sl.row_lt S.ra ha).1 hg, fun x hb hx => by cases (show x = g from hx); exact (Sl.row_lt S.rb hb).1 hg⟩
theorem Cp.fillC {g : Nat} (S : Cp H0 na nb nc va vb vc a b (.opened g) H) {A : Option Addr} {K : Option Addr → Nat → Nat → Hp → Prop} (hA : cellsAt H0 A vc) (hl : vc.length = nc * 2) (ho : ∀ v ∈ vc, v.oneCell' = true) (hz : nc * 32 ≤ 140737488355328)
    (hk : ∀ A' c' H', Cp H0 na nb nc va vb vc a b (.full A' c') H' → K A' nc c' H') : appendF H 53 2 16 (some ⟨g, 0, none⟩) 0 0 A nc K :=
  fillF S.rc S.ext hA hl ho (by omega) (by omega) fun A' c' H' hrow hx hch hnew => hk A' c' H' ⟨hx, Sl.row_keep S.ra (fun q hq => Classical.byContradiction fun hne => (hch q hne).elim (fun e => S.ac q hq (e ▸ rfl)) (fun e => (Sl.row_lt S.ra hq).1 e)), Sl.row_keep S.rb (fun q hq => Classical.byContradiction fun hne => (hch q hne).elim (fun e => S.bc q hq (e ▸ rfl)) (fun e => (Sl.row_lt S.rb hq).1 e)), hrow, S.ab, fun x ha hx => (hnew x hx).elim (fun e => S.ac x ha (e ▸ rfl)) (fun e => (Sl.row_lt S.ra ha).1 e), fun x hb hx => (hnew x hx).elim (fun e => S.bc x hb (e ▸ rfl)) (fun e => (Sl.row_lt S.rb hb).1 e)⟩
end
/-- Locks on blocks of their own. -/
structure OwnL (H0 H : Hp) (B0 : Option Addr) (d0 : Nat) (B1 : Option Addr) (d1 : Nat) (B2 : Option Addr) (d2 : Nat) (l : LK) : Prop where
  ext : Ext H0 H
  held : Row H0 H B0 l.held.length d0 3 (l.held.flatMap lkC)
  waits : Row H0 H B1 l.waits.length d1 3 (l.waits.flatMap wtC)
  inner : Row H0 H B2 l.inner.length d2 2 (l.inner.flatMap prC)
  s01 : ∀ b, rowB B0 b → ¬ rowB B1 b
  s02 : ∀ b, rowB B0 b → ¬ rowB B2 b
  s12 : ∀ b, rowB B1 b → ¬ rowB B2 b
/-- How much room locks take: few enough. -/
def Small (l : LK) : Prop := l.held.length < big ∧ l.waits.length < big ∧ l.inner.length < big ∧ StrOk l
theorem OwnL.at {H0 H : Hp} {B0 B1 B2 : Option Addr} {d0 d1 d2 : Nat} {l : LK} (o : OwnL H0 H B0 d0 B1 d1 B2 d2 l) (hs : Small l) : LocksAt H B0 l.held.length d0 B1 l.waits.length d1 B2 l.inner.length d2 l := by
  unfold Small big at hs
  exact ⟨⟨rfl, o.held.cells, by unfold huge; omega⟩, ⟨rfl, o.waits.cells, by unfold huge; omega⟩, ⟨rfl, o.inner.cells, by unfold huge; omega⟩, o.held.2.1, o.waits.2.1, o.inner.2.1, hs.2.2.2⟩
section
variable {H : Hp} {Q : Value → Hp → Prop}
theorem c50 {H0 : Hp} {A : Option Addr} {n c : Nat} {l : List Lk} (hx : Ext H0 H) (hA : SlAt lkC H A n l) (hs : l.length < big) (hq : ∀ B d H', Row H0 H' B l.length d 3 (l.flatMap lkC) → Ext H H' → (∀ b, rowB B b → H b = none) → Q (.slice B l.length d) H') :
    HCalls Try.prog 50 [.slice A n c] H Q := by
  refine f50.ok _ _ _ ?_
  unfold f50
  obtain rfl := hA.len
  unfold big at hs
  refine cndI (fun h => ?_) (fun h => freshRow hx hA.cells lkC_len lkC_one (by omega) (by omega) fun A' c' H' hr hx' hb => hq A' c' H' hr hx' hb)
  have hn : A = none := by simpa using h
  subst hn
  have he : l = [] := by
    rcases hA.cells with h | ⟨b, o, h, _⟩
    · cases l with
      | nil => rfl
      | cons x r => simp [lkC] at h
    · cases h
  subst he
  exact hq none 0 H Row.nil (Ext.refl H) (fun b ⟨o, q, e⟩ => by cases e)
theorem c51 {H0 : Hp} {A : Option Addr} {n c : Nat} {l : List Wt} (hx : Ext H0 H) (hA : SlAt wtC H A n l) (hs : l.length < big) (hq : ∀ B d H', Row H0 H' B l.length d 3 (l.flatMap wtC) → Ext H H' → (∀ b, rowB B b → H b = none) → Q (.slice B l.length d) H') :
    HCalls Try.prog 51 [.slice A n c] H Q := by
  refine f51.ok _ _ _ ?_
  unfold f51
  obtain rfl := hA.len
  unfold big at hs
  refine cndI (fun h => ?_) (fun h => freshRow hx hA.cells wtC_len wtC_one (by omega) (by omega) fun A' c' H' hr hx' hb => hq A' c' H' hr hx' hb)
  have hn : A = none := by simpa using h
  subst hn
  have he : l = [] := by
    rcases hA.cells with h | ⟨b, o, h, _⟩
    · cases l with
      | nil => rfl
      | cons x r => simp [wtC] at h
    · cases h
  subst he
  exact hq none 0 H Row.nil (Ext.refl H) (fun b ⟨o, q, e⟩ => by cases e)
theorem c52 {H0 : Hp} {A : Option Addr} {n c : Nat} {l : List (Int × Int)} (hx : Ext H0 H) (hA : SlAt prC H A n l) (hs : l.length < big) (hq : ∀ B d H', Row H0 H' B l.length d 2 (l.flatMap prC) → Ext H H' → (∀ b, rowB B b → H b = none) → Q (.slice B l.length d) H') :
    HCalls Try.prog 52 [.slice A n c] H Q := by
  refine f52.ok _ _ _ ?_
  unfold f52
  obtain rfl := hA.len
  unfold big at hs
  refine cndI (fun h => ?_) (fun h => freshRow hx hA.cells prC_len prC_one (by omega) (by omega) fun A' c' H' hr hx' hb => hq A' c' H' hr hx' hb)
  have hn : A = none := by simpa using h
  subst hn
  have he : l = [] := by
    rcases hA.cells with h | ⟨b, o, h, _⟩
    · cases l with
      | nil => rfl
      | cons x r => simp [prC] at h
    · cases h
  subst he
  exact hq none 0 H Row.nil (Ext.refl H) (fun b ⟨o, q, e⟩ => by cases e)
theorem c27 {A0 A1 A2 : Option Addr} {n0 c0 n1 c1 n2 c2 : Nat} {l : LK} (hl : LocksAt H A0 n0 c0 A1 n1 c1 A2 n2 c2 l) (hs : Small l) (hq : ∀ B0 d0 B1 d1 B2 d2 H', OwnL H H' B0 d0 B1 d1 B2 d2 l → Q (.agg #[.slice B0 l.held.length d0, .slice B1 l.waits.length d1, .slice B2 l.inner.length d2]) H') :
    HCalls Try.prog 27 [.agg #[.slice A0 n0 c0, .slice A1 n1 c1, .slice A2 n2 c2]] H Q := by
  refine f27.ok _ _ _ _ _ _ _ _ _ ?_
  unfold f27
  refine c50 (Ext.refl H) hl.held hs.1 fun B0 d0 H2 r0 x0 b0 => ⟨_, _, _, rfl, c51 x0 (hl.waits.ext x0) hs.2.1 fun B1 d1 H5 r1 x1 b1 => ⟨_, _, _, rfl, c52 (x0.trans x1) ((hl.inner.ext x0).ext x1) hs.2.2.1 fun B2 d2 H8 r2 x2 b2 => ⟨_, _, _, rfl, ?_⟩⟩⟩
  have keep : ∀ {H H' : Hp} {b : Nat}, Ext H H' → H b ≠ none → H' b = H b := fun {H H' b} hx hn => by
    cases h : H b with
    | none => exact absurd h hn
    | some o => exact hx b o h
  have r0' := r0.keep (fun b hb => keep x1 (r0.lt hb).1)
  have r1' := r1.keep (fun b hb => keep x2 (r1.lt hb).1)
  refine hq B0 d0 B1 d1 B2 d2 H8 ⟨(x0.trans x1).trans x2, r0'.keep (fun b hb => keep x2 (r0'.lt hb).1), r1', r2, fun b h0 h1 => (r0.lt h0).1 (b1 b h1), fun b h0 h2 => (r0'.lt h0).1 (b2 b h2), fun b h1 h2 => (r1.lt h1).1 (b2 b h2)⟩
end
end Go.Proofs.Ytkbancdmhcnhjaa.Hw
