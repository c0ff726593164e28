/- Locks: the program's Ask. -/
import Derived.Test.YtkbancdmhcnhjaaLq
set_option linter.unusedVariables false
set_option linter.unusedSimpArgs false
namespace Go.Proofs.Ytkbancdmhcnhjaa.Hw
open Go Go.Proofs
section
variable {H0 H : Hp} {Q : Value → Hp → Prop}
/-- Locks of one's own, put behind a pointer. -/
theorem OwnL.out {B0 B1 B2 : Option Addr} {d0 d1 d2 : Nat} {l : LK} {K : Nat → Hp → Prop} (o : OwnL H0 H B0 d0 B1 d1 B2 d2 l) (hk : ∀ g H', OutL H0 H' g l → Ext H H' → K g H') :
    newF H 28 [.slice none 0 0, .slice none 0 0, .slice none 0 0] fun g H32 => storeF H32 g 0 [.slice B0 l.held.length d0, .slice B1 l.waits.length d1, .slice B2 l.inner.length d2] fun H33 => K g H33 := by
  intro g hg
  have hx : Ext H (upd g (.cells [Value.slice none 0 0, .slice none 0 0, .slice none 0 0].toArray 28 (0, 0)) H) := Ext.new hg
  refine ⟨_, _, upd_at, by simp, ?_⟩
  rw [upd_twice]
  have hx2 : Ext H (upd g (.cells (setR [Value.slice none 0 0, .slice none 0 0, .slice none 0 0] 0 [.slice B0 l.held.length d0, .slice B1 l.waits.length d1, .slice B2 l.inner.length d2]).toArray 28 (0, 0)) H) := Ext.new hg
  exact hk g _ ⟨B0, d0, B1, d1, B2, d2, 28, upd_at, o.more hx2, o.ext.none hg, fun h => (o.held.lt h).1 hg, fun h => (o.waits.lt h).1 hg, fun h => (o.inner.lt h).1 hg⟩ hx2
/-- What lies behind the pointer, handed back. -/
theorem OutL.give {g : Nat} {l : LK} {P : Option Addr → Nat → Nat → Option Addr → Nat → Nat → Option Addr → Nat → Nat → Prop} (o : OutL H0 H g l) (hk : ∀ B0 d0 B1 d1 B2 d2, OwnL H0 H B0 d0 B1 d1 B2 d2 l → P B0 l.held.length d0 B1 l.waits.length d1 B2 l.inner.length d2) :
    ∃ (A54 : Option Addr) (n54 c22 : Nat), cl H g 0 = some (.slice A54 n54 c22) ∧ ∃ (A55 : Option Addr) (n55 c55g : Nat), cl H g (0 + 1) = some (.slice A55 n55 c55g) ∧ ∃ (A56 : Option Addr) (n56 c42 : Nat), cl H g ((0 + 1) + 1) = some (.slice A56 n56 c42) ∧ P A54 n54 c22 A55 n55 c55g A56 n56 c42 := by
  obtain ⟨B0, d0, B1, d1, B2, d2, ty, hg, ow, _⟩ := o
  exact ⟨B0, l.held.length, d0, by rw [cl_cells hg]; rfl, B1, l.waits.length, d1, by rw [cl_cells hg]; rfl, B2, l.inner.length, d2, by rw [cl_cells hg]; rfl, hk _ _ _ _ _ _ ow⟩
theorem OutL.give2 {g : Nat} {l : LK} {P : Option Addr → Nat → Nat → Prop} (o : OutL H0 H g l) (hk : ∀ B1 d1, P B1 l.waits.length d1) : ∃ (A55 : Option Addr) (n55 c55g : Nat), cl H g (0 + 1) = some (.slice A55 n55 c55g) ∧ P A55 n55 c55g := by
  obtain ⟨B0, d0, B1, d1, B2, d2, ty, hg, ow, _⟩ := o
  exact ⟨B1, l.waits.length, d1, by rw [cl_cells hg]; rfl, hk _ _⟩
theorem OutL.ext0 {g : Nat} {l : LK} (o : OutL H0 H g l) : Ext H0 H := by
  obtain ⟨B0, d0, B1, d1, B2, d2, ty, hg, ow, _⟩ := o
  exact ow.ext
theorem c15 {A0 A1 A2 : Option Addr} {n0 c0 n1 c1 n2 c2 : Nat} {l : LK} {txn : Int} {thing : ByteArray} {share : Bool} (hl : LocksAt H A0 n0 c0 A1 n1 c1 A2 n2 c2 l) (hb : thing.size < huge) (hq : AskR H Q (askM l txn thing share)) :
    HCalls Try.prog 15 [.agg #[.slice A0 n0 c0, .slice A1 n1 c1, .slice A2 n2 c2], .int .i64 txn, .string thing, .bool share] H Q := by
  refine f15.ok _ _ _ _ _ _ _ _ _ _ _ _ ?_
  unfold f15
  unfold askM at hq
  intro g1 hg1
  have hx1 : Ext H (upd g1 (.cells [Value.int .i64 txn].toArray 3 (0, 0)) H) := Ext.new hg1
  have ht1 : cl (upd g1 (.cells [Value.int .i64 txn].toArray 3 (0, 0)) H) g1 0 = some (.int .i64 txn) := by rw [cl_cells upd_at]; rfl
  generalize (upd g1 (.cells [Value.int .i64 txn].toArray 3 (0, 0)) H) = H2 at hx1 ht1 ⊢
  refine jn_intro (fun J => ∀ b H', Ext H2 H' → b = !(validM l && (numB txn && thingB thing)) → J b H') (fun b H14 hx14 hb' => ?_) fun J hJ => c10 (hl.ext hx1) fun H4 hx4 => ⟨_, rfl, cndI (fun h => hJ true _ hx4 ?_) (fun h => ⟨txn, cl_ext hx4 ht1, c26 ⟨_, rfl, cndI (fun h2 => hJ true _ hx4 ?_) (fun h2 => c25 (by unfold huge at hb; omega) ⟨_, rfl, hJ _ _ hx4 ?_⟩)⟩⟩)⟩
  rotate_left
  · have h : validM l = false := by simpa using h
    rw [h]; rfl
  · have h2 : numB txn = false := by simpa using h2
    rw [h2]; simp
  · have h : validM l = true := by simpa using h
    have h2 : numB txn = true := by simpa using h2
    rw [h, h2]; simp
  subst hb'
  refine cndI (fun hbad => ?_) (fun hgood => ?_)
  · rw [Bool.not_eq_true'] at hbad
    rw [if_neg (by rw [hbad]; decide)] at hq
    exact hq.err (hx1.trans hx14)
  have hok : (validM l && (numB txn && thingB thing)) = true := by simpa using hgood
  rw [if_pos hok] at hq
  simp only [Bool.and_eq_true] at hok
  obtain ⟨hv, hnum, hth⟩ := hok
  have hlens := valid_lens hv
  have hts : thing.size < huge := by have := thing_size hth; unfold huge; omega
  have hr := valid_rising hv
  have hl14 := (hl.ext hx1).ext hx14
  have ht14 := cl_ext hx14 ht1
  refine jn_intro (fun J => ∀ b H', Ext H14 H' → b = ((l.waits.any fun w => w.txn == txn) || (l.inner.any fun p => p.1 == txn)) → J b H') (fun b H24 hx24 hb' => ?_) fun J hJ => ⟨txn, ht14, c35 hl14 fun H18 hx18 => ⟨_, rfl, cndI (fun h => hJ true _ hx18 ?_) (fun h => c36 (g := fun p => p.1 == txn) (hl14.ext hx18).inner (fnOk 37 rfl) (fun p _ Q' hq' => c37 (cl_ext hx18 ht14) hq') ⟨_, rfl, hJ _ _ hx18 ?_⟩)⟩⟩
  rotate_left
  · rw [h]; rfl
  · rw [h]; rfl
  have hx24' := (hx1.trans hx14).trans hx24
  subst hb'
  refine cndI (fun hw => ?_) (fun hw => ?_)
  · rw [if_pos hw] at hq
    exact hq.err hx24'
  rw [if_neg (by rw [hw]; decide)] at hq
  have hwt : (l.waits.any fun w => w.txn == txn) = false := (Bool.or_eq_false_iff.1 hw).1
  have hl24 := hl14.ext hx24
  have ht24 := cl_ext hx24 ht14
  refine c27 hl24 (small_of hv hl.str) fun B0 d0 B1 d1 B2 d2 H27 ow => ⟨_, _, _, _, _, _, _, _, _, rfl, ow.out fun g H33 out hx33 => ⟨txn, cl_ext hx33 (cl_ext ow.ext ht24), c38 ((hl24.ext ow.ext).ext hx33) hr fun H36 hx36 => ⟨_, _, _, _, rfl, ?_⟩⟩⟩
  have out36 := out.more hx36
  have hl36 := ((hl24.ext ow.ext).ext hx33).ext hx36
  have ht36 := cl_ext hx36 (cl_ext hx33 (cl_ext ow.ext ht24))
  refine jn_intro (fun J => ∀ b, b = ((heldM l.held txn thing).isSome && (share || !((heldM l.held txn thing).getD zeroLk).share)) → J b) (fun b hb' => ?_) fun J hJ => cndI (fun h1 => cndI (fun h2 => hJ _ ?_) (fun h2 => hJ _ ?_)) (fun h1 => hJ _ ?_)
  rotate_left
  · rw [h1, Bool.true_and, h2, Bool.true_or]
  · rw [h1, h2, Bool.false_or, Bool.true_and]
  · rw [h1]; rfl
  subst hb'
  refine cndI (fun h1 => ?_) (fun h1 => ?_)
  · rw [if_pos h1] at hq
    exact out36.give fun E0 e0 E1 e1 E2 e2 ow' => hq _ _ _ _ _ _ H36 (hx24'.trans ow'.ext) (ow'.at (small_of hv hl.str))
  rw [if_neg (by rw [h1]; decide)] at hq
  refine ⟨txn, ht36, c39 (x := ⟨thing, txn, share⟩) hl36 hl36.waits hr fun H48 hx48 => ⟨_, rfl, cndI (fun hf => ?_) (fun hf => ?_)⟩⟩
  · have hf : freeM l.held l.waits txn thing share = true := hf
    rw [if_pos hf] at hq
    have en0 := hl.held.len
    have en1 := hl.waits.len
    subst en0
    subst en1
    rw [wrap_add (by omega)]
    have ed : decide (((l.held.length + l.waits.length : Nat) : Int) < 5000) = decide (l.held.length + l.waits.length < 5000) := decide_eq_decide.2 (by omega)
    rw [ed]
    refine jn_intro (fun J => ∀ b, b = (!(heldM l.held txn thing).isSome && !decide (l.held.length + l.waits.length < 5000)) → J b) (fun b hb' => ?_) fun J hJ => cndI (fun h1 => hJ _ ?_) (fun h1 => hJ _ ?_)
    rotate_left
    · rw [h1, Bool.true_and]
    · rw [h1]; rfl
    subst hb'
    refine cndI (fun h1 => ?_) (fun h1 => ?_)
    · rw [if_pos h1] at hq
      exact hq.err ((hx24'.trans out36.ext0).trans hx48)
    · rw [if_neg (by rw [h1]; decide)] at hq
      exact c40 (x := ⟨thing, txn, share⟩) (out36.more hx48) (small_of hv hl.str) hr fun H53 out53 => ⟨rfl, out53.give fun E0 e0 E1 e1 E2 e2 ow' => hq _ _ _ _ _ _ H53 (hx24'.trans ow'.ext) (ow'.at (take_small hv hl.str hts))⟩
  · have hf : freeM l.held l.waits txn thing share = false := hf
    rw [if_neg (by rw [hf]; decide)] at hq
    obtain ⟨E0, e0, E1, e1, E2, e2, ty, hg, ow', hg0, m0, m1, m2⟩ := out36.more hx48
    refine ⟨E1, l.waits.length, e1, by rw [cl_cells hg]; rfl, txn, cl_ext hx48 ht36, fun gw hgw => ?_⟩
    refine ow'.pushW (w := ⟨txn, thing, share⟩) (by unfold big; omega) hgw fun A' c' H62 ow2 ch nw => ?_
    obtain ⟨ps, pt⟩ := push_ok (w := ⟨txn, thing, share⟩) hv hl.str hts
    have hg62 : H62 g = some (.cells [Value.slice E0 l.held.length e0, .slice E1 l.waits.length e1, .slice E2 l.inner.length e2].toArray ty (0, 0)) := by
      rw [← hg]
      refine Classical.byContradiction fun hne => ?_
      rcases ch g hne with h | h
      · exact m1 h
      · rw [hg] at h; cases h
    have mA : ¬ rowB A' g := fun h => by
      rcases nw g h with h | h
      · exact m1 h
      · rw [hg] at h; cases h
    refine ⟨_, ty, hg62, by simp, ?_⟩
    have el : (pushK l ⟨txn, thing, share⟩).waits.length = l.waits.length + 1 := by unfold pushK; simp
    have out63 : OutL H24 (upd g (.cells (setR [Value.slice E0 l.held.length e0, .slice E1 l.waits.length e1, .slice E2 l.inner.length e2] (0 + 1) [Value.slice A' (l.waits.length + 1) c']).toArray ty (0, 0)) H62) g (pushK l ⟨txn, thing, share⟩) := by
      have off : ∀ (o : Obj) b, b ≠ g → (upd g o H62) b = H62 b := fun o b hb => upd_off hb
      refine ⟨E0, e0, A', c', E2, e2, ty, ?_, ⟨ow2.ext.upd hg0, ow2.held.keep fun b hb => off _ b (fun e => m0 (e ▸ hb)), ow2.waits.keep fun b hb => off _ b (fun e => mA (e ▸ hb)), ow2.inner.keep fun b hb => off _ b (fun e => m2 (e ▸ hb)), ow2.s01, ow2.s02, ow2.s12⟩, hg0, m0, mA, m2⟩
      rw [upd_at, el]; rfl
    generalize (upd g (.cells (setR [Value.slice E0 l.held.length e0, .slice E1 l.waits.length e1, .slice E2 l.inner.length e2] (0 + 1) [Value.slice A' (l.waits.length + 1) c']).toArray ty (0, 0)) H62) = H63 at out63 ⊢
    refine out63.give fun F0 x0 F1 x1 F2 x2 ow3 => ?_
    have hl3 := ow3.at ps
    refine c41 hl3 pt hr fun b H68 hcb hx68 => ⟨_, rfl, ?_⟩
    rw [deadB_of hcb]
    have hxx := (hx24'.trans ow3.ext).trans hx68
    refine cndI (fun hd => ?_) (fun hd => ?_)
    · rw [if_pos hd] at hq
      exact hq.err hxx
    rw [if_neg (by rw [hd]; decide)] at hq
    have en0 := hl.held.len
    have en1 := hl.waits.len
    subst en0
    subst en1
    rw [wrap_add (by omega)]
    have ed : decide (((l.held.length + l.waits.length : Nat) : Int) < 5000) = decide (l.held.length + l.waits.length < 5000) := decide_eq_decide.2 (by omega)
    rw [ed]
    refine jn_intro (fun J => ∀ b, b = (!decide (l.held.length + l.waits.length < 5000) || decide (l.waits.length + 1 > 100)) → J b) (fun b hb' => ?_) fun J hJ => cndI (fun h1 => hJ _ ?_) (fun h1 => (out63.more hx68).give2 fun F1' x1' => hJ _ ?_)
    rotate_left
    · rw [h1]; rfl
    · rw [h1, Bool.false_or, el]
      exact decide_eq_decide.2 (by omega)
    subst hb'
    refine cndI (fun h1 => ?_) (fun h1 => ?_)
    · rw [if_pos h1] at hq
      exact hq.err hxx
    · rw [if_neg (by rw [h1]; decide)] at hq
      exact (out63.more hx68).give fun G0 y0 G1 y1 G2 y2 ow4 => hq _ _ _ _ _ _ H68 (hx24'.trans ow4.ext) (ow4.at ps)
end
end Go.Proofs.Ytkbancdmhcnhjaa.Hw
