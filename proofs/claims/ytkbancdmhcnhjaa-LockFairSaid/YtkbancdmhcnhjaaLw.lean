/- Locks: Free, Leave. -/
import Derived.Test.YtkbancdmhcnhjaaLv
set_option linter.unusedVariables false
set_option linter.unusedSimpArgs false
namespace Go.Proofs.Ytkbancdmhcnhjaa.Hw
open Go Go.Proofs
def freeLM (l : LK) (t : Int) : LK × List Int × Int :=
  if validM l && numB t then
    (⟨(wakeM (l.held.filter fun x => !(x.txn == t)) (l.waits.filter fun w => !(w.txn == t))).1, (wakeM (l.held.filter fun x => !(x.txn == t)) (l.waits.filter fun w => !(w.txn == t))).2.1, l.inner.filter fun p => !(p.1 == t || p.2 == t)⟩,
      (wakeM (l.held.filter fun x => !(x.txn == t)) (l.waits.filter fun w => !(w.txn == t))).2.2, 0)
  else (nilK, [], 2)
def leaveM (l : LK) (t : Int) : LK × List Int × Int :=
  if validM l && numB t then
    if (l.waits.any fun w => w.txn == t) then
      (⟨(wakeM l.held (l.waits.filter fun w => !(w.txn == t))).1, (wakeM l.held (l.waits.filter fun w => !(w.txn == t))).2.1, l.inner⟩, (wakeM l.held (l.waits.filter fun w => !(w.txn == t))).2.2, 0)
    else (nilK, [], 4)
  else (nilK, [], 2)
theorem rising_filter {l : List Lk} {p : Lk → Bool} (h : Rising l) : Rising (l.filter p) := by
  rw [rising_pair] at h ⊢
  exact h.sublist List.filter_sublist
section
variable {H0 H : Hp} {Q : Value → Hp → Prop}
theorem row_ext {A : Option Addr} {n c k : Nat} {vs : List Value} {H' : Hp} (R : Row H0 H A n c k vs) (hx : Ext H0 H) (h : ∀ q, ¬ rowB A q → H' q = H q) : Ext H0 H' := fun q o hq => by
  rw [h q fun hb => by have := (R.lt hb).2; rw [this] at hq; cases hq]
  exact hx q o hq
def RowsR (H : Hp) (Q : Value → Hp → Prop) (r : LK × List Int × Int) : Prop := ∀ B0 d0 B1 d1 B2 d2 A c H', Ext H H' → LocksAt H' B0 r.1.held.length d0 B1 r.1.waits.length d1 B2 r.1.inner.length d2 r.1 → SlAt inC H' A r.2.1.length r.2.1 → r.2.1.length ≤ c →
  Q (.tuple #[.agg #[.slice B0 r.1.held.length d0, .slice B1 r.1.waits.length d1, .slice B2 r.1.inner.length d2], .slice A r.2.1.length c, .int .i64 r.2.2]) H'
theorem RowsR.err {n : Int} {H' : Hp} (h : RowsR H Q (nilK, [], n)) (hx : Ext H H') : Q (.tuple #[.agg #[.slice none 0 0, .slice none 0 0, .slice none 0 0], .slice none 0 0, .int .i64 n]) H' :=
  h none 0 none 0 none 0 none 0 H' hx (LocksAt.nil H') (nilI H') (Nat.le_refl _)
theorem OutL.delH {g : Nat} {l : LK} {f : Nat} {fa fc : Array Value} {p : Lk → Bool} {K : Hp → Prop} (o : OutL H0 H g l) (hs : l.held.length < big) (hf : FnOk Try.prog f)
    (hg : ∀ (x : Lk) (H' : Hp) (Q : Value → Hp → Prop), Ext H0 H' → Q (.bool (p x)) H' → HCalls Try.prog f (fa.toList ++ [.agg #[.string x.thing, .int .i64 x.txn, .bool x.share]] ++ fc.toList) H' Q) (hk : ∀ H', OutL H0 H' g ⟨l.held.filter fun x => !p x, l.waits, l.inner⟩ → K H') :
    ∃ (A21 : Option Addr) (n21 c18 : Nat), cl H g (0 + 0) = some (.slice A21 n21 c18) ∧ HCalls Try.prog 28 [.slice A21 n21 c18, .func (.func f) fa fc] H fun v22 H23 => ∃ (A24 : Option Addr) (n24 c24g : Nat), v22 = .slice A24 n24 c24g ∧ storeF H23 g (0 + 0) [.slice A24 n24 c24g] fun H25 => K H25 := by
  obtain ⟨B0, d0, B1, d1, B2, d2, ty, hc, ow, hg0, n0, n1, n2⟩ := o
  refine ⟨B0, l.held.length, d0, by rw [cl_cells hc]; rfl, c28 ow.held ow.ext rfl hs hf (fun x _ H' Q' hfr hq' => hg x H' Q' (row_ext ow.held ow.ext hfr) hq') fun H23 R x23 fr => ⟨_, _, _, rfl, _, ty, by rw [fr g n0]; exact hc, by simp, ?_⟩⟩
  have off : ∀ (o : Obj) b, b ≠ g → (upd g o H23) b = H23 b := fun o b hb => upd_off hb
  refine hk _ ⟨B0, d0, B1, d1, B2, d2, ty, by rw [upd_at]; rfl, ⟨x23.upd hg0, R.keep fun b hb => off _ b fun e => n0 (e ▸ hb), ow.waits.keep fun b hb => (off _ b fun e => n1 (e ▸ hb)).trans (fr b (fun h => ow.s01 b h hb)), ow.inner.keep fun b hb => (off _ b fun e => n2 (e ▸ hb)).trans (fr b (fun h => ow.s02 b h hb)), ow.s01, ow.s02, ow.s12⟩, hg0, n0, n1, n2⟩
theorem OutL.delW {g : Nat} {l : LK} {f : Nat} {fa fc : Array Value} {p : Wt → Bool} {K : Hp → Prop} (o : OutL H0 H g l) (hs : l.waits.length < big) (hf : FnOk Try.prog f)
    (hg : ∀ (x : Wt) (H' : Hp) (Q : Value → Hp → Prop), Ext H0 H' → Q (.bool (p x)) H' → HCalls Try.prog f (fa.toList ++ [.agg #[.int .i64 x.txn, .string x.thing, .bool x.share]] ++ fc.toList) H' Q) (hk : ∀ H', OutL H0 H' g ⟨l.held, l.waits.filter fun x => !p x, l.inner⟩ → K H') :
    ∃ (A21 : Option Addr) (n21 c18 : Nat), cl H g (0 + 1) = some (.slice A21 n21 c18) ∧ HCalls Try.prog 30 [.slice A21 n21 c18, .func (.func f) fa fc] H fun v22 H23 => ∃ (A24 : Option Addr) (n24 c24g : Nat), v22 = .slice A24 n24 c24g ∧ storeF H23 g (0 + 1) [.slice A24 n24 c24g] fun H25 => K H25 := by
  obtain ⟨B0, d0, B1, d1, B2, d2, ty, hc, ow, hg0, n0, n1, n2⟩ := o
  refine ⟨B1, l.waits.length, d1, by rw [cl_cells hc]; rfl, c30 ow.waits ow.ext rfl hs hf (fun x _ H' Q' hfr hq' => hg x H' Q' (row_ext ow.waits ow.ext hfr) hq') fun H23 R x23 fr => ⟨_, _, _, rfl, _, ty, by rw [fr g n1]; exact hc, by simp, ?_⟩⟩
  have off : ∀ (o : Obj) b, b ≠ g → (upd g o H23) b = H23 b := fun o b hb => upd_off hb
  refine hk _ ⟨B0, d0, B1, d1, B2, d2, ty, by rw [upd_at]; rfl, ⟨x23.upd hg0, ow.held.keep fun b hb => (off _ b fun e => n0 (e ▸ hb)).trans (fr b (fun h => ow.s01 b hb h)), R.keep fun b hb => off _ b fun e => n1 (e ▸ hb), ow.inner.keep fun b hb => (off _ b fun e => n2 (e ▸ hb)).trans (fr b (fun h => ow.s12 b h hb)), ow.s01, ow.s02, ow.s12⟩, hg0, n0, n1, n2⟩
theorem OutL.delP {g : Nat} {l : LK} {f : Nat} {fa fc : Array Value} {p : (Int × Int) → Bool} {K : Hp → Prop} (o : OutL H0 H g l) (hs : l.inner.length < big) (hf : FnOk Try.prog f)
    (hg : ∀ (x : (Int × Int)) (H' : Hp) (Q : Value → Hp → Prop), Ext H0 H' → Q (.bool (p x)) H' → HCalls Try.prog f (fa.toList ++ [.agg #[.int .i64 x.1, .int .i64 x.2]] ++ fc.toList) H' Q) (hk : ∀ H', OutL H0 H' g ⟨l.held, l.waits, l.inner.filter fun x => !p x⟩ → K H') :
    ∃ (A21 : Option Addr) (n21 c18 : Nat), cl H g (0 + 2) = some (.slice A21 n21 c18) ∧ HCalls Try.prog 32 [.slice A21 n21 c18, .func (.func f) fa fc] H fun v22 H23 => ∃ (A24 : Option Addr) (n24 c24g : Nat), v22 = .slice A24 n24 c24g ∧ storeF H23 g (0 + 2) [.slice A24 n24 c24g] fun H25 => K H25 := by
  obtain ⟨B0, d0, B1, d1, B2, d2, ty, hc, ow, hg0, n0, n1, n2⟩ := o
  refine ⟨B2, l.inner.length, d2, by rw [cl_cells hc]; rfl, c32 ow.inner ow.ext rfl hs hf (fun x _ H' Q' hfr hq' => hg x H' Q' (row_ext ow.inner ow.ext hfr) hq') fun H23 R x23 fr => ⟨_, _, _, rfl, _, ty, by rw [fr g n2]; exact hc, by simp, ?_⟩⟩
  have off : ∀ (o : Obj) b, b ≠ g → (upd g o H23) b = H23 b := fun o b hb => upd_off hb
  refine hk _ ⟨B0, d0, B1, d1, B2, d2, ty, by rw [upd_at]; rfl, ⟨x23.upd hg0, ow.held.keep fun b hb => (off _ b fun e => n0 (e ▸ hb)).trans (fr b (fun h => ow.s02 b hb h)), ow.waits.keep fun b hb => (off _ b fun e => n1 (e ▸ hb)).trans (fr b (fun h => ow.s12 b hb h)), R.keep fun b hb => off _ b fun e => n2 (e ▸ hb), ow.s01, ow.s02, ow.s12⟩, hg0, n0, n1, n2⟩
theorem c13 {A0 A1 A2 : Option Addr} {n0 c0 n1 c1 n2 c2 : Nat} {l : LK} {t : Int} (hl : LocksAt H A0 n0 c0 A1 n1 c1 A2 n2 c2 l) (hq : RowsR H Q (freeLM l t)) :
    HCalls Try.prog 13 [.agg #[.slice A0 n0 c0, .slice A1 n1 c1, .slice A2 n2 c2], .int .i64 t] H Q := by
  refine f13.ok _ _ _ _ _ _ _ _ _ _ ?_
  unfold f13
  unfold freeLM at hq
  intro g1 hg1
  have hx1 : Ext H (upd g1 (.cells [Value.int .i64 t].toArray 3 (0, 0)) H) := Ext.new hg1
  have ht1 : cl (upd g1 (.cells [Value.int .i64 t].toArray 3 (0, 0)) H) g1 0 = some (.int .i64 t) := by rw [cl_cells upd_at]; rfl
  generalize (upd g1 (.cells [Value.int .i64 t].toArray 3 (0, 0)) H) = H2 at hx1 ht1 ⊢
  refine jn_intro (fun J => ∀ b H', Ext H2 H' → b = !(validM l && numB t) → J b H') (fun b H14 hx14 hb' => ?_) fun J hJ => c10 (hl.ext hx1) fun H4 hx4 => ⟨_, rfl, cndI (fun h => hJ true _ hx4 ?_) (fun h => ⟨t, cl_ext hx4 ht1, c26 ⟨_, rfl, hJ _ _ hx4 ?_⟩⟩)⟩
  rotate_left
  · have h : validM l = false := by simpa using h
    rw [h]; rfl
  · have h : validM l = true := by simpa using h
    rw [h]; rfl
  subst hb'
  refine cndI (fun hbad => ?_) (fun hgood => ?_)
  · rw [Bool.not_eq_true'] at hbad
    rw [if_neg (by rw [hbad]; decide)] at hq
    exact hq.err (hx1.trans hx14)
  have hok : (validM l && numB t) = true := by
    cases hh : (validM l && numB t) with
    | true => rfl
    | false => rw [hh] at hgood; cases hgood
  rw [if_pos hok] at hq
  have hv : validM l = true := (Bool.and_eq_true_iff.1 hok).1
  have hlens := valid_lens hv
  have hr := valid_rising hv
  have hl14 := (hl.ext hx1).ext hx14
  have ht14 := cl_ext hx14 ht1
  have b1 := List.length_filter_le (fun x : Lk => !(x.txn == t)) l.held
  have b2 := List.length_filter_le (fun w : Wt => !(w.txn == t)) l.waits
  have b3 := List.length_filter_le (fun p : Int × Int => !(p.1 == t || p.2 == t)) l.inner
  refine c27 hl14 (small_of hv hl.str) fun B0 d0 B1 d1 B2 d2 H14' ow => ⟨_, _, _, _, _, _, _, _, _, rfl, ow.out fun g H20 out _ => ?_⟩
  refine out.delH (p := fun x => x.txn == t) (by unfold big; omega) (fnOk 29 rfl) (fun x H' Q' hx hq' => c29 (cl_ext hx ht14) hq') fun H25 out1 => ?_
  refine out1.delW (p := fun x => x.txn == t) (by unfold big; simp only; omega) (fnOk 31 rfl) (fun x H' Q' hx hq' => c31 (cl_ext hx ht14) hq') fun H30 out2 => ?_
  refine out2.delP (p := fun x => x.1 == t || x.2 == t) (by unfold big; simp only; omega) (fnOk 33 rfl) (fun x H' Q' hx hq' => c33 (cl_ext hx ht14) hq') fun H35 out3 => ?_
  have hstr : StrOk ⟨l.held.filter fun x => !(x.txn == t), l.waits.filter fun w => !(w.txn == t), l.inner.filter fun p => !(p.1 == t || p.2 == t)⟩ := ⟨fun x hx => hl.str.1 x (List.mem_filter.1 hx).1, fun x hx => hl.str.2 x (List.mem_filter.1 hx).1⟩
  refine c34 out3 (by unfold Small big; exact ⟨by simp only; omega, by simp only; omega, by simp only; omega, hstr⟩) (by unfold big; simp only; omega) (rising_filter hr) fun A c H37 out4 R => ⟨_, _, _, rfl, ?_⟩
  have hok2 := wakeM_ok (ws := l.waits.filter fun w => !(w.txn == t)) (rising_filter (p := fun x : Lk => !(x.txn == t)) hr) hstr.1 hstr.2 _ (Nat.le_refl _)
  rw [List.take_length] at hok2
  refine out4.give fun E0 e0 E1 e1 E2 e2 ow4 => hq _ _ _ _ _ _ A c H37 ((hx1.trans hx14).trans ow4.ext) (ow4.at ?_) (R.at (by unfold big; simp only at hok2 ⊢; omega)) R.2.1
  unfold Small big
  simp only at hok2 ⊢
  exact ⟨by omega, by omega, by omega, hok2.2.2.2.2.1, hok2.2.2.2.2.2⟩
theorem filter_eq_any {l : List Wt} {t : Int} : ((l.filter fun w => !(w.txn == t)).length = l.length) ↔ (l.any fun w => w.txn == t) = false := by
  rw [List.length_filter_eq_length_iff, List.any_eq_false]
  constructor
  · intro h x hx; have := h x hx; simpa using this
  · intro h x hx; have := h x hx; simpa using this
theorem c19 {A0 A1 A2 : Option Addr} {n0 c0 n1 c1 n2 c2 : Nat} {l : LK} {t : Int} (hl : LocksAt H A0 n0 c0 A1 n1 c1 A2 n2 c2 l) (hq : RowsR H Q (leaveM l t)) :
    HCalls Try.prog 19 [.agg #[.slice A0 n0 c0, .slice A1 n1 c1, .slice A2 n2 c2], .int .i64 t] H Q := by
  refine f19.ok _ _ _ _ _ _ _ _ _ _ ?_
  unfold f19
  unfold leaveM at hq
  intro g1 hg1
  have hx1 : Ext H (upd g1 (.cells [Value.int .i64 t].toArray 3 (0, 0)) H) := Ext.new hg1
  have ht1 : cl (upd g1 (.cells [Value.int .i64 t].toArray 3 (0, 0)) H) g1 0 = some (.int .i64 t) := by rw [cl_cells upd_at]; rfl
  generalize (upd g1 (.cells [Value.int .i64 t].toArray 3 (0, 0)) H) = H2 at hx1 ht1 ⊢
  refine jn_intro (fun J => ∀ b H', Ext H2 H' → b = !(validM l && numB t) → J b H') (fun b H14 hx14 hb' => ?_) fun J hJ => c10 (hl.ext hx1) fun H4 hx4 => ⟨_, rfl, cndI (fun h => hJ true _ hx4 ?_) (fun h => ⟨t, cl_ext hx4 ht1, c26 ⟨_, rfl, hJ _ _ hx4 ?_⟩⟩)⟩
  rotate_left
  · have h : validM l = false := by simpa using h
    rw [h]; rfl
  · have h : validM l = true := by simpa using h
    rw [h]; rfl
  subst hb'
  refine cndI (fun hbad => ?_) (fun hgood => ?_)
  · rw [Bool.not_eq_true'] at hbad
    rw [if_neg (by rw [hbad]; decide)] at hq
    exact hq.err (hx1.trans hx14)
  have hok : (validM l && numB t) = true := by
    cases hh : (validM l && numB t) with
    | true => rfl
    | false => rw [hh] at hgood; cases hgood
  rw [if_pos hok] at hq
  have hv : validM l = true := (Bool.and_eq_true_iff.1 hok).1
  have hlens := valid_lens hv
  have hr := valid_rising hv
  have hl14 := (hl.ext hx1).ext hx14
  have ht14 := cl_ext hx14 ht1
  have b2 := List.length_filter_le (fun w : Wt => !(w.txn == t)) l.waits
  refine c27 hl14 (small_of hv hl.str) fun B0 d0 B1 d1 B2 d2 H14' ow => ⟨_, _, _, _, _, _, _, _, _, rfl, ow.out fun g H20 out _ => ?_⟩
  refine out.delW (p := fun x => x.txn == t) (by unfold big; omega) (fnOk 43 rfl) (fun x H' Q' hx hq' => c43 (cl_ext hx ht14) hq') fun H25 out1 => ?_
  obtain rfl := hl.waits.len
  refine out1.give2 fun F1 x1 => cndI (fun h => ?_) (fun h => ?_)
  · have h : (l.waits.filter fun w => !(w.txn == t)).length = l.waits.length := by
      have : (((l.waits.filter fun w => !(w.txn == t)).length : Nat) : Int) = ((l.waits.length : Nat) : Int) := by simpa using h
      omega
    rw [if_neg (by rw [filter_eq_any.1 h]; decide)] at hq
    exact hq.err ((hx1.trans hx14).trans out1.ext0)
  · have hne : (l.waits.any fun w => w.txn == t) = true := by
      cases hh : (l.waits.any fun w => w.txn == t) with
      | true => rfl
      | false =>
        rw [filter_eq_any.2 hh] at h
        simp at h
    rw [if_pos hne] at hq
    have hstr : StrOk ⟨l.held, l.waits.filter fun w => !(w.txn == t), l.inner⟩ := ⟨hl.str.1, fun x hx => hl.str.2 x (List.mem_filter.1 hx).1⟩
    refine c34 out1 (by unfold Small big; exact ⟨by simp only; omega, by simp only; omega, by simp only; omega, hstr⟩) (by unfold big; simp only; omega) hr fun A c H37 out4 R => ⟨_, _, _, rfl, ?_⟩
    have hok2 := wakeM_ok (ws := l.waits.filter fun w => !(w.txn == t)) hr hstr.1 hstr.2 _ (Nat.le_refl _)
    rw [List.take_length] at hok2
    refine out4.give fun E0 e0 E1 e1 E2 e2 ow4 => hq _ _ _ _ _ _ A c H37 ((hx1.trans hx14).trans ow4.ext) (ow4.at ?_) (R.at (by unfold big; simp only at hok2 ⊢; omega)) R.2.1
    unfold Small big
    simp only at hok2 ⊢
    exact ⟨by omega, by omega, by omega, hok2.2.2.2.2.1, hok2.2.2.2.2.2⟩
end
end Go.Proofs.Ytkbancdmhcnhjaa.Hw
