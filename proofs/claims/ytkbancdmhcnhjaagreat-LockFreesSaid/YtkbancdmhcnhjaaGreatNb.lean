/- Locks: the reference's Free and Leave; the law LockFrees. -/
import Derived.Test.YtkbancdmhcnhjaaGreatNa
set_option linter.unusedVariables false
set_option linter.unusedSimpArgs false
namespace Go.Proofs.YtkbancdmhcnhjaaGreat.Hw
open Go Go.Proofs
section
variable {H0 H : Hp} {Q : Value → Hp → Prop}
theorem c18 {A0 A1 A2 : Option Addr} {n0 c0 n1 c1 n2 c2 : Nat} {l : LK} {t : Int} (hl : LocksAt H A0 n0 c0 A1 n1 c1 A2 n2 c2 l) (hq : RowsR H Q (leaveM l t)) :
    HCalls Tryz.prog 18 [.agg #[.slice A0 n0 c0, .slice A1 n1 c1, .slice A2 n2 c2], .int .i64 t] H Q := by
  refine f18.ok _ _ _ _ _ _ _ _ _ _ ?_
  unfold f18
  unfold leaveM at hq
  refine jn_intro (fun J => ∀ b, b = !(validM l && numB t) → J b H) (fun b hb' => ?_) fun J hJ => c24 hl ⟨_, rfl, cndI (fun h => hJ true ?_) (fun h => c37 ⟨_, rfl, hJ _ ?_⟩)⟩
  rotate_left
  · have h : validM l = false := by simpa using h
    rw [h]; rfl
  · have h : validM l = true := by simpa using h
    rw [h]; rfl
  subst hb'
  refine cndI (fun hbad => ?_) (fun hgood => ?_)
  · rw [Bool.not_eq_true'] at hbad
    rw [if_neg (by rw [hbad]; decide)] at hq
    exact hq.err (Ext.refl H)
  have hok : (validM l && numB t) = true := by
    cases hh : (validM l && numB t) with
    | true => rfl
    | false => rw [hh] at hgood; cases hgood
  rw [if_pos hok] at hq
  have hv : validM l = true := (Bool.and_eq_true_iff.1 hok).1
  have hlens := valid_lens hv
  have hr := valid_rising hv
  have b2 := List.length_filter_le (fun w : Wt => !(w.txn == t)) l.waits
  refine c39 hl ⟨_, rfl, cndI (fun h => ?_) (fun h => ?_)⟩
  · have h : (l.waits.any fun w => w.txn == t) = false := by
      rw [Bool.not_eq_true'] at h; exact h
    rw [if_neg (by rw [h]; decide)] at hq
    exact hq.err (Ext.refl H)
  have h : (l.waits.any fun w => w.txn == t) = true := by
    rw [Bool.not_eq_false'] at h; exact h
  rw [if_pos h] at hq
  refine c8 hl (small_of hv hl.str) fun B0 d0 B1 d1 B2 d2 H14 ow => ⟨_, _, _, _, _, _, _, _, _, rfl, ?_⟩
  refine c51 (hl.ext ow.ext).waits (by unfold big; omega) fun Bw dw H19 Rw x19 => ⟨_, _, _, rfl, ?_⟩
  have ow' := ow.more x19
  have hstr : StrOk ⟨l.held, l.waits.filter fun w => !(w.txn == t), l.inner⟩ := ⟨hl.str.1, fun x hx => hl.str.2 x (List.mem_filter.1 hx).1⟩
  have oN : OwnL H H19 B0 d0 Bw dw B2 d2 ⟨l.held, l.waits.filter fun w => !(w.txn == t), l.inner⟩ := ⟨ow'.ext, ow'.held, Row.base Rw ow.ext, ow'.inner, fun b h0 h1 => (ow.held.lt h0).1 (Rw.lt h1).2, ow'.s02, fun b h1 h2 => (ow.inner.lt h2).1 (Rw.lt h1).2⟩
  refine c52 (l := ⟨l.held, l.waits.filter fun w => !(w.txn == t), l.inner⟩) oN (by unfold Small big; exact ⟨by simp only; omega, by simp only; omega, by simp only; omega, hstr⟩) (by unfold big; simp only; omega) hr fun E0 e0 S s0 W w0 H22 ow4 R => ⟨_, _, _, _, _, _, _, _, _, _, _, _, rfl, ?_⟩
  have hok2 := wakeM_ok (ws := l.waits.filter fun w => !(w.txn == t)) hr hstr.1 hstr.2 _ (Nat.le_refl _)
  rw [List.take_length] at hok2
  refine hq _ _ _ _ _ _ W w0 H22 ow4.ext (ow4.at ?_) (R.at (by unfold big; simp only at hok2 ⊢; omega)) R.2.1
  unfold Small big
  simp only at hok2 ⊢
  exact ⟨by omega, by omega, by omega, hok2.2.2.2.2.1, hok2.2.2.2.2.2⟩
theorem c15 {A0 A1 A2 : Option Addr} {n0 c0 n1 c1 n2 c2 : Nat} {l : LK} {t : Int} (hl : LocksAt H A0 n0 c0 A1 n1 c1 A2 n2 c2 l) (hq : RowsR H Q (freeLM l t)) :
    HCalls Tryz.prog 15 [.agg #[.slice A0 n0 c0, .slice A1 n1 c1, .slice A2 n2 c2], .int .i64 t] H Q := by
  refine f15.ok _ _ _ _ _ _ _ _ _ _ ?_
  unfold f15
  unfold freeLM at hq
  obtain rfl := hl.held.len
  obtain rfl := hl.inner.len
  refine jn_intro (fun J => ∀ b, b = !(validM l && numB t) → J b H) (fun b hb' => ?_) fun J hJ => c24 hl ⟨_, rfl, cndI (fun h => hJ true ?_) (fun h => c37 ⟨_, rfl, hJ _ ?_⟩)⟩
  rotate_left
  · have h : validM l = false := by simpa using h
    rw [h]; rfl
  · have h : validM l = true := by simpa using h
    rw [h]; rfl
  subst hb'
  refine cndI (fun hbad => ?_) (fun hgood => ?_)
  · rw [Bool.not_eq_true'] at hbad
    rw [if_neg (by rw [hbad]; decide)] at hq
    exact hq.err (Ext.refl H)
  have hok : (validM l && numB t) = true := by
    cases hh : (validM l && numB t) with
    | true => rfl
    | false => rw [hh] at hgood; cases hgood
  rw [if_pos hok] at hq
  have hv : validM l = true := (Bool.and_eq_true_iff.1 hok).1
  have hlens := valid_lens hv
  have hr := valid_rising hv
  have b1 := List.length_filter_le (fun x : Lk => !(x.txn == t)) l.held
  have b2 := List.length_filter_le (fun w : Wt => !(w.txn == t)) l.waits
  have b3 := List.length_filter_le (fun p : Int × Int => !(p.1 == t || p.2 == t)) l.inner
  refine c51 hl.waits (by unfold big; omega) fun Bw dw H11 Rw x11 => ⟨_, _, _, rfl, ?_⟩
  refine loop_to l.held.length (fun i s H' => ∃ B d, s = (((i : Int), ()), (((B, ((l.held.take i).filter fun x => !(x.txn == t)).length, d), ((Bw, (l.waits.filter fun w => !(w.txn == t)).length, dw), ((none, 0, 0), ()))), ())) ∧ Row H H' B ((l.held.take i).filter fun x => !(x.txn == t)).length d 3 (((l.held.take i).filter fun x => !(x.txn == t)).flatMap lkC) ∧ Row H H' Bw (l.waits.filter fun w => !(w.txn == t)).length dw 3 ((l.waits.filter fun w => !(w.txn == t)).flatMap wtC) ∧ Ext H H' ∧ ∀ b, rowB B b → ¬ rowB Bw b)
    ⟨none, 0, rfl, Row.nil, Rw, x11, fun b ⟨_, _, h⟩ => (by cases h)⟩ ?_
  rintro i s H14 next hi ⟨B, d, rfl, RB, RW, hx, hsep⟩ hnext
  dsimp only
  by_cases hlt : i < l.held.length
  · obtain ⟨x, hx'⟩ := get_of hlt
    have ei : IntKind.i64.wrap ((i : Int) + 1) = ((i + 1 : Nat) : Int) := by rw [wrap_id (by omega) (by omega)]; rfl
    have hfl := List.length_filter_le (fun x : Lk => !(x.txn == t)) (l.held.take i)
    rw [List.length_take] at hfl
    refine cndT (decide_eq_true (by omega)) (jn_intro (fun J => ∀ B' d' H2, Row H H2 B' ((l.held.take (i + 1)).filter fun x => !(x.txn == t)).length d' 3 (((l.held.take (i + 1)).filter fun x => !(x.txn == t)).flatMap lkC) → Row H H2 Bw (l.waits.filter fun w => !(w.txn == t)).length dw 3 ((l.waits.filter fun w => !(w.txn == t)).flatMap wtC) → Ext H H2 → (∀ b, rowB B' b → ¬ rowB Bw b) → J B' ((l.held.take (i + 1)).filter fun x => !(x.txn == t)).length d' H2) (fun B' d' H2 g1 g2 g3 g4 => ⟨rfl, hnext _ _ hlt ⟨B', d', by rw [ei], g1, g2, g3, g4⟩⟩) fun J hJ => ?_)
    rw [filter_succ hx'] at hJ
    refine ⟨by omega, by omega, rd_lk (hl.held.ext hx) hx' fun p o _ k1 k2 k3 => ⟨x.thing, by simpa using k1, x.txn, by simpa using k2, x.share, by simpa using k3, cndI (fun h => fun g hg => ?_) (fun h => ?_)⟩⟩
    · have h : (!(x.txn == t)) = true := h
      rw [if_pos h] at hJ
      refine Row.push1 (f := lkC) (w := x) (fun _ => rfl) (fun y v hv => lkC_one v (l := [y]) (by simpa using hv)) (by omega) RB hx (by unfold big; omega) hg fun A' c' H2 R2 x2 ch nw => hJ A' c' H2 R2 (Row.keep RW fun b hb => Classical.byContradiction fun hne => ?_) x2 fun b hb hb' => ?_
      · rcases ch b hne with h' | h'
        · exact hsep b h' hb
        · exact (RW.lt hb).1 h'
      · rcases nw b hb with h' | h'
        · exact hsep b h' hb'
        · exact (RW.lt hb').1 h'
    · have h : (!(x.txn == t)) = false := h
      rw [if_neg (by rw [h]; decide), List.append_nil] at hJ
      exact hJ B d H14 RB RW hx hsep
  obtain rfl : i = l.held.length := by omega
  rw [List.take_length] at RB ⊢
  refine cndF (decide_eq_false (by omega)) ?_
  refine loop_to l.inner.length (fun i s H' => ∃ C e, s = (((i : Int), ()), (((B, (l.held.filter fun x => !(x.txn == t)).length, d), ((Bw, (l.waits.filter fun w => !(w.txn == t)).length, dw), ((C, ((l.inner.take i).filter fun p => !(p.1 == t || p.2 == t)).length, e), ()))), ())) ∧ Row H H' B (l.held.filter fun x => !(x.txn == t)).length d 3 ((l.held.filter fun x => !(x.txn == t)).flatMap lkC) ∧ Row H H' Bw (l.waits.filter fun w => !(w.txn == t)).length dw 3 ((l.waits.filter fun w => !(w.txn == t)).flatMap wtC) ∧ Row H H' C ((l.inner.take i).filter fun p => !(p.1 == t || p.2 == t)).length e 2 (((l.inner.take i).filter fun p => !(p.1 == t || p.2 == t)).flatMap prC) ∧ Ext H H' ∧ ∀ b, rowB C b → ¬ rowB B b ∧ ¬ rowB Bw b)
    ⟨none, 0, rfl, RB, RW, Row.nil, hx, fun b ⟨_, _, h⟩ => (by cases h)⟩ ?_
  rintro i s H30 next2 hi2 ⟨C, e, rfl, RB, RW, RC, hx, hsepC⟩ hnext2
  dsimp only
  by_cases hlt : i < l.inner.length
  · obtain ⟨x, hx'⟩ := get_of hlt
    have ei : IntKind.i64.wrap ((i : Int) + 1) = ((i + 1 : Nat) : Int) := by rw [wrap_id (by omega) (by omega)]; rfl
    have hfl := List.length_filter_le (fun p : Int × Int => !(p.1 == t || p.2 == t)) (l.inner.take i)
    rw [List.length_take] at hfl
    refine cndT (decide_eq_true (by omega)) (jn_intro (fun J => ∀ C' e' H2, Row H H2 B (l.held.filter fun x => !(x.txn == t)).length d 3 ((l.held.filter fun x => !(x.txn == t)).flatMap lkC) → Row H H2 Bw (l.waits.filter fun w => !(w.txn == t)).length dw 3 ((l.waits.filter fun w => !(w.txn == t)).flatMap wtC) → Row H H2 C' ((l.inner.take (i + 1)).filter fun p => !(p.1 == t || p.2 == t)).length e' 2 (((l.inner.take (i + 1)).filter fun p => !(p.1 == t || p.2 == t)).flatMap prC) → Ext H H2 → (∀ b, rowB C' b → ¬ rowB B b ∧ ¬ rowB Bw b) → J C' ((l.inner.take (i + 1)).filter fun p => !(p.1 == t || p.2 == t)).length e' H2) (fun C' e' H2 g1 g2 g3 g4 g5 => ⟨rfl, hnext2 _ _ hlt ⟨C', e', by rw [ei], g1, g2, g3, g4, g5⟩⟩) fun J hJ => ?_)
    rw [filter_succ hx'] at hJ
    refine ⟨by omega, by omega, rd_pr (hl.inner.ext hx) hx' fun p o _ k1 k2 => ⟨x.1, by simpa using k1, x.2, by simpa using k2, ?_⟩⟩
    refine jn_intro (fun J => ∀ b, b = !(x.1 == t || x.2 == t) → J b) (fun b hb => ?_) fun J' hJ' => ⟨by omega, by omega, cndI (fun h => ⟨by omega, by omega, hJ' _ ?_⟩) (fun h => hJ' _ ?_)⟩
    rotate_left
    · have h : (!(x.1 == t)) = true := h
      rw [Bool.not_or, h, Bool.true_and]; rfl
    · have h : (!(x.1 == t)) = false := h
      rw [Bool.not_or, h, Bool.false_and]
    subst hb
    refine cndI (fun h => fun g hg => ?_) (fun h => ?_)
    · rw [if_pos h] at hJ
      refine Row.push1 (f := prC) (w := x) (fun _ => rfl) (fun y => prC_one1) (by omega) RC hx (by unfold big; omega) hg fun A' c' H2 R2 x2 ch nw => ?_
      have keep : ∀ b, H30 b ≠ none → ¬ rowB C b → H2 b = H30 b := fun b hn hb => Classical.byContradiction fun hne => by
        rcases ch b hne with h | h
        · exact hb h
        · exact hn h
      refine hJ A' c' H2 (Row.keep RB fun b hb => keep b (RB.lt hb).1 fun h' => (hsepC b h').1 hb) (Row.keep RW fun b hb => keep b (RW.lt hb).1 fun h' => (hsepC b h').2 hb) R2 x2 fun b hb => ?_
      rcases nw b hb with h' | h'
      · exact hsepC b h'
      · exact ⟨fun hb' => (RB.lt hb').1 h', fun hb' => (RW.lt hb').1 h'⟩
    · rw [if_neg (by rw [h]; decide), List.append_nil] at hJ
      exact hJ C e H30 RB RW RC hx hsepC
  obtain rfl : i = l.inner.length := by omega
  rw [List.take_length] at RC ⊢
  refine cndF (decide_eq_false (by omega)) ?_
  have hstr : StrOk ⟨l.held.filter fun x => !(x.txn == t), l.waits.filter fun w => !(w.txn == t), l.inner.filter fun p => !(p.1 == t || p.2 == t)⟩ := ⟨fun x hx => hl.str.1 x (List.mem_filter.1 hx).1, fun x hx => hl.str.2 x (List.mem_filter.1 hx).1⟩
  have oN : OwnL H H30 B d Bw dw C e ⟨l.held.filter fun x => !(x.txn == t), l.waits.filter fun w => !(w.txn == t), l.inner.filter fun p => !(p.1 == t || p.2 == t)⟩ := ⟨hx, RB, RW, RC, hsep, fun b h0 h2 => (hsepC b h2).1 h0, fun b h1 h2 => (hsepC b h2).2 h1⟩
  refine c52 (l := ⟨l.held.filter fun x => !(x.txn == t), l.waits.filter fun w => !(w.txn == t), l.inner.filter fun p => !(p.1 == t || p.2 == t)⟩) oN (by unfold Small big; exact ⟨by simp only; omega, by simp only; omega, by simp only; omega, hstr⟩) (by unfold big; simp only; omega) (rising_filter hr) fun E0 e0 S s0 W w0 H22 ow4 R => ⟨_, _, _, _, _, _, _, _, _, _, _, _, rfl, ?_⟩
  have hok2 := wakeM_ok (ws := l.waits.filter fun w => !(w.txn == t)) (rising_filter (p := fun x : Lk => !(x.txn == t)) hr) hstr.1 hstr.2 _ (Nat.le_refl _)
  rw [List.take_length] at hok2
  refine hq _ _ _ _ _ _ W w0 H22 ow4.ext (ow4.at ?_) (R.at (by unfold big; simp only at hok2 ⊢; omega)) R.2.1
  unfold Small big
  simp only at hok2 ⊢
  exact ⟨by omega, by omega, by omega, hok2.2.2.2.2.1, hok2.2.2.2.2.2⟩
theorem c4 {A0 A1 A2 : Option Addr} {n0 c0 n1 c1 n2 c2 : Nat} {l : LK} {t : Int} (hl : LocksAt H A0 n0 c0 A1 n1 c1 A2 n2 c2 l) (hq : ∀ H', Ext H H' → Q (.bool true) H') :
    HCalls Tryz.prog 4 [.agg #[.slice A0 n0 c0, .slice A1 n1 c1, .slice A2 n2 c2], .int .i64 t] H Q := by
  refine f4.ok _ _ _ _ _ _ _ _ _ _ ?_
  unfold f4
  refine c6 hl ⟨_, rfl, cndI (fun h => c7 fun H5 x5 => ⟨_, rfl, hq H5 x5⟩) (fun h => ?_)⟩
  refine c14 hl ?_
  intro B0 d0 B1 d1 B2 d2 A c H8 x8 la lw _
  refine ⟨_, _, _, _, _, _, _, _, _, _, _, _, _, rfl, c15 (hl.ext x8) ?_⟩
  intro C0 e0 C1 e1 C2 e2 A' c' H15 x15 lb lw' _
  refine ⟨_, _, _, _, _, _, _, _, _, _, _, _, _, rfl, ?_⟩
  refine jn_intro (fun J => J false H15) (cndF rfl ?_) fun J hJ => c11 (la.ext x15) lb fun b hb => ⟨_, rfl, cndF (by rw [hb.2 rfl]; rfl) (c16 (lw.ext x15) lw' ⟨_, rfl, cndF (by simp) (by simpa using hJ)⟩)⟩
  have hl15 := (hl.ext x8).ext x15
  refine c17 hl15 ?_
  intro B0 d0 B1 d1 B2 d2 A c H31 x31 la lw _
  refine ⟨_, _, _, _, _, _, _, _, _, _, _, _, _, rfl, c18 (hl15.ext x31) ?_⟩
  intro C0 e0 C1 e1 C2 e2 A' c' H38 x38 lb lw' _
  refine ⟨_, _, _, _, _, _, _, _, _, _, _, _, _, rfl, ?_⟩
  refine jn_intro (fun J => J false H38) (cndF rfl ?_) fun J hJ => c11 (la.ext x38) lb fun b hb => ⟨_, rfl, cndF (by rw [hb.2 rfl]; rfl) (c16 (lw.ext x38) lw' ⟨_, rfl, cndF (by simp) (by simpa using hJ)⟩)⟩
  have hl38 := (hl15.ext x31).ext x38
  refine c19 hl38 ?_
  intro A55 n55 c55 H54 x54 li _
  refine ⟨_, _, _, _, rfl, c20 (hl38.ext x54) ?_⟩
  intro A59 n59 c59 H58 x58 lj _
  refine ⟨_, _, _, _, rfl, ?_⟩
  unfold jn
  refine c16 (li.ext x58) lj ⟨_, rfl, cndT (by simp) (cndT (by simp) (c7 fun H65 x65 => ⟨_, rfl, hq H65 ((((((x8.trans x15).trans x31).trans x38).trans x54).trans x58).trans x65)⟩))⟩
end
end Go.Proofs.YtkbancdmhcnhjaaGreat.Hw
