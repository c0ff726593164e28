/- Locks: the reference's Circle and Within; the law LockCircles. -/
import Derived.Test.YtkbancdmhcnhjaaGreatNf
set_option linter.unusedVariables false
set_option linter.unusedSimpArgs false
set_option maxRecDepth 20000
namespace Go.Proofs.YtkbancdmhcnhjaaGreat.Hw
open Go Go.Proofs
def BestN (H : Hp) (acc : Option (List Int)) (A : Option Addr) (n c : Nat) : Prop := match acc with
  | none => A = none ∧ n = 0 ∧ c = 0
  | some p => p ≠ [] ∧ n = p.length ∧ SlAt inC H A p.length p ∧ p.length ≤ c
theorem BestN.ext {H H' : Hp} {acc : Option (List Int)} {A : Option Addr} {n c : Nat} (h : BestN H acc A n c) (hx : Ext H H') : BestN H' acc A n c := by
  cases acc with
  | none => exact h
  | some p => exact ⟨h.1, h.2.1, h.2.2.1.ext hx, h.2.2.2⟩
theorem circ_back {l : LK} {s : Int} (h : validM l = true) : backM l s = circR (rowE l) s 300 [[s]] := by
  refine backM_of (circ_way (K := allL l) (fun t u hu => waited_all (mem_rise.1 hu)) ?_)
  have := valid_lens h
  unfold allL
  rw [List.length_append, List.length_map, List.length_map]; omega
section
variable {H0 H : Hp} {Q : Value → Hp → Prop}
theorem c26 {A0 A1 A2 : Option Addr} {n0 c0 n1 c1 n2 c2 : Nat} {l : LK} (hl : LocksAt H A0 n0 c0 A1 n1 c1 A2 n2 c2 l) (hq : ForR H Q (circM l)) :
    HCalls Tryz.prog 26 [.agg #[.slice A0 n0 c0, .slice A1 n1 c1, .slice A2 n2 c2]] H Q := by
  refine f26.ok _ _ _ _ _ _ _ _ _ ?_
  unfold f26
  unfold circM at hq
  refine c24 hl ⟨_, rfl, cndI (fun h => ?_) (fun h => ?_)⟩
  · have h : validM l = false := by simpa using h
    rw [if_neg (by rw [h]; decide)] at hq
    exact hq none 0 0 H (Ext.refl H) (nilI H) (Nat.le_refl _)
  have hv : validM l = true := by simpa using h
  rw [if_pos hv] at hq
  have ht := valid_tame hv hl.str
  have hal := all_len ht
  have hb : (rise (allL l)).length < big := rise_big (by unfold big; omega)
  have hb' := hb
  unfold big at hb'
  refine c60 hl ht fun A6 c6 H5 R6 hx5 => ⟨_, _, _, rfl, ?_⟩
  refine loop_to (rise (allL l)).length (fun i s H' => ∃ (A : Option Addr) (n c : Nat), s = (((A, n, c), ((i : Int), ())), ()) ∧ Ext H5 H' ∧ BestN H' (bestM l ((rise (allL l)).take i)) A n c) ⟨none, 0, 0, rfl, Ext.refl _, rfl, rfl, rfl⟩ ?_
  rintro i s H8 next hi ⟨A, n, c, rfl, hx8, hB⟩ hnext
  dsimp only
  by_cases hlt : i < (rise (allL l)).length
  · obtain ⟨t, ht'⟩ := get_of hlt
    have ei : IntKind.i64.wrap ((i : Int) + 1) = ((i + 1 : Nat) : Int) := by rw [wrap_id (by omega) (by omega)]; rfl
    refine cndT (decide_eq_true (by omega)) (jn_intro (fun J => ∀ A' n' c' H', Ext H5 H' → BestN H' (bestM l ((rise (allL l)).take (i + 1))) A' n' c' → J A' n' c' H') (fun A' n' c' H' h1 h2 => ⟨rfl, hnext _ _ hlt ⟨A', n', c', by rw [ei], h1, h2⟩⟩) fun J hJ => ?_)
    rw [bestM_succ ht', circ_back hv] at hJ
    generalize bestM l ((rise (allL l)).take i) = acc at hB hJ
    refine ⟨by omega, by omega, rd_in ((R6.more hx8).at hb) ht' fun p o _ k1 => ⟨t, by simpa using k1, c61 (hl.ext (hx5.trans hx8)) ht (valid_once hv) (fun H13 hx13 hw => ⟨_, _, _, rfl, ?_⟩) (fun r A14 c14 H13 hx13 hw hr hc hne => ⟨_, _, _, rfl, ?_⟩)⟩⟩
    · rw [hw] at hJ
      unfold jn
      exact cndF rfl (cndF rfl (hJ A n c H13 (hx8.trans hx13) (hB.ext hx13)))
    · rw [hw] at hJ
      have hpos := List.length_pos_iff.2 hne
      have yes : BestN H13 (some r) A14 r.length c14 := ⟨hne, rfl, hr, hc⟩
      unfold jn
      refine cndT (decide_eq_true (by omega)) ?_
      cases acc with
      | none =>
        obtain ⟨rfl, rfl, rfl⟩ := hB
        exact cndT rfl (cndT rfl (hJ _ _ _ H13 (hx8.trans hx13) yes))
      | some q =>
        have hB' := hB.ext hx13
        obtain ⟨hqn, rfl, _, _⟩ := hB
        have hqp := List.length_pos_iff.2 hqn
        refine cndF (by simpa using hqn) (cndI (fun h => hJ _ _ _ H13 (hx8.trans hx13) ?_) (fun h => hJ _ _ _ H13 (hx8.trans hx13) ?_))
        · unfold circStep
          simp only
          rw [if_pos (by have := of_decide_eq_true h; omega)]; exact yes
        · unfold circStep
          simp only
          rw [if_neg (by have := of_decide_eq_false h; omega)]; exact hB'
  · obtain rfl : i = (rise (allL l)).length := by omega
    rw [List.take_length] at hB
    refine cndF (decide_eq_false (by omega)) ?_
    cases hbm : bestM l (rise (allL l)) with
    | none =>
      rw [hbm] at hB hq
      obtain ⟨rfl, rfl, rfl⟩ := hB
      exact cndT rfl (hq none 0 0 H8 (hx5.trans hx8) (nilI H8) (Nat.le_refl _))
    | some q =>
      rw [hbm] at hB hq
      obtain ⟨hqn, rfl, hS, hc⟩ := hB
      exact cndF (by simpa using hqn) (hq A _ c H8 (hx5.trans hx8) hS hc)
theorem c22 {A0 A1 A2 : Option Addr} {n0 c0 n1 c1 n2 c2 : Nat} {l : LK} {o i : Int} (hl : LocksAt H A0 n0 c0 A1 n1 c1 A2 n2 c2 l) (hq : WithinR H Q (withinM l o i)) :
    HCalls Tryz.prog 22 [.agg #[.slice A0 n0 c0, .slice A1 n1 c1, .slice A2 n2 c2], .int .i64 o, .int .i64 i] H Q := by
  refine f22.ok _ _ _ _ _ _ _ _ _ _ _ ?_
  unfold f22
  unfold withinM at hq
  refine jn_intro (fun J => ∀ b, b = !(validM l && (numB o && (numB i && !(o == i)))) → J b H) (fun b hb' => ?_) fun J hJ => c24 hl ⟨_, rfl, cndI (fun h => hJ true ?_) (fun h => c37 ⟨_, rfl, cndI (fun h2 => hJ true ?_) (fun h2 => c37 ⟨_, rfl, cndI (fun h3 => hJ true ?_) (fun h3 => hJ _ ?_)⟩)⟩)⟩
  rotate_left
  · have h : validM l = false := by simpa using h
    rw [h]; rfl
  · have h2 : numB o = false := by simpa using h2
    rw [h2]; simp
  · have h3 : numB i = false := by simpa using h3
    rw [h3]; simp
  · have h : validM l = true := by simpa using h
    have h2 : numB o = true := by simpa using h2
    have h3 : numB i = true := by simpa using h3
    rw [h, h2, h3]; simp
  subst hb'
  refine cndI (fun hbad => ?_) (fun hgood => ?_)
  · rw [Bool.not_eq_true'] at hbad
    rw [if_neg (by rw [hbad]; decide)] at hq
    exact hq.err (Ext.refl H)
  have hok : (validM l && (numB o && (numB i && !(o == i)))) = true := by
    cases hh : (validM l && (numB o && (numB i && !(o == i)))) with
    | true => rfl
    | false => rw [hh] at hgood; cases hgood
  rw [if_pos hok] at hq
  have hv : validM l = true := (Bool.and_eq_true_iff.1 hok).1
  have hlens := valid_lens hv
  obtain rfl := hl.inner.len
  refine c39 hl ⟨_, rfl, cndI (fun hw => ?_) (fun hw => ?_)⟩
  · have hw : (l.waits.any fun w => w.txn == o) = true := hw
    rw [if_pos hw] at hq
    exact hq.err (Ext.refl H)
  have hw : (l.waits.any fun w => w.txn == o) = false := hw
  rw [if_neg (by rw [hw]; decide)] at hq
  refine loop_to l.inner.length (fun i s H' => s = (((i : Int), ()), (((none, 0, 0), ((none, 0, 0), ((none, 0, 0), ()))), ())) ∧ H' = H ∧ (l.inner.take i).any (fun p => p.1 == o) = false) ⟨rfl, rfl, by simp⟩ ?_
  rintro k s H next hk ⟨rfl, rfl, hI⟩ hnext
  dsimp only
  by_cases h : k < l.inner.length
  · obtain ⟨x, hx⟩ := get_of h
    refine cndT (by simpa using h) ⟨by simp, by simpa using h, rd_pr hl.inner hx fun p o' _ k1 k2 => ⟨x.1, by simpa using k1, x.2, by simpa using k2, by omega, by omega, cndI (fun h1 => ?_) (fun h1 => ⟨rfl, hnext _ _ h ⟨?_, rfl, ?_⟩⟩)⟩⟩
    · rw [if_pos (any_hit (g := fun p : Int × Int => p.1 == o) hx h1)] at hq
      exact hq.err (Ext.refl _)
    · rw [wrap_id (by omega) (by omega)]; rfl
    · rw [any_take_succ hx, hI]; exact h1
  obtain rfl : k = l.inner.length := by omega
  rw [if_neg (by rw [any_done hI]; decide)] at hq
  refine cndF (by simp) (c8 hl (small_of hv hl.str) fun B0 d0 B1 d1 B2 d2 H23 ow => ⟨_, _, _, _, _, _, _, _, _, rfl, fun g hg => ?_⟩)
  refine ow.pushP (w := (o, i)) (by unfold big; omega) hg fun A' c' H33 ow' _ _ => ?_
  obtain ⟨ps, pt⟩ := pushI_ok (p := (o, i)) hv hl.str
  have hl3 := ow'.at ps
  have el : (pushI l (o, i)).inner.length = l.inner.length + 1 := by unfold pushI; simp
  have hl4 := hl3
  rw [el] at hl4
  have honce : Once l.waits := valid_once hv
  refine c43 hl4 pt honce fun b H35 hcb hx35 => ⟨_, rfl, ?_⟩
  rw [deadB_of hcb]
  have hxx := ow'.ext.trans hx35
  refine cndI (fun hd => ?_) (fun hd => ?_)
  · rw [if_pos hd] at hq
    exact hq.err hxx
  rw [if_neg (by rw [hd]; decide)] at hq
  have ed : decide (((l.inner.length + 1 : Nat) : Int) > 100) = decide (l.inner.length + 1 > 100) := decide_eq_decide.2 (by omega)
  rw [ed]
  refine cndI (fun h1 => ?_) (fun h1 => ?_)
  · rw [if_pos h1] at hq
    exact hq.err hxx
  · rw [if_neg (by rw [h1]; decide)] at hq
    have := hq _ _ _ _ _ _ H35 hxx (hl3.ext hx35)
    rw [el] at this
    exact this
theorem c5 {A0 A1 A2 : Option Addr} {n0 c0 n1 c1 n2 c2 : Nat} {l : LK} {a b : Int} (hl : LocksAt H A0 n0 c0 A1 n1 c1 A2 n2 c2 l) (hq : ∀ H', Ext H H' → Q (.bool true) H') :
    HCalls Tryz.prog 5 [.agg #[.slice A0 n0 c0, .slice A1 n1 c1, .slice A2 n2 c2], .agg #[.int .i64 a, .int .i64 b]] H Q := by
  refine f5.ok _ _ _ _ _ _ _ _ _ _ _ ?_
  unfold f5
  refine c6 hl ⟨_, rfl, cndI (fun h => c7 fun H5 x5 => ⟨_, rfl, hq H5 x5⟩) (fun h => ⟨by omega, by omega, by omega, by omega, ?_⟩)⟩
  refine c21 hl ?_
  intro B0 d0 B1 d1 B2 d2 H8 x8 la
  refine ⟨_, _, _, _, _, _, _, _, _, _, rfl, by omega, by omega, by omega, by omega, c22 (hl.ext x8) ?_⟩
  intro C0 e0 C1 e1 C2 e2 H14 x14 lb
  refine ⟨_, _, _, _, _, _, _, _, _, _, rfl, ?_⟩
  have hl14 := (hl.ext x8).ext x14
  refine jn_intro (fun J => ∀ H', Ext H14 H' → J false H') (fun H29 x29 => cndF rfl ?_) fun J hJ => c11 (la.ext x14) lb fun b2 hb2 => ⟨_, rfl, cndF (by rw [hb2.2 rfl]; rfl) (cndF (by simp) (c23 hl14 fun H23 x23 => ⟨_, rfl, c24 (hl14.ext x23) ⟨_, rfl, by simpa using hJ H23 x23⟩⟩))⟩
  have hl29 := hl14.ext x29
  refine c25 hl29 ?_
  intro A33 n33 c33 H32 x32 li _
  refine ⟨_, _, _, _, rfl, c26 (hl29.ext x32) ?_⟩
  intro A37 n37 c37 H36 x36 lj _
  refine ⟨_, _, _, _, rfl, ?_⟩
  unfold jn
  exact c16 (li.ext x36) lj ⟨_, rfl, cndT (by simp) (cndT (by simp) (c7 fun H43 x43 => ⟨_, rfl, hq H43 (((((x8.trans x14).trans x29).trans x32).trans x36).trans x43)⟩))⟩
end
end Go.Proofs.YtkbancdmhcnhjaaGreat.Hw
