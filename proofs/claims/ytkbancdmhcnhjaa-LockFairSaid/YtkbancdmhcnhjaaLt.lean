/- Locks: Within. -/
import Derived.Test.YtkbancdmhcnhjaaLs
set_option linter.unusedVariables false
set_option linter.unusedSimpArgs false
namespace Go.Proofs.Ytkbancdmhcnhjaa.Hw
open Go Go.Proofs
def pushI (l : LK) (p : Int × Int) : LK := ⟨l.held, l.waits, l.inner ++ [p]⟩
noncomputable def withinM (l : LK) (o i : Int) : LK × Int :=
  if validM l && (numB o && (numB i && !(o == i))) then
    if (l.waits.any fun w => w.txn == o) then (nilK, 5)
    else if (l.inner.any fun p => p.1 == o) then (nilK, 14)
    else if deadB (pushI l (o, i)) then (nilK, 28)
    else if decide (l.inner.length + 1 > 100) then (nilK, 3)
    else (pushI l (o, i), 0)
  else (nilK, 2)
section
variable {H0 H : Hp} {Q : Value → Hp → Prop}
theorem prC_one1 {p : Int × Int} : ∀ v ∈ prC p, v.oneCell' = true := fun v hv => by
  simp only [prC, List.mem_cons, List.not_mem_nil, or_false] at hv
  rcases hv with rfl | rfl <;> rfl
theorem OwnL.pushP {B0 B1 B2 : Option Addr} {d0 d1 d2 g : Nat} {l : LK} {w : Int × Int} {K : Option Addr → Nat → Nat → Hp → Prop} (o : OwnL H0 H B0 d0 B1 d1 B2 d2 l) (hs : l.inner.length < big) (hg : H g = none)
    (hk : ∀ A' c' H', OwnL H0 H' B0 d0 B1 d1 A' c' (pushI l w) → (∀ b, H' b ≠ H b → rowB B2 b ∨ H b = none) → (∀ b, rowB A' b → rowB B2 b ∨ H b = none) → K A' (l.inner.length + 1) c' H') :
    appendF (upd g (.cells [Value.int .i64 w.1, .int .i64 w.2].toArray 53 (0, 0)) H) 53 2 16 B2 l.inner.length d2 (some ⟨g, 0, none⟩) 1 K := by
  unfold big at hs
  have hx1 : Ext H (upd g (.cells [Value.int .i64 w.1, .int .i64 w.2].toArray 53 (0, 0)) H) := Ext.new hg
  have o1 := o.more hx1
  refine o1.inner.append o1.ext (new := prC w) (.inr ⟨g, 0, rfl, fun j v hj => by rw [cl_cells upd_at, Nat.zero_add]; exact hj⟩) rfl prC_one1 (by omega) (by omega) fun A' c' H' R' x' ch nw _ => ?_
  have old : ∀ b, (upd g (.cells [Value.int .i64 w.1, .int .i64 w.2].toArray 53 (0, 0)) H) b = none → H b = none := fun b h => hx1.none h
  have keep : ∀ b, H b ≠ none → ¬ rowB B2 b → H' b = H b := fun b hn hb => by
    have h1 := ext_at hx1 hn
    rw [← h1]
    refine Classical.byContradiction fun hne => ?_
    rcases (ch b hne).2 with h | h
    · exact hb h
    · exact hn (old b h)
  refine hk A' c' H' ⟨x', o.held.keep fun b hb => keep b (o.held.lt hb).1 (o.s02 b hb), o.waits.keep fun b hb => keep b (o.waits.lt hb).1 (o.s12 b hb), ?_, o.s01, fun b h0 h1 => ?_, fun b h1 h2 => ?_⟩ (fun b hb => ?_) (fun b hb => (nw b hb).imp id (old b))
  · unfold pushI
    simp only [List.length_append, List.length_singleton, List.flatMap_append]
    simpa using R'
  · rcases nw b h1 with h | h
    · exact o.s02 b h0 h
    · exact (o.held.lt h0).1 (old b h)
  · rcases nw b h2 with h | h
    · exact o.s12 b h1 h
    · exact (o.waits.lt h1).1 (old b h)
  · by_cases e : b = g
    · subst e; exact .inr hg
    · have : H' b ≠ (upd g (.cells [Value.int .i64 w.1, .int .i64 w.2].toArray 53 (0, 0)) H) b := by rw [upd_off e]; exact hb
      exact (ch b this).2.imp id (old b)
def WithinR (H : Hp) (Q : Value → Hp → Prop) (r : LK × Int) : Prop := ∀ B0 d0 B1 d1 B2 d2 H', Ext H H' → LocksAt H' B0 r.1.held.length d0 B1 r.1.waits.length d1 B2 r.1.inner.length d2 r.1 →
  Q (.tuple #[.agg #[.slice B0 r.1.held.length d0, .slice B1 r.1.waits.length d1, .slice B2 r.1.inner.length d2], .int .i64 r.2]) H'
theorem WithinR.err {n : Int} {H' : Hp} (h : WithinR H Q (nilK, n)) (hx : Ext H H') : Q (.tuple #[.agg #[.slice none 0 0, .slice none 0 0, .slice none 0 0], .int .i64 n]) H' :=
  h none 0 none 0 none 0 H' hx (LocksAt.nil H')
theorem pushI_ok {l : LK} {p : Int × Int} (h : validM l = true) (hs : StrOk l) : Small (pushI l p) ∧ Tame (pushI l p) := by
  have := valid_lens h
  unfold Small Tame big pushI
  simp only [List.length_append, List.length_singleton]
  exact ⟨⟨by omega, by omega, by omega, hs⟩, by omega, by omega, by omega, hs⟩
theorem c18 {A0 A1 A2 : Option Addr} {n0 c0 n1 c1 n2 c2 : Nat} {l : LK} {o i : Int} (hl : LocksAt H A0 n0 c0 A1 n1 c1 A2 n2 c2 l) (hq : WithinR H Q (withinM l o i)) :
    HCalls Try.prog 18 [.agg #[.slice A0 n0 c0, .slice A1 n1 c1, .slice A2 n2 c2], .int .i64 o, .int .i64 i] H Q := by
  refine f18.ok _ _ _ _ _ _ _ _ _ _ _ ?_
  unfold f18
  unfold withinM at hq
  intro g1 hg1
  have hx1 : Ext H (upd g1 (.cells [Value.int .i64 o].toArray 3 (0, 0)) H) := Ext.new hg1
  have ht1 : cl (upd g1 (.cells [Value.int .i64 o].toArray 3 (0, 0)) H) g1 0 = some (.int .i64 o) := by rw [cl_cells upd_at]; rfl
  generalize (upd g1 (.cells [Value.int .i64 o].toArray 3 (0, 0)) H) = H2 at hx1 ht1 ⊢
  refine jn_intro (fun J => ∀ b H', Ext H2 H' → b = !(validM l && (numB o && (numB i && !(o == i)))) → J b H') (fun b H14 hx14 hb' => ?_) fun J hJ => c10 (hl.ext hx1) fun H4 hx4 => ⟨_, rfl, cndI (fun h => hJ true _ hx4 ?_) (fun h => ⟨o, cl_ext hx4 ht1, c26 ⟨_, rfl, cndI (fun h2 => hJ true _ hx4 ?_) (fun h2 => c26 ⟨_, rfl, cndI (fun h3 => hJ true _ hx4 ?_) (fun h3 => ⟨o, cl_ext hx4 ht1, hJ _ _ hx4 ?_⟩)⟩)⟩⟩)⟩
  rotate_left
  · have h : validM l = false := by simpa using h
    rw [h]; rfl
  · have h2 : numB o = false := by simpa using h2
    rw [h2]; simp
  · have h3 : numB i = false := by simpa using h3
    rw [h3]; simp
  · have h : validM l = true := by simpa using h
    have h2 : numB o = true := by simpa using h2
    have h3 : numB i = true := by simpa using h3
    rw [h, h2, h3]; simp
  subst hb'
  refine cndI (fun hbad => ?_) (fun hgood => ?_)
  · rw [Bool.not_eq_true'] at hbad
    rw [if_neg (by rw [hbad]; decide)] at hq
    exact hq.err (hx1.trans hx14)
  have hok : (validM l && (numB o && (numB i && !(o == i)))) = true := by
    cases hh : (validM l && (numB o && (numB i && !(o == i)))) with
    | true => rfl
    | false => rw [hh] at hgood; cases hgood
  rw [if_pos hok] at hq
  have hv : validM l = true := (Bool.and_eq_true_iff.1 hok).1
  have hlens := valid_lens hv
  have hr := valid_rising hv
  have hl14 := (hl.ext hx1).ext hx14
  have ht14 := cl_ext hx14 ht1
  refine ⟨o, ht14, c35 hl14 fun H18 hx18 => ⟨_, rfl, cndI (fun h => ?_) (fun h => c36 (g := fun p => p.1 == o) (hl14.ext hx18).inner (fnOk 42 rfl) (fun p _ Q' hq' => c42 (cl_ext hx18 ht14) hq') ⟨_, rfl, cndI (fun h2 => ?_) (fun h2 => ?_)⟩)⟩⟩
  · rw [if_pos h] at hq
    exact hq.err ((hx1.trans hx14).trans hx18)
  · rw [if_neg (by rw [h]; decide), if_pos h2] at hq
    exact hq.err ((hx1.trans hx14).trans hx18)
  rw [if_neg (by rw [h]; decide), if_neg (by rw [h2]; decide)] at hq
  have hx22 := (hx1.trans hx14).trans hx18
  refine c27 (hl14.ext hx18) (small_of hv hl.str) fun B0 d0 B1 d1 B2 d2 H25 ow => ⟨_, _, _, _, _, _, _, _, _, rfl, o, cl_ext ow.ext (cl_ext hx18 ht14), fun g hg => ?_⟩
  refine ow.pushP (w := (o, i)) (by unfold big; omega) hg fun A' c' H33 ow' _ _ => ?_
  obtain ⟨ps, pt⟩ := pushI_ok (p := (o, i)) hv hl.str
  have hl3 := ow'.at ps
  have el : (pushI l (o, i)).inner.length = l.inner.length + 1 := by unfold pushI; simp
  have hl4 := hl3
  rw [el] at hl4
  refine c41 hl4 pt hr fun b H35 hcb hx35 => ⟨_, rfl, ?_⟩
  rw [deadB_of hcb]
  have hxx := (hx22.trans ow'.ext).trans hx35
  refine cndI (fun hd => ?_) (fun hd => ?_)
  · rw [if_pos hd] at hq
    exact hq.err hxx
  rw [if_neg (by rw [hd]; decide)] at hq
  have ed : decide (((l.inner.length + 1 : Nat) : Int) > 100) = decide (l.inner.length + 1 > 100) := decide_eq_decide.2 (by omega)
  rw [ed]
  refine cndI (fun h1 => ?_) (fun h1 => ?_)
  · rw [if_pos h1] at hq
    exact hq.err hxx
  · rw [if_neg (by rw [h1]; decide)] at hq
    have := hq _ _ _ _ _ _ H35 hxx (hl3.ext hx35)
    rw [el] at this
    exact this
end
end Go.Proofs.Ytkbancdmhcnhjaa.Hw
