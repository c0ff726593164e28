/- Tn To Tu Tv Tw Tx Sk Ty Tz (joined by merge.py) -/
import Derived.Test.YtibhpoikhkokiaaOne8
import Derived.Test.YtibhpoikhkokiaaOne6
import Derived.Shelf.SlIterI.Nil
import Derived.Shelf.SortM.Plain
import Derived.Shelf.SortM.SortNone
import Derived.Test.YtibhpoikhkokiaaProg
/- Histories: graphs. -/
set_option linter.unusedVariables false
set_option linter.unusedSimpArgs false
set_option maxRecDepth 20000
namespace Go.Proofs.Ytibhpoikhkokiaa.Hw
open Go Go.Proofs
def Strict (l : List Int) : Prop := l.Pairwise (· < ·)
/-- The arcs of some kinds, by their first transactions; rising. -/
def GraphOf (rs : List Arc) (want : Int → Bool) (E : Int → List Int) : Prop := ∀ k, Strict (E k) ∧ ∀ y, y ∈ E k ↔ ∃ x ∈ rs, x.a = k ∧ x.b = y ∧ want x.kind = true
structure GraphAt (H : Hp) (m : Nat) (sl : Int → Option Addr × Nat) (E : Int → List Int) : Prop where
  map : MapF H m (fun k => if (E k).isEmpty then none else some (.slice (sl k).1 (E k).length (sl k).2))
  row : ∀ k, (E k).isEmpty = false → SlAt inC H (sl k).1 (E k).length (E k) ∧ (E k).length ≤ (sl k).2
theorem GraphAt.ext {H H' : Hp} {m : Nat} {sl : Int → Option Addr × Nat} {E : Int → List Int} (G : GraphAt H m sl E) (hx : Ext H H') : GraphAt H' m sl E :=
  ⟨G.map.keep (ext_at hx G.map.live), fun k hk => ⟨(G.row k hk).1.ext hx, (G.row k hk).2⟩⟩
theorem GraphAt.look {H : Hp} {m : Nat} {sl : Int → Option Addr × Nat} {E : Int → List Int} {k : Int} {K : Value → Bool → Prop} (G : GraphAt H m sl E) (hk : ∀ A' n' c' b, SlAt inC H A' n' (E k) → n' ≤ c' → K (.slice A' n' c') b) : lookF H .i64 (some m) k (.slice none 0 0) K := by
  refine G.map.look ?_
  cases he : (E k).isEmpty with
  | true =>
    rw [if_pos rfl]
    have e : E k = [] := List.isEmpty_iff.1 he
    exact hk none 0 0 _ (by rw [e]; exact ⟨rfl, .inl rfl, by decide⟩) (Nat.le_refl _)
  | false =>
    rw [if_neg (by decide)]
    exact hk _ _ _ _ (G.row k he).1 (G.row k he).2
theorem strict_sort {l : List Int} (h : l.Nodup) : Strict (sortM l) := by
  have h1 := List.pairwise_mergeSort (le := fun x y : Int => decide (x ≤ y)) (fun a b c h1 h2 => by simp at *; omega) (fun a b => by simp; omega) l
  have h2 : (sortM l).Nodup := ((List.mergeSort_perm l _).nodup_iff).2 h
  unfold Strict
  refine List.Pairwise.imp (fun {a b} hh => ?_) (h1.and h2)
  have := hh.1
  have h3 := hh.2
  simp at this
  omega
/-- A graph where its blocks are. -/
theorem GraphAt.move {H H' : Hp} {m : Nat} {sl : Int → Option Addr × Nat} {E : Int → List Int} (G : GraphAt H m sl E) (h : ∀ q, (q = m ∨ ∃ k, (E k).isEmpty = false ∧ rowB (sl k).1 q) → H' q = H q) : GraphAt H' m sl E := by
  refine ⟨G.map.keep (h m (.inl rfl)), fun k hk => ⟨⟨rfl, ?_, (G.row k hk).1.small⟩, (G.row k hk).2⟩⟩
  rcases (G.row k hk).1.cells with hc | ⟨b, o, hA, hc⟩
  · exact .inl hc
  · refine .inr ⟨b, o, hA, fun j v hj => ?_⟩
    have := hc j v hj
    unfold cl at this ⊢
    rw [h b (.inr ⟨k, hk, o, none, hA⟩)]; exact this
section
variable {H0 H H' : Hp} {rl : Nat → Nat} {v : Nat} {sl : Int → Option Addr × Nat} {vs : Int → List Int} {A : Option Addr} {n c : Nat} {rs : List Arc} {Q : Value → Hp → Prop}
theorem Fam.slice {k : Int} (F : Fam H0 H rl v sl vs) (hl : (vs k).length < huge) {A' : Option Addr} {n' c' : Nat} (h : (if (vs k).isEmpty then some (Value.slice none 0 0) else some (.slice (sl k).1 (vs k).length (sl k).2)) = some (.slice A' n' c')) : SlAt inC H A' n' (vs k) := by
  cases he : (vs k).isEmpty with
  | true =>
    rw [he, if_pos rfl] at h
    cases h
    rw [List.isEmpty_iff.1 he]; exact ⟨rfl, .inl rfl, by decide⟩
  | false =>
    rw [he, if_neg (by decide)] at h
    cases h
    exact (F.row k he).1.slI hl
/-- One row is sorted. -/
theorem Fam.perm {k : Int} {d : List Int} (F : Fam H0 H rl v sl vs) (hp : d.Perm (vs k)) (hne : (vs k).isEmpty = false) (R : Row H0 H' (sl k).1 d.length (sl k).2 1 (ints d)) (hfr : ∀ q, H' q ≠ H q → rowB (sl k).1 q) : Fam H0 H' rl v sl (fun k' => if k' = k then d else vs k') := by
  have hl := hp.length_eq
  have hde : d.isEmpty = false := by
    cases d with
    | nil => rw [List.length_nil] at hl; rw [List.length_eq_zero_iff.1 hl.symm] at hne; cases hne
    | cons a r => rfl
  have keepv : H' v = H v := by
    apply Classical.byContradiction
    intro hne'
    have h1 := hfr v hne'
    obtain ⟨cs, ty, h2⟩ := (F.row k hne).1.cell h1
    obtain ⟨kv, ⟨es, clock, h3, _⟩, _⟩ := F.map
    rw [h2] at h3; cases h3
  refine ⟨(F.map.keep keepv).congr fun k' => ?_, fun k' he => ?_, fun k1 k2 h1 h2 hne' q hq1 hq2 => ?_⟩
  · by_cases e : k' = k
    · subst e; simp only [if_true, hne, hde, hl]
    · simp only [if_neg e]
  · by_cases e : k' = k
    · subst e
      simp only [if_true]
      exact ⟨R, (F.row k' hne).2⟩
    · simp only [if_neg e] at he ⊢
      obtain ⟨r1, r2⟩ := F.row k' he
      refine ⟨r1.keep fun q hq => ?_, r2⟩
      apply Classical.byContradiction
      intro hne'
      exact F.disj k' k he hne e q hq (hfr q hne')
  · have g : ∀ k', (if k' = k then d else vs k').isEmpty = false → (vs k').isEmpty = false := fun k' h => by
      by_cases e : k' = k
      · subst e; exact hne
      · rwa [if_neg e] at h
    exact F.disj k1 k2 (g k1 h1) (g k2 h2) hne' q hq1 hq2
theorem c27 {f : Nat} {fa fc : Array Value} {want : Int → Bool} (hA : SlAt arC H A n rs) (hf : FnOk Try.prog f) (hg : ∀ k H' (Q : Value → Hp → Prop), Q (.bool (want k)) H' → HCalls Try.prog f (fa.toList ++ [.int .i64 k] ++ fc.toList) H' Q) (hlen : rs.length < 1000000000)
    (hq : ∀ m sl E H', GraphOf rs want E → GraphAt H' m sl E → Ext H H' → (∀ q, (q = m ∨ ∃ k, (E k).isEmpty = false ∧ rowB (sl k).1 q) → H q = none) → Q (.map (some m)) H') : HCalls Try.prog 27 [.slice A n c, .func (.func f) fa fc] H Q := by
  refine f27.ok _ _ _ _ _ _ ?_
  unfold f27
  obtain rfl := hA.len
  have hlt := hA.lt
  refine MapF.new fun m1 H2 hm1 x2 o2 M1 => ?_
  have F0 : Fam H H2 (fun q => if q = m1 then 3 else 99) m1 (fun _ => (none, 0)) (fun _ => []) := ⟨M1.congr fun k => rfl, fun k hk => (by cases hk), fun k k' hk => (by cases hk)⟩
  have O0 : OwnR H H2 (fun q => if q = m1 then 3 else 99) := fun q hq => by
    by_cases e : q = m1
    · rw [e]; exact ⟨hm1, M1.live⟩
    · simp only [if_neg e] at hq; omega
  refine scan hlt (fun i H' => ∃ rl sl vs, Fam H H' rl m1 sl vs ∧ Ext H H' ∧ OwnR H H' rl ∧ rl m1 = 3 ∧ ∀ k, (vs k).Nodup ∧ (vs k).length ≤ i ∧ ∀ y, y ∈ vs k ↔ ∃ x ∈ rs.take i, x.a = k ∧ x.b = y ∧ want x.kind = true)
    ⟨_, _, _, F0, x2, O0, by simp, fun k => ⟨List.nodup_nil, Nat.zero_le _, fun y => by simp⟩⟩ (fun i H4 next hi hI hnext => ?_) (fun H4 next hI => ?_)
  · obtain ⟨rl, sl, vs, F, hx, O, hr, hvs⟩ := hI
    obtain ⟨x, hxi⟩ := get_of hi
    have hm1l : H4 m1 ≠ none := F.map.live
    have hvl : (vs x.a).length < 1000000000000 := by have := (hvs x.a).2.1; omega
    have hok : want x.kind = true → (vs x.a).any (fun y => x.b == y) = false → ∀ k, ((if k = x.a then vs x.a ++ [x.b] else vs k)).Nodup ∧ (if k = x.a then vs x.a ++ [x.b] else vs k).length ≤ i + 1 ∧ ∀ y, y ∈ (if k = x.a then vs x.a ++ [x.b] else vs k) ↔ ∃ z ∈ rs.take (i + 1), z.a = k ∧ z.b = y ∧ want z.kind = true := fun hw hany k => by
      obtain ⟨h1, h2, h3⟩ := hvs k
      rw [take_snoc hxi]
      by_cases e : k = x.a
      · subst e
        rw [if_pos rfl]
        have hni : x.b ∉ vs x.a := fun h => by rw [List.any_eq_false] at hany; exact hany _ h (by simp)
        refine ⟨?_, by rw [List.length_append, List.length_singleton]; omega, fun y => ?_⟩
        · rw [List.nodup_append]
          exact ⟨h1, List.pairwise_singleton _ _, fun a ha b hb e => by rw [List.mem_singleton.1 hb] at e; exact hni (e ▸ ha)⟩
        · rw [List.mem_append, h3, List.mem_singleton]
          constructor
          · rintro (⟨z, hz, h⟩ | rfl)
            · exact ⟨z, List.mem_append_left _ hz, h⟩
            · exact ⟨x, List.mem_append_right _ (List.mem_singleton.2 rfl), rfl, rfl, hw⟩
          · rintro ⟨z, hz, h⟩
            rcases List.mem_append.1 hz with hz | hz
            · exact .inl ⟨z, hz, h⟩
            · rw [List.mem_singleton.1 hz] at h; exact .inr h.2.1.symm
      · rw [if_neg e]
        refine ⟨h1, by omega, fun y => ?_⟩
        rw [h3]
        constructor
        · rintro ⟨z, hz, h⟩; exact ⟨z, List.mem_append_left _ hz, h⟩
        · rintro ⟨z, hz, h⟩
          rcases List.mem_append.1 hz with hz | hz
          · exact ⟨z, hz, h⟩
          · rw [List.mem_singleton.1 hz] at h; exact absurd h.1.symm e
    have hno : (want x.kind && !(vs x.a).any (fun y => x.b == y)) = false → ∀ k, (vs k).Nodup ∧ (vs k).length ≤ i + 1 ∧ ∀ y, y ∈ vs k ↔ ∃ z ∈ rs.take (i + 1), z.a = k ∧ z.b = y ∧ want z.kind = true := fun hw k => by
      obtain ⟨h1, h2, h3⟩ := hvs k
      rw [take_snoc hxi]
      refine ⟨h1, by omega, fun y => ?_⟩
      constructor
      · intro hy
        obtain ⟨z, hz, h⟩ := (h3 y).1 hy
        exact ⟨z, List.mem_append_left _ hz, h⟩
      · rintro ⟨z, hz, h⟩
        rcases List.mem_append.1 hz with hz | hz
        · exact (h3 y).2 ⟨z, hz, h⟩
        · rw [List.mem_singleton.1 hz] at h
          obtain ⟨ha, hb, hk⟩ := h
          rw [hk, Bool.true_and, Bool.not_eq_false', List.any_eq_true] at hw
          obtain ⟨y', hy', he⟩ := hw
          have he : x.b = y' := by simpa using he
          rw [← ha, ← hb, he]; exact hy'
    dsimp only
    refine cndT (decide_eq_true (by omega)) (jn_intro (fun J => ∀ H' rl' sl' vs', Fam H H' rl' m1 sl' vs' → Ext H H' → OwnR H H' rl' → rl' m1 = 3 → (∀ k, (vs' k).Nodup ∧ (vs' k).length ≤ i + 1 ∧ ∀ y, y ∈ vs' k ↔ ∃ z ∈ rs.take (i + 1), z.a = k ∧ z.b = y ∧ want z.kind = true) → J H') (fun H' rl' sl' vs' a b c d e => ⟨rfl, hnext H' ⟨rl', sl', vs', a, b, c, d, e⟩⟩) fun J hJ => ⟨by omega, by omega, rd_ar (hA.ext hx) hxi fun q o _ k1 k2 k3 k4 => ⟨x.a, by simpa using k1, x.b, by simpa using k2, x.kind, by simpa using k3, x.item, by simpa using k4, ?_⟩⟩)
    refine jn_intro (fun J2 => ∀ b, b = (want x.kind && !(vs x.a).any (fun y => x.b == y)) → J2 b H4) (fun b hb => cndI (fun hbt => ?_) fun hbf => hJ H4 rl sl vs F hx O hr (hno (by rw [← hb]; exact hbf))) fun J2 h2 => ⟨hf, hg _ _ _ ⟨_, rfl, cndI (fun hw => F.look fun A' n' c' b' hA' => ⟨A', n', c', rfl, c40 (F.slice (by unfold huge; omega) hA') ⟨_, rfl, h2 _ (by rw [hw]; rfl)⟩⟩) fun hw => h2 _ (by rw [hw]; rfl)⟩⟩
    · rw [hbt] at hb
      have hb' := hb.symm
      rw [Bool.and_eq_true, Bool.not_eq_true'] at hb'
      have push : ∀ g, H4 g = none → ∀ A' n' c', (if (vs x.a).isEmpty then some (Value.slice none 0 0) else some (.slice (sl x.a).1 (vs x.a).length (sl x.a).2)) = some (.slice A' n' c') → appendF (upd g (Obj.cells [Value.int .i64 x.b].toArray 3 (0, 0)) H4) 3 1 8 A' n' c' (some ⟨g, 0, none⟩) 1 fun A2 n2 c2 H6 => putF H6 .i64 (some m1) x.a (.slice A2 n2 c2) fun H7 => J H7 := by
        intro g hg' A' n' c' hA'
        have x61 : Ext H4 (upd g (Obj.cells [Value.int .i64 x.b].toArray 3 (0, 0)) H4) := Ext.new hg'
        have e61 : (upd g (Obj.cells [Value.int .i64 x.b].toArray 3 (0, 0)) H4) g = some (.cells [Value.int .i64 x.b].toArray 3 (0, 0)) := upd_at
        generalize upd g (Obj.cells [Value.int .i64 x.b].toArray 3 (0, 0)) H4 = H6 at x61 e61 ⊢
        refine Fam.app (t := x.b) (F.grow x61) (hx.trans x61) (O.grow x61) (by omega) hvl hA' (.inr ⟨g, 0, rfl, fun j u hu => ?_⟩) fun A2 n2 c2 H7 f7g hput => hput _ fun H8 rl3 sl3 F8 x8 O8 hr8 f8g => hJ H8 rl3 sl3 _ F8 x8 O8 ?_ (hok hb'.1 hb'.2)
        · rw [cl_cells e61, Nat.zero_add]; exact hu
        · rw [hr8 m1 (by rw [ext_at x61 hm1l]; exact hm1l)]; exact hr
      exact ⟨F.look fun A' n' c' b' hA' => ⟨A', n', c', rfl, fun g hg' => push g hg' A' n' c' hA'⟩, fun g hg' => (F.grow (Ext.new hg')).look fun A' n' c' b' hA' => ⟨A', n', c', rfl, push g hg' A' n' c' hA'⟩⟩
  · obtain ⟨rl, sl, vs, F, hx, O, hr, hvs⟩ := hI
    rw [List.take_length] at hvs
    dsimp only
    refine cndF (decide_eq_false (by omega)) ?_
    obtain ⟨kv, hm, hkv0⟩ := F.map
    have hkv : ∀ k, kvGet kv k = if (vs k).isEmpty then none else some (.slice (sl k).1 (vs k).length (sl k).2) := hkv0
    refine range_to hm fun i H9 hi9 x9 hI9 f9g => ?_
    have hib : i ≠ m1 := fun e => F.map.live (e ▸ hi9)
    have h0i : H i = none := hx.none hi9
    refine ⟨fun n s H' => ∃ left vs', n = left.length ∧ IterAt .i64 H' i m1 kv left ∧ Fam H H' rl m1 sl vs' ∧ Ext H H' ∧ (∀ k, (vs' k).Perm (vs k)) ∧ (∀ k, k ∉ left → k ∈ kv.map (·.1) → Strict (vs' k)), ⟨_, kv.map (·.1), vs, rfl, hI9, F.grow x9, hx.trans x9, fun k => List.Perm.refl _, fun k h1 h2 => absurd h2 h1⟩, ?_⟩
    rintro n s H11 ⟨left, vs', rfl, hI, F', hx', hp, hst⟩
    refine jn_out ?_
    refine next_to hI hib (fun hl => cndF rfl ?_) (fun k u H15 hku hkl hI15 hE f15g => ?_)
    · subst hl
      refine hq m1 sl vs' H11 (fun k => ⟨?_, fun y => (hp k).mem_iff.trans ((hvs k).2.2 y)⟩) ⟨F'.map, fun k hk => ?_⟩ hx' (fun q hq' => ?_)
      rotate_left 2
      · rcases hq' with rfl | ⟨k, hk, hb⟩
        · exact hm1
        · exact ((F'.row k hk).1.lt hb).2
      · cases he : (vs k).isEmpty with
        | true =>
          have : vs' k = [] := by
            have := (hp k).length_eq
            rw [List.isEmpty_iff.1 he] at this
            exact List.length_eq_zero_iff.1 this
          rw [this]; exact List.Pairwise.nil
        | false =>
          refine hst k (by simp) ?_
          have h1 := hkv k
          rw [he, if_neg (by decide)] at h1
          exact List.mem_map.2 ⟨_, (kvGet_mem hm.keys).1 h1, rfl⟩
      · have hl := (hp k).length_eq
        have := (hvs k).2.1
        exact ⟨(F'.row k hk).1.slI (by unfold huge; omega), (F'.row k hk).1.2.1⟩
    · have hu := (kvGet_mem hm.keys).2 hku
      have hne : (vs k).isEmpty = false := by
        cases he : (vs k).isEmpty with
        | false => rfl
        | true => rw [hkv k, he] at hu; cases hu
      rw [hkv k, hne, if_neg (by decide)] at hu
      cases hu
      have hl := (hp k).length_eq
      have hne' : (vs' k).isEmpty = false := by
        cases he : (vs' k).isEmpty with
        | false => rfl
        | true => rw [List.isEmpty_iff.1 he] at hl; rw [List.length_eq_zero_iff.1 hl.symm] at hne; cases hne
      have hic : ∀ cs ty z, H11 i ≠ some (.cells cs ty z) := fun cs ty z h => by
        obtain ⟨es, clock, since, seen, c0, hh, _⟩ := hI
        rw [hh] at h; cases h
      have F15 := F'.off hic hib.symm f15g
      have x15 : Ext H H15 := fun q o hq' => (f15g q fun e => by rw [e, h0i] at hq'; cases hq').trans (hx' q o hq')
      have hlt' : (left.filter fun y => decide (y ≠ k)).length < left.length := by
        have h1 := List.length_filter_le (fun y => decide (y ≠ k)) left
        by_cases e : (left.filter fun y => decide (y ≠ k)).length = left.length
        · have := List.length_filter_eq_length_iff.1 e k hkl
          simp at this
        · omega
      have R := (F15.row k hne').1
      have hvk := (hvs k).2.1
      refine ⟨k, rfl, _, _, _, rfl, cndT rfl (entry_to hE ⟨k, rfl, _, _, _, rfl, ?_⟩)⟩
      rw [← hl]
      rw [← ints_eq] at R
      refine c49 R x15 (by unfold big; omega) fun H59 R59 hsl x59 f59g => ⟨rfl, rfl, _, hlt', _, fun k' => if k' = k then sortM (vs' k) else vs' k', rfl, ?_, ?_, x59, fun k' => ?_, fun k' h1 h2 => ?_⟩
      · have hni : ∀ q, (∀ cs ty z, H15 q ≠ some (.cells cs ty z)) → H59 q = H15 q := fun q hq' => by
          apply Classical.byContradiction
          intro hne2
          obtain ⟨cs, ty, h1⟩ := (F15.row k hne').1.cell (f59g q hne2)
          exact hq' _ _ _ h1
        refine hI15.ext (hni i fun cs ty z h => ?_) (hni m1 fun cs ty z h => ?_)
        · obtain ⟨es, clock, since, seen, c0, hh, _⟩ := hI15
          rw [hh] at h; cases h
        · exact F15.map.ne h rfl
      · unfold RowI at R59
        rw [ints_eq] at R59
        have hp2 : (sortM (vs' k)).Perm (vs' k) := List.mergeSort_perm _ _
        exact F15.perm hp2 hne' R59 f59g
      · show (if k' = k then sortM (vs' k) else vs' k').Perm (vs k')
        by_cases e : k' = k
        · rw [if_pos e, e]; exact (List.mergeSort_perm _ _).trans (hp k)
        · rw [if_neg e]; exact hp k'
      · show Strict (if k' = k then sortM (vs' k) else vs' k')
        by_cases e : k' = k
        · rw [if_pos e]
          exact strict_sort (((hp k).nodup_iff).2 (hvs k).1)
        · rw [if_neg e]
          exact hst k' (fun h => h1 (List.mem_filter.2 ⟨h, by simpa using e⟩)) h2
end
end Go.Proofs.Ytibhpoikhkokiaa.Hw

/- Histories: what arcs lead to; circles. -/
set_option linter.unusedVariables false
set_option linter.unusedSimpArgs false
set_option maxRecDepth 20000
namespace Go.Proofs.Ytibhpoikhkokiaa.Hw
open Go Go.Proofs
/-- Arcs lead from one to another one, or it is the same. -/
inductive ReachE (E : Int → List Int) (s : Int) : Int → Prop
  | refl : ReachE E s s
  | step {x y : Int} : ReachE E s x → y ∈ E x → ReachE E s y
open Classical in
noncomputable def reachB (E : Int → List Int) (s y : Int) : Bool := decide (ReachE E s y)
theorem reachB_iff {E : Int → List Int} {s y : Int} : reachB E s y = true ↔ ReachE E s y := by classical unfold reachB; exact ⟨fun h => of_decide_eq_true h, fun h => decide_eq_true h⟩
/-- A slice of numbers on a block of its own, from some place on. -/
def QAt (H0 H : Hp) (A : Option Addr) (n c : Nat) (q : List Int) : Prop := n = q.length ∧ n ≤ c ∧ (c = 0 ∨ ∃ (b o : Nat) (cs : List Value) (ty : Nat), A = some ⟨b, o, none⟩ ∧ H b = some (.cells cs.toArray ty (0, 0)) ∧ o + c ≤ cs.length ∧ (∀ j, j < n → cs[o + j]? = (ints q)[j]?) ∧ H0 b = none)
section
variable {H0 H H' : Hp} {A : Option Addr} {n c : Nat} {q : List Int} {Q : Value → Hp → Prop}
theorem QAt.cellsA (h : QAt H0 H A n c q) : cellsAt H A (ints q) := by
  obtain ⟨h1, h2, h3 | ⟨b, o, cs, ty, rfl, hb, hl, hc, _⟩⟩ := h
  · left
    have : q = [] := List.length_eq_zero_iff.1 (by omega)
    rw [this]; rfl
  · right
    refine ⟨b, o, rfl, fun j v hj => ?_⟩
    have hjn : j < n := by
      have := (List.getElem?_eq_some_iff.1 hj).1
      unfold ints at this
      rw [List.length_map] at this; omega
    rw [cl_cells hb, hc j hjn]; exact hj
theorem QAt.keep (h : QAt H0 H A n c q) (hk : ∀ b cs ty z, H b = some (.cells cs ty z) → H' b = H b) : QAt H0 H' A n c q := by
  obtain ⟨h1, h2, h3 | ⟨b, o, cs, ty, rfl, hb, hl, hc, h0⟩⟩ := h
  · exact ⟨h1, h2, .inl h3⟩
  · exact ⟨h1, h2, .inr ⟨b, o, cs, ty, rfl, (hk b _ _ _ hb).trans hb, hl, hc, h0⟩⟩
theorem QAt.tail {x : Int} (h : QAt H0 H A n c (x :: q)) : QAt H0 H (cutA A (1 * 1) (decide (c = 1))) (n - 1) (c - 1) q := by
  obtain ⟨h1, h2, h3⟩ := h
  rw [List.length_cons] at h1
  refine ⟨by omega, by omega, ?_⟩
  rcases h3 with h3 | ⟨b, o, cs, ty, rfl, hb, hl, hc, h0⟩
  · omega
  by_cases h : c = 1
  · exact .inl (by omega)
  · refine .inr ⟨b, o + 1, cs, ty, ?_, hb, by omega, fun j hj => ?_, h0⟩
    · rw [decide_eq_false h]; rfl
    · rw [show o + 1 + j = o + (j + 1) by omega, hc (j + 1) (by omega)]; rfl
theorem QAt.push {y : Int} {K : Option Addr → Nat → Nat → Hp → Prop} (h : QAt H0 H A n c q) (hx : Ext H0 H) (hs : q.length < 1000000000000) {g : Nat} (hg : H g = some (.cells [Value.int .i64 y].toArray 3 (0, 0)))
    (hk : ∀ A' c' H', QAt H0 H' A' (n + 1) c' (q ++ [y]) → Ext H0 H' → (∀ b, (∀ cs ty z, H b ≠ some (.cells cs ty z)) → H b ≠ none → H' b = H b) → K A' (n + 1) c' H') : appendF H 3 1 8 A n c (some ⟨g, 0, none⟩) 1 K := by
  have hcA := h.cellsA
  obtain ⟨rfl, h2, h3⟩ := h
  refine ⟨by omega, by omega, [.int .i64 y], rfl, .inr ⟨g, 0, rfl, fun j v hj => by rw [cl_cells hg, Nat.zero_add]; exact hj⟩, fun v hv => by obtain rfl := List.mem_singleton.1 hv; rfl, fun hc => ⟨fun h0 => by omega, fun _ => ?_⟩, fun hc => ⟨ints q, by unfold ints; rw [List.length_map, Nat.mul_one], hcA, fun b cap rest hb hcap hcl hrl => ?_⟩⟩
  · rcases h3 with h3 | ⟨b, o, cs, ty, rfl, hb, hl, hcs, h0⟩
    · omega
    refine ⟨b, o, cs, ty, rfl, hb, by omega, ?_⟩
    have hsl : (setR cs (o + q.length * 1) [.int .i64 y]).length = cs.length := setR_length (by simp only [List.length_singleton]; omega)
    refine hk _ c _ ⟨by rw [List.length_append]; rfl, by omega, .inr ⟨b, o, _, ty, rfl, upd_at, by rw [hsl]; exact hl, fun j hj => ?_, h0⟩⟩ (hx.upd h0) fun b' hb' hn => upd_off fun e => by subst e; exact hb' _ _ _ hb
    unfold setR
    rw [ints_append]
    have hil : (ints q).length = q.length := by unfold ints; rw [List.length_map]
    by_cases hjq : j < q.length
    · rw [List.append_assoc, List.getElem?_append_left (by rw [List.length_take]; omega), List.getElem?_take_of_lt (by omega), hcs j hjq, List.getElem?_append_left (by rw [hil]; exact hjq)]
    · have ej : j = q.length := by omega
      subst ej
      have e2 : (ints q ++ ints [y])[q.length]? = some (.int .i64 y) := by rw [List.getElem?_append_right (by rw [hil]; omega), hil, Nat.sub_self]; rfl
      rw [e2, List.append_assoc, List.getElem?_append_right (by rw [List.length_take]; omega), List.length_take, Nat.min_eq_left (by omega), show o + q.length - (o + q.length * 1) = 0 by omega]
      rfl
  · have hil : (ints q).length = q.length := by unfold ints; rw [List.length_map]
    refine hk _ cap _ ⟨by rw [List.length_append]; rfl, hcap, .inr ⟨b, 0, _, 3, rfl, upd_at, ?_, fun j hj => ?_, hx.none hb⟩⟩ (hx.upd (hx.none hb)) fun b' hb' hn => upd_off fun e => hn (e ▸ hb)
    · simp only [List.length_append, hil, List.length_singleton]; omega
    · rw [Nat.zero_add, ints_append]
      rw [List.getElem?_append_left (by simp only [List.length_append, hil, List.length_singleton]; omega)]
      rfl
theorem filter_drop {U : List Int} {f f' : Int → Bool} {y : Int} (hy : y ∈ U) (h : f y = false) (h' : f' y = true) (hm : ∀ z, f z = true → f' z = true) : (U.filter fun u => !f' u).length + 1 ≤ (U.filter fun u => !f u).length := by
  induction U with
  | nil => cases hy
  | cons a U ih =>
    have mono : (U.filter fun u => !f' u).length ≤ (U.filter fun u => !f u).length := by
      clear ih hy
      induction U with
      | nil => exact Nat.le_refl _
      | cons a U ih =>
        rw [List.filter_cons, List.filter_cons]
        cases h1 : f a with
        | true => rw [hm a h1]; simpa using ih
        | false =>
          cases h2 : f' a with
          | true => simp; omega
          | false => simp; omega
    rw [List.filter_cons, List.filter_cons]
    rcases List.mem_cons.1 hy with rfl | hy
    · rw [h, h']; simp; omega
    · have := ih hy
      cases h1 : f a with
      | true => rw [hm a h1]; simpa using this
      | false =>
        cases h2 : f' a with
        | true => simp; omega
        | false => simp; omega
theorem GraphAt.lookX {m : Nat} {sl : Int → Option Addr × Nat} {E : Int → List Int} {k : Int} {K : Value → Bool → Prop} (G : GraphAt H m sl E) (hx : Ext H H') (hk : ∀ A' n' c' b, SlAt inC H A' n' (E k) → n' ≤ c' → K (.slice A' n' c') b) : lookF H' .i64 (some m) k (.slice none 0 0) K := by
  refine (G.map.keep (ext_at hx G.map.live)).look ?_
  cases he : (E k).isEmpty with
  | true =>
    rw [if_pos rfl]
    have e : E k = [] := List.isEmpty_iff.1 he
    exact hk none 0 0 _ (by rw [e]; exact ⟨rfl, .inl rfl, by decide⟩) (Nat.le_refl _)
  | false =>
    rw [if_neg (by decide)]
    exact hk _ _ _ _ (G.row k he).1 (G.row k he).2
theorem c53 {m : Nat} {sl : Int → Option Addr × Nat} {E : Int → List Int} {s : Int} {U : List Int} (G : GraphAt H m sl E) (hU : ∀ x y, y ∈ E x → y ∈ U) (hUl : U.length < 100000000) (hEl : ∀ x, (E x).length < 100000000)
    (hq : ∀ m1 H', Ext H H' → MapF H' m1 (fun y => boolAt (reachB E s y)) → Q (.map (some m1)) H') : HCalls Try.prog 53 [.map (some m), .int .i64 s] H Q := by
  refine f53.ok _ _ ?_
  unfold f53
  refine MapF.new fun m1 H2 hm1 x2 o2 M1 => M1.put fun H3 M3 o3 => fun g4 hg4 => ?_
  have x3 : Ext H H3 := fun q o hq' => by rw [o3 q fun e => by subst e; rw [hm1] at hq'; cases hq']; exact x2 q o hq'
  generalize hH5 : upd g4 (Obj.cells _ 3 _) H3 = H5
  have e5 : H5 g4 = some (.cells [Value.int .i64 s].toArray 3 (0, 0)) := by subst hH5; exact upd_at
  have x5 : Ext H3 H5 := by subst hH5; exact Ext.new hg4
  have M5 := M3.keep (ext_at x5 M3.live)
  refine ⟨fun k st H' => ∃ A n c q f, st = (((A, n, c), ()), ()) ∧ QAt H H' A n c q ∧ MapF H' m1 (fun y => boolAt (f y)) ∧ Ext H H' ∧ f s = true ∧ (∀ y, f y = true → ReachE E s y) ∧ (∀ x, f x = true → x ∉ q → ∀ y ∈ E x, f y = true) ∧ (∀ x ∈ q, f x = true) ∧ k = 2 * (U.filter fun u => !f u).length + q.length ∧ k < 300000000,
    ⟨_, some ⟨g4, 0, none⟩, 1, 1, [s], fun y => y == s, rfl, ⟨rfl, Nat.le_refl _, .inr ⟨g4, 0, [.int .i64 s], 3, rfl, e5, by simp, fun j hj => by rw [Nat.zero_add]; rfl, x3.none hg4⟩⟩, M5.congr fun y => ?_, x3.trans x5, by simp, fun y hy => ?_, fun x hx hn => ?_, fun x hx => ?_, rfl, ?_⟩, ?_⟩
  · by_cases e : y = s
    · rw [if_pos e, e]; simp [boolAt]
    · rw [if_neg e]
      show none = boolAt (y == s)
      have : (y == s) = false := by simpa using e
      rw [this]; rfl
  · have : y = s := by simpa using hy
    rw [this]; exact .refl
  · have : x = s := by simpa using hx
    exact absurd (by rw [this]; exact List.mem_singleton.2 rfl) hn
  · simpa using hx
  · have := List.length_filter_le (fun u => !(u == s)) U
    simp only [List.length_singleton]; omega
  rintro k st H7 ⟨A, n, c, q, f, rfl, hQ, hM, hx7, f1, f2, f3g, f4g, rfl, hk8⟩
  dsimp only
  cases q with
  | nil =>
    have hn : n = 0 := hQ.1
    subst hn
    refine cndF rfl (hq m1 H7 hx7 (hM.congr fun y => ?_))
    have : f y = reachB E s y := by
      rw [Bool.eq_iff_iff, reachB_iff]
      refine ⟨f2 y, fun h => ?_⟩
      induction h with
      | refl => exact f1
      | step _ hy ih => exact f3g _ ih (by simp) _ hy
    rw [this]
  | cons x q =>
    have hn := hQ.1
    rw [List.length_cons] at hn
    have hfx : f x = true := f4g x List.mem_cons_self
    refine cndT (decide_eq_true (by omega)) ⟨by omega, by omega, at_cells hQ.cellsA (by simp [ints]) fun b o hb hc => ⟨x, ?_, by omega, by omega, ?_⟩⟩
    · have := hc 0 (.int .i64 x) rfl
      simpa using this
    refine G.lookX hx7 fun A13 n13 c12 b12 hs13 hc13 => ⟨A13, n13, c12, rfl, ?_⟩
    obtain rfl := hs13.len
    have hlt := hs13.lt
    have hEx := hEl x
    refine loop_to (E x).length (fun i st H' => ∃ A n c q2 f2', st = (((A, n, c), ((i : Int), ())), ()) ∧ QAt H H' A n c q2 ∧ MapF H' m1 (fun y => boolAt (f2' y)) ∧ Ext H H' ∧ (∀ y, f y = true → f2' y = true) ∧ (∀ y, f2' y = true → ReachE E s y) ∧ (∀ z, f2' z = true → z ∉ q2 → z ≠ x → ∀ y ∈ E z, f2' y = true) ∧ (∀ z ∈ q2, f2' z = true) ∧ (∀ y ∈ (E x).take i, f2' y = true) ∧ 2 * (U.filter fun u => !f2' u).length + q2.length ≤ 2 * (U.filter fun u => !f u).length + q.length)
      ⟨_, _, _, q, f, rfl, hQ.tail, hM, hx7, fun y h => h, f2, fun z hz hn hne => f3g z hz (fun h => (List.mem_cons.1 h).elim hne hn), fun z hz => f4g z (List.mem_cons_of_mem _ hz), fun y hy => by simp at hy, Nat.le_refl _⟩ ?_
    rintro i st H15 next hi ⟨A2, n2, c2, q2, f', rfl, hQ2, hM2, hx2, g1, g2, g3, g4', g5, g6⟩ hnext
    dsimp only
    by_cases h : i < (E x).length
    · obtain ⟨y, hy⟩ := get_of h
      have ei : IntKind.i64.wrap ((i : Int) + 1) = ((i + 1 : Nat) : Int) := by rw [wrap_id (by omega) (by omega)]; rfl
      have hyE : y ∈ E x := List.mem_of_getElem? hy
      have hyU := hU x y hyE
      have hFl := List.length_filter_le (fun u => !f u) U
      refine cndT (decide_eq_true (by omega)) (jn_intro (fun J => ∀ A3 n3 c3g H' q3 f3g', QAt H H' A3 n3 c3g q3 → MapF H' m1 (fun y => boolAt (f3g' y)) → Ext H H' → (∀ y, f y = true → f3g' y = true) → (∀ y, f3g' y = true → ReachE E s y) → (∀ z, f3g' z = true → z ∉ q3 → z ≠ x → ∀ y ∈ E z, f3g' y = true) → (∀ z ∈ q3, f3g' z = true) → (∀ y ∈ (E x).take (i + 1), f3g' y = true) → 2 * (U.filter fun u => !f3g' u).length + q3.length ≤ 2 * (U.filter fun u => !f u).length + q.length → J A3 n3 c3g H')
        (fun A3 n3 c3g H' q3 f3g' a1 a2 a3 a4 a5 a6 a7 a8 a9 => ⟨rfl, hnext _ _ h ⟨A3, n3, c3g, q3, f3g', by rw [ei], a1, a2, a3, a4, a5, a6, a7, a8, a9⟩⟩) fun J hJ => ⟨by omega, by omega, rd_in (hs13.ext hx2) hy fun b o _ hc => ⟨y, by simpa using hc, hM2.look ⟨f' y, by unfold boolAt; cases f' y <;> rfl, cndI (fun hfy => ?_) fun hfy => ?_⟩⟩⟩)
      · have hfy : f' y = false := by simpa using hfy
        refine hM2.put fun H22 M22 o22 => fun g23 hg23 => ?_
        have x22 : Ext H H22 := fun b o hb => by rw [o22 b fun e => by subst e; rw [hm1] at hb; cases hb]; exact hx2 b o hb
        have Q22 : QAt H H22 A2 n2 c2 q2 := hQ2.keep fun b cs ty z hb => o22 b (hM2.ne hb).symm
        generalize hH24 : upd g23 (Obj.cells _ 3 _) H22 = H24
        have e24 : H24 g23 = some (.cells [Value.int .i64 y].toArray 3 (0, 0)) := by subst hH24; exact upd_at
        have x24 : Ext H22 H24 := by subst hH24; exact Ext.new hg23
        have Q24 : QAt H H24 A2 n2 c2 q2 := Q22.keep fun b cs ty z hb => ext_at x24 (by rw [hb]; simp)
        refine Q24.push (x22.trans x24) ?_ e24 fun A3 c3g H26 Q26 x26 k26 => hJ A3 _ c3g H26 _ (fun u => u == y || f' u) Q26 ?_ x26 (fun z hz => by rw [g1 z hz, Bool.or_true]) (fun z hz => ?_) (fun z hz hn hne => ?_) (fun z hz => ?_) (fun z hz => ?_) ?_
        · rw [List.length_cons] at hk8; omega
        · have M24 := M22.keep (ext_at x24 M22.live)
          have e26 : H26 m1 = H24 m1 := k26 m1 (fun cs ty z hb => M24.ne hb rfl) M24.live
          exact (M24.keep e26).congr fun u => by
            by_cases e : u = y
            · rw [if_pos e, e]; simp [boolAt]
            · rw [if_neg e]
              have : (u == y) = false := by simpa using e
              rw [this, Bool.false_or]
        · rcases Bool.or_eq_true_iff.1 hz with hz | hz
          · have : z = y := by simpa using hz
            rw [this]; exact .step (f2 x hfx) hyE
          · exact g2 z hz
        · rcases Bool.or_eq_true_iff.1 hz with hz | hz
          · have : z = y := by simpa using hz
            exact absurd (by rw [this]; simp) hn
          · intro u hu
            rw [g3 z hz (fun h => hn (List.mem_append_left _ h)) hne u hu, Bool.or_true]
        · rcases List.mem_append.1 hz with hz | hz
          · rw [g4' z hz, Bool.or_true]
          · rw [List.mem_singleton.1 hz]; simp
        · rw [take_snoc hy] at hz
          rcases List.mem_append.1 hz with hz | hz
          · rw [g5 z hz, Bool.or_true]
          · rw [List.mem_singleton.1 hz]; simp
        · have := filter_drop (f := f') (f' := fun u => u == y || f' u) hyU hfy (by simp) (fun z hz => by rw [hz, Bool.or_true])
          rw [List.length_append, List.length_singleton]; omega
      · have hfy : f' y = true := by simpa using hfy
        refine hJ A2 n2 c2 H15 q2 f' hQ2 hM2 hx2 g1 g2 g3 g4' (fun z hz => ?_) g6
        rw [take_snoc hy] at hz
        rcases List.mem_append.1 hz with hz | hz
        · exact g5 z hz
        · rw [List.mem_singleton.1 hz]; exact hfy
    · obtain rfl : i = (E x).length := by omega
      rw [List.take_length] at g5
      refine cndF (decide_eq_false (by omega)) ⟨rfl, _, ?_, A2, n2, c2, q2, f', rfl, hQ2, hM2, hx2, g1 s f1, g2, fun z hz hn => ?_, g4', rfl, ?_⟩
      · rw [List.length_cons]; omega
      · by_cases e : z = x
        · rw [e]; exact g5
        · exact g3 z hz hn e
      · rw [List.length_cons] at hk8; omega
end
end Go.Proofs.Ytibhpoikhkokiaa.Hw

/- Histories: Faults. -/
set_option linter.unusedVariables false
set_option linter.unusedSimpArgs false
set_option maxRecDepth 20000
namespace Go.Proofs.Ytibhpoikhkokiaa.Hw
open Go Go.Proofs
/-- Arcs of some kinds lead from one to another one, or it is the same. -/
inductive ReachR (rs : List Arc) (want : Int → Bool) (s : Int) : Int → Prop
  | refl : ReachR rs want s s
  | step {x : Arc} : ReachR rs want s x.a → x ∈ rs → want x.kind = true → ReachR rs want s x.b
theorem reach_graph {rs : List Arc} {want : Int → Bool} {E : Int → List Int} (G : GraphOf rs want E) {s y : Int} : ReachE E s y ↔ ReachR rs want s y := by
  constructor
  · intro h
    induction h with
    | refl => exact .refl
    | step _ hy ih =>
      obtain ⟨a, ha, rfl, rfl, hw⟩ := ((G _).2 _).1 hy
      exact .step ih ha hw
  · intro h
    induction h with
    | refl => exact .refl
    | @step a h1 ha hw ih => exact .step ih (((G a.a).2 a.b).2 ⟨a, ha, rfl, rfl, hw⟩)
open Classical in
noncomputable def circB (rs : List Arc) (kind : Int) (want : Int → Bool) : Bool := decide (∃ x ∈ rs, x.kind = kind ∧ ReachR rs want x.b x.a)
open Classical in
noncomputable def circsB (rs : List Arc) : Bool := decide (∃ x ∈ rs, ReachR rs (fun _ => true) x.b x.a)
theorem circB_iff {rs : List Arc} {kind : Int} {want : Int → Bool} : circB rs kind want = true ↔ ∃ x ∈ rs, x.kind = kind ∧ ReachR rs want x.b x.a := by classical unfold circB; exact ⟨fun h => of_decide_eq_true h, fun h => decide_eq_true h⟩
theorem circsB_iff {rs : List Arc} : circsB rs = true ↔ ∃ x ∈ rs, ReachR rs (fun _ => true) x.b x.a := by classical unfold circsB; exact ⟨fun h => of_decide_eq_true h, fun h => decide_eq_true h⟩
def wW (k : Int) : Bool := k == 1
def wP (k : Int) : Bool := k != 3
def wA (k : Int) : Bool := true
def sAb : ByteArray := { data := #[97, 98, 111, 114, 116, 101, 100, 32, 114, 101, 97, 100] }
def sBt : ByteArray := { data := #[114, 101, 97, 100, 32, 98, 101, 116, 119, 101, 101, 110] }
def sWw : ByteArray := { data := #[99, 105, 114, 99, 108, 101, 32, 119, 119] }
def sWr : ByteArray := { data := #[99, 105, 114, 99, 108, 101, 32, 119, 114] }
def sRw : ByteArray := { data := #[99, 105, 114, 99, 108, 101, 32, 114, 119] }
def sRs : ByteArray := { data := #[99, 105, 114, 99, 108, 101, 115, 32, 114, 119] }
def noteL (b : Bool) (s : ByteArray) : List ByteArray := if b then [s] else []
noncomputable def faultsF (l : List Ev) (rs : List Arc) : List ByteArray :=
  noteL (abTo l l.length) sAb ++ noteL (btTo l l.length) sBt ++ noteL (circB rs 1 wW) sWw ++ noteL (circB rs 2 wP) sWr ++ noteL (circB rs 3 wP) sRw ++ noteL (!circB rs 1 wW && (!circB rs 2 wP && (!circB rs 3 wP && circsB rs))) sRs
def stC (s : ByteArray) : List Value := [.string s]
structure OutS (H0 H : Hp) (g : Nat) (out : List ByteArray) : Prop where
  ext : Ext H0 H
  none0 : H0 g = none
  cell : ∃ A c, H g = some (.cells #[.slice A out.length c] 40 (0, 0)) ∧ Row H0 H A out.length c 1 (out.flatMap stC) ∧ ¬ rowB A g
section
variable {H0 H H' : Hp} {Q : Value → Hp → Prop}
theorem OutS.grow {g : Nat} {out : List ByteArray} (O : OutS H0 H g out) (hx : Ext H H') : OutS H0 H' g out := by
  obtain ⟨A, c, h1, h2, h3⟩ := O.cell
  exact ⟨O.ext.trans hx, O.none0, A, c, hx _ _ h1, h2.keep fun q hq => ext_at hx (h2.lt hq).1, h3⟩
theorem c26 {g : Nat} {out : List ByteArray} {b : Bool} {s : ByteArray} (O : OutS H0 H g out) (hs : out.length < 1000) (hq : ∀ H', OutS H0 H' g (out ++ noteL b s) → Q (.bool b) H') : HCalls Try.prog 26 [.bool b, .string s, .pointer (some ⟨g, 0, none⟩)] H Q := by
  refine f26.ok _ _ _ _ ?_
  unfold f26
  refine jn_intro (fun J => ∀ H', OutS H0 H' g (out ++ noteL b s) → J H') (fun H' hO => hq H' hO) fun J hJ => cndI (fun hb => ?_) fun hb => hJ H ?_
  · subst hb
    obtain ⟨A', c', hc, R, hn⟩ := O.cell
    refine ⟨A', out.length, c', cl_cells (cs := [.slice A' out.length c']) hc 0, fun g13 hg13 => ?_⟩
    refine Row.push1 (w := s) (f := stC) (k := 1) (fun _ => rfl) (fun x v hv => by obtain rfl := List.mem_singleton.1 hv; rfl) (by omega) R O.ext (by unfold big; omega) hg13 fun A2 c2 H2 R2 x2 fr2 nb2 => ?_
    have hg3 : H2 g = H g := by
      apply Classical.byContradiction
      intro hne
      rcases fr2 g hne with h | h
      · exact hn h
      · rw [hc] at h; cases h
    have hn2 : ¬ rowB A2 g := fun h => by
      rcases nb2 g h with h | h
      · exact hn h
      · rw [hc] at h; cases h
    refine ⟨[.slice A' out.length c'], 40, hg3.trans hc, by simp, ?_⟩
    exact hJ _ ⟨x2.upd O.none0, O.none0, A2, c2, by rw [upd_at]; rfl, R2.keep fun q hq' => upd_off fun e => hn2 (e ▸ hq'), hn2⟩
  · subst hb
    simpa [noteL] using O
theorem MapAt.live' {k : IntKind} {b : Nat} {kv : KV} (h : MapAt k H b kv) : H b ≠ none := by
  obtain ⟨es, clock, h1, _⟩ := h
  rw [h1]; simp
/-- slices.IndexFunc over arcs, by what a function says of each. -/
theorem c51 {A : Option Addr} {n c : Nat} {l : List Arc} {f : Nat} {fa fc : Array Value} {g : Arc → Bool} (hA : SlAt arC H0 A n l) (hx : Ext H0 H) (hf : FnOk Try.prog f)
    (hg : ∀ x ∈ l, ∀ H' (Q : Value → Hp → Prop), Ext H H' → (∀ H'', Ext H' H'' → Q (.bool (g x)) H'') → HCalls Try.prog f (fa.toList ++ [.agg #[.int .i64 x.a, .int .i64 x.b, .int .i64 x.kind, .int .i64 x.item]] ++ fc.toList) H' Q)
    (hq : ∀ r H', decide (r ≥ 0) = l.any g → Ext H H' → Q (.int .i64 r) H') : HCalls Try.prog 51 [.slice A n c, .func (.func f) fa fc] H Q := by
  refine f51.ok _ _ _ _ _ _ ?_
  unfold f51
  obtain rfl := hA.len
  have hlt := hA.lt
  refine scan hlt (fun i H' => Ext H H' ∧ (l.take i).any g = false) ⟨Ext.refl _, by simp⟩ (fun i H2 next hi hI hnext => ?_) (fun H2 next hI => ?_)
  · obtain ⟨x, hxi⟩ := get_of hi
    dsimp only
    refine cndT (decide_eq_true (by omega)) ⟨by omega, by omega, rd_ar (hA.ext (hx.trans hI.1)) hxi fun q o _ k1 k2 k3 k4 => ⟨x.a, by simpa using k1, x.b, by simpa using k2, x.kind, by simpa using k3, x.item, by simpa using k4, hf, hg x (List.mem_of_getElem? hxi) H2 _ hI.1 fun H3 x3 => ⟨g x, rfl, cndI (fun h => hq _ H3 ?_ (hI.1.trans x3)) (fun h => ⟨rfl, hnext H3 ⟨hI.1.trans x3, ?_⟩⟩)⟩⟩⟩
    · rw [any_hit hxi h, decide_eq_true (by omega)]
    · rw [any_take_succ hxi, hI.2, h]; rfl
  · dsimp only
    refine cndF (decide_eq_false (by omega)) (hq _ H2 ?_ hI.1)
    rw [any_done hI.2]; rfl
theorem c24 {A : Option Addr} {n c : Nat} {l : List Arc} {f : Nat} {fa fc : Array Value} {g : Arc → Bool} (hA : SlAt arC H0 A n l) (hx : Ext H0 H) (hf : FnOk Try.prog f)
    (hg : ∀ x ∈ l, ∀ H' (Q : Value → Hp → Prop), Ext H H' → (∀ H'', Ext H' H'' → Q (.bool (g x)) H'') → HCalls Try.prog f (fa.toList ++ [.agg #[.int .i64 x.a, .int .i64 x.b, .int .i64 x.kind, .int .i64 x.item]] ++ fc.toList) H' Q)
    (hq : ∀ H', Ext H H' → Q (.bool (l.any g)) H') : HCalls Try.prog 24 [.slice A n c, .func (.func f) fa fc] H Q := by
  refine f24.ok _ _ _ _ _ _ ?_
  unfold f24
  exact c51 hA hx hf hg fun r H' hr hx' => ⟨r, rfl, by rw [hr]; exact hq H' hx'⟩
theorem c69 {A : Option Addr} {n c : Nat} {l : List Int} {f : Nat} {fa fc : Array Value} {g : Int → Bool} (hA : SlAt inC H0 A n l) (hx : Ext H0 H) (hf : FnOk Try.prog f)
    (hg : ∀ x ∈ l, ∀ H' (Q : Value → Hp → Prop), Ext H H' → (∀ H'', Ext H' H'' → Q (.bool (g x)) H'') → HCalls Try.prog f (fa.toList ++ [.int .i64 x] ++ fc.toList) H' Q)
    (hq : ∀ r H', decide (r ≥ 0) = l.any g → Ext H H' → Q (.int .i64 r) H') : HCalls Try.prog 69 [.slice A n c, .func (.func f) fa fc] H Q := by
  refine f69.ok _ _ _ _ _ _ ?_
  unfold f69
  obtain rfl := hA.len
  have hlt := hA.lt
  refine scan hlt (fun i H' => Ext H H' ∧ (l.take i).any g = false) ⟨Ext.refl _, by simp⟩ (fun i H2 next hi hI hnext => ?_) (fun H2 next hI => ?_)
  · obtain ⟨x, hxi⟩ := get_of hi
    dsimp only
    refine cndT (decide_eq_true (by omega)) ⟨by omega, by omega, rd_in (hA.ext (hx.trans hI.1)) hxi fun q o _ k1 => ⟨x, by simpa using k1, hf, hg x (List.mem_of_getElem? hxi) H2 _ hI.1 fun H3 x3 => ⟨g x, rfl, cndI (fun h => hq _ H3 ?_ (hI.1.trans x3)) (fun h => ⟨rfl, hnext H3 ⟨hI.1.trans x3, ?_⟩⟩)⟩⟩⟩
    · rw [any_hit hxi h, decide_eq_true (by omega)]
    · rw [any_take_succ hxi, hI.2, h]; rfl
  · dsimp only
    refine cndF (decide_eq_false (by omega)) (hq _ H2 ?_ hI.1)
    rw [any_done hI.2]; rfl
theorem c54 {A : Option Addr} {n c : Nat} {l : List Int} {f : Nat} {fa fc : Array Value} {g : Int → Bool} (hA : SlAt inC H0 A n l) (hx : Ext H0 H) (hf : FnOk Try.prog f)
    (hg : ∀ x ∈ l, ∀ H' (Q : Value → Hp → Prop), Ext H H' → (∀ H'', Ext H' H'' → Q (.bool (g x)) H'') → HCalls Try.prog f (fa.toList ++ [.int .i64 x] ++ fc.toList) H' Q)
    (hq : ∀ H', Ext H H' → Q (.bool (l.any g)) H') : HCalls Try.prog 54 [.slice A n c, .func (.func f) fa fc] H Q := by
  refine f54.ok _ _ _ _ _ _ ?_
  unfold f54
  exact c69 hA hx hf hg fun r H' hr hx' => ⟨r, rfl, by rw [hr]; exact hq H' hx'⟩
theorem c28 {k : Int} (hq : Q (.bool (wW k)) H) : HCalls Try.prog 28 [.int .i64 k] H Q := by
  refine f28.ok _ ?_
  unfold f28; exact hq
theorem c29 {k : Int} (hq : Q (.bool (wP k)) H) : HCalls Try.prog 29 [.int .i64 k] H Q := by
  refine f29.ok _ ?_
  unfold f29; exact hq
theorem c30 {k : Int} (hq : Q (.bool (wA k)) H) : HCalls Try.prog 30 [.int .i64 k] H Q := by
  refine f30.ok _ ?_
  unfold f30; exact hq
section
variable {m : Nat} {sl : Int → Option Addr × Nat} {E : Int → List Int} {rs : List Arc} {want : Int → Bool}
theorem graph_U (G : GraphOf rs want E) : ∀ x y, y ∈ E x → y ∈ rs.map (·.b) := fun x y hy => by
  obtain ⟨a, ha, _, rfl, _⟩ := ((G x).2 y).1 hy
  exact List.mem_map_of_mem ha
theorem strict_nodup {l : List Int} (h : Strict l) : l.Nodup := List.Pairwise.imp (fun {a b} (h : a < b) => by omega) h
theorem graph_len (G : GraphOf rs want E) (x : Int) : (E x).length ≤ rs.length := by
  have := nodup_len (strict_nodup (G x).1) (graph_U G x)
  rwa [List.length_map] at this
theorem c31 {A : Option Addr} {n c : Nat} {kind : Int} (hA : SlAt arC H0 A n rs) (hx : Ext H0 H) (G : GraphOf rs want E) (GA : GraphAt H m sl E) (hl : rs.length < 100000000) (hq : ∀ H', Ext H H' → Q (.bool (circB rs kind want)) H') : HCalls Try.prog 31 [.slice A n c, .int .i64 kind, .map (some m)] H Q := by
  refine f31.ok _ _ _ _ _ ?_
  unfold f31
  intro g1 hg1
  generalize hH2 : upd g1 (Obj.cells _ 3 _) H = H2
  have e1 : H2 g1 = some (.cells [Value.int .i64 kind].toArray 3 (0, 0)) := by subst hH2; exact upd_at
  have x2 : Ext H H2 := by subst hH2; exact Ext.new hg1
  intro g3 hg3
  generalize hH4 : upd g3 (Obj.cells _ 74 _) H2 = H4
  have e3 : H4 g3 = some (.cells [Value.map (some m)].toArray 74 (0, 0)) := by subst hH4; exact upd_at
  have x4 : Ext H2 H4 := by subst hH4; exact Ext.new hg3
  refine c24 (g := fun x => (x.kind == kind) && reachB E x.b x.a) hA ((hx.trans x2).trans x4) (fnOk 52 rfl) (fun x hxm H' Q' hx' hQ' => ?_) fun H' hx' => ⟨_, rfl, ?_⟩
  · refine f52.ok _ _ _ _ _ _ _ _ ?_
    unfold f52
    refine jn_intro (fun J => ∀ H'', Ext H' H'' → J ((x.kind == kind) && reachB E x.b x.a) H'') (fun H'' h => hQ' H'' h) fun J hJ => ⟨kind, cl_cells (hx' _ _ (x4 _ _ e1)) 0, cndI (fun hk => ⟨some m, cl_cells (hx' _ _ e3) 0, c53 (U := rs.map (·.b)) (GA.ext ((x2.trans x4).trans hx')) (graph_U G) (by rw [List.length_map]; exact hl) (fun z => Nat.lt_of_le_of_lt (graph_len G z) hl) fun m1 H4' x4' M1 => ⟨_, rfl, M1.look ⟨reachB E x.b x.a, by unfold boolAt; cases reachB E x.b x.a <;> rfl, ?_⟩⟩⟩) fun hk => ?_⟩
    · have := hJ H4' x4'
      rw [hk, Bool.true_and] at this; exact this
    · have := hJ H' (Ext.refl _)
      rw [hk, Bool.false_and] at this; exact this
  · have : (rs.any fun x => (x.kind == kind) && reachB E x.b x.a) = circB rs kind want := by
      rw [Bool.eq_iff_iff, List.any_eq_true, circB_iff]
      constructor
      · rintro ⟨x, hx1, h⟩
        rw [Bool.and_eq_true, reachB_iff, reach_graph G] at h
        exact ⟨x, hx1, by simpa using h.1, h.2⟩
      · rintro ⟨x, hx1, h1, h2⟩
        refine ⟨x, hx1, ?_⟩
        rw [Bool.and_eq_true, reachB_iff, reach_graph G]
        exact ⟨by simpa using h1, h2⟩
    rw [this]
    exact hq H' ((x2.trans x4).trans hx')
theorem c32 (G : GraphOf rs wA E) (GA : GraphAt H m sl E) (hl : rs.length < 100000000) (hq : ∀ H', Ext H H' → Q (.bool (circsB rs)) H') : HCalls Try.prog 32 [.map (some m)] H Q := by
  refine f32.ok _ ?_
  unfold f32
  intro g1 hg1
  generalize hH2 : upd g1 (Obj.cells _ 74 _) H = H2
  have e1 : H2 g1 = some (.cells [Value.map (some m)].toArray 74 (0, 0)) := by subst hH2; exact upd_at
  have x2 : Ext H H2 := by subst hH2; exact Ext.new hg1
  have G2 := GA.ext x2
  obtain ⟨kv, hm, hkv0⟩ := G2.map
  have hkv : ∀ k, kvGet kv k = if (E k).isEmpty then none else some (.slice (sl k).1 (E k).length (sl k).2) := hkv0
  refine ⟨some m, cl_cells e1 0, range_to hm fun i4 H5 hi4 x5 hI5 f5g => ?_⟩
  have hib : i4 ≠ m := fun e => G2.map.live (e ▸ hi4)
  refine ⟨fun n s H' => ∃ left, n = left.length ∧ IterAt .i64 H' i4 m kv left ∧ Ext H2 H' ∧ ∀ x y, y ∈ E x → x ∉ left → reachB E y x = false, ⟨_, kv.map (·.1), rfl, hI5, x5, fun x y hy hn => ?_⟩, ?_⟩
  · exfalso
    apply hn
    have hne : (E x).isEmpty = false := by
      cases he : (E x).isEmpty with
      | false => rfl
      | true => rw [List.isEmpty_iff.1 he] at hy; cases hy
    have h1 := hkv x
    rw [hne, if_neg (by decide)] at h1
    exact List.mem_map.2 ⟨_, (kvGet_mem hm.keys).1 h1, rfl⟩
  rintro n s H7 ⟨left, rfl, hI, hx7, hno⟩
  refine jn_out ?_
  refine next_to hI hib (fun hl0 => cndF rfl ?_) (fun k u H11 hku hkl hI11 hE f4 => ?_)
  · subst hl0
    have : circsB rs = false := by
      cases hc : circsB rs with
      | false => rfl
      | true =>
        obtain ⟨x, hx, hr⟩ := circsB_iff.1 hc
        have h1 := hno x.a x.b (((G x.a).2 x.b).2 ⟨x, hx, rfl, rfl, rfl⟩) (by simp)
        rw [reachB_iff.2 ((reach_graph G).2 hr)] at h1; cases h1
    rw [this] at hq
    exact hq H7 (x2.trans hx7)
  · have hu := (kvGet_mem hm.keys).2 hku
    have hne : (E k).isEmpty = false := by
      cases he : (E k).isEmpty with
      | false => rfl
      | true => rw [hkv k, he] at hu; cases hu
    rw [hkv k, hne, if_neg (by decide)] at hu
    cases hu
    have i2 : H2 i4 = none := hi4
    have x11 : Ext H2 H11 := fun q o hq' => (f4 q fun e => by rw [e, i2] at hq'; cases hq').trans (hx7 q o hq')
    have hlt' : (left.filter fun y => decide (y ≠ k)).length < left.length := by
      have h1 := List.length_filter_le (fun y => decide (y ≠ k)) left
      by_cases e : (left.filter fun y => decide (y ≠ k)).length = left.length
      · have := List.length_filter_eq_length_iff.1 e k hkl
        simp at this
      · omega
    refine ⟨k, rfl, _, _, _, rfl, cndT rfl (entry_to hE ⟨k, rfl, _, _, _, rfl, fun g21 hg21 => ?_⟩)⟩
    have x22 : Ext H11 (upd g21 (Obj.cells [Value.int .i64 k].toArray 3 (0, 0)) (upd g21 (Obj.cells [Value.int .i64 0].toArray 3 (0, 0)) H11)) := fun q o hq' => by
      have : q ≠ g21 := fun e => by rw [e, hg21] at hq'; cases hq'
      rw [upd_off this, upd_off this]; exact hq'
    refine ⟨[.int .i64 0], 3, upd_at, by simp, ?_⟩
    have e23 : (upd g21 (Obj.cells [Value.int .i64 k].toArray 3 (0, 0)) (upd g21 (Obj.cells [Value.int .i64 0].toArray 3 (0, 0)) H11)) g21 = some (.cells [Value.int .i64 k].toArray 3 (0, 0)) := upd_at
    show HCalls _ _ _ (upd g21 (Obj.cells [Value.int .i64 k].toArray 3 (0, 0)) (upd g21 (Obj.cells [Value.int .i64 0].toArray 3 (0, 0)) H11)) _
    generalize (upd g21 (Obj.cells [Value.int .i64 k].toArray 3 (0, 0)) (upd g21 (Obj.cells [Value.int .i64 0].toArray 3 (0, 0)) H11)) = H23 at x22 e23 ⊢
    have hsl := (G2.row k hne).1
    refine c54 (g := fun y => reachB E y k) hsl (x11.trans x22) (fnOk 55 rfl) (fun y hy H' Q' hx' hQ' => ?_) fun H25 x25 => ⟨_, rfl, cndI (fun hb => ?_) fun hb => ⟨rfl, _, hlt', _, rfl, ?_, (x11.trans x22).trans x25, fun x y hy hn => ?_⟩⟩
    · refine f55.ok _ _ _ _ _ ?_
      unfold f55
      have h1 := x11.trans (x22.trans hx')
      refine ⟨some m, cl_cells (h1 _ _ e1) 0, k, cl_cells (hx' _ _ e23) 0, c53 (U := rs.map (·.b)) (G2.ext h1) (graph_U G) (by rw [List.length_map]; exact hl) (fun z => Nat.lt_of_le_of_lt (graph_len G z) hl) fun m1 H4' x4' M1 => ⟨_, rfl, ext_at x4' (by rw [hx' _ _ e23]; simp), M1.look ⟨reachB E y k, by unfold boolAt; cases reachB E y k <;> rfl, hQ' H4' x4'⟩⟩⟩
    · have : circsB rs = true := by
        obtain ⟨y, hy, hr⟩ := List.any_eq_true.1 hb
        obtain ⟨a, ha, rfl, rfl, _⟩ := ((G k).2 y).1 hy
        exact circsB_iff.2 ⟨a, ha, (reach_graph G).1 (reachB_iff.1 hr)⟩
      rw [this] at hq
      exact hq H25 (((x2.trans x11).trans x22).trans x25)
    · have li : H11 i4 ≠ none := by obtain ⟨es, clock, since, seen, c0, hh, _⟩ := hI11; rw [hh]; simp
      exact hI11.ext ((ext_at (x22.trans x25) li)) ((ext_at (x22.trans x25) hI11.map.live'))
    · by_cases e : x = k
      · rw [e] at hy ⊢
        rw [List.any_eq_false] at hb
        have := hb y hy
        simpa using this
      · exact hno x y hy fun h => hn (List.mem_filter.2 ⟨h, by simpa using e⟩)
end
end
end Go.Proofs.Ytibhpoikhkokiaa.Hw

/- Histories: Faults and Arcs, whole. -/
set_option linter.unusedVariables false
set_option linter.unusedSimpArgs false
set_option maxRecDepth 20000
namespace Go.Proofs.Ytibhpoikhkokiaa.Hw
open Go Go.Proofs
theorem valid_ok {l : List Ev} (h : validM l = true) : OkTo l l.length ∧ l.length ≤ 2000 := by
  unfold validM at h
  simp only [Bool.and_eq_true, decide_eq_true_eq] at h
  exact ⟨good_iff.1 h.2, h.1⟩
/-- What Faults hands back. -/
def FaultsQ (H : Hp) (Q : Value → Hp → Prop) (l : List Ev) : Prop :=
  (validM l = false → ∀ H', Ext H H' → Q (.tuple #[.slice none 0 0, .int .i64 2]) H') ∧
  (validM l = true → ∀ rs A c H', ArcsOf l rs → Ext H H' → SlAt stC H' A (faultsF l rs).length (faultsF l rs) → (faultsF l rs).length ≤ c → Q (.tuple #[.slice A (faultsF l rs).length c, .int .i64 0]) H')
def ArcsQ (H : Hp) (Q : Value → Hp → Prop) (l : List Ev) : Prop :=
  (validM l = false → ∀ H', Ext H H' → Q (.tuple #[.slice none 0 0, .int .i64 2]) H') ∧
  (validM l = true → ∀ rs A c H', ArcsOf l rs → Ext H H' → SlAt arC H' A rs.length rs → rs.length ≤ c → Q (.tuple #[.slice A rs.length c, .int .i64 0]) H')
theorem noteL_len {b : Bool} {s : ByteArray} : (noteL b s).length ≤ 1 := by unfold noteL; cases b <;> simp
section
variable {H : Hp} {Q : Value → Hp → Prop} {A : Option Addr} {n cp : Nat} {l : List Ev}
theorem c14 (hA : SlAt evC H A n l) (hc : n ≤ cp) (hq : ArcsQ H Q l) : HCalls Try.prog 14 [.slice A n cp] H Q := by
  refine f14.ok _ _ _ ?_
  unfold f14
  obtain ⟨q1, q2⟩ := hq
  refine c13 hA fun H2 x2 => ⟨_, rfl, ?_⟩
  cases hv : validM l with
  | false => exact cndT rfl (q1 hv H2 x2)
  | true =>
    obtain ⟨hok, hlen⟩ := valid_ok hv
    refine cndF rfl (c19 (hA.ext x2) hc hok hlen fun g c b v w sl H5 x5 B => ⟨_, rfl, c21 B hlen fun rs A' c' H8 ha hl x8 R => ⟨_, _, _, rfl, q2 hv rs A' c' H8 ha ((x2.trans x5).trans x8) ⟨rfl, R.cells, by unfold huge; omega⟩ R.2.1⟩⟩)
theorem c12 (hA : SlAt evC H A n l) (hc : n ≤ cp) (hq : FaultsQ H Q l) : HCalls Try.prog 12 [.slice A n cp] H Q := by
  refine f12.ok _ _ _ ?_
  unfold f12
  obtain ⟨q1, q2⟩ := hq
  refine c13 hA fun H2 x2 => ⟨_, rfl, ?_⟩
  cases hv : validM l with
  | false => exact cndT rfl (q1 hv H2 x2)
  | true =>
    obtain ⟨hok, hlen⟩ := valid_ok hv
    refine cndF rfl (c19 (hA.ext x2) hc hok hlen fun g c b v w sl H5 x5 B => ⟨_, rfl, c21 B hlen fun rs A' c' H8 ha hl x8 R => ⟨_, _, _, rfl, fun g10 hg10 => ?_⟩⟩)
    have hsl : SlAt arC H8 A' rs.length rs := ⟨rfl, R.cells, by unfold huge; omega⟩
    generalize hH11 : upd g10 (Obj.cells _ 40 _) H8 = H11
    have e11 : H11 g10 = some (.cells #[.slice none 0 0] 40 (0, 0)) := by subst hH11; exact upd_at
    have x11 : Ext H8 H11 := by subst hH11; exact Ext.new hg10
    have O0 : OutS H8 H11 g10 [] := ⟨x11, hg10, none, 0, e11, Row.nil, fun ⟨o, z, h⟩ => by cases h⟩
    have B11 := B.ext (x8.trans x11)
    have small : ∀ {o : List ByteArray} {b : Bool} {s : ByteArray}, o.length ≤ 5 → (o ++ noteL b s).length ≤ o.length + 1 := fun {o b s} h => by
      have := noteL_len (b := b) (s := s)
      rw [List.length_append]; omega
    refine c20 B11 ⟨_, _, rfl, fnOk 26 rfl, c26 O0 (by simp) fun H17 O17 => ⟨_, rfl, fnOk 26 rfl, c26 O17 ?_ fun H20 O20 => ⟨_, rfl, ?_⟩⟩⟩
    · have := noteL_len (b := abTo l l.length) (s := sAb)
      simp only [List.nil_append]
      show (noteL (abTo l l.length) sAb).length < 1000
      omega
    have l20 : (([] : List ByteArray) ++ noteL (abTo l l.length) sAb ++ noteL (btTo l l.length) sBt).length ≤ 2 := by
      have := noteL_len (b := abTo l l.length) (s := sAb)
      have := noteL_len (b := btTo l l.length) (s := sBt)
      rw [List.length_append, List.nil_append]; omega
    have O20 : OutS H8 H20 g10 ([] ++ noteL (abTo l l.length) sAb ++ noteL (btTo l l.length) sBt) := O20
    refine c27 (want := wW) (hsl.ext O20.ext) (fnOk 28 rfl) (fun k H' Q' hQ' => c28 hQ') (by omega) fun m1 sl1 E1 H23 G1 GA1 x23 n1 => ⟨_, rfl, ?_⟩
    refine c27 (want := wP) ((hsl.ext O20.ext).ext x23) (fnOk 29 rfl) (fun k H' Q' hQ' => c29 hQ') (by omega) fun m2 sl2 E2 H26 G2 GA2 x26 n2 => ⟨_, rfl, ?_⟩
    refine c27 (want := wA) (((hsl.ext O20.ext).ext x23).ext x26) (fnOk 30 rfl) (fun k H' Q' hQ' => c30 hQ') (by omega) fun m3 sl3 E3 H29 G3 GA3 x29 n3 => ⟨_, rfl, ?_⟩
    have x2029 := (x23.trans x26).trans x29
    have O29 := O20.grow x2029
    classical
    -- what lies beside the strings
    have hB0 : ∃ B0 : Hp, (∀ q, (H20 q ≠ none ∧ H8 q = none) → B0 q = none) ∧ ∀ q, ¬ (H20 q ≠ none ∧ H8 q = none) → B0 q = H29 q := ⟨fun q => if H20 q ≠ none ∧ H8 q = none then none else H29 q, fun q hq' => if_pos hq', fun q hq' => if_neg hq'⟩
    obtain ⟨B0, b0, b1⟩ := hB0
    have xB : Ext B0 H29 := fun q o hq' => by
      by_cases h : H20 q ≠ none ∧ H8 q = none
      · rw [b0 q h] at hq'; cases hq'
      · rw [b1 q h] at hq'; exact hq'
    have x8B : Ext H8 B0 := fun q o hq' => by
      rw [b1 q fun h => by rw [h.2] at hq'; cases hq']
      exact O29.ext q o hq'
    have OB : OutS B0 H29 g10 ([] ++ noteL (abTo l l.length) sAb ++ noteL (btTo l l.length) sBt) := by
      obtain ⟨A2, c2, hc2, R2, hn2⟩ := O20.cell
      have hg : H20 g10 ≠ none := by rw [hc2]; simp
      refine ⟨xB, b0 g10 ⟨hg, hg10⟩, A2, c2, x2029 _ _ hc2, ?_, hn2⟩
      obtain ⟨r1, r2, r3 | ⟨bb, cs, ty, rfl, hbb, hcl, ht, h0⟩⟩ := R2
      · exact ⟨r1, r2, .inl r3⟩
      · exact ⟨r1, r2, .inr ⟨bb, cs, ty, rfl, x2029 _ _ hbb, hcl, ht, b0 bb ⟨by rw [hbb]; simp, h0⟩⟩⟩
    have GB1 : GraphAt B0 m1 sl1 E1 := (GA1.ext (x26.trans x29)).move fun q hq' => b1 q fun h => h.1 (n1 q hq')
    have GB2 : GraphAt B0 m2 sl2 E2 := (GA2.ext x29).move fun q hq' => b1 q fun h => h.1 (x23.none (n2 q hq'))
    have GB3 : GraphAt B0 m3 sl3 E3 := GA3.move fun q hq' => b1 q fun h => h.1 (x23.none (x26.none (n3 q hq')))
    have hslB := hsl.ext x8B
    have key : ∀ {o : List ByteArray} {b : Bool} {s : ByteArray} {k : Nat}, o.length ≤ k → (o ++ noteL b s).length ≤ k + 1 := fun {o b s k} h => by
      have := noteL_len (b := b) (s := s)
      rw [List.length_append]; omega
    have h0 : Ext H B0 := ((x2.trans x5).trans x8).trans x8B
    refine c31 (kind := 1) hslB xB G1 (GB1.ext xB) (by omega) fun H32 x32 => ⟨_, rfl, fnOk 26 rfl, c26 (OB.grow x32) (by omega) fun H35 O35 => ⟨_, rfl, ?_⟩⟩
    have l35 := key (b := circB rs 1 wW) (s := sWw) l20
    refine c31 (kind := 2) hslB O35.ext G2 (GB2.ext O35.ext) (by omega) fun H38 x38 => ⟨_, rfl, fnOk 26 rfl, c26 (O35.grow x38) (Nat.lt_of_le_of_lt l35 (by omega)) fun H41 O41 => ⟨_, rfl, ?_⟩⟩
    have l41 := key (b := circB rs 2 wP) (s := sWr) l35
    refine c31 (kind := 3) hslB O41.ext G2 (GB2.ext O41.ext) (by omega) fun H44 x44 => ⟨_, rfl, fnOk 26 rfl, c26 (O41.grow x44) (Nat.lt_of_le_of_lt l41 (by omega)) fun H47 O47 => ⟨_, rfl, ?_⟩⟩
    have l47 := key (b := circB rs 3 wP) (s := sRw) l41
    refine jn_intro (fun J => ∀ H', OutS B0 H' g10 (faultsF l rs) → J H') (fun H64 O64 => ?_) fun J hJ => ?_
    · obtain ⟨A2, c2, hc2, R2, hn2⟩ := O64.cell
      have hfl : (faultsF l rs).length ≤ 6 := by
        have h := key (b := !circB rs 1 wW && (!circB rs 2 wP && (!circB rs 3 wP && circsB rs))) (s := sRs) l47
        exact h
      exact ⟨A2, _, c2, cl_cells (cs := [.slice A2 (faultsF l rs).length c2]) hc2 0, q2 hv rs A2 c2 H64 ha (h0.trans O64.ext) ⟨rfl, R2.cells, by unfold huge; omega⟩ R2.2.1⟩
    · have fin : ∀ (b : Bool) (H' : Hp), b = (!circB rs 1 wW && (!circB rs 2 wP && (!circB rs 3 wP && circsB rs))) → OutS B0 H' g10 ([] ++ noteL (abTo l l.length) sAb ++ noteL (btTo l l.length) sBt ++ noteL (circB rs 1 wW) sWw ++ noteL (circB rs 2 wP) sWr ++ noteL (circB rs 3 wP) sRw) → FnOk Try.prog 26 ∧ HCalls Try.prog 26 [.bool b, .string sRs, .pointer (some ⟨g10, 0, none⟩)] H' fun v H53 => ∃ x54 : Bool, v = .bool x54 ∧ J H53 := fun b H' hb O' =>
        ⟨fnOk 26 rfl, c26 O' (Nat.lt_of_le_of_lt l47 (by omega)) fun H53 O53 => ⟨_, rfl, hJ H53 (by rw [hb] at O53; exact O53)⟩⟩
      refine cndI (fun h1 => cndI (fun h2 => cndI (fun h3 => c32 G3 (GB3.ext O47.ext) (by omega) fun H50 x50 => ⟨_, rfl, fin _ H50 ?_ (O47.grow x50)⟩) fun h3 => fin false H47 ?_ O47) fun h2 => fin false H47 ?_ O47) fun h1 => fin false H47 ?_ O47
      · rw [h1, h2, h3]; rfl
      · rw [h1, h2, h3]; rfl
      · rw [h1, h2]; rfl
      · rw [h1]; rfl
end
end Go.Proofs.Ytibhpoikhkokiaa.Hw

/- Histories: what a transaction reads and writes at a place. -/
set_option linter.unusedVariables false
set_option linter.unusedSimpArgs false
set_option maxRecDepth 20000
namespace Go.Proofs.Ytibhpoikhkokiaa.Hw
open Go Go.Proofs
def comAt (l : List Ev) (t : Int) : Int := (natOr (commitI l t) : Nat)
def begAt (l : List Ev) (t : Int) : Int := (natOr (beginI l t) : Nat)
def lastS (l : List Ev) (place : Int) (s t : Int) : Int := if decide (comAt l t < place) then t else s
def lastM (l : List Ev) (item place : Int) : Int := (versM l item).foldl (lastS l place) 0
def otherB (l : List Ev) (t frm to : Int) (u : Int) : Bool := (u != t) && (decide (comAt l u ≥ frm) && decide (comAt l u < to))
def cleanB (l : List Ev) (t item frm to : Int) : Bool := !(versM l item).any (otherB l t frm to)
def wantedB (stmt : Int) (x : Ev) : Bool := stmt == 0 || x.stmt == stmt
def okEv (l : List Ev) (t stmt place until_ : Int) (i : Nat) (x : Ev) : Bool :=
  if x.txn != t then true
  else if x.op == 2 then !(wantedB stmt x && x.frm != (if wroteM (l.take i) t x.item then t else lastM l x.item place))
  else if x.op == 3 then !(wantedB stmt x && !cleanB l t x.item place (if decide (until_ < 0) then (i : Int) else until_))
  else true
def okAt (l : List Ev) (t stmt place until_ : Int) (i : Nat) : Bool := match l[i]? with
  | some x => okEv l t stmt place until_ i x
  | none => true
def fitsB (l : List Ev) (t stmt place until_ : Int) : Bool := (List.range l.length).all (okAt l t stmt place until_)
def foundB (l : List Ev) (t stmt low high until_ : Int) : Bool := (List.range (high + 1 - low).toNat).any fun (k : Nat) => fitsB l t stmt (low + k) until_
section
variable {H H' : Hp} {g c b v w : Nat} {sl : Int → Option Addr × Nat} {A : Option Addr} {n cp : Nat} {l : List Ev} {Q : Value → Hp → Prop}
theorem BookAt.com {t : Int} {K : Value → Bool → Prop} (B : BookAt H g c b v w sl A n cp l) (hk : K (.int .i64 (comAt l t)) (comB l t)) : lookF H .i64 (some c) t (.int .i64 0) K := by
  refine B.commits.look ?_
  unfold comAt comB at hk
  cases h : commitI l t <;> rw [h] at hk <;> exact hk
theorem BookAt.beg {t : Int} {K : Value → Bool → Prop} (B : BookAt H g c b v w sl A n cp l) (hk : ∀ b, K (.int .i64 (begAt l t)) b) : lookF H .i64 (some b) t (.int .i64 0) K := by
  refine B.begins.look ?_
  unfold begAt at hk
  cases h : beginI l t <;> rw [h] at hk <;> exact hk _
theorem c91 {item place : Int} (B : BookAt H g c b v w sl A n cp l) (hq : Q (.int .i64 (lastM l item place)) H) : HCalls Try.prog 91 [.pointer (some ⟨g, 0, none⟩), .int .i64 item, .int .i64 place] H Q := by
  refine f91.ok _ _ _ _ ?_
  unfold f91
  refine ⟨some v, B.cl 3, B.look fun A' n' c' b' hA' hc' => ⟨A', n', c', rfl, ?_⟩⟩
  obtain rfl := hA'.len
  have hlt := hA'.lt
  refine loop_to (versM l item).length (fun i s H' => s = ((((versM l item).take i).foldl (lastS l place) 0, ((i : Int), ())), ()) ∧ H' = H) ⟨rfl, rfl⟩ ?_
  rintro i s H6 next hi ⟨rfl, rfl⟩ hnext
  dsimp only
  by_cases h : i < (versM l item).length
  · obtain ⟨t, ht⟩ := get_of h
    have ei : IntKind.i64.wrap ((i : Int) + 1) = ((i + 1 : Nat) : Int) := by rw [wrap_id (by omega) (by omega)]; rfl
    refine cndT (decide_eq_true (by omega)) (jn_intro (fun J => J (lastS l place (((versM l item).take i).foldl (lastS l place) 0) t)) ⟨rfl, hnext _ _ h ⟨by rw [ei, take_snoc ht, List.foldl_append]; rfl, rfl⟩⟩ fun J hJ => ⟨by omega, by omega, rd_in hA' ht fun q o _ k1 => ⟨t, by simpa using k1, some c, B.cl 1, B.com ⟨_, rfl, cndI (fun hb => ?_) fun hb => ?_⟩⟩⟩)
    · unfold lastS at hJ; rw [if_pos hb] at hJ; exact hJ
    · unfold lastS at hJ; rw [if_neg (by rw [hb]; decide)] at hJ; exact hJ
  · obtain rfl : i = (versM l item).length := by omega
    rw [List.take_length]
    exact cndF (decide_eq_false (by omega)) hq
theorem c92 {t item frm to : Int} (B : BookAt H g c b v w sl A n cp l) (hq : ∀ H', Ext H H' → Q (.bool (cleanB l t item frm to)) H') : HCalls Try.prog 92 [.pointer (some ⟨g, 0, none⟩), .int .i64 t, .int .i64 item, .int .i64 frm, .int .i64 to] H Q := by
  refine f92.ok _ _ _ _ _ _ ?_
  unfold f92
  intro g1 hg1
  generalize hH2 : upd g1 (Obj.cells _ 56 _) H = H2
  have e1 : H2 g1 = some (.cells [Value.pointer (some ⟨g, 0, none⟩)].toArray 56 (0, 0)) := by subst hH2; exact upd_at
  have x2 : Ext H H2 := by subst hH2; exact Ext.new hg1
  intro g3 hg3
  generalize hH4 : upd g3 (Obj.cells _ 3 _) H2 = H4
  have e3 : H4 g3 = some (.cells [Value.int .i64 t].toArray 3 (0, 0)) := by subst hH4; exact upd_at
  have x4 : Ext H2 H4 := by subst hH4; exact Ext.new hg3
  intro g5 hg5
  generalize hH6 : upd g5 (Obj.cells _ 3 _) H4 = H6
  have e5 : H6 g5 = some (.cells [Value.int .i64 frm].toArray 3 (0, 0)) := by subst hH6; exact upd_at
  have x6 : Ext H4 H6 := by subst hH6; exact Ext.new hg5
  intro g7 hg7
  generalize hH8 : upd g7 (Obj.cells _ 3 _) H6 = H8
  have e7 : H8 g7 = some (.cells [Value.int .i64 to].toArray 3 (0, 0)) := by subst hH8; exact upd_at
  have x8 : Ext H6 H8 := by subst hH8; exact Ext.new hg7
  have hx8 : Ext H H8 := ((x2.trans x4).trans x6).trans x8
  have B8 := B.ext hx8
  refine ⟨_, cl_cells (((x4.trans x6).trans x8) _ _ e1) 0, some v, B8.cl 3, B8.look fun A' n' c' b' hA' hc' => ⟨A', n', c', rfl, ?_⟩⟩
  refine c54 (g := otherB l t frm to) hA' (Ext.refl _) (fnOk 101 rfl) (fun u hu H' Q' hx' hQ' => ?_) fun H16 x16 => ⟨_, rfl, hq H16 (hx8.trans x16)⟩
  refine f101.ok _ _ _ _ _ _ _ _ _ ?_
  unfold f101
  have B' := B8.ext hx'
  have r1 : cl H' g1 0 = some (.pointer (some ⟨g, 0, none⟩)) := cl_cells (hx' _ _ (((x4.trans x6).trans x8) _ _ e1)) 0
  have r3 : cl H' g3 0 = some (.int .i64 t) := cl_cells (hx' _ _ ((x6.trans x8) _ _ e3)) 0
  have r5 : cl H' g5 0 = some (.int .i64 frm) := cl_cells (hx' _ _ (x8 _ _ e5)) 0
  have r7 : cl H' g7 0 = some (.int .i64 to) := cl_cells (hx' _ _ e7) 0
  have hQ := hQ' H' (Ext.refl _)
  unfold otherB at hQ
  refine jn_intro (fun J => ∀ bb, bb = ((u != t) && (decide (comAt l u ≥ frm) && decide (comAt l u < to))) → J bb) (fun bb hb => by rw [hb]; exact hQ) fun J hJ => ⟨t, r3, cndI (fun h1 => ⟨_, r1, some c, B'.cl 1, frm, r5, B'.com ⟨_, rfl, rfl, cndI (fun h2 => ⟨_, r1, some c, B'.cl 1, to, r7, B'.com ⟨_, rfl, rfl, hJ _ ?_⟩⟩) fun h2 => ⟨rfl, hJ _ ?_⟩⟩⟩) fun h1 => ⟨rfl, rfl, hJ _ ?_⟩⟩
  · rw [show (u != t) = true from h1, h2]; rfl
  · rw [h2]; simp
  · rw [show (u != t) = false from h1]; rfl
theorem no_before {t : Int} {k i : Nat} (hok : OkTo l l.length) (hb : beginI l t = some k) {x : Ev} (hx : l[i]? = some x) (hi : i < k) : x.txn ≠ t := fun e => by
  by_cases h1 : x.op = 1
  · have := hok.begin_at hx (isB_iff.2 ⟨h1, e⟩)
    rw [hb] at this; cases this; omega
  · obtain ⟨b', h2, h3⟩ := hok.begin_lt hx h1
    rw [e, hb] at h2; cases h2; omega
theorem c70 {t stmt place until_ : Int} {k : Nat} (B : BookAt H g c b v w sl A n cp l) (hok : OkTo l l.length) (hb : beginI l t = some k) (hq : ∀ H', Ext H H' → Q (.bool (fitsB l t stmt place until_)) H') :
    HCalls Try.prog 70 [.pointer (some ⟨g, 0, none⟩), .int .i64 t, .int .i64 stmt, .int .i64 place, .int .i64 until_] H Q := by
  refine f70.ok _ _ _ _ _ _ ?_
  unfold f70
  refine MapF.new fun m1 H2 hm1 x2 o2 M1 => ?_
  have B2 := B.ext x2
  refine ⟨some b, B2.cl 2, B2.beg fun b' => ⟨_, rfl, ?_⟩⟩
  have hbk : begAt l t = (k : Int) := by unfold begAt natOr; rw [hb]; rfl
  rw [hbk]
  have hA := B.evs
  obtain rfl := hA.len
  have hlt := hA.lt
  have hkl : k < l.length := by
    obtain ⟨x, hx, _⟩ := lastI_some hb
    exact (List.getElem?_eq_some_iff.1 hx).1
  have w0 : ∀ q, wroteM (l.take k) t q = false := fun q => by
    cases hw : wroteM (l.take k) t q with
    | false => rfl
    | true =>
      obtain ⟨i, x, hi, hx, hp⟩ := any_take.1 hw
      exact absurd (isW_iff.1 hp).2.1 (no_before hok hb hx hi)
  refine loop_to l.length (fun i s H' => ∃ i' : Nat, s = (((i' : Int), ()), ()) ∧ i' = k + i ∧ i' ≤ l.length ∧ Ext H H' ∧ H' m1 ≠ none ∧ MapF H' m1 (fun q => boolAt (wroteM (l.take i') t q)) ∧ ∀ j, j < i' → okAt l t stmt place until_ j = true)
    ⟨k, rfl, rfl, by omega, x2, M1.live, M1.congr fun q => by rw [w0]; rfl, fun j hj => ?_⟩ ?_
  · unfold okAt
    cases hx : l[j]? with
    | none => rfl
    | some x =>
      have := no_before hok hb hx (by omega)
      show okEv l t stmt place until_ j x = true
      unfold okEv
      rw [if_pos (by simpa using this)]
  rintro i s H8 next hi ⟨i', rfl, hki, hil, hx8, hl8, M8, hpre⟩ hnext
  have B8 := B.ext hx8
  dsimp only
  refine ⟨A, l.length, cp, B8.cl 0, ?_⟩
  by_cases h : i' < l.length
  · obtain ⟨x, hx⟩ := get_of h
    have ei : IntKind.i64.wrap (((i' : Nat) : Int) + 1) = ((i' + 1 : Nat) : Int) := by rw [wrap_id (by omega) (by omega)]; rfl
    have hfail : okEv l t stmt place until_ i' x = false → fitsB l t stmt place until_ = false := fun hf => by
      cases hh : fitsB l t stmt place until_ with
      | false => rfl
      | true =>
        unfold fitsB at hh
        rw [List.all_eq_true] at hh
        have h2 := hh i' (List.mem_range.2 h)
        have h3 : okAt l t stmt place until_ i' = okEv l t stmt place until_ i' x := by unfold okAt; rw [hx]
        rw [h3, hf] at h2; cases h2
    have hwsame : ¬ (x.txn = t ∧ x.op = 3) → ∀ q, wroteM (l.take (i' + 1)) t q = wroteM (l.take i') t q := fun hn q => by
      rw [take_snoc hx, wrote_snoc]
      have : isW t q x = false := by
        cases hh : isW t q x with
        | false => rfl
        | true => have := isW_iff.1 hh; exact absurd ⟨this.2.1, this.1⟩ hn
      rw [this, Bool.or_false]
    refine cndT (decide_eq_true (by omega)) (jn_intro (fun J => okEv l t stmt place until_ i' x = true → ∀ H', Ext H H' → MapF H' m1 (fun q => boolAt (wroteM (l.take (i' + 1)) t q)) → J H') (fun ho H' hx' M' => ⟨rfl, hnext _ _ (by omega) ⟨i' + 1, by rw [ei], by omega, by omega, hx', M'.live, M', fun j hj => ?_⟩⟩) fun J hJ => ⟨A, l.length, cp, B8.cl 0, by omega, by omega, rd_ev (hA.ext hx8) hx fun q o _ k1 k2 k3 k4 k5 => ⟨x.op, by simpa using k1, x.txn, by simpa using k2, x.item, by simpa using k3, x.frm, by simpa using k4, x.stmt, by simpa using k5, ?_⟩⟩)
    · by_cases e : j = i'
      · subst e; unfold okAt; rw [hx]; exact ho
      · exact hpre j (by omega)
    refine cndI (fun ht => ?_) fun ht => ?_
    · have ht' : (x.txn != t) = true := ht
      refine hJ (by unfold okEv; rw [if_pos ht']) H8 hx8 (M8.congr fun q => by rw [hwsame fun h => by simp [h.1] at ht'])
    have ht' : (x.txn != t) = false := ht
    have hte : x.txn = t := by simpa using ht'
    refine jn_intro (fun J2 => J2 (wantedB stmt x)) ?_ fun J2 h2 => ?_
    rotate_left
    · unfold wantedB at h2
      refine cndI (fun hs => ?_) fun hs => ?_
      · rw [hs] at h2; exact h2
      · rw [hs] at h2; exact h2
    refine cndI (fun o2 => ?_) fun o2 => cndI (fun o3 => ?_) fun o3 => ?_
    · have hE : okEv l t stmt place until_ i' x = !(wantedB stmt x && x.frm != (if wroteM (l.take i') t x.item then t else lastM l x.item place)) := by unfold okEv; rw [if_neg (by rw [ht']; decide), if_pos o2]
      have no3 : ¬ (x.txn = t ∧ x.op = 3) := fun h => by
        have h2 : x.op = 2 := by simpa using o2
        omega
      refine jn_intro (fun J3 => J3 (if wroteM (l.take i') t x.item then t else lastM l x.item place) H8) ?_ fun J3 h3 => M8.look ⟨wroteM (l.take i') t x.item, by unfold boolAt; cases wroteM (l.take i') t x.item <;> rfl, cndI (fun hw => c91 B8 ⟨_, rfl, ?_⟩) fun hw => ?_⟩
      · refine jn_intro (fun J4 => ∀ bb, bb = (wantedB stmt x && x.frm != (if wroteM (l.take i') t x.item then t else lastM l x.item place)) → J4 bb) (fun bb hbb => cndI (fun ht2 => ?_) fun ht2 => hJ (by rw [hE, ← hbb, ht2] <;> rfl) H8 hx8 (M8.congr fun q => by rw [hwsame no3])) fun J4 h4 => cndI (fun hw => h4 _ (by rw [hw]; rfl)) fun hw => h4 _ (by rw [hw]; rfl)
        have := hq H8 hx8
        rw [hfail (by rw [hE, ← hbb, ht2] <;> rfl)] at this; exact this
      · have hw : wroteM (l.take i') t x.item = false := by simpa using hw
        rw [hw] at h3; exact h3
      · have hw : wroteM (l.take i') t x.item = true := by simpa using hw
        rw [hw] at h3; exact h3
    · have hE : okEv l t stmt place until_ i' x = !(wantedB stmt x && !cleanB l t x.item place (if decide (until_ < 0) then ((i' : Nat) : Int) else until_)) := by unfold okEv; rw [if_neg (by rw [ht']; decide), if_neg (by rw [o2]; decide), if_pos o3]
      have h3 : x.op = 3 := by simpa using o3
      refine jn_intro (fun J3 => ∀ to, to = (if decide (until_ < 0) then ((i' : Nat) : Int) else until_) → J3 to) (fun to hto => ?_) fun J3 h3 => cndI (fun hu => h3 _ (by rw [if_pos hu])) fun hu => h3 _ (by rw [if_neg (by rw [hu]; decide)])
      refine jn_intro (fun J4 => ∀ bb H', bb = (wantedB stmt x && !cleanB l t x.item place to) → Ext H8 H' → J4 bb H') (fun bb H' hbb hx' => cndI (fun ht2 => ?_) fun ht2 => ?_) fun J4 h4 => cndI (fun hw => c92 B8 fun H34 x34 => ⟨_, rfl, h4 _ H34 (by rw [hw]; rfl) x34⟩) fun hw => h4 _ H8 (by rw [hw]; rfl) (Ext.refl _)
      · have := hq H' (hx8.trans hx')
        rw [hfail (by rw [hE, ← hto, ← hbb, ht2] <;> rfl)] at this; exact this
      · refine (M8.keep (ext_at hx' M8.live)).put fun H39 M39 f39 => hJ (by rw [hE, ← hto, ← hbb, ht2] <;> rfl) H39 (fun q o hq' => ?_) (M39.congr fun q => ?_)
        · rw [f39 q fun e => by rw [e, hm1] at hq'; cases hq']
          exact hx' _ _ (hx8 q o hq')
        · rw [take_snoc hx, wrote_snoc]
          by_cases e : q = x.item
          · rw [if_pos e, isW_iff.2 ⟨h3, hte, e.symm⟩, Bool.or_true]; rfl
          · have : isW t q x = false := by
              cases hh : isW t q x with
              | false => rfl
              | true => exact absurd (isW_iff.1 hh).2.2.symm e
            rw [if_neg e, this, Bool.or_false]
    · refine hJ (by unfold okEv; rw [if_neg (by rw [ht']; decide), if_neg (by rw [o2]; decide), if_neg (by rw [o3]; decide)]) H8 hx8 (M8.congr fun q => by rw [hwsame fun h => by simp [h.2] at o3])
  · have e : i' = l.length := by omega
    have : fitsB l t stmt place until_ = true := by
      unfold fitsB
      rw [List.all_eq_true]
      exact fun j hj => hpre j (by have := List.mem_range.1 hj; omega)
    rw [this] at hq
    exact cndF (decide_eq_false (by omega)) (hq H8 hx8)
theorem c61 {t stmt low high until_ : Int} {k : Nat} (B : BookAt H g c b v w sl A n cp l) (hok : OkTo l l.length) (hb : beginI l t = some k) (h1 : 0 ≤ low) (h2 : low < 1000000) (h3 : high < 1000000) (hq : ∀ H', Ext H H' → Q (.bool (foundB l t stmt low high until_)) H') :
    HCalls Try.prog 61 [.pointer (some ⟨g, 0, none⟩), .int .i64 t, .int .i64 stmt, .int .i64 low, .int .i64 high, .int .i64 until_] H Q := by
  refine f61.ok _ _ _ _ _ _ _ ?_
  unfold f61
  refine loop_to (high + 1 - low).toNat (fun i s H' => s = ((low + (i : Int), ()), ()) ∧ Ext H H' ∧ ∀ j, j < i → fitsB l t stmt (low + (j : Int)) until_ = false) ⟨by simp, Ext.refl _, fun j hj => by omega⟩ ?_
  rintro i s H2 next hi ⟨rfl, hx, hno⟩ hnext
  dsimp only
  by_cases h : i < (high + 1 - low).toNat
  · have ei : IntKind.i64.wrap (low + (i : Int) + 1) = low + ((i + 1 : Nat) : Int) := by rw [wrap_id (by omega) (by omega)]; omega
    refine cndT (decide_eq_true (by omega)) (c70 (B.ext hx) hok hb fun H5 x5 => ⟨_, rfl, cndI (fun hf => ?_) fun hf => ⟨rfl, hnext _ _ h ⟨by rw [ei], hx.trans x5, fun j hj => ?_⟩⟩⟩)
    · have : foundB l t stmt low high until_ = true := List.any_eq_true.2 ⟨i, List.mem_range.2 h, hf⟩
      rw [this] at hq
      exact hq H5 (hx.trans x5)
    · by_cases e : j = i
      · subst e; exact hf
      · exact hno j (by omega)
  · have : foundB l t stmt low high until_ = false := by
      unfold foundB
      rw [List.any_eq_false]
      intro j hj
      have := hno j (by have := List.mem_range.1 hj; omega)
      rw [this]; decide
    rw [this] at hq
    exact cndF (decide_eq_false (by omega)) (hq H2 hx)
end
end Go.Proofs.Ytibhpoikhkokiaa.Hw

/- Histories: Fits, Committed, Serial. -/
set_option linter.unusedVariables false
set_option linter.unusedSimpArgs false
set_option maxRecDepth 20000
namespace Go.Proofs.Ytibhpoikhkokiaa.Hw
open Go Go.Proofs
def opOf (t : Int) (x : Ev) : Bool := (x.txn == t) && (x.op == 2 || x.op == 3)
def highM (l : List Ev) (t : Int) : Nat := match l.findIdx? (opOf t) with
  | some i => i
  | none => natOr (commitI l t)
def serialB (l : List Ev) (t : Int) : Bool := foundB l t 0 (begAt l t + 1) (highM l t : Nat) (comAt l t)
def eachS (l : List Ev) (t : Int) (st : Int × Int × Bool) (i : Nat) : Int × Int × Bool := match l[i]? with
  | some x => if x.txn == t then ((i : Int), x.stmt, st.2.2 && (x.stmt == st.2.1 || foundB l t x.stmt (st.1 + 1) i (-1))) else st
  | none => st
def eachTo (l : List Ev) (t : Int) (k n : Nat) : Int × Int × Bool := (List.range n).foldl (fun st j => eachS l t st (k + 1 + j)) ((k : Int), 0, true)
def eachB (l : List Ev) (t : Int) : Bool := (eachTo l t (natOr (beginI l t)) (natOr (commitI l t) - (natOr (beginI l t) + 1))).2.2
theorem eachTo_succ {l : List Ev} {t : Int} {k n : Nat} : eachTo l t k (n + 1) = eachS l t (eachTo l t k n) (k + 1 + n) := by unfold eachTo; rw [List.range_succ, List.foldl_append]; rfl
theorem eachS_false {l : List Ev} {t : Int} {st : Int × Int × Bool} {i : Nat} (h : st.2.2 = false) : (eachS l t st i).2.2 = false := by
  unfold eachS
  split
  · split
    · simp [h]
    · exact h
  · exact h
theorem eachTo_false {l : List Ev} {t : Int} {k n m : Nat} (h : (eachTo l t k n).2.2 = false) (hm : n ≤ m) : (eachTo l t k m).2.2 = false := by
  induction m with
  | zero => have : n = 0 := by omega
            rw [← this]; exact h
  | succ m ih =>
    by_cases e : n = m + 1
    · rw [← e]; exact h
    · rw [eachTo_succ]; exact eachS_false (ih (by omega))
def okT (l : List Ev) (some_ : List Int) (t : Int) : Bool := if some_.any (fun y => t == y) then serialB l t else eachB l t
def fitsM (l : List Ev) (some_ : List Int) : Bool := l.all fun x => !(x.op == 4) || okT l some_ x.txn
theorem not_f : ∀ {z : Bool}, false = !z → z = true := by decide
theorem com_ex {l : List Ev} {t : Int} : comB l t = true ↔ ∃ (i : Nat) (x : Ev), l[i]? = some x ∧ isC t x = true := by
  unfold comB
  constructor
  · intro h
    cases hc : commitI l t with
    | none => rw [hc] at h; cases h
    | some i =>
      obtain ⟨x, hx, hp⟩ := commit_get hc
      exact ⟨i, x, hx, hp⟩
  · rintro ⟨i, x, hx, hp⟩
    obtain ⟨j, hj, _⟩ := lastI_ge hx hp
    show (lastI (isC t) l).isSome = true
    rw [hj]; rfl
theorem fitsM_iff {l : List Ev} {some_ : List Int} : fitsM l some_ = true ↔ ∀ t, comB l t = true → okT l some_ t = true := by
  unfold fitsM
  rw [List.all_eq_true]
  constructor
  · intro h t ht
    obtain ⟨i, x, hx, hp⟩ := com_ex.1 ht
    obtain ⟨o, e⟩ := isC_iff.1 hp
    have := h x (List.mem_of_getElem? hx)
    rw [o, e] at this
    simpa using this
  · intro h x hx
    by_cases o : x.op = 4
    · obtain ⟨i, hi⟩ := List.getElem?_of_mem hx
      have := h x.txn (com_ex.2 ⟨i, x, hi, isC_iff.2 ⟨o, rfl⟩⟩)
      rw [this, Bool.or_true]
    · have : (x.op == 4) = false := by simpa using o
      rw [this]; rfl
section
variable {H H' : Hp} {g c b v w : Nat} {sl : Int → Option Addr × Nat} {A : Option Addr} {n cp : Nat} {l : List Ev} {Q : Value → Hp → Prop}
theorem com_begin {t : Int} {ci : Nat} (hok : OkTo l l.length) (hc : commitI l t = some ci) : ∃ k, beginI l t = some k ∧ k < ci := by
  obtain ⟨x, hx, hp⟩ := commit_get hc
  obtain ⟨o, e⟩ := isC_iff.1 hp
  obtain ⟨k, h1, h2⟩ := hok.begin_lt hx (by rw [o]; decide)
  exact ⟨k, by rw [← e]; exact h1, h2⟩
theorem c41 {t : Int} {ci : Nat} (B : BookAt H g c b v w sl A n cp l) (hok : OkTo l l.length) (hs : l.length ≤ 2000) (hc : commitI l t = some ci) (hq : ∀ H', Ext H H' → Q (.bool (serialB l t)) H') :
    HCalls Try.prog 41 [.pointer (some ⟨g, 0, none⟩), .int .i64 t] H Q := by
  refine f41.ok _ _ _ ?_
  unfold f41
  obtain ⟨k, hb, hkc⟩ := com_begin hok hc
  have hcom : comAt l t = (ci : Int) := by unfold comAt natOr; rw [hc]; rfl
  have hbeg : begAt l t = (k : Int) := by unfold begAt natOr; rw [hb]; rfl
  have hA := B.evs
  obtain rfl := hA.len
  have hlt := hA.lt
  obtain ⟨xc, hxc, hxcp⟩ := commit_get hc
  have hcl : ci < l.length := (List.getElem?_eq_some_iff.1 hxc).1
  refine ⟨some c, B.cl 1, B.com ⟨_, rfl, some b, B.cl 2, B.beg fun b' => ⟨_, rfl, ?_⟩⟩⟩
  rw [hcom, hbeg]
  refine loop_to (ci - k + 1) (fun i s H' => ∃ hh i' : Nat, s = (((hh : Int), ((i' : Int), ())), ()) ∧ H' = H ∧ i' ≤ l.length ∧ ((hh = ci ∧ i' = k + i ∧ i' ≤ ci ∧ ∀ j x, j < i' → l[j]? = some x → opOf t x = false) ∨ (hh < i' ∧ hh < ci ∧ hh = highM l t)))
    ⟨ci, k, rfl, rfl, by omega, .inl ⟨rfl, rfl, by omega, fun j x hj hx => ?_⟩⟩ ?_
  · have := no_before hok hb hx hj
    unfold opOf
    rw [show (x.txn == t) = false by simpa using this]; rfl
  rintro i s H10 next hi ⟨hh, i', rfl, rfl, hil, hst⟩ hnext
  dsimp only
  have ei : IntKind.i64.wrap ((i' : Int) + 1) = ((i' + 1 : Nat) : Int) := by rw [wrap_id (by omega) (by omega)]; rfl
  by_cases hlt2 : i' < hh
  · rcases hst with ⟨rfl, hki, hic, hno⟩ | ⟨h1, h2, h3⟩
    · obtain ⟨x, hx⟩ := get_of (l := l) (i := i') (by omega)
      refine cndT (decide_eq_true (by omega)) (jn_intro (fun J => (opOf t x = true → J (i' : Int)) ∧ (opOf t x = false → J (hh : Int))) ⟨fun ho => ⟨rfl, hnext _ _ (by omega) ⟨i', i' + 1, by rw [ei], rfl, by omega, .inr ⟨by omega, by omega, ?_⟩⟩⟩, fun ho => ⟨rfl, hnext _ _ (by omega) ⟨hh, i' + 1, by rw [ei], rfl, by omega, .inl ⟨rfl, by omega, by omega, fun j y hj hy => ?_⟩⟩⟩⟩ fun J hJ => ⟨A, l.length, cp, B.cl 0, by omega, by omega, rd_ev hA hx fun q o _ k1 k2 k3 k4 k5 => ⟨x.op, by simpa using k1, x.txn, by simpa using k2, x.item, by simpa using k3, x.frm, by simpa using k4, x.stmt, by simpa using k5, ?_⟩⟩)
      · unfold highM
        have : l.findIdx? (opOf t) = some i' := by
          rw [List.findIdx?_eq_some_iff_getElem]
          obtain ⟨g1, g2⟩ := List.getElem?_eq_some_iff.1 hx
          exact ⟨g1, by rw [g2]; exact ho, fun j hj => by rw [hno j _ hj (List.getElem?_eq_getElem (by omega))]; decide⟩
        rw [this]
      · by_cases e : j = i'
        · subst e; rw [hx] at hy; cases hy; exact ho
        · exact hno j y (by omega) hy
      · refine jn_intro (fun J2 => ∀ bb, bb = opOf t x → J2 bb) (fun bb hbb => cndI (fun hbt => hJ.1 (by rw [← hbb, hbt])) fun hbf => hJ.2 (by rw [← hbb, hbf])) fun J2 h2 => cndI (fun g1 => cndI (fun g2 => h2 _ ?_) fun g2 => h2 _ ?_) fun g1 => h2 _ ?_
        · unfold opOf; rw [show (x.txn == t) = true from g1, show (x.op == 2) = true from g2]; rfl
        · unfold opOf; rw [show (x.txn == t) = true from g1, show (x.op == 2) = false from g2]; rfl
        · unfold opOf; rw [show (x.txn == t) = false from g1]; rfl
    · omega
  · have hhigh : hh = highM l t := by
      rcases hst with ⟨rfl, hki, hic, hno⟩ | ⟨h1, h2, h3⟩
      · unfold highM
        have : l.findIdx? (opOf t) = none := by
          rw [List.findIdx?_eq_none_iff]
          intro x hx
          obtain ⟨j, hj⟩ := List.getElem?_of_mem hx
          by_cases hjc : j < i'
          · exact hno j x hjc hj
          · cases ho : opOf t x with
            | false => rfl
            | true =>
              exfalso
              unfold opOf at ho
              simp only [Bool.and_eq_true, beq_iff_eq, Bool.or_eq_true] at ho
              by_cases ej : j = hh
              · subst ej; rw [hxc] at hj; cases hj
                have := (isC_iff.1 hxcp).1
                omega
              · refine hok.after hxc hj (List.getElem?_eq_some_iff.1 hj).1 (by omega) ?_
                rw [ho.1]; exact (isC_isE hxcp).1
        rw [this]
        unfold natOr; rw [hc]; rfl
      · exact h3
    have hhl : hh ≤ ci := by
      rcases hst with ⟨rfl, _⟩ | ⟨_, h2, _⟩
      · exact Nat.le_refl _
      · omega
    have eb : IntKind.i64.wrap ((k : Int) + 1) = begAt l t + 1 := by rw [hbeg, wrap_id (by omega) (by omega)]
    have fin : ∀ J : Bool → Hp → Prop, (∀ H', Ext H10 H' → J (serialB l t) H') → HCalls Try.prog 61 [.pointer (some ⟨g, 0, none⟩), .int .i64 t, .int .i64 0, .int .i64 (IntKind.i64.wrap ((k : Int) + 1)), .int .i64 (hh : Int), .int .i64 (ci : Int)] H10 fun v31 H32 => ∃ x33 : Bool, v31 = .bool x33 ∧ J x33 H32 := fun J hJ => by
      rw [eb]
      refine c61 B hok hb (by omega) (by omega) (by omega) fun H' x' => ⟨_, rfl, ?_⟩
      have := hJ H' x'
      unfold serialB at this
      rw [hcom, ← hhigh] at this
      exact this
    refine cndF (decide_eq_false (by omega)) (jn_intro (fun J => ∀ H', Ext H10 H' → J (serialB l t) H') hq fun J hJ => ⟨some b, B.cl 2, some c, B.cl 1, B.beg fun b' => ⟨_, rfl, rfl, B.com ⟨_, rfl, rfl, ?_⟩⟩, B.com ⟨_, rfl, rfl, B.beg fun b' => ⟨_, rfl, rfl, ?_⟩⟩⟩)
    · rw [hbeg, hcom]; exact fin J hJ
    · rw [hbeg, hcom]; exact fin J hJ
theorem c39 {t : Int} {ci : Nat} (B : BookAt H g c b v w sl A n cp l) (hok : OkTo l l.length) (hs : l.length ≤ 2000) (hc : commitI l t = some ci) (hq : ∀ H', Ext H H' → Q (.bool (eachB l t)) H') :
    HCalls Try.prog 39 [.pointer (some ⟨g, 0, none⟩), .int .i64 t] H Q := by
  refine f39.ok _ _ _ ?_
  unfold f39
  obtain ⟨k, hb, hkc⟩ := com_begin hok hc
  have hcom : comAt l t = (ci : Int) := by unfold comAt natOr; rw [hc]; rfl
  have hbeg : begAt l t = (k : Int) := by unfold begAt natOr; rw [hb]; rfl
  have hA := B.evs
  obtain rfl := hA.len
  have hlt := hA.lt
  obtain ⟨xc, hxc, hxcp⟩ := commit_get hc
  have hcl : ci < l.length := (List.getElem?_eq_some_iff.1 hxc).1
  have hE : eachB l t = (eachTo l t k (ci - (k + 1))).2.2 := by unfold eachB natOr; rw [hb, hc]; rfl
  refine ⟨some b, B.cl 2, B.beg fun b' => ⟨_, rfl, some b, B.cl 2, B.beg fun b'' => ⟨_, rfl, ?_⟩⟩⟩
  rw [hbeg, show IntKind.i64.wrap ((k : Int) + 1) = ((k + 1 : Nat) : Int) by rw [wrap_id (by omega) (by omega)]; rfl]
  refine loop_to (ci - (k + 1)) (fun i s H' => ∃ i' : Nat, s = (((eachTo l t k i).1, ((eachTo l t k i).2.1, ((i' : Int), ()))), ()) ∧ i' = k + 1 + i ∧ Ext H H' ∧ (eachTo l t k i).2.2 = true ∧ 0 ≤ (eachTo l t k i).1 ∧ (eachTo l t k i).1 < i') ⟨k + 1, rfl, rfl, Ext.refl _, rfl, by show (0 : Int) ≤ (k : Int); omega, by show (k : Int) < _; omega⟩ ?_
  rintro i s H10 next hi ⟨i', rfl, hki, hx10, hst, h0, h1⟩ hnext
  have B10 := B.ext hx10
  dsimp only
  refine ⟨some c, B10.cl 1, B10.com ⟨_, rfl, ?_⟩⟩
  rw [hcom]
  by_cases h : i < ci - (k + 1)
  · obtain ⟨x, hx⟩ := get_of (l := l) (i := i') (by omega)
    have ei : IntKind.i64.wrap ((i' : Int) + 1) = ((i' + 1 : Nat) : Int) := by rw [wrap_id (by omega) (by omega)]; rfl
    have hS : eachTo l t k (i + 1) = if x.txn == t then ((i' : Int), x.stmt, (eachTo l t k i).2.2 && (x.stmt == (eachTo l t k i).2.1 || foundB l t x.stmt ((eachTo l t k i).1 + 1) i' (-1))) else eachTo l t k i := by
      rw [eachTo_succ, ← hki]; unfold eachS; rw [hx]
    refine cndT (decide_eq_true (by omega)) (jn_intro (fun J => ∀ H', Ext H10 H' → (eachTo l t k (i + 1)).2.2 = true → J (eachTo l t k (i + 1)).1 (eachTo l t k (i + 1)).2.1 H') (fun H' hx' ho => ⟨rfl, hnext _ _ h ⟨i' + 1, by rw [ei], by omega, hx10.trans hx', ho, ?_, ?_⟩⟩) fun J hJ => ⟨A, l.length, cp, B10.cl 0, by omega, by omega, rd_ev (hA.ext hx10) hx fun q o _ k1 k2 k3 k4 k5 => ⟨x.op, by simpa using k1, x.txn, by simpa using k2, x.item, by simpa using k3, x.frm, by simpa using k4, x.stmt, by simpa using k5, ?_⟩⟩)
    · rw [hS]; split
      · show (0 : Int) ≤ (i' : Int); omega
      · exact h0
    · rw [hS]; split
      · show (i' : Int) < _; omega
      · omega
    · refine cndI (fun ht => ?_) fun ht => ?_
      · have : (x.txn == t) = false := by simpa using ht
        rw [this, if_neg (by decide)] at hS
        have := hJ H10 (Ext.refl _) (by rw [hS]; exact hst)
        rw [hS] at this; exact this
      · have : (x.txn == t) = true := by simpa using ht
        rw [this, if_pos rfl, hst, Bool.true_and] at hS
        rw [hS] at hJ
        refine jn_intro (fun J2 => ∀ H' bb, Ext H10 H' → bb = !(x.stmt == (eachTo l t k i).2.1 || foundB l t x.stmt ((eachTo l t k i).1 + 1) i' (-1)) → J2 bb H') (fun H' bb hx' hbb => cndI (fun hbt => ?_) fun hbf => hJ H' hx' (not_f (hbf.symm.trans hbb))) fun J2 h2 => cndI (fun hs2 => ?_) fun hs2 => ?_
        · have : eachB l t = false := by
            rw [hE]
            refine eachTo_false (n := i + 1) ?_ (by omega)
            rw [hS]
            rw [hbt] at hbb
            simpa using hbb.symm
          rw [this] at hq
          exact hq H' (hx10.trans hx')
        · have hs3 : (x.stmt == (eachTo l t k i).2.1) = false := by simpa using hs2
          rw [show IntKind.i64.wrap ((eachTo l t k i).1 + 1) = (eachTo l t k i).1 + 1 by rw [wrap_id (by omega) (by omega)]]
          exact c61 B10 hok hb (by omega) (by omega) (by omega) fun H24 x24 => ⟨_, rfl, h2 H24 _ x24 (by rw [hs3]; rfl)⟩
        · have hs3 : (x.stmt == (eachTo l t k i).2.1) = true := by simpa using hs2
          exact h2 H10 false (Ext.refl _) (by rw [hs3]; rfl)
  · have e : i = ci - (k + 1) := by omega
    rw [hE, ← e, hst] at hq
    exact cndF (decide_eq_false (by omega)) (hq H10 hx10)
/-- What Fits hands back. -/
def FitsQ (H : Hp) (Q : Value → Hp → Prop) (l : List Ev) (some_ : List Int) : Prop := ∀ H', Ext H H' → Q (.tuple #[.bool (validM l && fitsM l some_), .int .i64 (if validM l then 0 else 2)]) H'
theorem c16 {S : Option Addr} {ns cs : Nat} {some_ : List Int} (hA : SlAt evC H A n l) (hcp : n ≤ cp) (hS : SlAt inC H S ns some_) (hq : FitsQ H Q l some_) : HCalls Try.prog 16 [.slice A n cp, .slice S ns cs] H Q := by
  refine f16.ok _ _ _ _ _ _ ?_
  unfold f16
  unfold FitsQ at hq
  refine c13 hA fun H2 x2 => ⟨_, rfl, ?_⟩
  cases hv : validM l with
  | false => rw [hv] at hq; exact cndT rfl (hq H2 x2)
  | true =>
    rw [hv] at hq
    obtain ⟨hok, hlen⟩ := valid_ok hv
    refine cndF rfl (c19 (hA.ext x2) hcp hok hlen fun g c b v w sl H5 x5 B => ⟨_, rfl, some c, B.cl 1, ?_⟩)
    obtain ⟨kv, hm, hkv0⟩ := B.commits
    have hkv : ∀ t, kvGet kv t = (commitI l t).map natV := hkv0
    refine range_to hm fun i9 H10 hi9 x10 hI10 f10g => ?_
    have hib : i9 ≠ c := fun e => B.commits.live (e ▸ hi9)
    refine ⟨fun m s H' => ∃ left, m = left.length ∧ IterAt .i64 H' i9 c kv left ∧ Ext H5 H' ∧ ∀ t, comB l t = true → t ∉ left → okT l some_ t = true, ⟨_, kv.map (·.1), rfl, hI10, x10, fun t ht hn => ?_⟩, ?_⟩
    · exfalso
      apply hn
      have h1 := hkv t
      unfold comB at ht
      cases hc : commitI l t with
      | none => rw [hc] at ht; cases ht
      | some ci => rw [hc] at h1; exact List.mem_map.2 ⟨_, (kvGet_mem hm.keys).1 h1, rfl⟩
    rintro m s H12 ⟨left, rfl, hI, hx12, hno⟩
    refine jn_out ?_
    refine next_to hI hib (fun hl0 => cndF rfl ?_) (fun t u H16 htu htl hI16 hE f11 => ?_)
    · subst hl0
      have : fitsM l some_ = true := fitsM_iff.2 fun t ht => hno t ht (by simp)
      rw [this] at hq
      exact hq H12 ((x2.trans x5).trans hx12)
    · have h1 := (kvGet_mem hm.keys).2 htu
      rw [hkv t] at h1
      cases hc : commitI l t with
      | none => rw [hc] at h1; cases h1
      | some ci =>
      rw [hc] at h1
      cases h1
      have x16 : Ext H5 H16 := fun q o hq' => (f11 q fun e => by rw [e, hi9] at hq'; cases hq').trans (hx12 q o hq')
      have B16 := B.ext x16
      have hlt' : (left.filter fun y => decide (y ≠ t)).length < left.length := by
        have h1 := List.length_filter_le (fun y => decide (y ≠ t)) left
        by_cases e : (left.filter fun y => decide (y ≠ t)).length = left.length
        · have := List.length_filter_eq_length_iff.1 e t htl
          simp at this
        · omega
      have li : H16 i9 ≠ none := by obtain ⟨es, clock, since, seen, c0, hh, _⟩ := hI16; rw [hh]; simp
      refine ⟨t, rfl, _, rfl, cndT rfl (entry_to hE ⟨t, rfl, _, rfl, ?_⟩)⟩
      refine jn_intro (fun J => (some_.any (fun y => t == y) = true → J 41 H16) ∧ (some_.any (fun y => t == y) = false → J 39 H16)) ⟨fun hs => ?_, fun hs => ?_⟩ fun J hJ => c40 ((hS.ext (x2.trans x5)).ext x16) ⟨_, rfl, cndI (fun hs => hJ.1 hs) fun hs => hJ.2 hs⟩
      · refine ⟨fnOk 41 rfl, c41 B16 hok hlen hc fun H33 x33 => ⟨_, rfl, cndI (fun hb => ?_) fun hb => ⟨rfl, _, hlt', _, rfl, hI16.ext (ext_at x33 li) (ext_at x33 hI16.map.live'), x16.trans x33, fun t' h1 h2 => ?_⟩⟩⟩
        · have : fitsM l some_ = false := by
            cases hf : fitsM l some_ with
            | false => rfl
            | true =>
              have := fitsM_iff.1 hf t (by unfold comB; rw [hc]; rfl)
              unfold okT at this
              rw [hs, if_pos rfl] at this
              rw [this] at hb; cases hb
          rw [this] at hq
          exact hq H33 (((x2.trans x5).trans x16).trans x33)
        · by_cases e : t' = t
          · subst e; unfold okT; rw [hs, if_pos rfl]; simpa using hb
          · exact hno t' h1 fun h => h2 (List.mem_filter.2 ⟨h, by simpa using e⟩)
      · refine ⟨fnOk 39 rfl, c39 B16 hok hlen hc fun H33 x33 => ⟨_, rfl, cndI (fun hb => ?_) fun hb => ⟨rfl, _, hlt', _, rfl, hI16.ext (ext_at x33 li) (ext_at x33 hI16.map.live'), x16.trans x33, fun t' h1 h2 => ?_⟩⟩⟩
        · have : fitsM l some_ = false := by
            cases hf : fitsM l some_ with
            | false => rfl
            | true =>
              have := fitsM_iff.1 hf t (by unfold comB; rw [hc]; rfl)
              unfold okT at this
              rw [hs, if_neg (by decide)] at this
              rw [this] at hb; cases hb
          rw [this] at hq
          exact hq H33 (((x2.trans x5).trans x16).trans x33)
        · by_cases e : t' = t
          · subst e; unfold okT; rw [hs, if_neg (by decide)]; simpa using hb
          · exact hno t' h1 fun h => h2 (List.mem_filter.2 ⟨h, by simpa using e⟩)
theorem c11 (hA : SlAt evC H A n l) (hcp : n ≤ cp) (hq : FitsQ H Q l []) : HCalls Try.prog 11 [.slice A n cp] H Q := by
  refine f11.ok _ _ _ ?_
  unfold f11
  exact c16 hA hcp ⟨rfl, .inl rfl, by decide⟩ fun H' hx => ⟨_, _, rfl, hq H' hx⟩
def all200 : List Int := (List.range 200).map fun (j : Nat) => (j : Int) + 1
theorem c10 (hA : SlAt evC H A n l) (hcp : n ≤ cp) (hq : FitsQ H Q l all200) : HCalls Try.prog 10 [.slice A n cp] H Q := by
  refine f10.ok _ _ _ ?_
  unfold f10
  refine loop_to 200 (fun i s H' => ∃ S cs, s = (((S, i, cs), (((i + 1 : Nat) : Int), ())), ()) ∧ Ext H H' ∧ Row H H' S i cs 1 (((List.range i).map fun (j : Nat) => (j : Int) + 1).flatMap inC)) ⟨none, 0, rfl, Ext.refl _, Row.nil⟩ ?_
  rintro i s H2 next hi ⟨S, cs, rfl, hx, R⟩ hnext
  dsimp only
  have ei : IntKind.i64.wrap (((i + 1 : Nat) : Int) + 1) = ((i + 1 + 1 : Nat) : Int) := by rw [wrap_id (by omega) (by omega)]; rfl
  have hln : ((List.range i).map fun (j : Nat) => (j : Int) + 1).length = i := by simp
  by_cases h : i < 200
  · refine cndT (decide_eq_true (by omega)) fun g4 hg4 => ?_
    have R' : Row H H2 S ((List.range i).map fun (j : Nat) => (j : Int) + 1).length cs 1 (((List.range i).map fun (j : Nat) => (j : Int) + 1).flatMap inC) := by rw [hln]; exact R
    have key := Row.push1 (w := ((i : Int) + 1)) (f := inC) (k := 1) (ty := 3) (eby := 8) (K := fun A6 n6 c6g H7 => KeepX [some (.v (.slice A n cp))] [] ∧ next (((A6, n6, c6g), (IntKind.i64.wrap (((i + 1 : Nat) : Int) + 1), ())), ()) H7) (fun _ => rfl) (fun x v hv => by obtain rfl := List.mem_singleton.1 hv; rfl) (by omega) R' hx (by rw [hln]; unfold big; omega) hg4 fun A2 c2 H7 R2 x7 _ _ => ⟨rfl, ?_⟩
    · rw [hln] at key; exact key
    · have e : ((List.range i).map fun (j : Nat) => (j : Int) + 1) ++ [(i : Int) + 1] = (List.range (i + 1)).map fun (j : Nat) => (j : Int) + 1 := by rw [List.range_succ, List.map_append]; rfl
      rw [e] at R2 ⊢
      have hl2 : ((List.range (i + 1)).map fun (j : Nat) => (j : Int) + 1).length = i + 1 := by simp
      rw [hl2] at R2 ⊢
      exact hnext _ _ h ⟨A2, c2, by rw [ei], x7, R2⟩
  · obtain rfl : i = 200 := by omega
    exact cndF (decide_eq_false (by omega)) (c16 (hA.ext hx) hcp ⟨by simp, R.cells, by simp [huge]⟩ fun H' hx' => ⟨_, _, rfl, hq H' (hx.trans hx')⟩)
end
end Go.Proofs.Ytibhpoikhkokiaa.Hw

/- slices.Sorted and maps.Keys: the kit's contracts, laid at this program (by the kit's own tool). -/
namespace Go.Proofs
open Go.Shelf
def Try.keysA_ren : Go.Shelf.Ren := ⟨fun | 7 => 37 | 10 => 60 | n => n, fun | 23 => 74 | 26 => 3 | 3 => 25 | 28 => 69 | 0 => 0 | 27 => 68 | 33 => 76 | 4 => 4 | n => n, fun | n => n⟩
theorem Try.keysA : Go.Proofs.SlLaysZI.n7 Try.prog Try.keysA_ren := {
  mixed := by kernel_rfl
  f7 := ⟨Try.f37.name, by decide, Try.func37.trans (congrArg some (by kernel_rfl))⟩
  f10 := ⟨Try.f60.name, by decide, Try.func60.trans (congrArg some (by kernel_rfl))⟩
  t0 := Try.underlying0
  a0 := Try.isAgg0
  z0 := Try.sizeOf0
  v0 := Try.zeroValue0
  t4 := Try.underlying4
  a4 := Try.isAgg4
  z4 := Try.sizeOf4
  v4 := Try.zeroValue4
  t23 := Try.underlying74
  a23 := Try.isAgg74
  z23 := Try.sizeOf74
  v23 := Try.zeroValue74
  t26 := Try.underlying3
  a26 := Try.isAgg3
  z26 := Try.sizeOf3
  v26 := Try.zeroValue3
  t27 := Try.underlying68
  a27 := Try.isAgg68
  z27 := Try.sizeOf68
  v27 := Try.zeroValue68
  t28 := Try.underlying69
  a28 := Try.isAgg69
  z28 := Try.sizeOf69
  v28 := Try.zeroValue69
  t33 := Try.underlying76
  a33 := Try.isAgg76
  z33 := Try.sizeOf76
  v33 := Try.zeroValue76 }
def Try.keysB_ren : Go.Shelf.Ren := ⟨fun | 7 => 23 | 10 => 50 | n => n, fun | 23 => 61 | 26 => 3 | 3 => 4 | 28 => 69 | 0 => 0 | 27 => 68 | 33 => 76 | 4 => 4 | n => n, fun | n => n⟩
theorem Try.keysB : Go.Proofs.SlLaysZI.n7 Try.prog Try.keysB_ren := {
  mixed := by kernel_rfl
  f7 := ⟨Try.f23.name, by decide, Try.func23.trans (congrArg some (by kernel_rfl))⟩
  f10 := ⟨Try.f50.name, by decide, Try.func50.trans (congrArg some (by kernel_rfl))⟩
  t0 := Try.underlying0
  a0 := Try.isAgg0
  z0 := Try.sizeOf0
  v0 := Try.zeroValue0
  t4 := Try.underlying4
  a4 := Try.isAgg4
  z4 := Try.sizeOf4
  v4 := Try.zeroValue4
  t23 := Try.underlying61
  a23 := Try.isAgg61
  z23 := Try.sizeOf61
  v23 := Try.zeroValue61
  t26 := Try.underlying3
  a26 := Try.isAgg3
  z26 := Try.sizeOf3
  v26 := Try.zeroValue3
  t27 := Try.underlying68
  a27 := Try.isAgg68
  z27 := Try.sizeOf68
  v27 := Try.zeroValue68
  t28 := Try.underlying69
  a28 := Try.isAgg69
  z28 := Try.sizeOf69
  v28 := Try.zeroValue69
  t33 := Try.underlying76
  a33 := Try.isAgg76
  z33 := Try.sizeOf76
  v33 := Try.zeroValue76 }
def Try.sortedA_ren : Go.Shelf.Ren := ⟨fun | 6 => 22 | 8 => 48 | 9 => 49 | 11 => 67 | 13 => 64 | 12 => 68 | 23 => 79 | 24 => 80 | 14 => 82 | 15 => 83 | 16 => 84 | 17 => 85 | 18 => 86 | 19 => 87 | 20 => 88 | 21 => 89 | 22 => 90 | 25 => 98 | 26 => 94 | 27 => 95 | 28 => 99 | 29 => 100 | 30 => 81 | 31 => 103 | n => n, fun | 26 => 3 | 28 => 69 | 24 => 25 | 0 => 0 | 3 => 3 | 37 => 110 | 48 => 124 | 50 => 126 | 4 => 4 | 40 => 118 | 39 => 117 | 45 => 103 | 5 => 5 | 9 => 9 | 51 => 132 | 55 => 136 | 57 => 140 | 58 => 141 | 33 => 76 | n => n, fun | n => n⟩
theorem Try.sortedA : Go.Proofs.SlLaysZI.n6 Try.prog Try.sortedA_ren := {
  mixed := by kernel_rfl
  f6 := ⟨Try.f22.name, by decide, Try.func22.trans (congrArg some (by kernel_rfl))⟩
  f8 := ⟨Try.f48.name, by decide, Try.func48.trans (congrArg some (by kernel_rfl))⟩
  f11 := ⟨Try.f67.name, by decide, Try.func67.trans (congrArg some (by kernel_rfl))⟩
  t0 := Try.underlying0
  a0 := Try.isAgg0
  z0 := Try.sizeOf0
  v0 := Try.zeroValue0
  t24 := Try.underlying25
  a24 := Try.isAgg25
  z24 := Try.sizeOf25
  v24 := Try.zeroValue25
  t26 := Try.underlying3
  a26 := Try.isAgg3
  z26 := Try.sizeOf3
  v26 := Try.zeroValue3
  t28 := Try.underlying69
  a28 := Try.isAgg69
  z28 := Try.sizeOf69
  v28 := Try.zeroValue69
  i26 := by kernel_rfl }
def Try.sortA_ren : Go.Shelf.Ren := ⟨fun | 5 => 49 | 8 => 64 | 7 => 68 | 19 => 79 | 20 => 80 | 10 => 82 | 11 => 83 | 12 => 84 | 13 => 85 | 14 => 86 | 15 => 87 | 16 => 88 | 17 => 89 | 18 => 90 | 30 => 98 | 31 => 94 | 32 => 95 | 33 => 99 | 34 => 100 | 35 => 81 | 40 => 103 | n => n, fun | 23 => 25 | 25 => 3 | 3 => 3 | 32 => 110 | 22 => 25 | 0 => 0 | 44 => 124 | 46 => 126 | 4 => 4 | 36 => 118 | 35 => 117 | 41 => 103 | 5 => 5 | 9 => 9 | 53 => 132 | 57 => 136 | 63 => 140 | 64 => 141 | n => n, fun | n => n⟩
theorem Try.sortA : Go.Proofs.SlLaysM.n5 Try.prog Try.sortA_ren := {
  mixed := by kernel_rfl
  f5 := ⟨Try.f49.name, by decide, Try.func49.trans (congrArg some (by kernel_rfl))⟩
  f7 := ⟨Try.f68.name, by decide, Try.func68.trans (congrArg some (by kernel_rfl))⟩
  f8 := Try.func64.trans (congrArg some (by kernel_rfl))
  f10 := ⟨Try.f82.name, by decide, Try.func82.trans (congrArg some (by kernel_rfl))⟩
  f11 := ⟨Try.f83.name, by decide, Try.func83.trans (congrArg some (by kernel_rfl))⟩
  f12 := ⟨Try.f84.name, by decide, Try.func84.trans (congrArg some (by kernel_rfl))⟩
  f13 := ⟨Try.f85.name, by decide, Try.func85.trans (congrArg some (by kernel_rfl))⟩
  f14 := ⟨Try.f86.name, by decide, Try.func86.trans (congrArg some (by kernel_rfl))⟩
  f15 := ⟨Try.f87.name, by decide, Try.func87.trans (congrArg some (by kernel_rfl))⟩
  f16 := ⟨Try.f88.name, by decide, Try.func88.trans (congrArg some (by kernel_rfl))⟩
  f17 := ⟨Try.f89.name, by decide, Try.func89.trans (congrArg some (by kernel_rfl))⟩
  f18 := ⟨Try.f90.name, by decide, Try.func90.trans (congrArg some (by kernel_rfl))⟩
  f19 := Try.func79.trans (congrArg some (by kernel_rfl))
  f20 := Try.func80.trans (congrArg some (by kernel_rfl))
  f30 := ⟨Try.f98.name, by decide, Try.func98.trans (congrArg some (by kernel_rfl))⟩
  f31 := Try.func94.trans (congrArg some (by kernel_rfl))
  f32 := Try.func95.trans (congrArg some (by kernel_rfl))
  f33 := ⟨Try.f99.name, by decide, Try.func99.trans (congrArg some (by kernel_rfl))⟩
  f34 := ⟨Try.f100.name, by decide, Try.func100.trans (congrArg some (by kernel_rfl))⟩
  f35 := ⟨Try.f81.name, by decide, Try.func81.trans (congrArg some (by kernel_rfl))⟩
  f40 := ⟨Try.f103.name, by decide, Try.func103.trans (congrArg some (by kernel_rfl))⟩
  t0 := Try.underlying0
  a0 := Try.isAgg0
  z0 := Try.sizeOf0
  v0 := Try.zeroValue0
  t3 := Try.underlying3
  a3 := Try.isAgg3
  z3 := Try.sizeOf3
  v3 := Try.zeroValue3
  t4 := Try.underlying4
  a4 := Try.isAgg4
  z4 := Try.sizeOf4
  v4 := Try.zeroValue4
  t5 := Try.underlying5
  a5 := Try.isAgg5
  z5 := Try.sizeOf5
  v5 := Try.zeroValue5
  t9 := Try.underlying9
  a9 := Try.isAgg9
  z9 := Try.sizeOf9
  v9 := Try.zeroValue9
  t22 := Try.underlying25
  a22 := Try.isAgg25
  z22 := Try.sizeOf25
  v22 := Try.zeroValue25
  t23 := Try.underlying25
  a23 := Try.isAgg25
  z23 := Try.sizeOf25
  v23 := Try.zeroValue25
  t25 := Try.underlying3
  a25 := Try.isAgg3
  z25 := Try.sizeOf3
  v25 := Try.zeroValue3
  t32 := Try.underlying110
  a32 := Try.isAgg110
  z32 := Try.sizeOf110
  v32 := Try.zeroValue110
  t35 := Try.underlying117
  a35 := Try.isAgg117
  z35 := Try.sizeOf117
  v35 := Try.zeroValue117
  t36 := Try.underlying118
  a36 := Try.isAgg118
  z36 := Try.sizeOf118
  v36 := Try.zeroValue118
  t41 := Try.underlying103
  a41 := Try.isAgg103
  z41 := Try.sizeOf103
  v41 := Try.zeroValue103
  t44 := Try.underlying124
  a44 := Try.isAgg124
  z44 := Try.sizeOf124
  v44 := Try.zeroValue124
  t46 := Try.underlying126
  a46 := Try.isAgg126
  z46 := Try.sizeOf126
  v46 := Try.zeroValue126
  t53 := Try.underlying132
  a53 := Try.isAgg132
  z53 := Try.sizeOf132
  v53 := Try.zeroValue132
  t57 := Try.underlying136
  a57 := Try.isAgg136
  z57 := Try.sizeOf136
  v57 := Try.zeroValue136
  t63 := Try.underlying140
  a63 := Try.isAgg140
  z63 := Try.sizeOf140
  v63 := Try.zeroValue140
  t64 := Try.underlying141
  a64 := Try.isAgg141
  z64 := Try.sizeOf141
  v64 := Try.zeroValue141 }
end Go.Proofs

/- Histories: sorted keys of a map (slices.Sorted of maps.Keys), by the kit's contract. -/
set_option linter.unusedVariables false
set_option linter.unusedSimpArgs false
namespace Go.Proofs.Ytibhpoikhkokiaa.Hw
open Go Go.Proofs Go.Sort
section
variable {H0 H : Hp} {Q : Value → Hp → Prop} {w : World}
/-- How any value reads here: as nothing. -/
def anyR : Value → Option (DataW Nat × List MemPlace) := fun _ => some (.lit (.bool true), [])
def keysIn (kv : KV) : Prop := ∀ x ∈ kv.map (·.1), -9223372036854775808 ≤ x ∧ x < 9223372036854775808
theorem key_wf {x : Int} (h : -9223372036854775808 ≤ x ∧ x < 9223372036854775808) : (Lit.int .i64 x).wf = true := by
  simp only [Lit.wf, IntKind.min, IntKind.max, IntKind.bits, IntKind.signed, Bool.and_eq_true, decide_eq_true_eq]
  obtain ⟨h1, h2⟩ := h
  constructor
  · refine Int.le_trans ?_ h1; decide
  · have : x ≤ 9223372036854775807 := by omega
    refine Int.le_trans this ?_; decide
theorem owns_map {m : Nat} {kv : KV} (hw : Has w H) (h : MapAt .i64 H m kv) (hk : keysIn kv) (hl : kv.length ≤ 1000000) : ∃ D : DataW Nat, w.ownsMap Try.prog 3 anyR m kv.length D ∧ Maps.size D = kv.length ∧ (Go.intKeys D).Perm (kv.map (·.1)) := by
  obtain ⟨es, clock, hb, he⟩ := h
  have hsz := esOf_len he
  have hkey : ∀ x ∈ es.toList, ∃ y, x.key = .int .i64 y ∧ _root_.Go.keyOf Try.prog 3 x.key = some (.int .i64 y) := fun x hx => by
    obtain ⟨y, h1, h2⟩ := he.pair hx
    have hr := hk y (List.mem_map_of_mem (f := (·.1)) h2)
    exact ⟨y, h1, by rw [h1]; exact Go.Maps.keyOf_int_mk Try.underlying3 (key_wf hr)⟩
  have hrd : ∀ x ∈ es.toList, ∃ y, x.key = .int .i64 y ∧ Go.WideElems.rd Try.prog 3 anyR x = some (.int .i64 y, .lit (.bool true)) := fun x hx => by
    obtain ⟨y, h1, h2⟩ := hkey x hx
    refine ⟨y, h1, ?_⟩
    unfold Go.WideElems.rd anyR
    rw [h2]; rfl
  have F : Go.WideElems.Fit Try.prog 3 anyR es clock := ⟨by rw [hsz]; refine Nat.le_trans hl ?_; decide, ⟨he.2.2.1, he.2.1, he.keyD⟩, fun x hx => by obtain ⟨y, _, h⟩ := hrd x hx; exact ⟨_, h⟩⟩
  refine ⟨_, ⟨es, clock, hw m _ hb, F, Nat.le_of_eq hsz, rfl⟩, ?_, ?_⟩
  · show List.length _ = _
    rw [(Go.WideShapes.sorted_perm _).length_eq, List.length_map]
    simpa using hsz
  · show (List.map _ _).Perm _
    refine ((Go.WideShapes.sorted_perm _).map _).trans ?_
    rw [List.map_map]
    have e1 : es.toList.map ((fun p : Lit × DataW Nat => Go.intOf p.1) ∘ Go.WideElems.rg Try.prog 3 anyR) = (es.toList.map (fun e => (e.key, e.val))).map (fun p => match p.1 with | .int _ y => y | _ => 0) := by
      rw [List.map_map]
      refine List.map_congr_left fun x hx => ?_
      obtain ⟨y, h1, h2⟩ := hrd x hx
      simp only [Function.comp_apply]
      rw [Go.WideElems.rg_of h2, h1]; rfl
    rw [e1, he.1, List.map_map]
    exact List.Perm.refl _
theorem sorts_in (m : Nat) : AnyZI.SortsIn Try.prog Try.sortedA_ren Fence.wide m :=
  ⟨fun blk off cap ss W hH hblk hsz => callsIn_wide.2 (AnyM.slices_Sort_int Try.sortA blk off cap ss W hH hblk hsz),
   fun p cap W => callsIn_wide.2 (AnyM.slices_Sort_int_none Try.sortA p cap W)⟩
theorem sorted_any {g m fn nn : Nat} {D : DataW Nat} (hseq : SeqGives Fence.wide 2 Try.prog fn #[.pointer (some ⟨g, 0, none⟩)] encZ (fun ss => ss.Perm (Go.intKeys D)) (Maps.size D) w) (hsz : Maps.size D ≤ 1000000)
    (hf : ∀ args w, (callFunc fn args).run Try.prog w = .ok (.enter fn args) w) :
    Calls Try.prog 22 #[.func (.func fn) #[] #[.pointer (some ⟨g, 0, none⟩)]] w fun e w' => ∃ (v : Value) (ss : List Int), e = .returned v ∧ ss.Perm (Go.intKeys D) ∧
      w'.ownsRow w.heap.size 3 1 v ss.length ((ss.mergeSort (fun x y => decide (x ≤ y))).map encZ) ∧ (v = .slice none 0 0 ↔ ss = []) ∧ Go.RowKit.Below w.heap.size w w' := by
  refine (callsIn_wide (n := 5)).1 ?_
  exact AnyZI.sorted_in Try.sortedA Fence.wide 5 trivial trivial trivial trivial rfl (by omega) (sorts_in _) (enters_of Try.func49 (by kernel_rfl) rfl) fn _ trivial hf _ _ (Nat.le_trans hsz (by decide)) (by omega) _ hseq
theorem c22_of {g m fn ty : Nat} {kv : KV} (hg : H g = some (.cells #[.map (some m)] ty (0, 0))) (hm : MapAt .i64 H m kv) (hk : keysIn kv) (hl : kv.length ≤ 1000000)
    (hf : ∀ args w, (callFunc fn args).run Try.prog w = .ok (.enter fn args) w)
    (hs : ∀ (w : World) (D : DataW Nat), g < w.heap.size → w.cell? ⟨g, 0, none⟩ = some (.map (some m)) → w.ownsMap Try.prog 3 anyR m kv.length D → SeqGives Fence.wide 2 Try.prog fn #[.pointer (some ⟨g, 0, none⟩)] encZ (fun ss => ss.Perm (Go.intKeys D)) (Maps.size D) w)
    (hq : ∀ H' A c, RowI H H' A c (sortM (kv.map (·.1))) → Ext H H' → Q (.slice A kv.length c) H') : HCalls Try.prog 22 [.func (.func fn) #[] #[.pointer (some ⟨g, 0, none⟩)]] H Q := by
  intro w hw
  obtain ⟨D, hown, hsz, hp⟩ := owns_map hw hm hk hl
  have hgw := hw g _ hg
  have hlt : g < w.heap.size := (Array.getElem?_eq_some_iff.1 hgw).1
  have hcell : w.cell? ⟨g, 0, none⟩ = some (.map (some m)) := by simp [World.cell?, hgw]
  refine Calls.mono (sorted_any (m := m) (nn := kv.length) (hs w D hlt hcell hown) (by omega) hf) ?_
  rintro e w' ⟨v, ss, rfl, hperm, hrow, hnil, hb⟩
  have hpp : ss.Perm (kv.map (·.1)) := hperm.trans hp
  have hms : (ss.mergeSort fun x y => decide (x ≤ y)) = sortM (kv.map (·.1)) := mergeSort_of_perm_i hpp
  have hlen : ss.length = kv.length := by rw [hpp.length_eq]; simp
  have hsl : (sortM (kv.map (·.1))).length = kv.length := by unfold sortM; rw [List.length_mergeSort]; simp
  have hold : ∀ b o, H b = some o → w'.heap[b]? = some o := fun b o hbo => by
    rw [hb.block b (Array.getElem?_eq_some_iff.1 (hw b o hbo)).1]; exact hw b o hbo
  obtain ⟨h1, ⟨rfl, h2⟩ | ⟨gb, cap, cur, rfl, hbase, hgb, r1, r2, r3, r4⟩⟩ := hrow
  · have h0 : kv.length = 0 := by omega
    refine ⟨_, H, rfl, ?_, hold, ⟨hb.os, hb.tape, hb.output, hb.size, fun b hlb _ => hb.block b hlb⟩, fun b hb => .inl hb⟩
    have hq' := hq H none 0 ?_ (Ext.refl H)
    · rw [h0] at hq'; exact hq'
    · have : sortM (kv.map (·.1)) = [] := List.eq_nil_of_length_eq_zero (by omega)
      rw [this]; exact Row.nil
  · have hgn : H gb = none := by
      cases hx : H gb with
      | none => rfl
      | some o => have := (Array.getElem?_eq_some_iff.1 (hw gb o hx)).1; omega
    refine ⟨_, upd gb (.cells cur 3 (0, 0)) H, rfl, ?_, fun b o hbo => ?_, ⟨hb.os, hb.tape, hb.output, hb.size, fun b hlb _ => hb.block b hlb⟩, fun b hbn => ?_⟩
    · rw [hlen]
      refine hq _ _ _ ⟨by rw [inC_len], by rw [hsl]; omega, .inr ⟨gb, cur.toList, 3, rfl, upd_at, ?_, ?_, hgn⟩⟩ (Ext.new hgn)
      · rw [Array.length_toList]; omega
      · rw [hms] at r4
        rw [inC_map, hsl, ← hlen, r4]
    · rcases upd_some hbo with ⟨rfl, rfl⟩ | ⟨hne, hbo⟩
      · exact hgb
      · exact hold b o hbo
    · by_cases e : b = gb
      · subst e; exact .inr hbase
      · rw [upd_other e] at hbn; exact .inl hbn
/-- Sorted keys of a graph. -/
theorem c22a {g m ty : Nat} {kv : KV} (hg : H g = some (.cells #[.map (some m)] ty (0, 0))) (hm : MapAt .i64 H m kv) (hk : keysIn kv) (hl : kv.length ≤ 1000000)
    (hq : ∀ H' A c, RowI H H' A c (sortM (kv.map (·.1))) → Ext H H' → Q (.slice A kv.length c) H') : HCalls Try.prog 22 [.func (.func 60) #[] #[.pointer (some ⟨g, 0, none⟩)]] H Q :=
  c22_of hg hm hk hl (enters_of Try.func60 (by kernel_rfl) rfl) (fun w D hlt hcell hown => AnyZI.keys_gives (ρ := Try.keysA_ren) { Try.keysA with } Fence.wide _ trivial rfl (by omega) g m kv.length D _ hlt hcell hown) hq
/-- Sorted keys of a set of numbers. -/
theorem c22b {g m ty : Nat} {kv : KV} (hg : H g = some (.cells #[.map (some m)] ty (0, 0))) (hm : MapAt .i64 H m kv) (hk : keysIn kv) (hl : kv.length ≤ 1000000)
    (hq : ∀ H' A c, RowI H H' A c (sortM (kv.map (·.1))) → Ext H H' → Q (.slice A kv.length c) H') : HCalls Try.prog 22 [.func (.func 50) #[] #[.pointer (some ⟨g, 0, none⟩)]] H Q :=
  c22_of hg hm hk hl (enters_of Try.func50 (by kernel_rfl) rfl) (fun w D hlt hcell hown => AnyZI.keys_gives (ρ := Try.keysB_ren) { Try.keysB with } Fence.wide _ trivial rfl (by omega) g m kv.length D _ hlt hcell hown) hq
/-- The iterators. -/
theorem c37 {m : Nat} (hq : ∀ g H', H g = none → H' = upd g (.cells #[.map (some m)] 74 (0, 0)) H → Q (.func (.func 60) #[] #[.pointer (some ⟨g, 0, none⟩)]) H') : HCalls Try.prog 37 [.map (some m)] H Q := by
  refine f37.ok (some m) ?_
  unfold f37
  exact fun g hg => hq g _ hg rfl
theorem c23 {m : Nat} (hq : ∀ g H', H g = none → H' = upd g (.cells #[.map (some m)] 61 (0, 0)) H → Q (.func (.func 50) #[] #[.pointer (some ⟨g, 0, none⟩)]) H') : HCalls Try.prog 23 [.map (some m)] H Q := by
  refine f23.ok (some m) ?_
  unfold f23
  exact fun g hg => hq g _ hg rfl
/-! ### a key is taken out -/
theorem delM_to {b : Nat} {kv : KV} {x : Int} {K : Hp → Prop} (h : MapAt .i64 H b kv) (hk : ∀ H', MapAt .i64 H' b (kvDel kv x) → (∀ q, q ≠ b → H' q = H q) → K H') : delF H .i64 (some b) x K := by
  obtain ⟨es, clock, h2, h3⟩ := h
  refine ⟨b, es, clock, rfl, h2, h3.ints, ?_⟩
  have hd := keysD_del (x := x) h3.2.2.2
  unfold delE
  rw [esOf_at h3.1]
  unfold kvDel at hk hd
  cases hf : kv.findIdx? (fun p => decide (x = p.1)) with
  | none =>
    rw [hf] at hk
    exact hk _ ⟨es, clock, upd_at, h3⟩ (fun q hq => upd_off hq)
  | some j =>
    rw [hf] at hk hd
    have hlen : es.size = kv.length := esOf_len h3
    rw [List.findIdx?_eq_some_iff_getElem] at hf
    obtain ⟨hlt, hp, _⟩ := hf
    have hl : (es.eraseIdxIfInBounds j).toList = es.toList.eraseIdx j := by
      unfold Array.eraseIdxIfInBounds
      rw [dif_pos (by omega)]
      simp
    have hsub : ∀ e, e ∈ (es.eraseIdxIfInBounds j).toList → e ∈ es.toList := fun e he => by rw [hl] at he; exact List.mem_of_mem_eraseIdx he
    refine hk _ ⟨es.eraseIdxIfInBounds j, clock, upd_at, ?_, ?_, fun e he => h3.2.2.1 e (hsub e he), hd⟩ (fun q hq => upd_off hq)
    · rw [hl, map_erase, h3.1, map_erase]
    · rw [hl]; exact h3.2.1.sublist ((List.eraseIdx_sublist _ _).map _)
/-- What sortM gives. -/
theorem sortM_mem {l : List Int} {x : Int} : x ∈ sortM l ↔ x ∈ l := (List.mergeSort_perm l _).mem_iff
end
end Go.Proofs.Ytibhpoikhkokiaa.Hw

/- Histories: Order. -/
set_option linter.unusedVariables false
set_option linter.unusedSimpArgs false
set_option maxRecDepth 20000
namespace Go.Proofs.Ytibhpoikhkokiaa.Hw
open Go Go.Proofs
/-- Nothing that is left has an arc to it. -/
def fr1 (rs : List Arc) (left : List Int) (t : Int) : Bool := !rs.any fun x => (x.b == t) && left.contains x.a
def freeM (rs : List Arc) (left : List Int) : Option Int := (sortM left).find? (fr1 rs left)
def takeOut (left : List Int) (t : Int) : List Int := left.filter fun y => decide (y ≠ t)
def orderM (rs : List Arc) : Nat → List Int → List Int → Option (List Int)
  | 0, left, out => if left.isEmpty then some out else none
  | n + 1, left, out => if left.isEmpty then some out else match freeM rs left with
    | none => none
    | some t => orderM rs n (takeOut left t) (out ++ [t])
/-- The committed transactions. -/
def comL (l : List Ev) : List Int := (l.filter fun x => x.op == 4).map (·.txn)
def SameEl (a b : List Int) : Prop := a.Nodup ∧ b.Nodup ∧ ∀ x, x ∈ a ↔ x ∈ b
theorem SameEl.perm {a b : List Int} (h : SameEl a b) : a.Perm b := (List.perm_ext_iff_of_nodup h.1 h.2.1).2 h.2.2
theorem SameEl.sort {a b : List Int} (h : SameEl a b) : sortM a = sortM b := mergeSort_of_perm_i h.perm
theorem SameEl.con {a b : List Int} (h : SameEl a b) (x : Int) : a.contains x = b.contains x := by
  rw [Bool.eq_iff_iff, List.contains_iff_mem, List.contains_iff_mem]; exact h.2.2 x
theorem SameEl.fr {a b : List Int} {rs : List Arc} (h : SameEl a b) : fr1 rs a = fr1 rs b := by
  funext t
  unfold fr1
  congr 2
  funext x
  rw [h.con]
theorem order_end {rs : List Arc} {n : Nat} {left out : List Int} (h : left.isEmpty = true) : orderM rs n left out = some out := by
  cases n <;> unfold orderM <;> rw [if_pos h]
theorem free_mem {rs : List Arc} {left : List Int} {t : Int} (h : freeM rs left = some t) : t ∈ left ∧ fr1 rs left t = true := by
  unfold freeM at h
  exact ⟨sortM_mem.1 (List.mem_of_find?_eq_some h), List.find?_some h⟩
theorem takeOut_len {left : List Int} {t : Int} (hn : left.Nodup) (h : t ∈ left) : (takeOut left t).length + 1 = left.length := by
  have : (t :: takeOut left t).Perm left := by
    refine (List.perm_ext_iff_of_nodup (List.nodup_cons.2 ⟨fun h => by simp at h, hn.filter _⟩) hn).2 fun x => ?_
    rw [List.mem_cons, List.mem_filter]
    by_cases e : x = t
    · subst e; simp [h]
    · simp [e]
  have := this.length_eq
  rw [List.length_cons] at this
  exact this
theorem comL_mem {l : List Ev} {t : Int} : t ∈ comL l ↔ comB l t = true := by
  unfold comL
  rw [com_ex, List.mem_map]
  constructor
  · rintro ⟨x, hx, rfl⟩
    obtain ⟨h1, h2⟩ := List.mem_filter.1 hx
    obtain ⟨i, hi⟩ := List.getElem?_of_mem h1
    exact ⟨i, x, hi, isC_iff.2 ⟨by simpa using h2, rfl⟩⟩
  · rintro ⟨i, x, hx, hp⟩
    obtain ⟨o, e⟩ := isC_iff.1 hp
    exact ⟨x, List.mem_filter.2 ⟨List.mem_of_getElem? hx, by simp [o]⟩, e⟩
theorem comL_len {l : List Ev} : (comL l).length ≤ l.length := by
  unfold comL
  rw [List.length_map]
  exact List.length_filter_le _ _
theorem OkTo.front {l : List Ev} {n : Nat} (h : OkTo l n) (hn : n ≤ l.length) : OkTo (l.take n) n := fun i x hi hx => by
  rw [List.getElem?_take_of_lt hi] at hx
  rw [List.take_take, Nat.min_eq_left (by omega)]
  exact h i x hi hx
theorem comL_nodup : ∀ {n : Nat} {l : List Ev}, l.length = n → OkTo l l.length → (comL l).Nodup
  | 0, l, hn, _ => by rw [List.length_eq_zero_iff.1 hn]; exact List.nodup_nil
  | n + 1, l, hn, hok => by
    have hlt : n < l.length := by omega
    have hx : l[n]? = some l[n] := List.getElem?_eq_getElem hlt
    have e : l = l.take n ++ [l[n]] := by rw [← take_snoc hx, ← hn, List.take_length]
    have hpre : OkTo (l.take n) (l.take n).length := by
      have hl : (l.take n).length = n := by rw [List.length_take]; omega
      rw [hl]
      exact OkTo.front (fun i x hi => hok i x (by omega)) (by omega)
    have ih := comL_nodup (l := l.take n) (n := n) (by rw [List.length_take]; omega) hpre
    have hev := hok n _ (by omega) hx
    generalize hxx : l[n] = x at e hev
    have e2 : comL l = comL (l.take n) ++ if x.op == 4 then [x.txn] else [] := by
      conv => lhs; rw [e]
      unfold comL
      rw [List.filter_append, List.map_append]
      congr 1
      rw [List.filter_cons]
      cases x.op == 4 <;> rfl
    rw [e2]
    cases ho : x.op == 4 with
    | false => simpa using ih
    | true =>
      rw [if_pos rfl, List.nodup_append]
      refine ⟨ih, by simp, fun a ha b hb => ?_⟩
      rw [List.mem_singleton.1 hb]
      rintro rfl
      have h1 := comL_mem.1 ha
      obtain ⟨i, y, hy, hp⟩ := com_ex.1 h1
      obtain ⟨o, e3⟩ := isC_iff.1 hp
      have : endedM (l.take n) x.txn = true := by
        unfold endedM
        refine List.any_eq_true.2 ⟨y, List.mem_of_getElem? hy, ?_⟩
        unfold isE; rw [o, e3]; simp
      unfold evOk at hev
      rw [this] at hev
      simp at hev
def OrderQ (H : Hp) (Q : Value → Hp → Prop) (l : List Ev) : Prop :=
  (validM l = false → ∀ H', Ext H H' → Q (.tuple #[.slice none 0 0, .bool false, .int .i64 2]) H') ∧
  (validM l = true → (abTo l l.length || btTo l l.length) = true → ∀ H', Ext H H' → Q (.tuple #[.slice none 0 0, .bool false, .int .i64 0]) H') ∧
  (validM l = true → (abTo l l.length || btTo l l.length) = false → ∀ rs, ArcsOf l rs → (orderM rs (comL l).length (comL l) [] = none → ∀ H', Ext H H' → Q (.tuple #[.slice none 0 0, .bool false, .int .i64 0]) H') ∧
    ∀ o, orderM rs (comL l).length (comL l) [] = some o → ∀ A c H', Ext H H' → SlAt inC H' A o.length o → o.length ≤ c → Q (.tuple #[.slice A o.length c, .bool true, .int .i64 0]) H')
section
variable {H H' : Hp} {g c b v w : Nat} {sl : Int → Option Addr × Nat} {A : Option Addr} {n cp : Nat} {l : List Ev} {Q : Value → Hp → Prop}
theorem MapF.del {m : Nat} {f : Int → Option Value} {x : Int} {K : Hp → Prop} (h : MapF H m f) (hk : ∀ H', MapF H' m (fun y => if y = x then none else f y) → (∀ q, q ≠ m → H' q = H q) → K H') : delF H .i64 (some m) x K := by
  obtain ⟨kv, hm, hf⟩ := h
  refine delM_to hm fun H' h1 h2 => hk H' ⟨_, h1, fun y => ?_⟩ h2
  rw [kvGet_del hm.keys, hf]
/-- The keys of a set. -/
theorem set_keys {m : Nat} {L : List Int} (h : MapF H m (fun k => boolAt (L.contains k))) (hn : L.Nodup) : ∃ kv, MapAt .i64 H m kv ∧ SameEl (kv.map (·.1)) L := by
  obtain ⟨kv, hm, hf⟩ := h
  refine ⟨kv, hm, hm.keys, hn, fun k => ?_⟩
  have h1 : kvGet kv k = boolAt (L.contains k) := hf k
  constructor
  · intro hk
    obtain ⟨p, hp, rfl⟩ := List.mem_map.1 hk
    rw [(kvGet_mem hm.keys).2 hp] at h1
    cases hc : L.contains p.1 with
    | true => exact List.contains_iff_mem.1 hc
    | false => rw [hc] at h1; cases h1
  · intro hk
    rw [List.contains_iff_mem.2 hk] at h1
    exact List.mem_map.2 ⟨_, (kvGet_mem hm.keys).1 h1, rfl⟩
theorem c25 {gt gm m : Nat} {t : Int} {L : List Int} {x : Arc} (ht : cl H gt 0 = some (.int .i64 t)) (hm : cl H gm 0 = some (.map (some m))) (hM : MapF H m (fun k => boolAt (L.contains k))) (hq : Q (.bool ((x.b == t) && L.contains x.a)) H) :
    HCalls Try.prog 25 [.agg #[.int .i64 x.a, .int .i64 x.b, .int .i64 x.kind, .int .i64 x.item], .pointer (some ⟨gt, 0, none⟩), .pointer (some ⟨gm, 0, none⟩)] H Q := by
  refine f25.ok _ _ _ _ _ _ _ _ ?_
  unfold f25
  refine jn_intro (fun J => J ((x.b == t) && L.contains x.a)) hq fun J hJ => ⟨t, ht, cndI (fun h1 => ⟨some m, hm, hM.look ⟨L.contains x.a, by unfold boolAt; cases L.contains x.a <;> rfl, ?_⟩⟩) fun h1 => ?_⟩
  · rw [show (x.b == t) = true from h1, Bool.true_and] at hJ; exact hJ
  · rw [show (x.b == t) = false from h1, Bool.false_and] at hJ; exact hJ
theorem com_in {t : Int} (hok : OkTo l l.length) (h : comB l t = true) : 1 ≤ t ∧ t ≤ 200 := by
  obtain ⟨i, x, hx, hp⟩ := com_ex.1 h
  obtain ⟨o, e⟩ := isC_iff.1 hp
  have h1 := hok i x (List.getElem?_eq_some_iff.1 hx).1 hx
  unfold evOk at h1
  have h2 := (Bool.and_eq_true_iff.1 h1).1
  unfold inB at h2
  simp at h2
  omega
/-- Where a list's first one is found. -/
theorem find_at {p : Int → Bool} {L : List Int} {i : Nat} {t : Int} (hi : L[i]? = some t) (ht : p t = true) (hn : ∀ (j : Nat) (u : Int), j < i → L[j]? = some u → p u = false) : L.find? p = some t := by
  rw [List.find?_eq_some_iff_getElem]
  obtain ⟨h1, h2⟩ := List.getElem?_eq_some_iff.1 hi
  exact ⟨ht, i, h1, h2, fun j hj => by rw [hn j _ hj (List.getElem?_eq_getElem (by omega))]; rfl⟩
theorem find_no {p : Int → Bool} {L : List Int} (hn : ∀ (j : Nat) (u : Int), L[j]? = some u → p u = false) : L.find? p = none := by
  rw [List.find?_eq_none]
  intro x hx
  obtain ⟨j, hj⟩ := List.getElem?_of_mem hx
  rw [hn j x hj]; decide
theorem c9 (hA : SlAt evC H A n l) (hcp : n ≤ cp) (hq : OrderQ H Q l) : HCalls Try.prog 9 [.slice A n cp] H Q := by
  refine f9.ok _ _ _ ?_
  unfold f9
  obtain ⟨q1, q2, q3⟩ := hq
  refine c13 hA fun H2 x2 => ⟨_, rfl, ?_⟩
  cases hv : validM l with
  | false => exact cndT rfl (q1 hv H2 x2)
  | true =>
  obtain ⟨hok, hlen⟩ := valid_ok hv
  refine cndF rfl (c19 (hA.ext x2) hcp hok hlen fun g c b v w sl H5 x5 B => ⟨_, rfl, c20 B ⟨_, _, rfl, ?_⟩⟩)
  refine jn_intro (fun J => ∀ bb, bb = (abTo l l.length || btTo l l.length) → J bb) (fun bb hbb => cndI (fun ht => q2 hv (by rw [← hbb, ht]) H5 (x2.trans x5)) fun hf => ?_) fun J hJ => cndI (fun h => hJ _ (by rw [h]; rfl)) fun h => hJ _ (by rw [h]; rfl)
  refine c21 B hlen fun rs A15 c15g H14 ha hl x14 R15 => ⟨_, _, _, rfl, ?_⟩
  obtain ⟨q4, q5⟩ := q3 hv (by rw [← hbb, hf]) rs ha
  have x014 : Ext H H14 := (x2.trans x5).trans x14
  have hsl : SlAt arC H14 A15 rs.length rs := ⟨rfl, R15.cells, by unfold huge; omega⟩
  have B14 := B.ext x14
  refine MapF.new fun m16 H17 hm16 x17 o17 M17 => ?_
  intro g18 hg18
  refine ⟨[.map none], 61, upd_at, by simp, ?_⟩
  have e20 : (upd g18 (Obj.cells (setR [Value.map none] 0 [.map (some m16)]).toArray 61 (0, 0)) (upd g18 (Obj.cells [Value.map none].toArray 61 (0, 0)) H17)) g18 = some (.cells #[.map (some m16)] 61 (0, 0)) := upd_at
  have f20g : ∀ q, q ≠ g18 → (upd g18 (Obj.cells (setR [Value.map none] 0 [.map (some m16)]).toArray 61 (0, 0)) (upd g18 (Obj.cells [Value.map none].toArray 61 (0, 0)) H17)) q = H17 q := fun q hq => by rw [upd_off hq, upd_off hq]
  generalize (upd g18 (Obj.cells (setR [Value.map none] 0 [.map (some m16)]).toArray 61 (0, 0)) (upd g18 (Obj.cells [Value.map none].toArray 61 (0, 0)) H17)) = H20 at e20 f20g ⊢
  have hg14 : H14 g18 = none := x17.none hg18
  have hmg : m16 ≠ g18 := fun e => by rw [← e] at hg18; exact M17.live hg18
  have x20 : Ext H14 H20 := fun q o hq' => by
    rw [f20g q fun e => by rw [e, hg14] at hq'; cases hq']
    exact x17 q o hq'
  have M20 : MapF H20 m16 (fun _ => none) := M17.keep (f20g m16 hmg)
  have B20 := B14.ext x20
  refine ⟨some c, B20.cl 1, ?_⟩
  obtain ⟨kv, hm, hkv0⟩ := B20.commits
  have hkv : ∀ t, kvGet kv t = (commitI l t).map natV := hkv0
  have hkeys : ∀ t, t ∈ kv.map (·.1) ↔ comB l t = true := fun t => by
    have h1 := hkv t
    unfold comB
    constructor
    · intro hk
      obtain ⟨p, hp, rfl⟩ := List.mem_map.1 hk
      rw [(kvGet_mem hm.keys).2 hp] at h1
      cases hc : commitI l p.1 with
      | none => rw [hc] at h1; cases h1
      | some _ => rfl
    · intro hc
      cases hc2 : commitI l t with
      | none => rw [hc2] at hc; cases hc
      | some _ => rw [hc2] at h1; exact List.mem_map.2 ⟨_, (kvGet_mem hm.keys).1 h1, rfl⟩
  refine range_to hm fun i9 H10 hi9 x10 hI10 f10g => ?_
  have hib : i9 ≠ c := fun e => B20.commits.live (e ▸ hi9)
  have him : i9 ≠ m16 := fun e => M20.live (e ▸ hi9)
  have hig : i9 ≠ g18 := fun e => by rw [e, e20] at hi9; cases hi9
  have hcm : c ≠ m16 := fun e => B14.commits.live (e ▸ hm16)
  have h14i : H14 i9 = none := x20.none hi9
  refine ⟨fun m s H' => ∃ left, m = left.length ∧ IterAt .i64 H' i9 c kv left ∧ Ext H14 H' ∧ H' g18 = some (.cells #[.map (some m16)] 61 (0, 0)) ∧ MapF H' m16 (fun k => boolAt (comB l k && !left.contains k)), ⟨_, kv.map (·.1), rfl, hI10, x20.trans x10, x10 _ _ e20, (M20.keep (ext_at x10 M20.live)).congr fun k => ?_⟩, ?_⟩
  · have : (comB l k && !(kv.map (·.1)).contains k) = false := by
      cases hc : comB l k with
      | false => rfl
      | true => rw [List.contains_iff_mem.2 ((hkeys k).2 hc)]; rfl
    rw [this]; rfl
  rintro m s H12 ⟨left, rfl, hI, hx12, e12, M12⟩
  refine jn_out ?_
  refine next_to hI hib (fun hl0 => cndF rfl ?_) (fun t u H16 htu htl hI16 hE f11 => ?_)
  · subst hl0
    clear hI hI10 f10g
    have M12' : MapF H12 m16 (fun k => boolAt ((comL l).contains k)) := M12.congr fun k => by
      congr 1
      rw [Bool.eq_iff_iff, List.contains_iff_mem, comL_mem]; simp
    refine loop_to (comL l).length (fun i s H' => ∃ L out S c', s = (((S, out.length, c'), ()), ()) ∧ Ext H14 H' ∧ H' g18 = some (.cells #[.map (some m16)] 61 (0, 0)) ∧ MapF H' m16 (fun k => boolAt (L.contains k)) ∧ L.Nodup ∧ (∀ x ∈ L, x ∈ comL l) ∧ L.length + i = (comL l).length ∧ Row H14 H' S out.length c' 1 (out.flatMap inC) ∧ orderM rs ((comL l).length - i) L out = orderM rs (comL l).length (comL l) [] ∧ out.length = i ∧ ¬ rowB S m16 ∧ ¬ rowB S g18)
      ⟨comL l, [], none, 0, rfl, hx12, e12, M12', comL_nodup rfl hok, fun x hx => hx, rfl, Row.nil, rfl, rfl, (fun ⟨o, z, h⟩ => by cases h), (fun ⟨o, z, h⟩ => by cases h)⟩ ?_
    rintro i s H43 next hi ⟨L, out, S, c', rfl, hx43, e43, M43, hLn, hLc, hLl, R43, hord, hol, hSm, hSg⟩ hnext
    dsimp only
    have hcl := comL_len (l := l)
    obtain ⟨kvL, hmL, hsame⟩ := set_keys M43 hLn
    have hkl : kvL.length = L.length := by have := hsame.perm.length_eq; rwa [List.length_map] at this
    refine ⟨some m16, cl_cells (cs := [.map (some m16)]) e43 0, size_to hmL ?_⟩
    rw [hkl]
    by_cases hL : L = []
    · subst hL
      refine cndF (decide_eq_false (by simp)) ?_
      rw [order_end rfl] at hord
      exact q5 out hord.symm S c' H43 (x014.trans hx43) ⟨rfl, R43.cells, by unfold huge; omega⟩ R43.2.1
    have hLp : 0 < L.length := List.length_pos_iff.2 hL
    refine cndT (decide_eq_true (by omega)) ?_
    have hunf : orderM rs ((comL l).length - i) L out = match freeM rs L with | none => none | some t => orderM rs ((comL l).length - (i + 1)) (takeOut L t) (out ++ [t]) := by
      rw [show (comL l).length - i = (comL l).length - (i + 1) + 1 by omega]
      conv => lhs; unfold orderM
      rw [if_neg (by rw [List.isEmpty_iff]; exact hL)]
    refine jn_intro (fun J => ∀ H', Ext H43 H' → (freeM rs L = none → J 0 H') ∧ ∀ t, freeM rs L = some t → J t H') (fun H67 x67 => ⟨fun hf => ?_, fun t hf => ?_⟩) fun J hJ => ?_
    · refine cndT rfl (q4 ?_ H67 (x014.trans (hx43.trans x67)))
      rw [← hord, hunf, hf]
    · obtain ⟨ht1, ht2⟩ := free_mem hf
      have htc := com_in hok (comL_mem.1 (hLc t ht1))
      have ht0 : (t == 0) = false := by simpa using (by omega : t ≠ 0)
      have M67 := M43.keep (ext_at x67 M43.live)
      refine cndF ht0 ⟨some m16, cl_cells (cs := [.map (some m16)]) (x67 _ _ e43) 0, M67.del fun H70 M70 f25 => ?_⟩
      have x70 : Ext H14 H70 := fun q o hq' => by
        rw [f25 q fun e => by rw [e, hm16] at hq'; cases hq']
        exact x67 _ _ (hx43 q o hq')
      have R70 : Row H14 H70 S out.length c' 1 (out.flatMap inC) := R43.keep fun q hq' => by
        rw [f25 q fun e => hSm (e ▸ hq')]
        exact ext_at x67 (R43.lt hq').1
      have e70 : H70 g18 = some (.cells #[.map (some m16)] 61 (0, 0)) := by rw [f25 g18 hmg.symm]; exact x67 _ _ e43
      intro g71 hg71
      refine Row.push1 (w := t) (f := inC) (k := 1) (ty := 3) (fun _ => rfl) (fun x v hv => by obtain rfl := List.mem_singleton.1 hv; rfl) (by omega) R70 x70 (by unfold big; omega) hg71 fun A2 c2 H74 R2 x74 fr2 nb2 => ⟨rfl, hnext _ _ (by omega) ?_⟩
      have k74 : ∀ q, H70 q ≠ none → ¬ rowB S q → H74 q = H70 q := fun q h1 h2 => by
        apply Classical.byContradiction
        intro hne
        rcases fr2 q hne with h | h
        · exact h2 h
        · exact h1 h
      have n74 : ∀ q, H70 q ≠ none → ¬ rowB S q → ¬ rowB A2 q := fun q h1 h2 h3 => by
        rcases nb2 q h3 with h | h
        · exact h2 h
        · exact h1 h
      have g70 : H70 g18 ≠ none := by rw [e70]; simp
      refine ⟨takeOut L t, out ++ [t], A2, c2, rfl, x74, (k74 g18 g70 hSg).trans e70, (M70.keep (k74 m16 M70.live hSm)).congr fun k => ?_, hLn.filter _, fun x hx => hLc x (List.mem_filter.1 hx).1, ?_, R2, ?_, ?_, n74 m16 M70.live hSm, n74 g18 g70 hSg⟩
      · by_cases e : k = t
        · subst e
          rw [if_pos rfl]
          have : (takeOut L k).contains k = false := by
            rw [← Bool.not_eq_true, List.contains_iff_mem]
            intro h
            have := (List.mem_filter.1 h).2
            simp at this
          rw [this]; rfl
        · rw [if_neg e]
          congr 1
          rw [Bool.eq_iff_iff, List.contains_iff_mem, List.contains_iff_mem]
          unfold takeOut
          rw [List.mem_filter]
          simp [e]
      · have := takeOut_len hLn ht1; omega
      · rw [← hord, hunf, hf]
      · rw [List.length_append, hol]; rfl
    · refine ⟨some m16, cl_cells (cs := [.map (some m16)]) e43 0, c23 fun g48 H49 hg48 hH49 => ⟨_, _, _, rfl, ?_⟩⟩
      have x49 : Ext H43 H49 := by rw [hH49]; exact Ext.new hg48
      refine c22b (m := m16) (ty := 61) (kv := kvL) (by rw [hH49]; exact upd_at) (hmL.keep (ext_at x49 M43.live)) (fun x hx => ?_) (by omega) fun H52 A53 c35 R53 x52 => ⟨_, _, _, rfl, ?_⟩
      · have := com_in hok (comL_mem.1 (hLc x ((hsame.2.2 x).1 hx)))
        omega
      rw [hsame.sort] at R53
      have hsl53 : SlAt inC H52 A53 (sortM L).length (sortM L) := ⟨rfl, R53.cells, by unfold sortM huge; rw [List.length_mergeSort]; omega⟩
      have hsll : (sortM L).length = kvL.length := by unfold sortM; rw [List.length_mergeSort]; omega
      have x4352 := x49.trans x52
      rw [← hsll]
      have hs53 := hsl53.lt
      refine loop_to (sortM L).length (fun i s H' => s = ((0, ((i : Int), ())), ()) ∧ Ext H52 H' ∧ ∀ (j : Nat) (u : Int), j < i → (sortM L)[j]? = some u → fr1 rs L u = false) ⟨rfl, Ext.refl _, fun j u hj => by omega⟩ ?_
      rintro i s H55 next2 hi ⟨rfl, hx55, hno⟩ hnext2
      dsimp only
      by_cases h : i < (sortM L).length
      · obtain ⟨t, ht⟩ := get_of h
        have ei : IntKind.i64.wrap ((i : Int) + 1) = ((i + 1 : Nat) : Int) := by rw [wrap_id (by omega) (by omega)]; rfl
        refine cndT (decide_eq_true (by omega)) ⟨by omega, by omega, rd_in (hsl53.ext hx55) ht fun q o _ k1 => ⟨t, by simpa using k1, fun g59 hg59 => ⟨[.int .i64 0], 3, upd_at, by simp, ?_⟩⟩⟩
        have e61 : (upd g59 (Obj.cells (setR [Value.int .i64 0] 0 [.int .i64 t]).toArray 3 (0, 0)) (upd g59 (Obj.cells [Value.int .i64 0].toArray 3 (0, 0)) H55)) g59 = some (.cells #[.int .i64 t] 3 (0, 0)) := upd_at
        have x61 : Ext H55 (upd g59 (Obj.cells (setR [Value.int .i64 0] 0 [.int .i64 t]).toArray 3 (0, 0)) (upd g59 (Obj.cells [Value.int .i64 0].toArray 3 (0, 0)) H55)) := fun q o hq' => by
          have : q ≠ g59 := fun e => by rw [e, hg59] at hq'; cases hq'
          rw [upd_off this, upd_off this]; exact hq'
        generalize (upd g59 (Obj.cells (setR [Value.int .i64 0] 0 [.int .i64 t]).toArray 3 (0, 0)) (upd g59 (Obj.cells [Value.int .i64 0].toArray 3 (0, 0)) H55)) = H61 at e61 x61 ⊢
        have x4361 := x4352.trans (hx55.trans x61)
        have rt : ∀ {H'}, Ext H61 H' → cl H' g59 0 = some (.int .i64 t) := fun {H'} hx => cl_cells (cs := [.int .i64 t]) (hx _ _ e61) 0
        refine c24 (g := fun x => (x.b == t) && L.contains x.a) (hsl.ext (hx43.trans x4361)) (Ext.refl _) (fnOk 25 rfl) (fun x hx H' Q' hx' hQ' => ?_) fun H63 x63 => ⟨_, rfl, cndI (fun hn => ⟨t, rt x63, ?_⟩) fun hn => ⟨rfl, hnext2 _ _ h ⟨by rw [ei], (hx55.trans x61).trans x63, fun j u hj hu => ?_⟩⟩⟩
        · have xm := x4361.trans hx'
          exact c25 (m := m16) (rt hx') (cl_cells (cs := [.map (some m16)]) (xm _ _ e43) 0) (M43.keep (ext_at xm M43.live)) (hQ' H' (Ext.refl _))
        · exact (hJ H63 (x4361.trans x63)).2 t (find_at ht hn fun j u hj hu => hno j u hj hu)
        · by_cases e : j = i
          · subst e
            rw [ht] at hu; cases hu
            exact hn
          · exact hno j u (by omega) hu
      · obtain rfl : i = (sortM L).length := by omega
        refine cndF (decide_eq_false (by omega)) ((hJ H55 (x4352.trans hx55)).1 (find_no fun j u hu => hno j u (List.getElem?_eq_some_iff.1 hu).1 hu))
  · have h1 := (kvGet_mem hm.keys).2 htu
    rw [hkv t] at h1
    cases hc : commitI l t with
    | none => rw [hc] at h1; cases h1
    | some ci =>
    rw [hc] at h1
    cases h1
    have hlt' : (left.filter fun y => decide (y ≠ t)).length < left.length := by
      have h1 := List.length_filter_le (fun y => decide (y ≠ t)) left
      by_cases e : (left.filter fun y => decide (y ≠ t)).length = left.length
      · have := List.length_filter_eq_length_iff.1 e t htl
        simp at this
      · omega
    refine ⟨t, rfl, _, rfl, cndT rfl (entry_to hE ⟨t, rfl, _, rfl, some m16, ?_, ?_⟩)⟩
    · exact cl_cells (cs := [.map (some m16)]) ((f11 g18 hig.symm).trans e12) 0
    · refine (M12.keep (f11 m16 him.symm)).put fun H41 M41 f41 => ⟨rfl, _, hlt', _, rfl, hI16.ext (f41 i9 him) (f41 c hcm), fun q o hq' => ?_, ?_, M41.congr fun k => ?_⟩
      · rw [f41 q (fun e => by rw [e, hm16] at hq'; cases hq'), f11 q (fun e => by rw [e, h14i] at hq'; cases hq')]
        exact hx12 q o hq'
      · rw [f41 g18 hmg.symm, f11 g18 hig.symm]; exact e12
      · by_cases e : k = t
        · subst e
          rw [if_pos rfl]
          have : (comB l k && !(left.filter fun y => decide (y ≠ k)).contains k) = true := by
            have h2 : comB l k = true := by unfold comB; rw [hc]; rfl
            have h3 : (left.filter fun y => decide (y ≠ k)).contains k = false := by
              rw [← Bool.not_eq_true, List.contains_iff_mem]
              intro h
              have := (List.mem_filter.1 h).2
              simp at this
            rw [h2, h3]; rfl
          rw [this]; rfl
        · rw [if_neg e]
          congr 2
          rw [Bool.eq_iff_iff, Bool.not_eq_true', Bool.not_eq_true', ← Bool.not_eq_true, ← Bool.not_eq_true, List.contains_iff_mem, List.contains_iff_mem, List.mem_filter]
          simp [e]
end
end Go.Proofs.Ytibhpoikhkokiaa.Hw
