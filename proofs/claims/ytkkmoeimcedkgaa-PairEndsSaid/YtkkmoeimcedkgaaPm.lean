/- The pair: copies of a pair on blocks of their own. -/
import Derived.Test.YtkkmoeimcedkgaaPl
set_option linter.unusedVariables false
set_option linter.unusedSimpArgs false
namespace Go.Proofs.Ytkkmoeimcedkgaa.Hw
open Go Go.Proofs
section
variable {H0 H H' : Hp} {g bs cS : Nat} {s : ST} {Q : Value → Hp → Prop} {K : Hp → Prop}
/-- A copy of a slice onto a new block. -/
theorem freshRow {A : Option Addr} {n el esz eby : Nat} {vals : List Value} {K : Option Addr → Nat → Nat → Hp → Prop} (hx : Ext H0 H) (hA : cellsAt H A vals) (hl : vals.length = n * esz) (ho : ∀ v ∈ vals, v.oneCell' = true) (hz1 : n * eby ≤ 140737488355328) (hz2 : n ≤ 140737488355328)
    (hk : ∀ A' c' H', Row H0 H' A' n c' esz vals → Ext H H' → (∀ b, rowB A' b → H b = none) → K A' n c' H') : newF H el [] fun g H2 => appendF H2 el esz eby (some ⟨g, 0, none⟩) 0 0 A n K := by
  intro g hg
  have hx2 : Ext H (upd g (.cells ([] : List Value).toArray el (0, 0)) H) := Ext.new hg
  have R : Row H0 (upd g (.cells ([] : List Value).toArray el (0, 0)) H) (some ⟨g, 0, none⟩) 0 0 esz [] := ⟨by simp, Nat.le_refl _, .inr ⟨g, [], el, rfl, upd_at, by simp, by simp, hx.none hg⟩⟩
  have hk' := hk
  refine R.append (hx.trans hx2) (cellsAt_ext hx2 hA) hl ho (by rw [Nat.zero_add]; exact hz1) (by rw [Nat.zero_add]; exact hz2) ?_
  intro A' c' H' hrow hx3 hch hnew _
  rw [Nat.zero_add, List.nil_append] at hrow
  rw [Nat.zero_add]
  have gone : ∀ b, rowB (some ⟨g, 0, none⟩) b ∨ (upd g (.cells ([] : List Value).toArray el (0, 0)) H) b = none → H b = none := fun b hb => by
    rcases hb with ⟨o, q, hb⟩ | hb
    · cases hb; exact hg
    · exact hx2.none hb
  refine hk A' c' H' hrow (fun b p hb => ?_) (fun b hb => gone b (hnew b hb))
  cases Classical.em (H' b = (upd g (.cells ([] : List Value).toArray el (0, 0)) H) b) with
  | inl h => rw [h]; exact hx2 b p hb
  | inr h => rw [gone b (hch b h).2] at hb; cases hb
/-- A pair on blocks of its own. -/
structure Own (H0 H : Hp) (B0 : Option Addr) (d0 : Nat) (B1 : Option Addr) (d1 : Nat) (l : List RS) (ns : List (Int × Int)) : Prop where
  ext : Ext H0 H
  sides : Row H0 H B0 l.length d0 3 (l.flatMap RS.cells)
  notes : Row H0 H B1 ns.length d1 2 (ns.flatMap noteC)
  logs : ∀ r ∈ l, Row H0 H r.A r.n r.c 1 (ints r.log) ∧ r.log.length < big
  sepL : l.Pairwise (fun r r' => ∀ b, rowB r.A b → ¬ rowB r'.A b)
  sepS : ∀ b, rowB B0 b → ¬ rowB B1 b ∧ ∀ r ∈ l, ¬ rowB r.A b
  sepN : ∀ b, rowB B1 b → ∀ r ∈ l, ¬ rowB r.A b
theorem sides_len {l : List RS} : (l.flatMap RS.cells).length = l.length * 3 := flat_length fun x _ => rfl
theorem cells_one {r : RS} : ∀ v ∈ r.cells, v.oneCell' = true := by
  intro v hv
  simp only [RS.cells, List.mem_cons, List.not_mem_nil, or_false] at hv
  rcases hv with rfl | rfl | rfl <;> rfl
theorem noteCs_one {ns : List (Int × Int)} : ∀ v ∈ ns.flatMap noteC, v.oneCell' = true := by
  intro v hv
  exact notes_one (k := 0) v (by simpa using hv)
theorem Own.push {B0 B1 : Option Addr} {d0 d1 : Nat} {l : List RS} {ns : List (Int × Int)} (o : Own H0 H B0 d0 B1 d1 l ns) {H2 : Hp} (hx : Ext H H2) {r : RS} (hrow : Row H0 H2 r.A r.n r.c 1 (ints r.log)) (hlog : r.log.length < big) (hfr : ∀ b, rowB r.A b → H b = none) (hl : l.length + 1 < big)
    {K : Option Addr → Nat → Nat → Hp → Prop} (hk : ∀ B' d' H', Own H0 H' B' d' B1 d1 (l ++ [r]) ns → K B' (l.length + 1) d' H') :
    newF H2 53 [.int .i64 r.ph, .bool r.up, .slice r.A r.n r.c] fun g H3 => appendF H3 53 3 40 B0 l.length d0 (some ⟨g, 0, none⟩) 1 K := by
  intro g hg
  have hx3 : Ext H2 (upd g (.cells r.cells.toArray 53 (0, 0)) H2) := Ext.new hg
  have keep2 : ∀ b, H b ≠ none → (upd g (.cells r.cells.toArray 53 (0, 0)) H2) b = H b := fun b hb => by
    cases h : H b with
    | none => exact absurd h hb
    | some p => exact hx3 b p (hx b p h)
  have R := o.sides.keep (H' := upd g (.cells r.cells.toArray 53 (0, 0)) H2) fun b hb => keep2 b (o.sides.lt hb).1
  refine R.append (new := r.cells) ((o.ext.trans hx).trans hx3) (.inr ⟨g, 0, rfl, fun j v hj => by rw [cl_cells upd_at, Nat.zero_add]; exact hj⟩) rfl cells_one (by unfold big at hl; omega) (by unfold big at hl; omega) ?_
  intro B' d' H' hrow2 hx4 hch hnew _
  -- what was there, and is not the row of the sides, stays
  have keep : ∀ b, (upd g (.cells r.cells.toArray 53 (0, 0)) H2) b ≠ none → ¬ rowB B0 b → H' b = (upd g (.cells r.cells.toArray 53 (0, 0)) H2) b := fun b h1 h2 => Classical.byContradiction fun h3 => by
    rcases (hch b h3).2 with h4 | h4
    · exact h2 h4
    · exact h1 h4
  have keepO : ∀ b, H b ≠ none → ¬ rowB B0 b → H' b = H b := fun b h1 h2 => (keep b (by rw [keep2 b h1]; exact h1) h2).trans (keep2 b h1)
  have hrow3 : Row H0 (upd g (.cells r.cells.toArray 53 (0, 0)) H2) r.A r.n r.c 1 (ints r.log) := hrow.keep fun b hb => upd_off (fun e => (hrow.lt hb).1 (e ▸ hg))
  have hB' : ∀ b, rowB B' b → H b = none ∨ rowB B0 b := fun b hb => by
    rcases hnew b hb with h1 | h1
    · exact .inr h1
    · exact .inl (hx.none (hx3.none h1))
  refine hk B' d' H' ⟨hx4, ?_, o.notes.keep (fun b hb => keepO b (o.notes.lt hb).1 (fun h => (o.sepS b h).1 hb)), fun x hm => ?_, ?_, fun b hb => ⟨fun h1 => ?_, fun x hm h1 => ?_⟩, fun b hb x hm h1 => ?_⟩
  · rw [List.flatMap_append, List.length_append]
    simpa using hrow2
  · rcases List.mem_append.1 hm with hm | hm
    · exact ⟨(o.logs x hm).1.keep (fun b hb => keepO b ((o.logs x hm).1.lt hb).1 (fun h => (o.sepS b h).2 x hm hb)), (o.logs x hm).2⟩
    · rw [List.mem_singleton] at hm
      subst hm
      exact ⟨hrow3.keep (fun b hb => keep b (hrow3.lt hb).1 (fun h => (o.sides.lt h).1 (hfr b hb))), hlog⟩
  · rw [List.pairwise_append]
    refine ⟨o.sepL, by simp, fun x hm y hy b hb hb2 => ?_⟩
    rw [List.mem_singleton] at hy
    subst hy
    exact ((o.logs x hm).1.lt hb).1 (hfr b hb2)
  · rcases hB' b hb with h2 | h2
    · exact (o.notes.lt h1).1 h2
    · exact (o.sepS b h2).1 h1
  · rcases List.mem_append.1 hm with hm | hm
    · rcases hB' b hb with h2 | h2
      · exact ((o.logs x hm).1.lt h1).1 h2
      · exact (o.sepS b h2).2 x hm h1
    · rw [List.mem_singleton] at hm
      subst hm
      rcases hnew b hb with h2 | h2
      · exact (o.sides.lt h2).1 (hfr b h1)
      · exact (hrow3.lt h1).1 h2
  · rcases List.mem_append.1 hm with hm | hm
    · exact o.sepN b hb x hm h1
    · rw [List.mem_singleton] at hm
      subst hm
      exact (o.notes.lt hb).1 (hfr b h1)
theorem c45 {A : Option Addr} {n c : Nat} {l : List Int} (hx : Ext H0 H) (hA : cellsAt H A (ints l)) (hl : n = l.length) (hb : l.length < big) (hq : ∀ A' c' H', Row H0 H' A' n c' 1 (ints l) → Ext H H' → (∀ b, rowB A' b → H b = none) → Q (.slice A' n c') H') :
    HCalls Try.prog 45 [.slice A n c] H Q := by
  refine f45.ok _ _ _ ?_
  unfold f45
  refine cndI (fun h => ?_) (fun h => freshRow hx hA (by simp [ints, hl]) ints_one (by unfold big at hb; omega) (by unfold big at hb; omega) hq)
  rcases hA with hA | ⟨b, o, rfl, _⟩
  · have : l = [] := List.map_eq_nil_iff.1 hA
    subst this
    subst hl
    exact hq none 0 H Row.nil (Ext.refl H) (fun b hb => by obtain ⟨o, q, hb⟩ := hb; cases hb)
  · cases h
theorem c44 {A : Option Addr} {n c : Nat} {ns : List (Int × Int)} (hx : Ext H0 H) (hA : NotesAt H A n ns) (hb : ns.length < big) (hq : ∀ A' c' H', Row H0 H' A' n c' 2 (ns.flatMap noteC) → Ext H H' → (∀ b, rowB A' b → H b = none) → Q (.slice A' n c') H') :
    HCalls Try.prog 44 [.slice A n c] H Q := by
  refine f44.ok _ _ _ ?_
  unfold f44
  have hl := hA.len
  refine cndI (fun h => ?_) (fun h => freshRow hx hA.cells (by rw [notes_len, hl]) noteCs_one (by unfold big at hb; omega) (by unfold big at hb; omega) hq)
  rcases hA.cells with hc | ⟨b, o, rfl, _⟩
  · have : ns = [] := by
      have := congrArg List.length hc
      rw [notes_len] at this
      exact List.length_eq_zero_iff.1 (by simp at this; omega)
    subst this
    subst hl
    exact hq none 0 H Row.nil (Ext.refl H) (fun b hb => by obtain ⟨o, q, hb⟩ := hb; cases hb)
  · cases h
theorem own0 {B1 : Option Addr} {d1 : Nat} {ns : List (Int × Int)} (hx : Ext H0 H) (hn : Row H0 H B1 ns.length d1 2 (ns.flatMap noteC)) : Own H0 H none 0 B1 d1 [] ns :=
  ⟨hx, Row.nil, hn, fun r hr => (by cases hr), .nil, fun b ⟨o, q, hb⟩ => (by cases hb), fun b hb r hr => (by cases hr)⟩
/-- The loop over the sides, of which each is pushed. -/
theorem le_sum {x : Nat} : ∀ {l : List Nat}, x ∈ l → x ≤ l.sum
  | y :: r, h => by
    rw [List.sum_cons]
    rcases List.mem_cons.1 h with h | h
    · subst h; exact Nat.le_add_right _ _
    · exact Nat.le_trans (le_sum h) (Nat.le_add_left _ _)
theorem small_of {l : List RS} {ns : List (Int × Int)} (h : partsP l ns < big) : l.length < big ∧ ns.length < big ∧ ∀ r ∈ l, r.log.length < big := by
  unfold partsP at h
  refine ⟨by omega, by omega, fun r hr => ?_⟩
  have h1 : r.log.length ≤ (l.map fun r => r.log.length).sum := le_sum (List.mem_map_of_mem (f := fun r : RS => r.log.length) hr)
  omega
theorem copyLoop {A0 A1 B1 : Option Addr} {n0 n1 d1 : Nat} {l : List RS} {ns : List (Int × Int)} {H1 : Hp}
    {body : ((Int × Unit) × (((Option Addr × Nat × Nat) × ((Option Addr × Nat × Nat) × Unit)) × Unit)) → Hp → (((Int × Unit) × (((Option Addr × Nat × Nat) × ((Option Addr × Nat × Nat) × Unit)) × Unit)) → Hp → Prop) → Prop}
    (hp : PairAt H A0 n0 A1 n1 l ns) (hpb : partsP l ns < big) (o : Own H H1 none 0 B1 d1 [] ns)
    (hs : ∀ (i : Nat) (r : RS) (l' : List RS) B0 d0 H' next, l[i]? = some r → i < l.length → l'.length = i → Own H H' B0 d0 B1 d1 l' ns → (∀ r' B' d' H2, r'.side = r.side → Own H H2 B' d' B1 d1 (l' ++ [r']) ns → next ((IntKind.i64.wrap ((i : Int) + 1), ()), (((B', i + 1, d'), ((B1, ns.length, d1), ())), ())) H2) → body (((i : Int), ()), (((B0, i, d0), ((B1, ns.length, d1), ())), ())) H' next)
    (he : ∀ (l' : List RS) B0 d0 H' next, l'.map RS.side = l.map RS.side → Own H H' B0 d0 B1 d1 l' ns → body (((l.length : Int), ()), (((B0, l.length, d0), ((B1, ns.length, d1), ())), ())) H' next) :
    LoopF (((0 : Int), ()), ((((none : Option Addr), (0 : Nat), (0 : Nat)), ((B1, ns.length, d1), ())), ())) H1 body := by
  have hsm := (small_of hpb).1
  unfold big at hsm
  refine loop_to l.length (fun i s H' => ∃ l' B0 d0, s = (((i : Int), ()), (((B0, i, d0), ((B1, ns.length, d1), ())), ())) ∧ i ≤ l.length ∧ l'.map RS.side = (l.take i).map RS.side ∧ Own H H' B0 d0 B1 d1 l' ns) ⟨[], none, 0, rfl, by omega, by simp, o⟩ ?_
  rintro i s H' next hi ⟨l', B0, d0, rfl, _, hm, o'⟩ hnext
  have hll : l'.length = i := by
    have := congrArg List.length hm
    simp only [List.length_map, List.length_take] at this
    omega
  by_cases h : i < l.length
  · obtain ⟨r, hr⟩ : ∃ r, l[i]? = some r := ⟨_, List.getElem?_eq_getElem h⟩
    refine hs i r l' B0 d0 H' next hr h hll o' fun r' B' d' H2 hr' o2 => hnext _ _ h ⟨l' ++ [r'], B', d', ?_, by omega, ?_, o2⟩
    · rw [wrap_id (by omega) (by omega)]; rfl
    · rw [List.map_append, hm, List.take_add_one, hr, List.map_append]
      simp [hr']
  · obtain rfl : i = l.length := by omega
    rw [List.take_length] at hm
    exact he l' B0 d0 H' next hm o'
theorem c29 {A0 A1 : Option Addr} {n0 c0 n1 c1 : Nat} {l : List RS} {ns : List (Int × Int)} (hp : PairAt H A0 n0 A1 n1 l ns) (hpb : partsP l ns < big) (hq : ∀ l' B0 d0 B1 d1 H', l'.map RS.side = l.map RS.side → Own H H' B0 d0 B1 d1 l' ns → Q (.agg #[.slice B0 l.length d0, .slice B1 ns.length d1]) H') :
    HCalls Try.prog 29 [.agg #[.slice A0 n0 c0, .slice A1 n1 c1]] H Q := by
  refine f29.ok _ _ _ _ _ _ ?_
  unfold f29
  obtain rfl := hp.sides.len
  obtain rfl := hp.notes.len
  refine c44 (Ext.refl H) hp.notes (small_of hpb).2.1 fun B1 d1 H2 hrow hx hfr => ⟨_, _, _, rfl, ?_⟩
  have hsm := (small_of hpb).1
  refine copyLoop hp hpb (own0 hx hrow) ?_ ?_
  · intro i r l' B0 d0 H' next hr hi hll o hnext
    have hp' := hp.ext o.ext
    have hxl' := hp'.sides.logs r (List.mem_of_getElem? hr)
    have hxl : r.n = r.log.length ∧ cellsAt H' r.A (ints r.log) ∧ r.log.length < big := ⟨hxl'.1, hxl'.2.1, (small_of hpb).2.2 r (List.mem_of_getElem? hr)⟩
    refine cndT (by simpa using hi) ⟨by simp, by simpa using hi, rd_side hp'.sides hr fun b o' _ k1 k2 k3 => ⟨r.ph, by simpa using k1, r.up, by simpa using k2, r.A, r.n, r.c, by simpa using k3, c45 o.ext hxl.2.1 hxl.1 hxl.2.2 fun A' c' H3 hrow3 hx3 hfr3 => ⟨_, _, _, rfl, ?_⟩⟩⟩
    have := o.push (r := ⟨r.ph, r.up, r.log, A', r.n, c'⟩) hx3 hrow3 hxl.2.2 hfr3 (by omega) (K := fun A n c H17 => KeepX [some (.loc 2 0), some (.loc 3 0), some (.v (.slice A0 l.length c0)), some (.v (.int .i64 ((l.length : Nat) : Int)))] [some (true, [.slice none 0 0, .slice none 0 0])] ∧ next ((IntKind.i64.wrap ((i : Int) + 1), ()), (((A, n, c), ((B1, ns.length, d1), ())), ())) H17)
      (fun B' d' H4 o4 => ⟨rfl, by rw [hll]; exact hnext ⟨r.ph, r.up, r.log, A', r.n, c'⟩ _ _ _ rfl o4⟩)
    rw [hll] at this
    exact this
  · intro l' B0 d0 H' next hm o
    exact cndF (by simp) (hq l' B0 d0 B1 d1 H' hm o)
theorem c10 {A0 A1 : Option Addr} {n0 c0 n1 c1 : Nat} {l : List RS} {ns : List (Int × Int)} (hp : PairAt H A0 n0 A1 n1 l ns) (hpb : partsP l ns < big) (hq : ∀ l' B0 d0 B1 d1 H', l'.map RS.side = l.map RS.side → Own H H' B0 d0 B1 d1 l' ns → Q (.agg #[.slice B0 l.length d0, .slice B1 ns.length d1]) H') :
    HCalls Try.prog 10 [.agg #[.slice A0 n0 c0, .slice A1 n1 c1]] H Q := by
  refine f10.ok _ _ _ _ _ _ ?_
  unfold f10
  obtain rfl := hp.sides.len
  obtain rfl := hp.notes.len
  have hsm := small_of hpb
  refine freshRow (Ext.refl H) hp.notes.cells notes_len noteCs_one (by unfold big at hsm; omega) (by unfold big at hsm; omega) fun B1 d1 H2 hrow hx hfr => ?_
  refine copyLoop hp hpb (own0 hx hrow) ?_ ?_
  · intro i r l' B0 d0 H' next hr hi hll o hnext
    have hp' := hp.ext o.ext
    have hxl' := hp'.sides.logs r (List.mem_of_getElem? hr)
    have hxl : r.n = r.log.length ∧ cellsAt H' r.A (ints r.log) ∧ r.log.length < big := ⟨hxl'.1, hxl'.2.1, (small_of hpb).2.2 r (List.mem_of_getElem? hr)⟩
    have hxb := hxl.2.2
    refine cndT (by simpa using hi) ⟨by simp, by simpa using hi, rd_side hp'.sides hr fun b o' _ k1 k2 k3 => ⟨r.ph, by simpa using k1, r.up, by simpa using k2, r.A, r.n, r.c, by simpa using k3, freshRow o.ext hxl.2.1 (by simp [ints, hxl.1]) ints_one (by unfold big at hxb; rw [hxl.1]; omega) (by unfold big at hxb; rw [hxl.1]; omega) fun A' c' H3 hrow3 hx3 hfr3 => ?_⟩⟩
    have := o.push (r := ⟨r.ph, r.up, r.log, A', r.n, c'⟩) hx3 hrow3 hxl.2.2 hfr3 (by omega) (K := fun A n c H17 => KeepX [some (.loc 2 0), some (.loc 3 0), some (.v (.slice A0 l.length c0)), some (.v (.int .i64 ((l.length : Nat) : Int)))] [some (true, [.slice none 0 0, .slice none 0 0])] ∧ next ((IntKind.i64.wrap ((i : Int) + 1), ()), (((A, n, c), ((B1, ns.length, d1), ())), ())) H17)
      (fun B' d' H4 o4 => ⟨rfl, by rw [hll]; exact hnext ⟨r.ph, r.up, r.log, A', r.n, c'⟩ _ _ _ rfl o4⟩)
    rw [hll] at this
    exact this
  · intro l' B0 d0 H' next hm o
    exact cndF (by simp) (hq l' B0 d0 B1 d1 H' hm o)
end
end Go.Proofs.Ytkkmoeimcedkgaa.Hw
