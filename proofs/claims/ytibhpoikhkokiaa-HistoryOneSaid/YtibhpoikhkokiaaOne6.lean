/- Th Ti Tj Tk Sh Tq Sf HsDef (joined by merge.py) -/
import Derived.Test.YtibhpoikhkokiaaOne5
import Derived.Shelf.Sort.Plain
import Derived.Shelf.Slices.In.SortNone
import Derived.Test.YtibhpoikhkokiaaProg
import Derived.Shelf.SlSortCmp.NoneTotal
import Derived.WalkKit
import Derived.Orders
import Derived.Maps.RangeRun
/- Histories: the book is made. -/
set_option linter.unusedVariables false
set_option linter.unusedSimpArgs false
set_option maxRecDepth 20000
namespace Go.Proofs.Ytibhpoikhkokiaa.Hw
open Go Go.Proofs
section
variable {H0 H H' : Hp} {rl : Nat → Nat} {g c b v w m : Nat} {iw : Int → Nat} {sl : Int → Option Addr × Nat} {A : Option Addr} {n cp : Nat} {l p : List Ev} {x : Ev} {Q : Value → Hp → Prop} {vs : Int → List Int}
theorem Fam.look {k : Int} {K : Value → Bool → Prop} (F : Fam H0 H rl v sl vs) (hk : ∀ A n c b, (if (vs k).isEmpty then some (Value.slice none 0 0) else some (.slice (sl k).1 (vs k).length (sl k).2)) = some (.slice A n c) → K (.slice A n c) b) : lookF H .i64 (some v) k (.slice none 0 0) K := by
  refine F.map.look ?_
  cases he : (vs k).isEmpty with
  | true => rw [if_pos rfl]; exact hk none 0 0 _ (by rw [he, if_pos rfl])
  | false => rw [if_neg (by decide)]; exact hk _ _ _ _ (by rw [he, if_neg (by decide)])
theorem Fam.grow (F : Fam H0 H rl v sl vs) (hx : Ext H H') : Fam H0 H' rl v sl vs := by
  have lv : ∀ q, H q ≠ none → H' q = H q := fun q hq => by
    cases h : H q with
    | none => exact absurd h hq
    | some o => exact hx q o h
  refine ⟨F.map.keep (lv v F.map.live), fun k h => ⟨(F.row k h).1.keep fun q hq => lv q ((F.row k h).1.lt hq).1, (F.row k h).2⟩, F.disj⟩
theorem Row.cell {A : Option Addr} {n c : Nat} {vals : List Value} (R : Row H0 H A n c 1 vals) {q : Nat} (hq : rowB A q) : ∃ cs ty, H q = some (.cells cs ty (0, 0)) := by
  obtain ⟨_, _, h | ⟨b, cs, ty, rfl, hb, _⟩⟩ := R
  · obtain ⟨o, z, h'⟩ := hq; rw [h.1] at h'; cases h'
  · obtain ⟨o, z, h'⟩ := hq
    cases h'
    exact ⟨_, _, hb⟩
theorem Fam.off {i : Nat} (F : Fam H0 H rl v sl vs) (hi : ∀ cs ty z, H i ≠ some (.cells cs ty z)) (hv : v ≠ i) (hk : ∀ q, q ≠ i → H' q = H q) : Fam H0 H' rl v sl vs :=
  ⟨F.map.keep (hk v hv), fun k h => ⟨(F.row k h).1.keep fun q hq => hk q fun e => by
    subst e
    obtain ⟨cs, ty, h1⟩ := (F.row k h).1.cell hq
    exact hi _ _ _ h1, (F.row k h).2⟩, F.disj⟩
theorem OwnR.grow (O : OwnR H0 H rl) (hx : Ext H H') : OwnR H0 H' rl := O.set fun q hq => by
  cases h : H q with
  | none => exact absurd h hq
  | some o => rw [hx q o h]; simp
/-- A commit: what holds when the versions have been noted. -/
theorem OfAt.commit {H2 : Hp} {rl2 : Nat → Nat} {sl2 : Int → Option Addr × Nat} (O : OfAt H0 H rl g c b v w m iw sl A n cp p) (o : x.op = 4) (hx : Ext H0 H2) (hO : OwnR H0 H2 rl2) (hr : ∀ q, H q ≠ none → rl2 q = rl q)
    (h1 : MapF H2 c (fun t => if t = x.txn then some (natV p.length) else (commitI p t).map natV)) (hF : Fam H0 H2 rl2 v sl2 (versM (p ++ [x]))) (hfr : ∀ q, rl q < 7 → q ≠ c → q ≠ v → H2 q = H q) : OfAt H0 H2 rl2 g c b v w m iw sl2 A n cp (p ++ [x]) := by
  have o1 : x.op ≠ 1 := by rw [o]; decide
  have o3 : x.op ≠ 3 := by rw [o]; decide
  have kp : ∀ q, rl q < 7 → rl q ≠ 1 → rl q ≠ 3 → H2 q = H q := fun q h h2 h5 => hfr q h (fun e => h2 (by rw [e, O.rc])) fun e => h5 (by rw [e, O.rv])
  have hr' : ∀ q, rl q < 8 → rl2 q = rl q := fun q hq => hr q (O.own q hq).2
  obtain ⟨ty, hc⟩ := O.cell
  refine ⟨hx, hO, ⟨ty, (kp g (by rw [O.rg]; omega) (by rw [O.rg]; omega) (by rw [O.rg]; omega)).trans hc⟩, (hr' g (by rw [O.rg]; omega)).trans O.rg, (hr' c (by rw [O.rc]; omega)).trans O.rc, (hr' b (by rw [O.rb]; omega)).trans O.rb, (hr' v (by rw [O.rv]; omega)).trans O.rv, (hr' w (by rw [O.rw']; omega)).trans O.rw', (hr' m (by rw [O.rm]; omega)).trans O.rm, fun t ht => ?_, ?_, ?_, hF, ?_, ?_, fun t ht => ?_, fun t u ht hu e => O.inj t u (by rwa [bgn_same o1] at ht) (by rwa [bgn_same o1] at hu) e⟩
  · rw [bgn_same o1] at ht
    exact (hr' _ (by rw [O.ri t ht]; omega)).trans (O.ri t ht)
  · exact h1.congr fun t => by
      unfold commitI
      rw [lastI_snoc]
      by_cases e : t = x.txn
      · rw [if_pos e, if_pos (isC_iff.2 ⟨o, e.symm⟩)]; rfl
      · have : isC t x = false := by
          unfold isC
          have : (x.txn == t) = false := by simpa using fun h => e (Eq.symm h)
          rw [this, Bool.and_false]
        rw [if_neg e, this]; rfl
  · exact (O.begins.keep (kp b (by rw [O.rb]; omega) (by rw [O.rb]; omega) (by rw [O.rb]; omega))).congr fun t => by rw [beg_same o1]
  · exact (O.lastw.keep (kp w (by rw [O.rw']; omega) (by rw [O.rw']; omega) (by rw [O.rw']; omega))).congr fun t i => by rw [las_same o3]
  · exact (O.items.keep (kp m (by rw [O.rm]; omega) (by rw [O.rm]; omega) (by rw [O.rm]; omega))).congr fun t => by rw [bgn_same o1]
  · rw [bgn_same o1] at ht
    have h6 := O.ri t ht
    exact ((O.item t ht).keep (kp _ (by omega) (by omega) (by omega))).congr fun k => by rw [wro_same o3]
/-- The book behind the loop. -/
theorem OfAt.book (O : OfAt H0 H rl g c b v w m iw sl A n cp l) (hA : SlAt evC H0 A n l) (hc : n ≤ cp) : BookAt H g c b v w sl A n cp l :=
  ⟨O.cell, hA.ext O.ext, hc, O.commits, O.begins, O.fam.map, fun k hk => ⟨(O.fam.row k hk).1.slI (Nat.lt_of_le_of_lt vers_len hA.small), (O.fam.row k hk).1.2.1⟩, O.lastw⟩
theorem c19 (hA : SlAt evC H A n l) (hcp : n ≤ cp) (hok : OkTo l l.length) (hs : l.length ≤ 2000) (hq : ∀ g c b v w sl H', Ext H H' → BookAt H' g c b v w sl A n cp l → Q (.pointer (some ⟨g, 0, none⟩)) H') : HCalls Try.prog 19 [.slice A n cp] H Q := by
  refine f19.ok _ _ _ ?_
  unfold f19
  obtain rfl := hA.len
  have hlt := hA.lt
  refine MapF.new fun c H2 hc0 x2 o2 Mc => MapF.new fun b H4 hb0 x4 o4 Mb => MapF.new fun v H6 hv0 x6 o6 Mv => MapF2.new fun w H8 hw0 x8 o8 Mw => fun g hg0 => ?_
  generalize hH10 : upd g (Obj.cells _ 66 _) H8 = H10
  have eg : H10 g = some (.cells #[.slice A l.length cp, .map (some c), .map (some b), .map (some v), .map (some w)] 66 (0, 0)) := by subst hH10; exact upd_at
  have x10 : Ext H8 H10 := by subst hH10; exact Ext.new hg0
  refine MapF.new fun m H12 hm0 x12 o12 Mm => ?_
  have lv : ∀ {q} {X Y : Hp}, Ext X Y → X q ≠ none → Y q = X q := fun {q X Y} hx hb => by
    cases h : X q with
    | none => exact absurd h hb
    | some o => exact hx q o h
  have fne : ∀ {a d : Nat} {X Y : Hp}, Ext X Y → X a ≠ none → Y d = none → d ≠ a := fun {a d X Y} hx ha hd e => by
    subst e
    rw [lv hx ha] at hd; exact ha hd
  have lc := Mc.live
  have lb := Mb.live
  have lw := Mv.live
  have l3 := Mw.live
  have lg : H10 g ≠ none := by rw [eg]; simp
  have X1 : Ext H4 H8 := x6.trans x8
  have dbc : b ≠ c := fne (Ext.refl _) lc hb0
  have dvc : v ≠ c := fne x4 lc hv0
  have dvb : v ≠ b := fne (Ext.refl _) lb hv0
  have dwc : w ≠ c := fne (x4.trans x6) lc hw0
  have dwb : w ≠ b := fne x6 lb hw0
  have dwv : w ≠ v := fne (Ext.refl _) lw hw0
  have dgc : g ≠ c := fne (x4.trans X1) lc hg0
  have dgb : g ≠ b := fne X1 lb hg0
  have dgv : g ≠ v := fne x8 lw hg0
  have dgw : g ≠ w := fne (Ext.refl _) l3 hg0
  have dmc : m ≠ c := fne ((x4.trans X1).trans x10) lc hm0
  have dmb : m ≠ b := fne (X1.trans x10) lb hm0
  have dmv : m ≠ v := fne (x8.trans x10) lw hm0
  have dmw : m ≠ w := fne x10 l3 hm0
  have dmg : m ≠ g := fne (Ext.refl _) lg hm0
  have hx12 : Ext H H12 := ((((x2.trans x4).trans x6).trans x8).trans x10).trans x12
  have O0 : OfAt H H12 (fun q => if q = c then 1 else if q = b then 2 else if q = v then 3 else if q = w then 4 else if q = g then 0 else if q = m then 5 else 99) g c b v w m (fun _ => 0) (fun _ => (none, 0)) A l.length cp [] := by
    refine ⟨hx12, fun q hq => ?_, ⟨66, x12 _ _ eg⟩, ?_, ?_, ?_, ?_, ?_, ?_, fun t ht => (by cases ht), ?_, ?_, ⟨?_, fun k hk => (by cases hk), fun k k' hk => (by cases hk)⟩, ?_, ?_, fun t ht => (by cases ht), fun t u ht => (by cases ht)⟩
    · by_cases e1 : q = c
      · rw [e1]; exact ⟨hc0, by rw [lv ((((x4.trans x6).trans x8).trans x10).trans x12) lc]; exact lc⟩
      · by_cases e2 : q = b
        · rw [e2]; exact ⟨x2.none hb0, by rw [lv (((x6.trans x8).trans x10).trans x12) lb]; exact lb⟩
        · by_cases e3 : q = v
          · rw [e3]; exact ⟨(x2.trans x4).none hv0, by rw [lv ((x8.trans x10).trans x12) lw]; exact lw⟩
          · by_cases e4 : q = w
            · rw [e4]; exact ⟨((x2.trans x4).trans x6).none hw0, by rw [lv (x10.trans x12) l3]; exact l3⟩
            · by_cases e5 : q = g
              · rw [e5]; exact ⟨(((x2.trans x4).trans x6).trans x8).none hg0, by rw [lv x12 lg]; exact lg⟩
              · by_cases e6 : q = m
                · rw [e6]; exact ⟨((((x2.trans x4).trans x6).trans x8).trans x10).none hm0, Mm.live⟩
                · simp only [if_neg e1, if_neg e2, if_neg e3, if_neg e4, if_neg e5, if_neg e6] at hq
                  omega
    · simp only [if_neg dgc, if_neg dgb, if_neg dgv, if_neg dgw, if_true]
    · simp only [if_true]
    · simp only [if_neg dbc, if_true]
    · simp only [if_neg dvc, if_neg dvb, if_true]
    · simp only [if_neg dwc, if_neg dwb, if_neg dwv, if_true]
    · simp only [if_neg dmc, if_neg dmb, if_neg dmv, if_neg dmw, if_neg dmg, if_true]
    · exact (Mc.keep (lv ((((x4.trans x6).trans x8).trans x10).trans x12) lc)).congr fun t => rfl
    · exact (Mb.keep (lv (((x6.trans x8).trans x10).trans x12) lb)).congr fun t => rfl
    · exact (Mv.keep (lv ((x8.trans x10).trans x12) lw)).congr fun t => rfl
    · exact (Mw.keep (lv (x10.trans x12) l3)).congr fun t i => rfl
    · exact Mm.congr fun t => rfl
  refine scan hlt (fun i H' => ∃ rl iw sl, OfAt H H' rl g c b v w m iw sl A l.length cp (l.take i)) ⟨_, _, _, O0⟩ (fun i H14 next hi hI hnext => ?_) (fun H14 next hI => ?_)
  rotate_left
  · obtain ⟨rl, iw, sl, O⟩ := hI
    rw [List.take_length] at O
    dsimp only
    exact cndF (decide_eq_false (by omega)) (hq _ _ _ _ _ _ _ O.ext (O.book hA hcp))
  obtain ⟨rl, iw, sl, O⟩ := hI
  obtain ⟨x, hx⟩ := get_of hi
  have hev := hok i x hi hx
  obtain ⟨q1, q2, q3, q4⟩ := ev_parts hev
  have hpl : (l.take i).length = i := by rw [List.length_take]; omega
  dsimp only
  refine cndT (decide_eq_true (by omega)) (jn_intro (fun J => ∀ H' rl' iw' sl', OfAt H H' rl' g c b v w m iw' sl' A l.length cp (l.take i ++ [x]) → J H') (fun H' rl' iw' sl' O' => ⟨rfl, hnext H' ⟨rl', iw', sl', by rw [take_snoc hx]; exact O'⟩⟩) fun J hJ => ⟨by omega, by omega, rd_ev (hA.ext O.ext) hx fun q o _ k1 k2 k3 k4 k5 => ⟨x.op, by simpa using k1, x.txn, by simpa using k2, x.item, by simpa using k3, x.frm, by simpa using k4, x.stmt, by simpa using k5, ?_⟩⟩)
  obtain ⟨tg, hcg⟩ := O.cell
  have hcl : ∀ {X : Hp}, X g = H14 g → ∀ k, cl X g k = ([Value.slice A l.length cp, .map (some c), .map (some b), .map (some v), .map (some w)])[k]? := fun {X} hX k => cl_cells (cs := [.slice A l.length cp, .map (some c), .map (some b), .map (some v), .map (some w)]) (hX.trans hcg) k
  have ngb : g ≠ b := ne_rl O.rg O.rb (by decide)
  refine cndI (fun o1 => ?_) fun o1 => cndI (fun o3 => ?_) fun o3 => cndI (fun o4 => ?_) fun o4 => ?_
  · have o1 : x.op = 1 := by simpa using o1
    have hnb : begunM (l.take i) x.txn = false := by
      cases h : begunM (l.take i) x.txn with
      | false => rfl
      | true => exact absurd o1 (q3.1 h)
    refine ⟨some b, hcl rfl 2, O.begins.put fun H23 M23 f15 => MapF.new fun m' H25 hm' x25 f18 M25 => ?_⟩
    have lb14 : H14 m ≠ none := O.items.live
    have mb : m ≠ b := ne_rl O.rm O.rb (by decide)
    have l23 : ∀ q, H14 q ≠ none → H23 q ≠ none := fun q hq => by
      by_cases e : q = b
      · subst e; exact M23.live
      · rw [f15 q e]; exact hq
    have hm'14 : H14 m' = none := by
      cases h : H14 m' with
      | none => rfl
      | some o => exact absurd hm' (l23 m' (by rw [h]; simp))
    have items25 := (O.items.keep (f15 m mb)).keep (lv x25 (l23 m lb14))
    refine items25.put fun H26 M26 f26g => hJ H26 _ _ _ (O.begin (m' := m') (fun k => (hok.mono (Nat.le_of_lt hi)).not_begun hnb k) hnb o1 hm'14 (fun q hq h1 h2 => ?_) (fun q o hq => ?_) (fun q hq => ?_) ?_ ?_ M26)
    · have hl := (O.own q hq).2
      exact (f26g q h2).trans ((lv x25 (l23 q hl)).trans (f15 q h1))
    · have e1 := O.ext q o hq
      have nb : q ≠ b := fun e => by rw [e, (O.own b (by rw [O.rb]; omega)).1] at hq; cases hq
      have nm : q ≠ m := fun e => by rw [e, (O.own m (by rw [O.rm]; omega)).1] at hq; cases hq
      rw [f26g q nm, lv x25 (l23 q (by rw [e1]; simp)), f15 q nb]; exact e1
    · by_cases e : q = m
      · subst e; exact M26.live
      · rw [f26g q e, lv x25 (l23 q hq)]; exact l23 q hq
    · have e1 : H26 b = H25 b := f26g b mb.symm
      have e2 : H25 b = H23 b := lv x25 M23.live
      rw [hpl]
      exact M23.keep (e1.trans e2)
    · have : m' ≠ m := fun e => lb14 (e ▸ hm'14)
      exact M25.keep (f26g m' this)
  · have o3 : x.op = 3 := by simpa using o3
    have hbg := q3.2 (by rw [o3]; decide)
    refine O.items.look ?_
    rw [hbg]
    refine ⟨some (iw x.txn), rfl, (O.item _ hbg).put fun H30 M30 f30g => ?_⟩
    have ri := O.ri _ hbg
    refine ⟨some w, hcl (f30g g (ne_rl O.rg ri (by decide))) 4, (O.lastw.keep (f30g w (ne_rl O.rw' ri (by decide)))).put fun H32 M32 f32g => hJ H32 _ _ _ (O.write hbg o3 (fun q hq h1 h2 => (f32g q h2).trans (f30g q h1)) (fun q o hq => ?_) (fun q hq => ?_) ?_ ?_)⟩
    · have e1 := O.ext q o hq
      have nb : q ≠ iw x.txn := fun e => by rw [e, (O.own _ (by rw [ri]; omega)).1] at hq; cases hq
      have nm : q ≠ w := fun e => by rw [e, (O.own w (by rw [O.rw']; omega)).1] at hq; cases hq
      rw [f32g q nm, f30g q nb]; exact e1
    · by_cases e : q = w
      · subst e; exact M32.live
      · rw [f32g q e]
        by_cases e2 : q = iw x.txn
        · subst e2; exact M30.live
        · rw [f30g q e2]; exact hq
    · exact (M30.keep (f32g _ (ne_rl ri O.rw' (by decide))))
    · rw [hpl]; exact M32
  · have o4 : x.op = 4 := by simpa using o4
    have hbg := q3.2 (by rw [o4]; decide)
    have ri := O.ri _ hbg
    refine ⟨some c, hcl rfl 1, O.commits.put fun H34 M34 f5 => ?_⟩
    have items34 := O.items.keep (f5 m (ne_rl O.rm O.rc (by decide)))
    refine items34.look ?_
    rw [hbg]
    have it34 := (O.item _ hbg).keep (f5 _ (ne_rl ri O.rc (by decide)))
    obtain ⟨kvI, hmI, hkI0⟩ := it34
    have hkI : ∀ k, kvGet kvI k = boolAt (wroteM (l.take i) x.txn k) := hkI0
    clear hkI0
    have l34 : ∀ q, H14 q ≠ none → H34 q ≠ none := fun q hq => by
      by_cases e : q = c
      · subst e; exact M34.live
      · rw [f5 q e]; exact hq
    have hx34 : Ext H H34 := fun q o hq => by
      rw [f5 q fun e => by rw [e, (O.own c (by rw [O.rc]; omega)).1] at hq; cases hq]; exact O.ext q o hq
    refine ⟨some (iw x.txn), rfl, range_to hmI fun i38 H39 hi38 x39 hI39 f39 => ?_⟩
    have hib : i38 ≠ iw x.txn := fun e => l34 _ (O.item _ hbg).live (e ▸ hi38)
    have F34 : Fam H H34 rl v sl (versM (l.take i)) := O.fam.keep (f5 v (ne_rl O.rv O.rc (by decide))) (fun q hq => f5 q (ne_rl hq O.rc (by decide))) fun q _ => rfl
    have hkeys : ∀ k, k ∈ kvI.map (·.1) ↔ wroteM (l.take i) x.txn k = true := fun k => by
      have h1 := hkI k
      constructor
      · intro hk
        obtain ⟨pr, hp, rfl⟩ := List.mem_map.1 hk
        rw [(kvGet_mem hmI.keys).2 hp] at h1
        cases hw : wroteM (l.take i) x.txn pr.1 with
        | true => rfl
        | false => rw [hw] at h1; cases h1
      · intro hw
        rw [hw] at h1
        exact List.mem_map.2 ⟨_, (kvGet_mem hmI.keys).1 h1, rfl⟩
    refine ⟨fun n s H' => ∃ left rl2 sl2, n = left.length ∧ IterAt .i64 H' i38 (iw x.txn) kvI left ∧ Fam H H' rl2 v sl2 (fun k => if k ∈ left then versM (l.take i) k else versM (l.take i) k ++ if wroteM (l.take i) x.txn k then [x.txn] else []) ∧ Ext H H' ∧ OwnR H H' rl2 ∧ (∀ q, H34 q ≠ none → rl2 q = rl q) ∧ (∀ q, rl q ≠ 7 → q ≠ v → H34 q ≠ none → H' q = H34 q) ∧ (∀ q, H34 q ≠ none → H' q ≠ none) ∧ (∀ k ∈ left, wroteM (l.take i) x.txn k = true) ∧ 8 ≤ rl2 i38,
      ⟨_, kvI.map (·.1), rl, sl, rfl, hI39, (F34.grow x39).congr fun k => ?_, hx34.trans x39, (O.own.set l34).grow x39, fun q _ => rfl, fun q _ _ hq => f39 q (fun e => hq (e ▸ hi38)), fun q hq => by rw [f39 q (fun e => hq (e ▸ hi38))]; exact hq, fun k hk => (hkeys k).1 hk, ?_⟩, ?_⟩
    rotate_left
    · by_cases h8 : 8 ≤ rl i38
      · exact h8
      · exact absurd hi38 (l34 i38 (O.own i38 (by omega)).2)
    rotate_left
    · by_cases hk : k ∈ kvI.map (·.1)
      · rw [if_pos hk]
      · rw [if_neg hk]
        have : wroteM (l.take i) x.txn k = false := by
          cases hw : wroteM (l.take i) x.txn k with
          | false => rfl
          | true => exact absurd ((hkeys k).2 hw) hk
        rw [this]; simp
    rintro n s H41 ⟨left, rl2, sl2, rfl, hI, F, hxx, hO2, hr2, hfr, hlive, hleft, hi8⟩
    have lfg : H34 g ≠ none := l34 g (by rw [hcg]; simp)
    have eg41 : H41 g = H14 g := (hfr g (by rw [O.rg]; decide) (ne_rl O.rg O.rv (by decide)) lfg).trans (f5 g (ne_rl O.rg O.rc (by decide)))
    have rv2 : rl2 v = 3 := (hr2 v (l34 v O.fam.map.live)).trans O.rv
    refine jn_intro (fun J => ∀ H' left' rl3 sl3, left'.length < left.length → IterAt .i64 H' i38 (iw x.txn) kvI left' → Fam H H' rl3 v sl3 (fun k => if k ∈ left' then versM (l.take i) k else versM (l.take i) k ++ if wroteM (l.take i) x.txn k then [x.txn] else []) → Ext H H' → OwnR H H' rl3 → (∀ q, H34 q ≠ none → rl3 q = rl q) → (∀ q, rl q ≠ 7 → q ≠ v → H34 q ≠ none → H' q = H34 q) → (∀ q, H34 q ≠ none → H' q ≠ none) → (∀ k ∈ left', wroteM (l.take i) x.txn k = true) → 8 ≤ rl3 i38 → J H')
      (fun H' left' rl3 sl3 h0 h1 h2 h3 h4 h5 h6 h7 h8 h9 => ⟨rfl, _, h0, left', rl3, sl3, rfl, h1, h2, h3, h4, h5, h6, h7, h8, h9⟩) fun J74 hJ74 => ?_
    unfold jn
    refine next_to hI hib (fun hl => cndF rfl ?_) (fun k u H45 hku hkl hI45 hE f27 => ?_)
    · subst hl
      refine hJ H41 rl2 iw sl2 (O.commit o4 hxx hO2 (fun q hq => hr2 q (l34 q hq)) ?_ (F.congr fun k => ?_) fun q hq h1 h2 => ?_)
      · rw [hpl]
        exact M34.keep (hfr c (by rw [O.rc]; decide) (ne_rl O.rc O.rv (by decide)) M34.live)
      · rw [if_neg (by simp), vers_snoc, o4]; rfl
      · exact (hfr q (by omega) h2 (l34 q (O.own q (by omega)).2)).trans (f5 q h1)
    · have hw : wroteM (l.take i) x.txn k = true := hleft k hkl
      have hu : u = .bool true := by
        have := (kvGet_mem hmI.keys).2 hku
        rw [hkI k, hw] at this
        cases this; rfl
      subst hu
      have ni : ∀ q, H34 q ≠ none → q ≠ i38 := fun q hq e => hq (e ▸ hi38)
      have F45 := F.off (i := i38) (by
        obtain ⟨es, clock, since, seen, c0, hh, _⟩ := hI
        intro cs ty z h; rw [hh] at h; cases h) (ni v (l34 v O.fam.map.live)) f27
      have l45 : ∀ q, H41 q ≠ none → H45 q ≠ none := fun q hq => by
        by_cases e : q = i38
        · obtain ⟨es, clock, since, seen, c0, hh, _⟩ := hI45
          rw [e, hh]; simp
        · rw [f27 q e]; exact hq
      have x45 : Ext H H45 := fun q o hq => by
        rw [f27 q (ni q (by rw [hx34 q o hq]; simp))]; exact hxx q o hq
      have O45 := hO2.set l45
      have eg45 : H45 g = H14 g := (f27 g (ni g lfg)).trans eg41
      have hlt' : (left.filter fun y => decide (y ≠ k)).length < left.length := by
        have h1 := List.length_filter_le (fun y => decide (y ≠ k)) left
        by_cases e : (left.filter fun y => decide (y ≠ k)).length = left.length
        · have := List.length_filter_eq_length_iff.1 e k hkl
          simp at this
        · omega
      have lv45 : (versM (l.take i) k).length < 1000000000000 := by
        have h1 := vers_len (l := l.take i) (k := k)
        rw [List.length_take] at h1; omega
      have push : ∀ g60, H45 g60 = none → ∀ A' n' c', (if ((fun k => if k ∈ left then versM (l.take i) k else versM (l.take i) k ++ if wroteM (l.take i) x.txn k then [x.txn] else []) k).isEmpty then some (Value.slice none 0 0) else some (.slice (sl2 k).1 ((fun k => if k ∈ left then versM (l.take i) k else versM (l.take i) k ++ if wroteM (l.take i) x.txn k then [x.txn] else []) k).length (sl2 k).2)) = some (.slice A' n' c') →
          appendF (upd g60 (Obj.cells [Value.int .i64 x.txn].toArray 3 (0, 0)) H45) 3 1 8 A' n' c' (some ⟨g60, 0, none⟩) 1 fun A'' n'' c'' H63 => H63 g = (upd g60 (Obj.cells [Value.int .i64 x.txn].toArray 3 (0, 0)) H45) g ∧ putF H63 .i64 (some v) k (.slice A'' n'' c'') fun H64 => J74 H64 := by
        intro g60 hg60 A' n' c' hA'
        have x61 : Ext H45 (upd g60 (Obj.cells [Value.int .i64 x.txn].toArray 3 (0, 0)) H45) := Ext.new hg60
        have e61 : (upd g60 (Obj.cells [Value.int .i64 x.txn].toArray 3 (0, 0)) H45) g60 = some (.cells [Value.int .i64 x.txn].toArray 3 (0, 0)) := upd_at
        generalize upd g60 (Obj.cells [Value.int .i64 x.txn].toArray 3 (0, 0)) H45 = H61 at x61 e61 ⊢
        have l61 : ∀ q, H45 q ≠ none → H61 q = H45 q := fun q hq => lv x61 hq
        refine Fam.app (t := x.txn) (F45.grow x61) (x45.trans x61) (O45.grow x61) (by omega) (by simp only [if_pos hkl]; exact lv45) hA' (.inr ⟨g60, 0, rfl, fun j u hu => ?_⟩) fun A'' n'' c'' H63 f37 hput => ⟨f37 g ?_ ?_, hput _ fun H64 rl3 sl3 F64 x64 O64 hr64 f38 => ?_⟩
        · rw [cl_cells e61, Nat.zero_add]; exact hu
        · rw [hr2 g lfg, O.rg]; decide
        · rw [l61 g (l45 g (hlive g lfg)), eg45, hcg]; simp
        · have li : H45 i38 ≠ none := by obtain ⟨es, clock, since, seen, c0, hh, _⟩ := hI45; rw [hh]; simp
          have liw : H34 (iw x.txn) ≠ none := l34 _ (O.item _ hbg).live
          have r6 : rl2 (iw x.txn) = 6 := (hr2 _ liw).trans ri
          have viw : iw x.txn ≠ v := ne_rl ri O.rv (by decide)
          have liw45 := l45 _ (hlive _ liw)
          have niv : i38 ≠ v := (ni v (l34 v O.fam.map.live)).symm
          refine hJ74 H64 _ rl3 sl3 hlt' (hI45.ext ((f38 i38 (by omega) niv (by rw [l61 _ li]; exact li)).trans (l61 _ li)) ((f38 _ (by omega) viw (by rw [l61 _ liw45]; exact liw45)).trans (l61 _ liw45))) (F64.congr fun k' => ?_) x64 O64 (fun q hq => ?_) (fun q h1 h2 h3 => ?_) (fun q hq => ?_) (fun k' hk' => hleft k' (List.mem_filter.1 hk').1) ?_
          · by_cases e : k' = k
            · subst e
              rw [if_pos rfl, if_pos hkl, if_neg (by simp [List.mem_filter]), hw]; rfl
            · rw [if_neg e]
              by_cases hkl' : k' ∈ left
              · rw [if_pos hkl', if_pos (List.mem_filter.2 ⟨hkl', by simpa using e⟩)]
              · rw [if_neg hkl', if_neg (fun h => hkl' (List.mem_filter.1 h).1)]
          · have h45 := l45 q (hlive q hq)
            rw [hr64 q (by rw [l61 q h45]; exact h45)]; exact hr2 q hq
          · have h45 := l45 q (hlive q h3)
            exact (f38 q (by rw [hr2 q h3]; exact h1) h2 (by rw [l61 q h45]; exact h45)).trans ((l61 q h45).trans ((f27 q (ni q h3)).trans (hfr q h1 h2 h3)))
          · have h45 := l45 q (hlive q hq)
            have e3 : rl3 q = rl2 q := hr64 q (by rw [l61 q h45]; exact h45)
            by_cases h8 : rl2 q < 8
            · exact (O64 q (by omega)).2
            · rw [f38 q (by omega) (fun e => by rw [e] at h8; omega) (by rw [l61 q h45]; exact h45), l61 q h45]; exact h45
          · rw [hr64 i38 (by rw [l61 _ li]; exact li)]; exact hi8
      refine ⟨k, rfl, true, rfl, cndT rfl (entry_to hE ⟨k, rfl, true, rfl, some v, hcl eg45 3, some v, hcl eg45 3, F45.look fun A' n' c' b' hA' => ⟨A', n', c', rfl, rfl, fun g60 hg60 => push g60 hg60 A' n' c' hA'⟩, fun g65 hg65 => (F45.grow (Ext.new hg65)).look fun A' n' c' b' hA' => ⟨A', n', c', rfl, rfl, push g65 hg65 A' n' c' hA'⟩⟩)⟩
  · have o1' : x.op ≠ 1 := by simpa using o1
    have o3' : x.op ≠ 3 := by simpa using o3
    have o4' : x.op ≠ 4 := by simpa using o4
    exact hJ H14 rl iw sl (O.skip o1' o3' o4')
end
end Go.Proofs.Ytibhpoikhkokiaa.Hw

/- Histories: what the book is asked. -/
set_option linter.unusedVariables false
set_option linter.unusedSimpArgs false
set_option maxRecDepth 20000
namespace Go.Proofs.Ytibhpoikhkokiaa.Hw
open Go Go.Proofs
def idxI (l : List Int) (x : Int) : Int := match l.findIdx? (fun y => x == y) with
  | some i => (i : Int)
  | none => -1
def nextM (l : List Ev) (item frm : Int) : Int := if frm == 0 then ((versM l item)[0]?).getD 0 else match (versM l item).findIdx? (fun y => frm == y) with
  | some i => ((versM l item)[i + 1]?).getD 0
  | none => 0
def natOr (o : Option Nat) : Nat := o.getD 0
def badRead (l : List Ev) (x : Ev) : Bool := (x.op == 2) && ((x.frm != 0) && ((x.frm != x.txn) && comB l x.txn))
def abTo (l : List Ev) (n : Nat) : Bool := (l.take n).any fun x => badRead l x && !comB l x.frm
def btAt (l : List Ev) (i : Nat) : Bool := match l[i]? with
  | some x => badRead l x && decide (i < natOr (lastW l x.frm x.item))
  | none => false
def btTo (l : List Ev) (n : Nat) : Bool := (List.range n).any (btAt l)
theorem btTo_succ {l : List Ev} {n : Nat} : btTo l (n + 1) = (btTo l n || btAt l n) := by unfold btTo; rw [List.range_succ]; simp
section
variable {H H' : Hp} {g c b v w : Nat} {sl : Int → Option Addr × Nat} {A : Option Addr} {n cp : Nat} {l : List Ev} {Q : Value → Hp → Prop}
theorem BookAt.ext (B : BookAt H g c b v w sl A n cp l) (hx : Ext H H') : BookAt H' g c b v w sl A n cp l := by
  obtain ⟨ty, hc⟩ := B.cell
  have lv : ∀ {q}, H q ≠ none → H' q = H q := fun {q} hq => by
    cases h : H q with
    | none => exact absurd h hq
    | some o => exact hx q o h
  exact ⟨⟨ty, hx _ _ hc⟩, B.evs.ext hx, B.cap, B.commits.keep (lv B.commits.live), B.begins.keep (lv B.begins.live), B.vers.keep (lv B.vers.live), fun k hk => ⟨(B.row k hk).1.ext hx, (B.row k hk).2⟩, B.lastw.keep (lv B.lastw.live)⟩
theorem BookAt.cl (B : BookAt H g c b v w sl A n cp l) (k : Nat) : cl H g k = ([Value.slice A n cp, .map (some c), .map (some b), .map (some v), .map (some w)])[k]? := by
  obtain ⟨ty, hc⟩ := B.cell
  exact cl_cells (cs := [.slice A n cp, .map (some c), .map (some b), .map (some v), .map (some w)]) hc k
/-- The versions of an item, looked up. -/
theorem BookAt.look {k : Int} {K : Value → Bool → Prop} (B : BookAt H g c b v w sl A n cp l) (hk : ∀ A' n' c' b, SlAt inC H A' n' (versM l k) → n' ≤ c' → K (.slice A' n' c') b) : lookF H .i64 (some v) k (.slice none 0 0) K := by
  refine B.vers.look ?_
  cases he : (versM l k).isEmpty with
  | true =>
    rw [if_pos rfl]
    have e : versM l k = [] := List.isEmpty_iff.1 he
    exact hk none 0 0 _ (by rw [e]; exact ⟨rfl, .inl rfl, by decide⟩) (Nat.le_refl _)
  | false =>
    rw [if_neg (by decide)]
    exact hk _ _ _ _ (B.row k he).1 (B.row k he).2
theorem c42 {t : Int} (B : BookAt H g c b v w sl A n cp l) (hq : Q (.bool (comB l t)) H) : HCalls Try.prog 42 [.pointer (some ⟨g, 0, none⟩), .int .i64 t] H Q := by
  refine f42.ok _ _ _ ?_
  unfold f42
  refine ⟨some c, B.cl 1, B.commits.look ⟨((commitI l t).getD 0 : Nat), ?_, ?_⟩⟩
  · cases commitI l t <;> rfl
  · unfold comB at hq; rw [Option.isSome_map]; exact hq
theorem c62 {A : Option Addr} {n k : Nat} {l : List Int} {x : Int} (hA : SlAt inC H A n l) (hq : Q (.int .i64 (idxI l x)) H) : HCalls Try.prog 62 [.slice A n k, .int .i64 x] H Q := by
  refine f62.ok _ _ _ _ ?_
  unfold f62
  obtain rfl := hA.len
  have hlt := hA.lt
  refine scan hlt (fun i H' => H' = H ∧ ∀ j y, j < i → l[j]? = some y → (x == y) = false) ⟨rfl, fun j y h => by omega⟩ ?_ ?_
  · rintro i H next hi ⟨rfl, hI⟩ hnext
    obtain ⟨y, hy⟩ := get_of hi
    dsimp only
    refine cndT (decide_eq_true (by omega)) ⟨by omega, by omega, rd_in hA hy fun q o _ hc => ⟨y, by simpa using hc, cndI (fun h => ?_) (fun h => ⟨rfl, hnext _ ⟨rfl, fun j z hj hz => ?_⟩⟩)⟩⟩
    · have : l.findIdx? (fun y => x == y) = some i := by
        rw [List.findIdx?_eq_some_iff_getElem]
        obtain ⟨h1, h2⟩ := List.getElem?_eq_some_iff.1 hy
        refine ⟨h1, by rw [h2]; exact h, fun j hj => ?_⟩
        have := hI j _ hj (List.getElem?_eq_getElem (by omega))
        rw [this]; decide
      unfold idxI at hq
      rw [this] at hq; exact hq
    · by_cases e : j = i
      · subst e; rw [hy] at hz; cases hz; exact h
      · exact hI j z (by omega) hz
  · rintro H next ⟨rfl, hI⟩
    have : l.findIdx? (fun y => x == y) = none := by
      rw [List.findIdx?_eq_none_iff]
      intro y hy
      obtain ⟨j, hj⟩ := List.getElem?_of_mem hy
      exact hI j y (List.getElem?_eq_some_iff.1 hj).1 hj
    unfold idxI at hq
    rw [this] at hq
    dsimp only
    exact cndF (decide_eq_false (by omega)) hq
theorem c40 {A : Option Addr} {n k : Nat} {l : List Int} {x : Int} (hA : SlAt inC H A n l) (hq : Q (.bool (l.any (fun y => x == y))) H) : HCalls Try.prog 40 [.slice A n k, .int .i64 x] H Q := by
  refine f40.ok _ _ _ _ ?_
  unfold f40
  refine c62 hA ⟨_, rfl, ?_⟩
  have : decide (idxI l x ≥ 0) = l.any (fun y => x == y) := by
    unfold idxI
    cases h : l.findIdx? (fun y => x == y) with
    | none =>
      rw [List.findIdx?_eq_none_iff] at h
      have : l.any (fun y => x == y) = false := by rw [List.any_eq_false]; intro y hy; rw [h y hy]; decide
      rw [this]; rfl
    | some i =>
      rw [List.findIdx?_eq_some_iff_getElem] at h
      obtain ⟨h1, h2, _⟩ := h
      rw [List.any_eq_true.2 ⟨_, List.getElem_mem h1, h2⟩]
      exact decide_eq_true (show (i : Int) ≥ 0 by omega)
  rw [this]; exact hq
theorem c44 {item frm : Int} (B : BookAt H g c b v w sl A n cp l) (hq : Q (.int .i64 (nextM l item frm)) H) : HCalls Try.prog 44 [.pointer (some ⟨g, 0, none⟩), .int .i64 item, .int .i64 frm] H Q := by
  refine f44.ok _ _ _ _ ?_
  unfold f44
  refine ⟨some v, B.cl 3, B.look fun A' n' c' b' hA' hc' => ⟨A', n', c', rfl, ?_⟩⟩
  obtain rfl := hA'.len
  have hlt := hA'.lt
  refine jn_intro (fun J => ∀ k : Nat, k ≤ (versM l item).length → Q (.int .i64 (((versM l item)[k]?).getD 0)) H → J ((k : Int) - 1) H) (fun k hkl hk => ?_) fun J hJ => cndI (fun h => ?_) fun h => ?_
  · have ek : IntKind.i64.wrap ((k : Int) - 1 + 1) = (k : Int) := by rw [wrap_id (by omega) (by omega)]; omega
    rw [ek]
    by_cases hlt' : k < (versM l item).length
    · obtain ⟨y, hy⟩ := get_of hlt'
      rw [hy] at hk
      exact cndT (decide_eq_true (by omega)) ⟨by omega, by omega, rd_in hA' hy fun q o _ hc => ⟨y, by simpa using hc, hk⟩⟩
    · rw [List.getElem?_eq_none (by omega)] at hk
      exact cndF (decide_eq_false (by omega)) hk
  · have h0 : (frm == 0) = false := by simpa using h
    unfold nextM at hq
    rw [h0] at hq
    refine c62 hA' ⟨_, rfl, ?_⟩
    unfold idxI
    cases hf : (versM l item).findIdx? (fun y => frm == y) with
    | none => rw [hf] at hq; exact cndT rfl hq
    | some i =>
      rw [hf] at hq
      have hi := (List.findIdx?_eq_some_iff_getElem.1 hf).1
      have := hJ (i + 1) (by omega) hq
      refine cndF (decide_eq_false (show ¬ ((i : Int) < 0) by omega)) ?_
      rw [show (((i + 1 : Nat) : Int) - 1) = (i : Int) by omega] at this
      exact this
  · have h0 : (frm == 0) = true := by simpa using h
    unfold nextM at hq
    rw [h0] at hq
    exact hJ 0 (Nat.zero_le _) hq
theorem c20 (B : BookAt H g c b v w sl A n cp l) (hq : Q (.tuple #[.bool (abTo l l.length), .bool (btTo l l.length)]) H) : HCalls Try.prog 20 [.pointer (some ⟨g, 0, none⟩)] H Q := by
  refine f20.ok _ _ ?_
  unfold f20
  have hA := B.evs
  obtain rfl := hA.len
  have hlt := hA.lt
  refine ⟨A, l.length, cp, B.cl 0, ?_⟩
  refine loop_to l.length (fun i s H' => s = ((abTo l i, (btTo l i, ((i : Int), ()))), ()) ∧ H' = H) ⟨rfl, rfl⟩ ?_
  rintro i s H3 next hi ⟨rfl, rfl⟩ hnext
  dsimp only
  by_cases h : i < l.length
  · obtain ⟨x, hx⟩ := get_of h
    have ei : IntKind.i64.wrap ((i : Int) + 1) = ((i + 1 : Nat) : Int) := by rw [wrap_id (by omega) (by omega)]; rfl
    have ea : abTo l (i + 1) = (abTo l i || (badRead l x && !comB l x.frm)) := by unfold abTo; rw [any_take_succ hx]
    have eb : btTo l (i + 1) = (btTo l i || (badRead l x && decide (i < natOr (lastW l x.frm x.item)))) := by rw [btTo_succ]; unfold btAt; rw [hx]
    refine cndT (decide_eq_true (by omega)) (jn_intro (fun J => J (abTo l (i + 1)) (btTo l (i + 1)) H3) ⟨rfl, hnext _ _ h ⟨by rw [ei], rfl⟩⟩ fun J hJ => ⟨by omega, by omega, rd_ev hA hx fun q o _ k1 k2 k3 k4 k5 => ⟨x.op, by simpa using k1, x.txn, by simpa using k2, x.item, by simpa using k3, x.frm, by simpa using k4, x.stmt, by simpa using k5, ?_⟩⟩)
    refine jn_intro (fun J' => (badRead l x = false → J' true H3) ∧ (badRead l x = true → J' false H3)) ⟨fun hb => cndT rfl ?_, fun hb => cndF rfl ?_⟩ fun J' h' => ?_
    · rw [ea, eb, hb] at hJ
      simpa using hJ
    · rw [ea, eb, hb] at hJ
      refine jn_intro (fun J2 => J2 (abTo l i || !comB l x.frm) H3) ?_ fun J2 h2 => ?_
      · refine cndI (fun hbt => ?_) fun hbt => ⟨some w, B.cl 4, B.lastw.look ⟨((lastW l x.frm x.item).getD 0 : Nat), by cases lastW l x.frm x.item <;> rfl, ?_⟩⟩
        · rw [hbt] at hJ; simpa using hJ
        · rw [hbt] at hJ
          have : decide ((((lastW l x.frm x.item).getD 0 : Nat) : Int) > (i : Int)) = decide (i < natOr (lastW l x.frm x.item)) := decide_eq_decide.2 (by unfold natOr; omega)
          rw [this]
          simpa using hJ
      · refine cndI (fun hab => ?_) fun hab => c42 B ⟨_, rfl, ?_⟩
        · rw [hab] at h2; exact h2
        · rw [hab] at h2; exact h2
    · unfold badRead at h'
      refine cndI (fun g1 => h'.1 ?_) fun g1 => cndI (fun g2 => h'.1 ?_) fun g2 => cndI (fun g3 => h'.1 ?_) fun g3 => c42 B ⟨_, rfl, ?_⟩
      · have : (x.op == 2) = false := by simpa using g1
        rw [this]; rfl
      · have : (x.frm != 0) = false := by simpa using g2
        rw [this]; simp
      · have : (x.frm != x.txn) = false := by simpa using g3
        rw [this]; simp
      · have e1 : (x.op == 2) = true := by simpa using g1
        have e2 : (x.frm != 0) = true := by simpa using g2
        have e3 : (x.frm != x.txn) = true := by simpa using g3
        rw [e1, e2, e3] at h'
        cases hc : comB l x.txn with
        | true => exact h'.2 (by rw [hc]; rfl)
        | false => exact h'.1 (by rw [hc]; rfl)
  · obtain rfl : i = l.length := by omega
    exact cndF (decide_eq_false (by omega)) hq
end
end Go.Proofs.Ytibhpoikhkokiaa.Hw

/- Histories: arcs, their order; the closure that adds one. -/
set_option linter.unusedVariables false
set_option linter.unusedSimpArgs false
set_option maxRecDepth 20000
namespace Go.Proofs.Ytibhpoikhkokiaa.Hw
open Go Go.Proofs
structure Arc where
  a : Int
  b : Int
  kind : Int
  item : Int
  deriving DecidableEq
def arC (x : Arc) : List Value := [.int .i64 x.a, .int .i64 x.b, .int .i64 x.kind, .int .i64 x.item]
theorem arC_len (x : Arc) : (arC x).length = 4 := rfl
theorem arC_one (x : Arc) : ∀ v ∈ arC x, v.oneCell' = true := fun v hv => by
  simp only [arC, List.mem_cons, List.not_mem_nil, or_false] at hv
  rcases hv with rfl | rfl | rfl | rfl <;> rfl
theorem rd_ar {H : Hp} {A : Option Addr} {n : Nat} {l : List Arc} {i : Nat} {x : Arc} (h : SlAt arC H A n l) (hi : l[i]? = some x) {K : Nat → Nat → Prop}
    (hk : ∀ p o, A = some ⟨p, o, none⟩ → cl H p (o + i * 4) = some (.int .i64 x.a) → cl H p (o + i * 4 + 1) = some (.int .i64 x.b) → cl H p (o + i * 4 + 1 + 1) = some (.int .i64 x.kind) → cl H p (o + i * 4 + 1 + 1 + 1) = some (.int .i64 x.item) → K p o) : onPtr A K := by
  have hlen : ∀ x ∈ l, (arC x).length = 4 := fun x _ => rfl
  have hne : l ≠ [] := fun e => by subst e; simp at hi
  refine at_cells h.cells (flat_ne hlen (by omega) hne) fun p o hA hc => hk p o hA ?_ ?_ ?_ ?_
  · have := hc (i * 4 + 0) _ (flat_get hlen hi (by omega)); rw [Nat.add_zero] at this; exact this
  · have := hc (i * 4 + 1) _ (flat_get hlen hi (by omega)); rw [← Nat.add_assoc] at this; exact this
  · have := hc (i * 4 + 2) _ (flat_get hlen hi (by omega)); rw [← Nat.add_assoc] at this; exact this
  · have := hc (i * 4 + 3) _ (flat_get hlen hi (by omega)); rw [← Nat.add_assoc] at this; exact this
def cmpI (x y : Int) : Int := if x < y then -1 else if x > y then 1 else 0
def orI (x y : Int) : Int := if x == 0 then y else x
def ordA (x y : Arc) : Int := orI (cmpI x.a y.a) (orI (cmpI x.b y.b) (orI (cmpI x.kind y.kind) (cmpI x.item y.item)))
def ltA (x y : Arc) : Prop := x.a < y.a ∨ (x.a = y.a ∧ (x.b < y.b ∨ (x.b = y.b ∧ (x.kind < y.kind ∨ (x.kind = y.kind ∧ x.item < y.item)))))
theorem cmpI_eq {x y : Int} : cmpI x y = 0 ↔ x = y := by unfold cmpI; split <;> (try split) <;> omega
theorem cmpI_lt {x y : Int} : cmpI x y < 0 ↔ x < y := by unfold cmpI; split <;> (try split) <;> omega
theorem orI_lt {x y : Int} : orI x y < 0 ↔ x < 0 ∨ (x = 0 ∧ y < 0) := by
  unfold orI
  by_cases h : x = 0
  · subst h; simp
  · rw [if_neg (by simpa using h)]
    constructor
    · exact .inl
    · rintro (h' | h')
      · exact h'
      · exact absurd h'.1 h
theorem ordA_lt {x y : Arc} : ordA x y < 0 ↔ ltA x y := by
  unfold ordA ltA
  rw [orI_lt, orI_lt, orI_lt, cmpI_lt, cmpI_lt, cmpI_lt, cmpI_lt, cmpI_eq, cmpI_eq, cmpI_eq]
theorem ltA_irrefl {x : Arc} : ¬ ltA x x := by unfold ltA; omega
theorem ltA_trans {x y z : Arc} (h : ltA x y) (h' : ltA y z) : ltA x z := by unfold ltA at *; omega
theorem ltA_total {x y : Arc} (h : ¬ ltA x y) (h' : ¬ ltA y x) : x = y := by
  obtain ⟨a, b, c, d⟩ := x
  obtain ⟨a', b', c', d'⟩ := y
  unfold ltA at h h'
  simp only at h h'
  have : a = a' := by omega
  have : b = b' := by omega
  have : c = c' := by omega
  have : d = d' := by omega
  subst_vars; rfl
theorem nodup_len : ∀ {l m : List Int}, l.Nodup → (∀ x ∈ l, x ∈ m) → l.length ≤ m.length
  | [], m, _, _ => Nat.zero_le _
  | a :: l, m, hn, hs => by
    obtain ⟨h1, h2⟩ := List.nodup_cons.1 hn
    have ha := hs a List.mem_cons_self
    have := nodup_len (m := m.erase a) h2 fun x hx => (List.mem_erase_of_ne (fun e : x = a => h1 (by rw [← e]; exact hx))).2 (hs x (List.mem_cons_of_mem _ hx))
    rw [List.length_erase_of_mem ha] at this
    have := List.length_pos_of_mem ha
    rw [List.length_cons]; omega
theorem ext_at {H H' : Hp} (hx : Ext H H') {b : Nat} (h : H b ≠ none) : H' b = H b := by
  cases hb : H b with
  | none => exact absurd hb h
  | some o => exact hx b o hb
section
variable {H0 H H' : Hp} {g c b v w : Nat} {sl : Int → Option Addr × Nat} {A : Option Addr} {n cp : Nat} {l : List Ev} {Q : Value → Hp → Prop}
theorem c81 {x : Int} (hq : Q (.bool false) H) : HCalls Try.prog 81 [.int .i64 x] H Q := by
  refine f81.ok _ ?_
  unfold f81
  simpa using hq
theorem c66 {x y : Int} (hq : Q (.int .i64 (cmpI x y)) H) : HCalls Try.prog 66 [.int .i64 x, .int .i64 y] H Q := by
  refine f66.ok _ _ ?_
  unfold f66
  unfold cmpI at hq
  refine c81 ⟨false, rfl, c81 ⟨false, rfl, cndF rfl (cndF rfl (cndI (fun h => ?_) fun h => cndI (fun h2 => ?_) fun h2 => ?_))⟩⟩
  · rw [if_pos (of_decide_eq_true h)] at hq; exact hq
  · rw [if_neg (of_decide_eq_false h), if_pos (of_decide_eq_true h2)] at hq; exact hq
  · rw [if_neg (of_decide_eq_false h), if_neg (of_decide_eq_false h2)] at hq; exact hq
def orL (l : List Int) : Int := (l.find? (fun x => x != 0)).getD 0
theorem c65 {A : Option Addr} {n k : Nat} {l : List Int} (hA : SlAt inC H A n l) (hq : Q (.int .i64 (orL l)) H) : HCalls Try.prog 65 [.slice A n k] H Q := by
  refine f65.ok _ _ _ ?_
  unfold f65
  obtain rfl := hA.len
  have hlt := hA.lt
  refine scan hlt (fun i H' => H' = H ∧ ∀ y ∈ l.take i, (y != 0) = false) ⟨rfl, fun y hy => by simp at hy⟩ ?_ ?_
  · rintro i H next hi ⟨rfl, hI⟩ hnext
    obtain ⟨y, hy⟩ := get_of hi
    dsimp only
    refine cndT (decide_eq_true (by omega)) ⟨by omega, by omega, rd_in hA hy fun q o _ hc => ⟨y, by simpa using hc, cndI (fun h => ?_) (fun h => ⟨rfl, hnext _ ⟨rfl, fun z hz => ?_⟩⟩)⟩⟩
    · have : l.find? (fun x => x != 0) = some y := by
        obtain ⟨h1, h2⟩ := List.getElem?_eq_some_iff.1 hy
        rw [← List.take_append_drop i l, List.find?_append, List.find?_eq_none.2 (fun z hz => by rw [hI z hz]; decide), List.drop_eq_getElem_cons h1, h2, List.find?_cons, h]
        rfl
      unfold orL at hq
      rw [this] at hq; exact hq
    · rw [take_snoc hy] at hz
      rcases List.mem_append.1 hz with hz | hz
      · exact hI z hz
      · obtain rfl := List.mem_singleton.1 hz; exact h
  · rintro H next ⟨rfl, hI⟩
    rw [List.take_length] at hI
    have : l.find? (fun x => x != 0) = none := List.find?_eq_none.2 fun z hz => by rw [hI z hz]; decide
    unfold orL at hq
    rw [this] at hq
    dsimp only
    exact cndF (decide_eq_false (by omega)) hq
theorem c46 {x y : Arc} (hq : ∀ H', Ext H H' → Q (.int .i64 (ordA x y)) H') : HCalls Try.prog 46 [.agg #[.int .i64 x.a, .int .i64 x.b, .int .i64 x.kind, .int .i64 x.item], .agg #[.int .i64 y.a, .int .i64 y.b, .int .i64 y.kind, .int .i64 y.item]] H Q := by
  refine f46.ok _ _ _ _ _ _ _ _ ?_
  unfold f46
  refine c66 ⟨_, rfl, c66 ⟨_, rfl, c66 ⟨_, rfl, c66 ⟨_, rfl, fun g hg => ?_⟩⟩⟩⟩
  have hx : Ext H (upd g (Obj.cells [Value.int .i64 (cmpI x.a y.a), .int .i64 (cmpI x.b y.b), .int .i64 (cmpI x.kind y.kind), .int .i64 (cmpI x.item y.item)].toArray 3 (0, 0)) H) := Ext.new hg
  refine c65 (l := [cmpI x.a y.a, cmpI x.b y.b, cmpI x.kind y.kind, cmpI x.item y.item]) ⟨rfl, .inr ⟨g, 0, rfl, fun j u hj => ?_⟩, by show 4 < huge; decide⟩ ⟨_, rfl, ?_⟩
  · rw [cl_cells upd_at, Nat.zero_add]; exact hj
  · have : orL [cmpI x.a y.a, cmpI x.b y.b, cmpI x.kind y.kind, cmpI x.item y.item] = ordA x y := by
      unfold orL ordA orI
      generalize cmpI x.a y.a = p
      generalize cmpI x.b y.b = q
      generalize cmpI x.kind y.kind = r
      generalize cmpI x.item y.item = s
      simp only [List.find?_cons, List.find?_nil, bne]
      cases h1 : p == 0 with
      | false => rfl
      | true =>
        cases h2 : q == 0 with
        | false => rfl
        | true =>
          cases h3 : r == 0 with
          | false => rfl
          | true =>
            cases h4 : s == 0 with
            | false => rfl
            | true =>
              have : s = 0 := by simpa using h4
              subst this; rfl
    rw [this]; exact hq _ hx
theorem Row.push1 {α : Type} {f : α → List Value} {k ty eby : Nat} (hf : ∀ x, (f x).length = k) (ho : ∀ x, ∀ v ∈ f x, v.oneCell' = true) (he : eby ≤ 100) {S : Option Addr} {c g : Nat} {st : List α} {w : α} {K : Option Addr → Nat → Nat → Hp → Prop} (R : Row H0 H S st.length c k (st.flatMap f)) (hx : Ext H0 H) (hs : st.length < big) (hg : H g = none)
    (hk : ∀ A' c' H', Row H0 H' A' (st ++ [w]).length c' k ((st ++ [w]).flatMap f) → Ext H0 H' → (∀ b, H' b ≠ H b → rowB S b ∨ H b = none) → (∀ b, rowB A' b → rowB S b ∨ H b = none) → K A' (st ++ [w]).length c' H') :
    appendF (upd g (.cells (f w).toArray ty (0, 0)) H) ty k eby S st.length c (some ⟨g, 0, none⟩) 1 K := by
  unfold big at hs
  have hx1 : Ext H (upd g (.cells (f w).toArray ty (0, 0)) H) := Ext.new hg
  have R1 := Row.keep R (fun b hb => ext_at hx1 (R.lt hb).1)
  have hroom : (st.length + 1) * eby ≤ 1000000000001 * 100 := Nat.mul_le_mul (by omega) he
  refine R1.append (hx.trans hx1) (new := f w) (.inr ⟨g, 0, rfl, fun j v hj => by rw [cl_cells upd_at, Nat.zero_add]; exact hj⟩) (by rw [hf]; omega) (ho w) (by omega) (by omega) fun A' c' H' R' x' ch nw _ => ?_
  have old : ∀ b, (upd g (.cells (f w).toArray ty (0, 0)) H) b = none → H b = none := fun b h => hx1.none h
  have := hk A' c' H' (by rw [List.length_append, List.flatMap_append]; simpa using R') x' (fun b hb => ?_) (fun b hb => (nw b hb).imp id (old b))
  · rw [List.length_append] at this; exact this
  · by_cases e : b = g
    · subst e; exact .inr hg
    · have : H' b ≠ (upd g (.cells (f w).toArray ty (0, 0)) H) b := by rw [upd_off e]; exact hb
      exact (ch b this).2.imp id (old b)

def arc1 (l : List Ev) (x y kind item : Int) : List Arc := if (x != y) && (comB l x && comB l y) then [⟨x, y, kind, item⟩] else []
/-- The arcs that are gathered, behind a variable. -/
structure OutA (H0 H : Hp) (g3 : Nat) (out : List Arc) : Prop where
  ext : Ext H0 H
  none0 : H0 g3 = none
  cell : ∃ A c, H g3 = some (.cells #[.slice A out.length c] 44 (0, 0)) ∧ Row H0 H A out.length c 4 (out.flatMap arC) ∧ ¬ rowB A g3
theorem OutA.grow {g3 : Nat} {out : List Arc} (O : OutA H0 H g3 out) (hx : Ext H H') : OutA H0 H' g3 out := by
  obtain ⟨A, c, h1, h2, h3⟩ := O.cell
  exact ⟨O.ext.trans hx, O.none0, A, c, hx _ _ h1, h2.keep fun q hq => ext_at hx (h2.lt hq).1, h3⟩
/-- What was there before the variable stays. -/
theorem c43 {g1 g3 : Nat} {out : List Arc} {x y kind item : Int} (O : OutA H0 H g3 out) (B : BookAt H0 g c b v w sl A n cp l) (hg1 : H0 g1 = some (.cells #[.pointer (some ⟨g, 0, none⟩)] 56 (0, 0))) (hs : out.length < 1000000000)
    (hq : ∀ H', OutA H0 H' g3 (out ++ arc1 l x y kind item) → (∀ q, H q ≠ none → (∀ cs ty z, H q ≠ some (.cells cs ty z)) → H' q = H q) → Q (.tuple #[]) H') :
    HCalls Try.prog 43 [.int .i64 x, .int .i64 y, .int .i64 kind, .int .i64 item, .pointer (some ⟨g1, 0, none⟩), .pointer (some ⟨g3, 0, none⟩)] H Q := by
  refine f43.ok _ _ _ _ _ _ _ _ ?_
  unfold f43
  have B' := B.ext O.ext
  have h1 : cl H g1 0 = some (.pointer (some ⟨g, 0, none⟩)) := cl_cells (cs := [.pointer (some ⟨g, 0, none⟩)]) (O.ext _ _ hg1) 0
  refine jn_intro (fun J => ∀ b, b = ((x != y) && (comB l x && comB l y)) → J b H) (fun b hb => cndI (fun hbt => ?_) fun hbf => ?_) fun J hJ => cndI (fun e1 => ⟨_, h1, c42 B' ⟨_, rfl, cndI (fun e2 => ⟨_, h1, c42 B' ⟨_, rfl, hJ _ ?_⟩⟩) fun e2 => hJ _ ?_⟩⟩) fun e1 => hJ _ ?_
  · obtain ⟨A', c', hc, R, hn⟩ := O.cell
    refine ⟨A', out.length, c', cl_cells (cs := [.slice A' out.length c']) hc 0, fun g13 hg13 => ?_⟩
    have ho : out ++ arc1 l x y kind item = out ++ [⟨x, y, kind, item⟩] := by unfold arc1; rw [← hb, hbt]; rfl
    rw [ho] at hq
    refine Row.push1 (w := (⟨x, y, kind, item⟩ : Arc)) (f := arC) arC_len arC_one (by omega) R O.ext (by unfold big; omega) hg13 fun A2 c2 H2 R2 x2 fr2 nb2 => ?_
    have hg3 : H2 g3 = H g3 := by
      apply Classical.byContradiction
      intro hne
      rcases fr2 g3 hne with h | h
      · exact hn h
      · rw [hc] at h; cases h
    have hn2 : ¬ rowB A2 g3 := fun h => by
      rcases nb2 g3 h with h | h
      · exact hn h
      · rw [hc] at h; cases h
    refine ⟨[.slice A' out.length c'], 44, hg3.trans hc, by simp, ?_⟩
    refine hq _ ⟨x2.upd O.none0, O.none0, A2, c2, by rw [upd_at]; rfl, R2.keep fun q hq' => upd_off fun e => hn2 (e ▸ hq'), hn2⟩ (fun q hq' hcs => ?_)
    · have e : q ≠ g3 := fun e => by subst e; exact hcs _ _ _ hc
      rw [upd_off e]
      apply Classical.byContradiction
      intro hne
      rcases fr2 q hne with h | h
      · obtain ⟨_, _, hh | ⟨b0, cs, ty, rfl, hb0, _⟩⟩ := R
        · obtain ⟨o, z, h'⟩ := h; rw [hh.1] at h'; cases h'
        · obtain ⟨o, z, h'⟩ := h; cases h'; exact hcs _ _ _ hb0
      · exact hq' h
  · have ho : out ++ arc1 l x y kind item = out := by unfold arc1; rw [← hb, hbf]; simp
    rw [ho] at hq
    exact hq H O fun q _ _ => rfl
  · rw [show (x != y) = true from e1, e2]; rfl
  · rw [show (x != y) = true from e1, e2]; rfl
  · rw [show (x != y) = false from e1]; rfl
end
end Go.Proofs.Ytibhpoikhkokiaa.Hw

/- Histories: slices.Compact of arcs. -/
set_option linter.unusedVariables false
set_option linter.unusedSimpArgs false
set_option maxRecDepth 20000
namespace Go.Proofs.Ytibhpoikhkokiaa.Hw
open Go Go.Proofs
section
variable {H : Hp}
theorem cells_cut {α : Type} {f : α → List Value} {k : Nat} (hf : ∀ x, (f x).length = k) {A : Option Addr} {l : List α} {p m : Nat} {stay : Bool} (hA : cellsAt H A (l.flatMap f)) (hs : stay = true → m = 0) (hm : p + m ≤ l.length) :
    cellsAt H (cutA A (p * k) stay) (((l.drop p).take m).flatMap f) := by
  by_cases h0 : ((l.drop p).take m).flatMap f = []
  · exact .inl h0
  have hm0 : m ≠ 0 := fun e => h0 (by rw [e]; rfl)
  have hst : stay = false := by cases stay with | false => rfl | true => exact absurd (hs rfl) hm0
  subst hst
  rcases hA with hA | ⟨b, o, rfl, hc⟩
  · exfalso
    apply h0
    rw [List.flatMap_eq_nil_iff] at hA ⊢
    exact fun x hx => hA x (List.mem_of_mem_drop (List.mem_of_mem_take hx))
  · refine .inr ⟨b, o + p * k, ?_, fun j v hj => ?_⟩
    · unfold cutA
      simp only [Option.map_some, Option.some.injEq]
      unfold Addr.add
      by_cases h : p * k = 0
      · rw [h]; rfl
      · simp [h]
    · have hk : 0 < k := by
        refine Nat.pos_of_ne_zero fun e => h0 ?_
        rw [List.flatMap_eq_nil_iff]
        exact fun x _ => List.eq_nil_of_length_eq_zero (by rw [hf, e])
      have hlen : ∀ x ∈ (l.drop p).take m, (f x).length = k := fun x _ => hf x
      have hjl : j < m * k := by
        have := (List.getElem?_eq_some_iff.1 hj).1
        rw [flat_length hlen, List.length_take, List.length_drop, Nat.min_eq_left (by omega)] at this
        exact this
      have hi : j / k < m := Nat.div_lt_of_lt_mul (by rw [Nat.mul_comm]; exact hjl)
      have hq : j % k < k := Nat.mod_lt _ hk
      have hd : j = j / k * k + j % k := by have := Nat.div_add_mod j k; rw [Nat.mul_comm] at this; exact this.symm
      obtain ⟨x, hx⟩ := get_of (l := l) (i := p + j / k) (by omega)
      have hx' : ((l.drop p).take m)[j / k]? = some x := by rw [List.getElem?_take_of_lt hi, List.getElem?_drop]; exact hx
      rw [hd, flat_get hlen hx' hq] at hj
      have h1 := hc ((p + j / k) * k + j % k) v ((flat_get (fun x _ => hf x) hx hq).trans hj)
      rw [Nat.add_mul] at h1
      rw [hd]
      rw [show o + p * k + (j / k * k + j % k) = o + (p * k + j / k * k + j % k) by omega]
      exact h1
theorem SlAt.cut {α : Type} {f : α → List Value} {k : Nat} (hf : ∀ x, (f x).length = k) {A : Option Addr} {n c : Nat} {l : List α} {p m : Nat} (hA : SlAt f H A n l) (hc : n ≤ c) (hm : p + m ≤ l.length) : SlAt f H (cutA A (p * k) (decide (c = p))) m ((l.drop p).take m) :=
  ⟨by rw [List.length_take, List.length_drop]; omega, cells_cut hf hA.cells (fun h => by have := of_decide_eq_true h; have := hA.len; omega) hm, by have := hA.small; rw [List.length_take, List.length_drop]; omega⟩
end
/-- Without those that equal the one before them. -/
def ddT (l : List Arc) : Nat → List Arc
  | 0 => []
  | j + 1 => match l[j]? with
    | none => ddT l j
    | some x => if decide (0 < j) && decide (l[j - 1]? = some x) then ddT l j else ddT l j ++ [x]
theorem ddT_len {l : List Arc} : ∀ {j : Nat}, (ddT l j).length ≤ j
  | 0 => Nat.le_refl _
  | j + 1 => by
    have := ddT_len (l := l) (j := j)
    unfold ddT
    split
    · omega
    · split
      · omega
      · rw [List.length_append, List.length_singleton]; omega
theorem ddT_mem {l : List Arc} {x : Arc} : ∀ {j : Nat}, x ∈ ddT l j ↔ x ∈ l.take j
  | 0 => by simp [ddT]
  | j + 1 => by
    have ih := ddT_mem (l := l) (x := x) (j := j)
    unfold ddT
    split
    · rename_i h
      rw [List.getElem?_eq_none_iff] at h
      rw [ih, List.take_of_length_le h, List.take_of_length_le (by omega)]
    · rename_i y hy
      rw [take_snoc hy, List.mem_append, List.mem_singleton]
      split
      · rename_i h
        simp only [Bool.and_eq_true, decide_eq_true_eq] at h
        rw [ih]
        refine ⟨.inl, fun h' => h'.elim id fun e => ?_⟩
        subst e
        exact List.mem_of_getElem? (i := j - 1) (by rw [List.getElem?_take_of_lt (by omega)]; exact h.2)
      · rw [List.mem_append, List.mem_singleton, ih]
theorem ddT_sorted {l : List Arc} (h : l.Pairwise fun x y => ¬ ltA y x) : ∀ {j : Nat}, (ddT l j).Pairwise ltA
  | 0 => List.Pairwise.nil
  | j + 1 => by
    have ih := ddT_sorted h (j := j)
    unfold ddT
    split
    · exact ih
    · rename_i y hy
      split
      · exact ih
      · rename_i hne
        rw [List.pairwise_append]
        refine ⟨ih, List.pairwise_singleton _ _, fun a ha b hb => ?_⟩
        obtain rfl := List.mem_singleton.1 hb
        have ha := ddT_mem.1 ha
        rw [List.pairwise_iff_getElem] at h
        obtain ⟨i, hi⟩ := List.getElem?_of_mem ha
        rw [List.getElem?_take] at hi
        split at hi
        · rename_i hij
          obtain ⟨hj, ej⟩ := List.getElem?_eq_some_iff.1 hy
          obtain ⟨hi', ei⟩ := List.getElem?_eq_some_iff.1 hi
          have h1 := h i j hi' hj hij
          rw [ei, ej] at h1
          apply Classical.byContradiction
          intro hnl
          have e := ltA_total hnl h1
          subst e
          apply hne
          have hj1 : l[j - 1]? = some a := by
            have hjl : j - 1 < l.length := by omega
            rw [List.getElem?_eq_getElem hjl]
            congr 1
            by_cases e : i = j - 1
            · subst e; exact ei
            · have a1 := h i (j - 1) hi' hjl (by omega)
              have a2 := h (j - 1) j hjl hj (by omega)
              rw [ei] at a1
              rw [ej] at a2
              exact ltA_total a1 a2
          rw [decide_eq_true (by omega : 0 < j), decide_eq_true hj1]; rfl
        · cases hi
theorem ext_ltA : ∀ {a b : List Arc}, a.Pairwise ltA → b.Pairwise ltA → (∀ x, x ∈ a ↔ x ∈ b) → a = b
  | [], [], _, _, _ => rfl
  | [], y :: b, _, _, h => by have := (h y).2 List.mem_cons_self; cases this
  | x :: a, [], _, _, h => by have := (h x).1 List.mem_cons_self; cases this
  | x :: a, y :: b, ha, hb, h => by
    have hx := (List.pairwise_cons.1 ha).1
    have hy := (List.pairwise_cons.1 hb).1
    have e : x = y := by
      rcases List.mem_cons.1 ((h x).1 List.mem_cons_self) with h1 | h1
      · exact h1
      · rcases List.mem_cons.1 ((h y).2 List.mem_cons_self) with h2 | h2
        · exact h2.symm
        · exact absurd (ltA_trans (hy x h1) (hx y h2)) ltA_irrefl
    subst e
    congr 1
    refine ext_ltA (List.Pairwise.of_cons ha) (List.Pairwise.of_cons hb) fun z => ⟨fun hz => ?_, fun hz => ?_⟩
    · rcases List.mem_cons.1 ((h z).1 (List.mem_cons_of_mem _ hz)) with e | hz'
      · subst e; exact absurd (hx z hz) ltA_irrefl
      · exact hz'
    · rcases List.mem_cons.1 ((h z).2 (List.mem_cons_of_mem _ hz)) with e | hz'
      · subst e; exact absurd (hy z hz) ltA_irrefl
      · exact hz'
theorem setR_low {cs vs : List Value} {o p : Nat} (h : p ≤ o) (ho : o ≤ cs.length) : (setR cs o vs).take p = cs.take p := by
  unfold setR
  rw [List.append_assoc, List.take_append_of_le_length (by rw [List.length_take]; omega), List.take_take, Nat.min_eq_left h]
theorem flat_setR {f : Arc → List Value} (hf : ∀ x, (f x).length = 4) {m : List Arc} {i : Nat} (hi : i < m.length) {x : Arc} {cs : List Value} (hc : cs.take (m.length * 4) = m.flatMap f) (hl : m.length * 4 ≤ cs.length) : (setR cs (i * 4) (f x)).take (m.length * 4) = (m.set i x).flatMap f := by
  have hfl : ∀ (q : List Arc), (q.flatMap f).length = q.length * 4 := fun q => flat_length fun y _ => hf y
  apply List.ext_getElem?
  intro j
  have hset : ((m.set i x).flatMap f).length = m.length * 4 := by rw [hfl, List.length_set]
  by_cases hj : j < m.length * 4
  · have hd : j = j / 4 * 4 + j % 4 := by omega
    have hq : j % 4 < 4 := by omega
    have hi' : j / 4 < m.length := by omega
    rw [List.getElem?_take_of_lt hj]
    unfold setR
    obtain ⟨y, hy⟩ := get_of hi'
    have hcj : cs[j]? = (f y)[j % 4]? := by
      have := flat_get (f := f) (k := 4) (l := m) (i := j / 4) (j := j % 4) (fun x _ => hf x) hy hq
      rw [← hc, ← hd, List.getElem?_take_of_lt hj] at this
      exact this
    by_cases e : j / 4 = i
    · have hx : (m.set i x)[j / 4]? = some x := by rw [e, List.getElem?_set_self hi]
      have h2 := flat_get (f := f) (k := 4) (j := j % 4) (fun x _ => hf x) hx hq
      rw [← hd] at h2
      rw [h2, List.append_assoc, List.getElem?_append_right (by rw [List.length_take]; omega), List.length_take, Nat.min_eq_left (by omega), List.getElem?_append_left (by rw [hf]; omega)]
      congr 1
      omega
    · have hx : (m.set i x)[j / 4]? = some y := by rw [List.getElem?_set_ne (fun h => e h.symm)]; exact hy
      have h2 := flat_get (f := f) (k := 4) (j := j % 4) (fun x _ => hf x) hx hq
      rw [← hd] at h2
      rw [h2, ← hcj]
      by_cases hlt : j < i * 4
      · rw [List.append_assoc, List.getElem?_append_left (by rw [List.length_take]; omega), List.getElem?_take_of_lt hlt]
      · rw [List.getElem?_append_right (by rw [List.length_append, List.length_take, hf]; omega), List.length_append, List.length_take, hf, List.getElem?_drop]
        congr 1
        rw [Nat.min_eq_left (by omega)]; omega
  · rw [List.getElem?_eq_none (by rw [List.length_take]; omega), List.getElem?_eq_none (by rw [hset]; omega)]
section
variable {H0 H H' : Hp} {Q : Value → Hp → Prop}
theorem arc_eqB {x y : Arc} : (((x.a : Int) == y.a) && (((x.b : Int) == y.b) && (((x.kind : Int) == y.kind) && (((x.item : Int) == y.item) && true)))) = decide (x = y) := by
  obtain ⟨a, b, c, d⟩ := x
  obtain ⟨a', b', c', d'⟩ := y
  simp only [Arc.mk.injEq, Bool.and_true]
  by_cases h1 : a = a' <;> by_cases h2 : b = b' <;> by_cases h3 : c = c' <;> by_cases h4 : d = d' <;> simp [h1, h2, h3, h4]
theorem c47 {A : Option Addr} {c : Nat} {l : List Arc} (R : Row H0 H A l.length c 4 (l.flatMap arC)) (hx : Ext H0 H) (hs : l.length < huge) (hq : ∀ A' c' H', Row H0 H' A' (ddT l l.length).length c' 4 ((ddT l l.length).flatMap arC) → Ext H0 H' → Q (.slice A' (ddT l l.length).length c') H') :
    HCalls Try.prog 47 [.slice A l.length c] H Q := by
  refine f47.ok _ _ _ ?_
  unfold f47
  have hsl : SlAt arC H A l.length l := ⟨rfl, R.cells, hs⟩
  have hlt := hsl.lt
  have whole : ddT l l.length = l.take l.length → Q (.slice A l.length c) H := fun h => by
    rw [List.take_length] at h
    rw [h] at hq
    exact hq A c H R hx
  refine cndI (fun h => whole ?_) fun h => ?_
  · have h := of_decide_eq_true h
    match l, h with
    | [], _ => rfl
    | [x], _ => rfl
    | x :: y :: r, h => simp only [List.length_cons] at h; omega
  have h2 : 2 ≤ l.length := by have := of_decide_eq_false h; omega
  refine loop_to l.length (fun i s H' => s = ((((i + 1 : Nat) : Int), ()), ()) ∧ i + 1 ≤ l.length ∧ H' = H ∧ ddT l (i + 1) = l.take (i + 1)) ⟨rfl, by omega, rfl, ?_⟩ ?_
  · obtain ⟨x, hx0⟩ := get_of (l := l) (i := 0) (by omega)
    rw [take_snoc hx0]
    show ddT l (0 + 1) = _
    unfold ddT
    rw [hx0]
    rfl
  rintro i s H2 next hi ⟨rfl, hil, rfl, hdd⟩ hnext
  dsimp only
  by_cases hlt1 : i + 1 < l.length
  · obtain ⟨x, hxi⟩ := get_of hlt1
    obtain ⟨y, hyi⟩ := get_of (l := l) (i := i) (by omega)
    have em : IntKind.i64.wrap (((i + 1 : Nat) : Int) - 1) = (i : Int) := by rw [wrap_id (by omega) (by omega)]; omega
    have ei : IntKind.i64.wrap (((i + 1 : Nat) : Int) + 1) = ((i + 1 + 1 : Nat) : Int) := by rw [wrap_id (by omega) (by omega)]; rfl
    rw [em]
    refine cndT (decide_eq_true (by omega)) ⟨by omega, by omega, rd_ar hsl hxi fun q o _ k1 k2 k3 k4 => ⟨x.a, by simpa using k1, x.b, by simpa using k2, x.kind, by simpa using k3, x.item, by simpa using k4, by omega, by omega, rd_ar hsl hyi fun q' o' _ j1 j2 j3 j4 => ⟨y.a, by simpa using j1, y.b, by simpa using j2, y.kind, by simpa using j3, y.item, by simpa using j4, ?_⟩⟩⟩
    rw [arc_eqB]
    have hstep : ddT l (i + 1 + 1) = if decide (x = y) then ddT l (i + 1) else ddT l (i + 1) ++ [x] := by
      rw [ddT, hxi]
      show (if decide (0 < i + 1) && decide (l[i + 1 - 1]? = some x) then _ else _) = _
      rw [Nat.add_sub_cancel, hyi, decide_eq_true (by omega : 0 < i + 1), Bool.true_and]
      have : decide (some y = some x) = decide (x = y) := decide_eq_decide.2 ⟨fun h => (Option.some.inj h).symm, fun h => by rw [h]⟩
      rw [this]
    refine cndI (fun e => ⟨by omega, by omega, ?_⟩) fun e => ⟨rfl, hnext _ _ (by omega) ⟨by rw [ei], by omega, rfl, by rw [hstep, e, hdd, take_snoc hxi]; rfl⟩⟩
    rw [e, if_pos rfl] at hstep
    obtain ⟨_, hnc, hbad | ⟨b, cs, ty, rfl, hb, hcl, ht, hb0⟩⟩ := R
    · omega
    have etn : (((i + 1 : Nat) : Int)).toNat = i + 1 := by omega
    rw [etn]
    have hcd : decide (c = i + 1) = false := decide_eq_false (by omega)
    -- the second loop: k numbers kept, j looked at
    refine loop_to l.length (fun t s H' => ∃ (k : Nat) (m : List Arc) (cs' : List Value), s = (((k : Int), (((t + 1 : Nat) : Int), ())), ()) ∧ i + 1 + (t + 1) ≤ l.length ∧ k = (ddT l (i + 1 + (t + 1))).length ∧ k < i + 1 + (t + 1) ∧ m.length = l.length ∧ m.take k = ddT l (i + 1 + (t + 1)) ∧ (∀ p, k ≤ p → m[p]? = l[p]?) ∧ H' b = some (.cells cs'.toArray ty (0, 0)) ∧ cs'.length = cs.length ∧ cs'.take (l.length * 4) = m.flatMap arC ∧ ∀ q, q ≠ b → H' q = H2 q)
      ⟨i + 1, l, cs, by simp, by omega, by rw [hstep, hdd, List.length_take]; omega, by omega, rfl, by rw [hstep, hdd], fun p _ => rfl, hb, rfl, ht, fun q _ => rfl⟩ ?_
    rintro t s H3 next2 hti ⟨k, m, cs', rfl, htl, hk, hklt, hml, hmt, hmr, hb3, hcl3, ht3, ho3⟩ hnext2
    dsimp only
    have hsl3 : SlAt arC H3 (some ⟨b, 0, none⟩) l.length m := ⟨hml.symm, .inr ⟨b, 0, rfl, fun j v hj => by
      rw [cl_cells hb3, Nat.zero_add]
      rw [← ht3, List.getElem?_take] at hj
      split at hj
      · exact hj
      · cases hj⟩, by rw [hml]; exact hs⟩
    have hcut := SlAt.cut (k := 4) (p := i + 1) (m := l.length - (i + 1)) arC_len hsl3 hnc (by omega)
    have hlen2 : ((m.drop (i + 1)).take (l.length - (i + 1))).length = l.length - (i + 1) := by rw [List.length_take, List.length_drop]; omega
    have get2 : ∀ p, p < l.length - (i + 1) → ((m.drop (i + 1)).take (l.length - (i + 1)))[p]? = m[i + 1 + p]? := fun p hp => by rw [List.getElem?_take_of_lt hp, List.getElem?_drop]
    by_cases hlt2 : t + 1 < l.length - (i + 1)
    · obtain ⟨z, hz⟩ := get_of (l := l) (i := i + 1 + (t + 1)) (by omega)
      obtain ⟨z0, hz0⟩ := get_of (l := l) (i := i + 1 + t) (by omega)
      have em2 : IntKind.i64.wrap (((t + 1 : Nat) : Int) - 1) = (t : Int) := by rw [wrap_id (by omega) (by omega)]; omega
      have ei2 : IntKind.i64.wrap (((t + 1 : Nat) : Int) + 1) = ((t + 1 + 1 : Nat) : Int) := by rw [wrap_id (by omega) (by omega)]; rfl
      have ek2 : IntKind.i64.wrap ((k : Int) + 1) = ((k + 1 : Nat) : Int) := by rw [wrap_id (by omega) (by omega)]; rfl
      have hz' := (get2 (t + 1) hlt2).trans ((hmr _ (by omega)).trans hz)
      have hz0' := (get2 t (by omega)).trans ((hmr _ (by omega)).trans hz0)
      have hst2 : ddT l (i + 1 + (t + 1) + 1) = if decide (z = z0) then ddT l (i + 1 + (t + 1)) else ddT l (i + 1 + (t + 1)) ++ [z] := by
        rw [ddT, hz]
        show (if decide (0 < i + 1 + (t + 1)) && decide (l[i + 1 + (t + 1) - 1]? = some z) then _ else _) = _
        rw [show i + 1 + (t + 1) - 1 = i + 1 + t by omega, hz0, decide_eq_true (by omega : 0 < i + 1 + (t + 1)), Bool.true_and]
        have : decide (some z0 = some z) = decide (z = z0) := decide_eq_decide.2 ⟨fun h => (Option.some.inj h).symm, fun h => by rw [h]⟩
        rw [this]
      rw [em2]
      refine cndT (decide_eq_true (by omega)) (jn_intro (fun J => ∀ (k' : Nat) (m' : List Arc) (cs2 : List Value) H', k' = (ddT l (i + 1 + (t + 1) + 1)).length → k' < i + 1 + (t + 1) + 1 → m'.length = l.length → m'.take k' = ddT l (i + 1 + (t + 1) + 1) → (∀ p, k' ≤ p → m'[p]? = l[p]?) → H' b = some (.cells cs2.toArray ty (0, 0)) → cs2.length = cs.length → cs2.take (l.length * 4) = m'.flatMap arC → (∀ q, q ≠ b → H' q = H2 q) → J (k' : Int) H')
        (fun k' m' cs2 H' a1 a2 a3 a4 a5 a6 a7 a8 a9 => ⟨rfl, hnext2 _ _ (by omega) ⟨k', m', cs2, by rw [ei2], by omega, a1, a2, a3, a4, a5, a6, a7, a8, a9⟩⟩) fun J hJ => ⟨by omega, by omega, rd_ar hcut hz' fun q o _ k1 k2 k3 k4 => ⟨z.a, by simpa using k1, z.b, by simpa using k2, z.kind, by simpa using k3, z.item, by simpa using k4, by omega, by omega, rd_ar hcut hz0' fun q' o' _ j1 j2 j3 j4 => ⟨z0.a, by simpa using j1, z0.b, by simpa using j2, z0.kind, by simpa using j3, z0.item, by simpa using j4, ?_⟩⟩⟩)
      rw [arc_eqB]
      refine cndI (fun e2 => ⟨by omega, by omega, rd_ar hcut hz' fun q o _ k1 k2 k3 k4 => ⟨z.a, by simpa using k1, z.b, by simpa using k2, z.kind, by simpa using k3, z.item, by simpa using k4, by omega, by omega, ?_⟩⟩) fun e2 => ?_
      · have e2 : decide (z = z0) = false := by simpa using e2
        rw [e2, if_neg (by decide)] at hst2
        have hkl : k < m.length := by omega
        refine ⟨cs', ty, hb3, ?_, ?_⟩
        · rw [show ((k : Int)).toNat = k from by omega]
          simp only [List.length_cons, List.length_nil]; omega
        · rw [ek2]
          refine hJ (k + 1) (m.set k z) (setR cs' (k * 4) (arC z)) _ (by rw [hst2, List.length_append, ← hk]; rfl) (by omega) (by rw [List.length_set]; exact hml) ?_ (fun p hp => ?_) ?_ ?_ ?_ (fun q hq' => by rw [upd_off hq']; exact ho3 q hq')
          · rw [hst2, ← hmt, List.take_add_one, List.getElem?_set_self hkl, List.take_set_of_le (Nat.le_refl k)]; rfl
          · rw [List.getElem?_set_ne (by omega)]; exact hmr p (by omega)
          · rw [upd_at]
            simp only [Nat.zero_add, Int.toNat_natCast]; rfl
          · rw [setR_length (by show k * 4 + 4 ≤ _; omega)]; exact hcl3
          · rw [← hml]; exact flat_setR arC_len hkl (by rw [hml]; exact ht3) (by rw [hml]; omega)
      · have e2 : decide (z = z0) = true := by simpa using e2
        rw [e2, if_pos rfl] at hst2
        exact hJ k m cs' H3 (by rw [hst2]; exact hk) (by omega) hml (by rw [hst2]; exact hmt) hmr hb3 hcl3 ht3 ho3
    · have et : i + 1 + (t + 1) = l.length := by omega
      rw [et] at hk hklt hmt
      have hkt : (((k : Nat) : Int)).toNat = k := by omega
      refine cndF (decide_eq_false (by omega)) (jn_intro (fun J => ∀ (cs2 : List Value) (H' : Hp), H' b = some (.cells cs2.toArray ty (0, 0)) → cs2.length = cs.length → cs2.take (k * 4) = (ddT l l.length).flatMap arC → (∀ q, q ≠ b → H' q = H2 q) → J H') (fun cs2 H' a1 a2 a3 a4 => ⟨by omega, by omega, ?_⟩) fun J hJ => ⟨by omega, by omega, fun h0 => ?_, fun h0 => ?_⟩)
      · rw [hkt, Nat.sub_zero, Nat.sub_zero, decide_eq_false (by omega), hk]
        have e0 : cutA (some (⟨b, 0, none⟩ : Addr)) (0 * 4) false = some ⟨b, 0, none⟩ := rfl
        rw [e0]
        refine hq _ c H' ⟨flat_length fun y _ => arC_len y, by omega, .inr ⟨b, cs2, ty, rfl, a1, by rw [a2]; exact hcl, by rw [← hk]; exact a3, hb0⟩⟩ fun q o hq' => ?_
        rw [a4 q fun e => by subst e; rw [hb0] at hq'; cases hq']
        exact hx q o hq'
      · rw [hkt] at h0; omega
      · rw [hkt, decide_eq_false (by omega : ¬ c = k)]
        have e0 : cutA (some (⟨b, 0, none⟩ : Addr)) (k * 4) false = some ⟨b, k * 4, none⟩ := by
          unfold cutA
          simp only [Option.map_some, Option.some.injEq]
          unfold Addr.add
          by_cases h : k * 4 = 0
          · rw [h]; rfl
          · simp [h]
        rw [e0]
        have hzl : ((List.replicate (l.length - k) [Value.int .i64 0, .int .i64 0, .int .i64 0, .int .i64 0]).flatten).length = (l.length - k) * 4 := by
          rw [List.length_flatten, List.map_replicate, List.sum_replicate_nat]; rfl
        refine ⟨cs', ty, hb3, by rw [hzl]; omega, hJ _ _ upd_at ?_ ?_ fun q hq' => by rw [upd_off hq']; exact ho3 q hq'⟩
        · rw [setR_length (by rw [hzl]; omega)]; exact hcl3
        · rw [setR_low (Nat.le_refl _) (by omega), ← hmt]
          have : cs'.take (k * 4) = (cs'.take (l.length * 4)).take (k * 4) := by rw [List.take_take, Nat.min_eq_left (by omega)]
          rw [this, ht3]
          have : m.flatMap arC = (m.take k).flatMap arC ++ (m.drop k).flatMap arC := by rw [← List.flatMap_append, List.take_append_drop]
          rw [this, List.take_append_of_le_length (by rw [flat_length (fun y _ => arC_len y), List.length_take]; omega), List.take_of_length_le (by rw [flat_length (fun y _ => arC_len y), List.length_take]; omega)]
  · have e : i + 1 = l.length := by omega
    rw [e] at hdd
    exact cndF (decide_eq_false (by omega)) (whole hdd)
end
end Go.Proofs.Ytibhpoikhkokiaa.Hw

/- slices.Sort at []int: the contracts of the kit's shelf, laid at this program (by the kit's own tool). -/
namespace Go.Proofs
open Go.Shelf
def Try.lays189_ren : Go.Shelf.Ren := ⟨fun | 189 => 49 | 125 => 64 | 257 => 68 | 128 => 79 | 129 => 80 | 294 => 82 | 295 => 83 | 296 => 84 | 297 => 85 | 298 => 86 | 299 => 87 | 216 => 88 | 300 => 89 | 301 => 90 | 328 => 98 | 329 => 94 | 330 => 95 | 331 => 99 | 332 => 100 | 215 => 81 | 343 => 103 | n => n, fun | 28 => 25 | 3 => 3 | 46 => 110 | 0 => 0 | 51 => 124 | 53 => 126 | 4 => 4 | 183 => 118 | 182 => 117 | 131 => 103 | 5 => 5 | 9 => 9 | 218 => 132 | 222 => 136 | 228 => 140 | 229 => 141 | n => n, fun | n => n⟩
theorem Try.lays189 : Go.Proofs.Lays.n189 Try.prog Try.lays189_ren := {
  mixed := by kernel_rfl
  f125 := Try.func64.trans (congrArg some (by kernel_rfl))
  f128 := Try.func79.trans (congrArg some (by kernel_rfl))
  f129 := Try.func80.trans (congrArg some (by kernel_rfl))
  f189 := Try.func49.trans (congrArg some (by kernel_rfl))
  f215 := Try.func81.trans (congrArg some (by kernel_rfl))
  f216 := Try.func88.trans (congrArg some (by kernel_rfl))
  f257 := Try.func68.trans (congrArg some (by kernel_rfl))
  f294 := Try.func82.trans (congrArg some (by kernel_rfl))
  f295 := Try.func83.trans (congrArg some (by kernel_rfl))
  f296 := Try.func84.trans (congrArg some (by kernel_rfl))
  f297 := Try.func85.trans (congrArg some (by kernel_rfl))
  f298 := Try.func86.trans (congrArg some (by kernel_rfl))
  f299 := Try.func87.trans (congrArg some (by kernel_rfl))
  f300 := Try.func89.trans (congrArg some (by kernel_rfl))
  f301 := Try.func90.trans (congrArg some (by kernel_rfl))
  f328 := Try.func98.trans (congrArg some (by kernel_rfl))
  f329 := Try.func94.trans (congrArg some (by kernel_rfl))
  f330 := Try.func95.trans (congrArg some (by kernel_rfl))
  f331 := Try.func99.trans (congrArg some (by kernel_rfl))
  f332 := Try.func100.trans (congrArg some (by kernel_rfl))
  f343 := Try.func103.trans (congrArg some (by kernel_rfl))
  t0 := Try.underlying0
  a0 := Try.isAgg0
  z0 := Try.sizeOf0
  v0 := Try.zeroValue0
  t3 := Try.underlying3
  a3 := Try.isAgg3
  z3 := Try.sizeOf3
  v3 := Try.zeroValue3
  t4 := Try.underlying4
  a4 := Try.isAgg4
  z4 := Try.sizeOf4
  v4 := Try.zeroValue4
  t5 := Try.underlying5
  a5 := Try.isAgg5
  z5 := Try.sizeOf5
  v5 := Try.zeroValue5
  t9 := Try.underlying9
  a9 := Try.isAgg9
  z9 := Try.sizeOf9
  v9 := Try.zeroValue9
  t28 := Try.underlying25
  a28 := Try.isAgg25
  z28 := Try.sizeOf25
  v28 := Try.zeroValue25
  t46 := Try.underlying110
  a46 := Try.isAgg110
  z46 := Try.sizeOf110
  v46 := Try.zeroValue110
  t51 := Try.underlying124
  a51 := Try.isAgg124
  z51 := Try.sizeOf124
  v51 := Try.zeroValue124
  t53 := Try.underlying126
  a53 := Try.isAgg126
  z53 := Try.sizeOf126
  v53 := Try.zeroValue126
  t131 := Try.underlying103
  a131 := Try.isAgg103
  z131 := Try.sizeOf103
  v131 := Try.zeroValue103
  t182 := Try.underlying117
  a182 := Try.isAgg117
  z182 := Try.sizeOf117
  v182 := Try.zeroValue117
  t183 := Try.underlying118
  a183 := Try.isAgg118
  z183 := Try.sizeOf118
  v183 := Try.zeroValue118
  t218 := Try.underlying132
  a218 := Try.isAgg132
  z218 := Try.sizeOf132
  v218 := Try.zeroValue132
  t222 := Try.underlying136
  a222 := Try.isAgg136
  z222 := Try.sizeOf136
  v222 := Try.zeroValue136
  t228 := Try.underlying140
  a228 := Try.isAgg140
  z228 := Try.sizeOf140
  v228 := Try.zeroValue140
  t229 := Try.underlying141
  a229 := Try.isAgg141
  z229 := Try.sizeOf141
  v229 := Try.zeroValue141 }
open Go.Sort Go.RowKit in
theorem Try.slices_Sort_int (blk off cap : Nat) (zs : List Int) (w : World) (hH : Holds (Value.int .i64) w blk off zs.toArray) (hblk : blk < w.heap.size) (hsz : zs.length < 4611686018427387904) :
    Calls Try.prog 49 #[.slice (some ⟨blk, off, none⟩) zs.length cap] w fun e w' =>
      e = .returned (.tuple #[]) ∧ ∃ n os, w' = grow (putRow (Value.int .i64) (Sort.ahead w n) blk off (zs.mergeSort fun x y => decide (x ≤ y)).toArray) os := Any.slices_Sort_int Try.lays189 blk off cap zs w hH hblk hsz
open Go.RowKit Go.Sort in
/-- .. and plain. (LAID: no walk: one application.) -/
theorem Try.slices_Sort_int_none (p : Option Addr) (cap : Nat) (w : World) :
    Calls Try.prog 49 #[.slice p 0 cap] w fun e w' => e = .returned (.tuple #[]) ∧ w' = w := Any.slices_Sort_int_none Try.lays189 p cap w
end Go.Proofs

/- Histories: Sort of whole numbers, by the kit's contract. -/
set_option linter.unusedVariables false
set_option linter.unusedSimpArgs false
namespace Go.Proofs.Ytibhpoikhkokiaa.Hw
open Go Go.Proofs Go.Sort
theorem inC_len {l : List Int} : (l.flatMap inC).length = l.length * 1 := flat_length (fun _ _ => rfl)
/-- Numbers on a block of their own. -/
def RowI (H0 H : Hp) (A : Option Addr) (c : Nat) (l : List Int) : Prop := Row H0 H A l.length c 1 (l.flatMap inC)
theorem inC_get {l : List Int} {j : Nat} : (l.flatMap inC)[j]? = (l[j]?).map (fun x => Value.int .i64 x) := by
  induction l generalizing j with
  | nil => simp
  | cons a r ih =>
    rw [List.flatMap_cons]
    cases j with
    | zero => rfl
    | succ j => exact ih
theorem inC_map {l : List Int} : l.flatMap inC = l.map (fun x => Value.int .i64 x) := by
  apply List.ext_getElem?; intro j; rw [inC_get, List.getElem?_map]
section
variable {H0 H : Hp} {Q : Value → Hp → Prop} {w : World}
theorem put_cells {d : List Int} {cs : List Value} (h : d.length ≤ cs.length) : putCells (Value.int .i64) 0 d.toArray cs.toArray = (d.flatMap inC ++ cs.drop d.length).toArray := by
  apply Array.ext'
  unfold putCells
  rw [Array.toList_mapIdx]
  apply List.ext_getElem?
  intro j
  simp only [List.getElem?_mapIdx, Nat.zero_le, true_and, Nat.zero_add, List.size_toArray, Nat.sub_zero]
  by_cases hj : j < d.length
  · rw [List.getElem?_append_left (by rw [inC_len]; omega), inC_get, List.getElem?_eq_getElem (by omega : j < cs.length), List.getElem?_eq_getElem hj]
    simp [hj]
  · rw [List.getElem?_append_right (by rw [inC_len]; omega), inC_len, List.getElem?_drop, show d.length + (j - d.length * 1) = j by omega]
    cases hc : cs[j]? with
    | none => simp [hc]
    | some v => simp [hc, hj]
/-- What a call of the kit's contract does to a row. -/
theorem row_put {A : Option Addr} {b n c m : Nat} {cs : List Value} {ty : Nat} {d : List Int} {os : Array Obj} (hw : Has w H) (hb : H b = some (.cells cs.toArray ty (0, 0))) (h : d.length ≤ cs.length) :
    Has (grow (putRow (Value.int .i64) (Sort.ahead w m) b 0 d.toArray) os) (upd b (.cells (d.flatMap inC ++ cs.drop d.length).toArray ty (0, 0)) H) ∧ Fr H w (grow (putRow (Value.int .i64) (Sort.ahead w m) b 0 d.toArray) os) ∧ New H w (upd b (.cells (d.flatMap inC ++ cs.drop d.length).toArray ty (0, 0)) H) := by
  have hwb := hw b _ hb
  have hlt : b < w.heap.size := (Array.getElem?_eq_some_iff.1 hwb).1
  have hat : ∀ x, x < w.heap.size → (grow (putRow (Value.int .i64) (Sort.ahead w m) b 0 d.toArray) os).heap[x]? = if x = b then some (.cells (d.flatMap inC ++ cs.drop d.length).toArray ty (0, 0)) else w.heap[x]? := fun x hx => by
    unfold grow putRow mapBlock Sort.ahead
    simp only
    rw [Array.getElem?_append_left (by simpa using hx), Array.getElem?_modify]
    by_cases e : b = x
    · subst e
      rw [if_pos rfl, if_pos rfl, hwb]
      simp only [Option.map_eq_map, Option.map_some, onCells]
      rw [put_cells h]
    · rw [if_neg e, if_neg (fun e' => e e'.symm)]
  refine ⟨fun x o hx => ?_, ⟨rfl, rfl, rfl, ?_, fun x hx hn => ?_⟩, fun x hx => ?_⟩
  · rcases upd_some hx with ⟨rfl, rfl⟩ | ⟨hne, hx⟩
    · rw [hat x hlt, if_pos rfl]
    · rw [hat x (Array.getElem?_eq_some_iff.1 (hw x o hx)).1, if_neg hne]; exact hw x o hx
  · unfold grow putRow mapBlock Sort.ahead; simp
  · rw [hat x hx, if_neg (fun e => by subst e; rw [hb] at hn; cases hn)]
  · by_cases e : x = b
    · subst e; left; rw [hb]; simp
    · rw [upd_other e] at hx; exact .inl hx
theorem row_holds {b c : Nat} {cs : List Value} {ty : Nat} {l : List Int} (hw : Has w H) (hb : H b = some (.cells cs.toArray ty (0, 0))) (ht : cs.take (l.length * 1) = l.flatMap inC) : Holds (Value.int .i64) w b 0 l.toArray := fun j hj => by
  have hj' : j < l.length := by simpa using hj
  have hwb := hw b _ hb
  refine ⟨?_, frz_of w hwb⟩
  rw [cl_of w hwb, Nat.zero_add]
  have h1 : (cs.take (l.length * 1))[j]? = cs[j]? := by rw [List.getElem?_take_of_lt (by omega)]
  rw [← h1, ht, inC_get, List.getElem?_eq_getElem hj']
  simp [hj']
def sortM (l : List Int) : List Int := l.mergeSort fun x y => decide (x ≤ y)
theorem c49 {A : Option Addr} {c : Nat} {l : List Int} (R : RowI H0 H A c l) (hx : Ext H0 H) (hs : l.length < big) (hq : ∀ H', RowI H0 H' A c (sortM l) → (sortM l).length = l.length → Ext H0 H' → (∀ b, H' b ≠ H b → rowB A b) → Q (.tuple #[]) H') : HCalls Try.prog 49 [.slice A l.length c] H Q := by
  intro w hw
  have hlen : (sortM l).length = l.length := List.length_mergeSort _
  by_cases h0 : l = []
  · subst h0
    refine Calls.mono (Any.slices_Sort_int_none Try.lays189 A c w) ?_
    rintro e w' ⟨rfl, rfl⟩
    exact ⟨_, H, rfl, hq H (by simpa [sortM] using R) hlen hx (fun b hb => absurd rfl hb), hw, ⟨rfl, rfl, rfl, Nat.le_refl _, fun _ _ _ => rfl⟩, fun b hb => .inl hb⟩
  obtain ⟨h1, h2, h3 | ⟨b, cs, ty, rfl, hb, hcl, ht, hz⟩⟩ := R
  · have : 0 < l.length := List.length_pos_iff.2 h0
    omega
  unfold big at hs
  have hlt : b < w.heap.size := (Array.getElem?_eq_some_iff.1 (hw b _ hb)).1
  refine Calls.mono (Try.slices_Sort_int b 0 c l w (row_holds (c := c) hw hb ht) hlt (by omega)) ?_
  rintro e w' ⟨rfl, m, os, rfl⟩
  obtain ⟨g1, g2, g3⟩ := row_put (A := none) (n := 0) (c := 0) (m := m) (os := os) (d := sortM l) hw hb (by rw [hlen]; omega)
  refine ⟨_, _, rfl, hq _ ⟨by rw [inC_len], by rw [hlen]; exact h2, .inr ⟨b, _, ty, rfl, upd_at, ?_, ?_, hz⟩⟩ hlen (hx.upd hz) (fun q hq' => ?_), g1, g2, g3⟩
  · rw [List.length_append, inC_len, List.length_drop, hlen]; omega
  · rw [List.take_left' (by rw [inC_len])]
  · by_cases e : q = b
    · subst e; exact ⟨_, _, rfl⟩
    · exact absurd (upd_off e) hq'
end
end Go.Proofs.Ytibhpoikhkokiaa.Hw

/- slices.SortFunc of arcs: the kit's contract, laid at this program (by the kit's own tool). -/
namespace Go.Proofs
open Go.Shelf
def Try.sortArc_ren : Go.Shelf.Ren := ⟨fun | 6 => 45 | 15 => 64 | 14 => 63 | 28 => 79 | 29 => 80 | 20 => 71 | 21 => 72 | 22 => 73 | 23 => 74 | 24 => 75 | 25 => 76 | 26 => 77 | 27 => 78 | 46 => 93 | 47 => 94 | 48 => 95 | 49 => 96 | 50 => 97 | 57 => 102 | n => n, fun | 22 => 44 | 24 => 48 | 25 => 93 | 3 => 3 | 39 => 110 | 0 => 0 | 53 => 124 | 55 => 126 | 4 => 4 | 46 => 118 | 45 => 117 | 50 => 103 | 5 => 5 | 9 => 9 | 66 => 132 | 70 => 136 | 76 => 140 | 77 => 141 | n => n, fun | n => n⟩
theorem Try.sortArc : Go.Proofs.SlLaysF0.n6 Try.prog Try.sortArc_ren := {
  mixed := by kernel_rfl
  f6 := ⟨Try.f45.name, by decide, Try.func45.trans (congrArg some (by kernel_rfl))⟩
  f14 := ⟨Try.f63.name, by decide, Try.func63.trans (congrArg some (by kernel_rfl))⟩
  f15 := Try.func64.trans (congrArg some (by kernel_rfl))
  f20 := ⟨Try.f71.name, by decide, Try.func71.trans (congrArg some (by kernel_rfl))⟩
  f21 := ⟨Try.f72.name, by decide, Try.func72.trans (congrArg some (by kernel_rfl))⟩
  f22 := ⟨Try.f73.name, by decide, Try.func73.trans (congrArg some (by kernel_rfl))⟩
  f23 := ⟨Try.f74.name, by decide, Try.func74.trans (congrArg some (by kernel_rfl))⟩
  f24 := ⟨Try.f75.name, by decide, Try.func75.trans (congrArg some (by kernel_rfl))⟩
  f25 := ⟨Try.f76.name, by decide, Try.func76.trans (congrArg some (by kernel_rfl))⟩
  f26 := ⟨Try.f77.name, by decide, Try.func77.trans (congrArg some (by kernel_rfl))⟩
  f27 := ⟨Try.f78.name, by decide, Try.func78.trans (congrArg some (by kernel_rfl))⟩
  f28 := Try.func79.trans (congrArg some (by kernel_rfl))
  f29 := Try.func80.trans (congrArg some (by kernel_rfl))
  f46 := ⟨Try.f93.name, by decide, Try.func93.trans (congrArg some (by kernel_rfl))⟩
  f47 := Try.func94.trans (congrArg some (by kernel_rfl))
  f48 := Try.func95.trans (congrArg some (by kernel_rfl))
  f49 := ⟨Try.f96.name, by decide, Try.func96.trans (congrArg some (by kernel_rfl))⟩
  f50 := ⟨Try.f97.name, by decide, Try.func97.trans (congrArg some (by kernel_rfl))⟩
  f57 := ⟨Try.f102.name, by decide, Try.func102.trans (congrArg some (by kernel_rfl))⟩
  t0 := Try.underlying0
  a0 := Try.isAgg0
  z0 := Try.sizeOf0
  v0 := Try.zeroValue0
  t3 := Try.underlying3
  a3 := Try.isAgg3
  z3 := Try.sizeOf3
  v3 := Try.zeroValue3
  t4 := Try.underlying4
  a4 := Try.isAgg4
  z4 := Try.sizeOf4
  v4 := Try.zeroValue4
  t5 := Try.underlying5
  a5 := Try.isAgg5
  z5 := Try.sizeOf5
  v5 := Try.zeroValue5
  t9 := Try.underlying9
  a9 := Try.isAgg9
  z9 := Try.sizeOf9
  v9 := Try.zeroValue9
  t22 := Try.underlying44
  a22 := Try.isAgg44
  z22 := Try.sizeOf44
  v22 := Try.zeroValue44
  t25 := Try.underlying93
  a25 := Try.isAgg93
  z25 := Try.sizeOf93
  v25 := Try.zeroValue93
  t39 := Try.underlying110
  a39 := Try.isAgg110
  z39 := Try.sizeOf110
  v39 := Try.zeroValue110
  t45 := Try.underlying117
  a45 := Try.isAgg117
  z45 := Try.sizeOf117
  v45 := Try.zeroValue117
  t46 := Try.underlying118
  a46 := Try.isAgg118
  z46 := Try.sizeOf118
  v46 := Try.zeroValue118
  t50 := Try.underlying103
  a50 := Try.isAgg103
  z50 := Try.sizeOf103
  v50 := Try.zeroValue103
  t53 := Try.underlying124
  a53 := Try.isAgg124
  z53 := Try.sizeOf124
  v53 := Try.zeroValue124
  t55 := Try.underlying126
  a55 := Try.isAgg126
  z55 := Try.sizeOf126
  v55 := Try.zeroValue126
  t66 := Try.underlying132
  a66 := Try.isAgg132
  z66 := Try.sizeOf132
  v66 := Try.zeroValue132
  t70 := Try.underlying136
  a70 := Try.isAgg136
  z70 := Try.sizeOf136
  v70 := Try.zeroValue136
  t76 := Try.underlying140
  a76 := Try.isAgg140
  z76 := Try.sizeOf140
  v76 := Try.zeroValue140
  t77 := Try.underlying141
  a77 := Try.isAgg141
  z77 := Try.sizeOf141
  v77 := Try.zeroValue141 }
end Go.Proofs

/- An evaluator of weakest preconditions over heaps; struct variables whose address stays inside a call are kept beside the heap. Definitions alone. -/
set_option linter.unusedVariables false
set_option linter.unusedSimpArgs false
namespace Go.Proofs.Ytibhpoikhkokiaa.Hs
open Go

abbrev Hp := Nat → Option Obj
/-- What a slot holds: a value, or the address of a variable that is kept beside the heap. -/
inductive AV where
  | v (x : Value)
  | loc (k off : Nat)
abbrev Env := Nat → Option AV
abbrev VSt := Nat → Option (Bool × List Value)

def upd {α : Type} (t : Nat) (a : α) (e : Nat → Option α) : Nat → Option α := fun x => match Nat.beq x t with | true => some a | false => e x
def del {α : Type} (t : Nat) (e : Nat → Option α) : Nat → Option α := fun x => match Nat.beq x t with | true => none | false => e x
/-- No slot points to variable k any more. -/
def forget (k : Nat) (e : Env) : Env := fun x => match e x with
  | some (.loc k' o) => (match Nat.beq k' k with | true => none | false => some (.loc k' o))
  | a => a

/-- What is known of a type. -/
inductive Kn where
  | scalar
  | slice (el esz eby : Nat)
  | array (len esz : Nat) (eagg : Bool)
  | struct (fs : List (Nat × Nat × Bool))
  | string
  | map (k v : Nat)
structure TI where
  agg : Bool
  zs : List Value
  kn : Kn
  eqs : Bool := false

/-- The shape of a value in a loop's state. -/
inductive Sh where
  | int (k : IntKind) | bool | str | slice | ptr | map
def Sh.T : Sh → Type
  | .int _ => Int
  | .bool => Bool
  | .str => ByteArray
  | .slice => Option Addr × Nat × Nat
  | .ptr => Option Addr
  | .map => Option Nat
def ShT : List Sh → Type
  | [] => Unit
  | s :: r => s.T × ShT r
def Sh.enc : (s : Sh) → s.T → Value
  | .int k, x => .int k x
  | .bool, x => .bool x
  | .str, x => .string x
  | .slice, x => .slice x.1 x.2.1 x.2.2
  | .ptr, x => .pointer x
  | .map, x => .map x
def encL : (l : List Sh) → ShT l → List Value
  | [], _ => []
  | s :: r, x => s.enc x.1 :: encL r x.2
/-- A loop: the slots that stay, the variables that stay, the slots of the state, the variables of the state. -/
structure LD where
  keep : List Nat
  kb : List Nat
  vals : List (Nat × Sh)
  boxes : List (Nat × List Sh)

/-- The orders of what writes; what only looks comes as soon as it may. -/
inductive OT where
  | done | look (x : Nat) (t : OT) | act (x : Nat) (t u : OT)
def OT.isDone : OT → Bool
  | .done => true
  | _ => false
structure Cx where
  P : Program
  T : List (Nat × TI)
  R : List (Nat × List Nat)
  n : Nat
  virt : List (Nat × Bool)
  loops : List (Nat × LD)
  perms : List (Nat × OT)
  nexts : List (Nat × (Value × Value)) := []
  overs : List Nat := []

def look {α : Type} (t : Nat) : List (Nat × α) → Option α
  | [] => none
  | p :: r => match Nat.beq p.1 t with | true => some p.2 | false => look t r
def elemN (t : Nat) : List Nat → Bool
  | [] => false
  | p :: r => match Nat.beq p t with | true => true | false => elemN t r

def ev (e : Env) : Operand → Option AV
  | .tmp t => e t
  | .const x => some (.v x)
  | .func f => some (.v (.func (.func f) #[] #[]))
  | .global _ => none
def onAV (x : Option AV) (K : AV → Prop) : Prop := match x with | some a => K a | none => False
def onV (x : Option AV) (K : Value → Prop) : Prop := match x with | some (.v a) => K a | _ => False
def withVs (e : Env) : List Operand → (List Value → Prop) → Prop
  | [], K => K []
  | x :: r, K => onV (ev e x) fun v => withVs e r fun vs => K (v :: vs)
def onPtr (p : Option Addr) (K : Nat → Nat → Prop) : Prop := match p with | some ⟨b, o, none⟩ => K b o | _ => False
def cnd (b : Bool) (A B : Prop) : Prop := match b with | true => A | false => B
def cl (H : Hp) (b o : Nat) : Option Value := match H b with | some (.cells c _ _) => c[o]? | _ => none
def onTI (T : List (Nat × TI)) (t : Nat) (K : TI → Prop) : Prop := match look t T with | some i => K i | none => False
def cellsL : Value → List Value
  | .agg cs => cs.toList
  | v => [v]
def mkV (agg : Bool) (cs : List Value) (K : Value → Prop) : Prop := match agg, cs with
  | true, cs => K (.agg cs.toArray)
  | false, [v] => K v
  | false, _ => False
def setR (cs : List Value) (o : Nat) (vs : List Value) : List Value := cs.take o ++ vs ++ cs.drop (o + vs.length)
def one1 : Value → Bool
  | .agg _ | .tuple _ => false
  | _ => true
def allOne : List Value → Bool
  | [] => true
  | v :: r => match one1 v with | true => allOne r | false => false

/-- A value of the kind of a zero value, by its parts. -/
def leafE (z : Value) (K : Value → Prop) : Prop := match z with
  | .int k _ => ∃ x : Int, K (.int k x)
  | .bool _ => ∃ x : Bool, K (.bool x)
  | .string _ => ∃ x : ByteArray, K (.string x)
  | .slice _ _ _ => ∃ (A : Option Addr) (n c : Nat), K (.slice A n c)
  | .pointer _ => ∃ p : Option Addr, K (.pointer p)
  | .map _ => ∃ r : Option Nat, K (.map r)
  | .nilFunc => ∃ (f : FuncId) (a b : Array Value), K (.func (.func f) a b)
  | _ => ∃ x : Value, K x
def leafEs : List Value → (List Value → Prop) → Prop
  | [], K => K []
  | z :: r, K => leafE z fun v => leafEs r fun vs => K (v :: vs)
def loadL : List Value → Hp → Nat → Nat → (List Value → Prop) → Prop
  | [], _, _, _, K => K []
  | z :: r, H, b, o, K => leafE z fun v => cl H b o = some v ∧ loadL r H b (o + 1) fun vs => K (v :: vs)

def intF (op : BinOp) (k : IntKind) (a b : Int) (K : Value → Prop) : Prop := match op with
  | .add => K (.int k (k.wrap (a + b)))
  | .sub => K (.int k (k.wrap (a - b)))
  | .mul => K (.int k (k.wrap (a * b)))
  | .quo => b ≠ 0 ∧ K (.int k (k.wrap (a.tdiv b)))
  | .rem => b ≠ 0 ∧ K (.int k (a.tmod b))
  | .eql => K (.bool (a == b))
  | .neq => K (.bool (a != b))
  | .lss => K (.bool (decide (a < b)))
  | .leq => K (.bool (decide (a ≤ b)))
  | .gtr => K (.bool (decide (a > b)))
  | .geq => K (.bool (decide (a ≥ b)))
  | _ => False
def sameK (a b : IntKind) : Bool := decide (a = b)
def strF (op : BinOp) (a b : ByteArray) (K : Value → Prop) : Prop := match op with
  | .eql => K (.bool (a.toList == b.toList))
  | .neq => K (.bool !(a.toList == b.toList))
  | .lss => K (.bool (Op.bytesLess a.toList b.toList))
  | .leq => K (.bool (Op.bytesLess a.toList b.toList || a.toList == b.toList))
  | .gtr => K (.bool !(Op.bytesLess a.toList b.toList || a.toList == b.toList))
  | .geq => K (.bool !(Op.bytesLess a.toList b.toList))
  | _ => False
def boolF (op : BinOp) (a b : Bool) (K : Value → Prop) : Prop := match op with
  | .eql => K (.bool (a == b))
  | .neq => K (.bool !(a == b))
  | _ => False
def nilF (op : BinOp) (n : Bool) (K : Value → Prop) : Prop := match op with
  | .eql => K (.bool n)
  | .neq => K (.bool !n)
  | _ => False
def shOp : BinOp → Bool
  | .shl | .shr => true
  | _ => false
def shF (op : BinOp) (k : IntKind) (a b : Int) (K : Value → Prop) : Prop := match op with
  | .shl => 0 ≤ b ∧ K (.int k (k.wrap (a * 2 ^ (min b.toNat k.bits))))
  | .shr => 0 ≤ b ∧ K (.int k (a.fdiv (2 ^ (min b.toNat k.bits))))
  | _ => False
/-- Equality of what takes one cell; of cells after cells. -/
def eq1F : Value → Value → Value → Option Bool
  | .int _ _, .int k x, .int k' y => (match sameK k k' with | true => some (x == y) | false => none)
  | .bool _, .bool x, .bool y => some (x == y)
  | .string _, .string x, .string y => some (x.toList == y.toList)
  | _, _, _ => none
def eqLs : List Value → List Value → List Value → Option Bool
  | [], [], [] => some true
  | z :: zs, a :: ar, b :: bs => (match eq1F z a b, eqLs zs ar bs with | some p, some q => some (p && q) | _, _ => none)
  | _, _, _ => none
def binF (T : List (Nat × TI)) (op : BinOp) (t : Nat) (a b : Value) (K : Value → Prop) : Prop := match a, b with
  | .int k x, .int k' y => (match shOp op with
    | true => shF op k x y K
    | false => (match sameK k k' with | true => intF op k x y K | false => False))
  | .bool x, .bool y => onTI T t fun i => (match i.kn, i.zs with | .scalar, [.bool _] => boolF op x y K | _, _ => False)
  | .string x, .string y => strF op x y K
  | .slice A _ _, .slice none 0 0 => onTI T t fun i => (match i.kn with | .slice _ _ _ => nilF op A.isNone K | _ => False)
  | .pointer p, .pointer none => onTI T t fun i => (match i.kn, i.zs with | .scalar, [.pointer none] => nilF op p.isNone K | _, _ => False)
  | .agg xs, .agg ys => onTI T t fun i => (match i.eqs with
    | true => (match eqLs i.zs xs.toList ys.toList with
      | some b => nilF op b K
      | none => False)
    | false => False)
  | _, _ => False
def unF (op : UnOp) (a : Value) (K : Value → Prop) : Prop := match op, a with
  | .not, .bool b => K (.bool !b)
  | .neg, .int k n => K (.int k (k.wrap (0 - n)))
  | _, _ => False
/-- The bounds of a slice expression. -/
def sliceF (n c : Nat) (lo hi mx : Option Int) (K : Nat → Nat → Nat → Prop) : Prop :=
  match mx with
  | some m => (match hi with
    | some h => (match lo with
      | some l => 0 ≤ m ∧ m ≤ c ∧ 0 ≤ h ∧ h ≤ m ∧ 0 ≤ l ∧ l ≤ h ∧ K l.toNat h.toNat m.toNat
      | none => 0 ≤ m ∧ m ≤ c ∧ 0 ≤ h ∧ h ≤ m ∧ K 0 h.toNat m.toNat)
    | none => False)
  | none => (match hi with
    | some h => (match lo with
      | some l => 0 ≤ h ∧ h ≤ c ∧ 0 ≤ l ∧ l ≤ h ∧ K l.toNat h.toNat c
      | none => 0 ≤ h ∧ h ≤ c ∧ K 0 h.toNat c)
    | none => (match lo with
      | some l => 0 ≤ l ∧ l ≤ n ∧ K l.toNat n c
      | none => K 0 n c))
/-- The address of a cut slice. -/
def cutA (A : Option Addr) (k : Nat) (stay : Bool) : Option Addr := match stay with | true => A | false => A.map (·.add k)
def bAt (s : ByteArray) (i : Int) : Int := ((s.data.toList.getD i.toNat 0).toNat : Int)
def opt (e : Env) : Option Operand → Option (Option Int)
  | none => some none
  | some x => match ev e x with
    | some (.v (.int _ i)) => some (some i)
    | _ => none
def fillL (fs : List (Nat × Nat × Bool)) : List Value → List (Nat × Value) → Option (List Value)
  | cells, [] => some cells
  | cells, (i, v) :: r => match fs[i]? with
    | some f => (match Nat.beq (cellsL v).length f.2.1, Nat.ble (f.1 + (cellsL v).length) cells.length with
      | true, true => fillL fs (setR cells f.1 (cellsL v)) r
      | _, _ => none)
    | none => none
def fsA (len esz : Nat) : List (Nat × Nat × Bool) := (List.range len).map fun i => (i * esz, esz, false)
def pairVs (e : Env) : List (Nat × Operand) → (List (Nat × Value) → Prop) → Prop
  | [], K => K []
  | x :: r, K => onV (ev e x.2) fun v => pairVs e r fun vs => K ((x.1, v) :: vs)

/-- Operations that look neither at the heap nor at variables. -/
def wPure (T : List (Nat × TI)) (o : Op) (e : Env) (K : AV → Prop) : Prop := match o with
  | .move x => onAV (ev e x) K
  | .assign x => onAV (ev e x) K
  | .pick c a b => onV (ev e c) fun cv => (match cv with
    | .bool t => cnd t (onAV (ev e a) K) (onAV (ev e b) K)
    | _ => False)
  | .nilCheck x => onAV (ev e x) fun a => (match a with
    | .loc k o => K (.loc k o)
    | .v (.pointer p) => onPtr p fun b o => K (.v (.pointer (some ⟨b, o, none⟩)))
    | .v (.func (.func f) a b) => K (.v (.func (.func f) a b))
    | _ => False)
  | .binOp op t x y _ => onV (ev e x) fun a => onV (ev e y) fun b => binF T op t a b fun v => K (.v v)
  | .unOp op _ x => onV (ev e x) fun a => unF op a fun v => K (.v v)
  | .convert s d x => onV (ev e x) fun a => onTI T s fun si => onTI T d fun di => (match di.kn, di.zs, a with
    | .scalar, [.int k _], .int _ n => K (.v (.int k (k.wrap n)))
    | _, _, _ => False)
  | .fieldAddr t x f => onTI T t fun i => (match i.kn with
    | .struct fs => (match fs[f]? with
      | some fi => (match fi.2.1 with
        | 0 => False
        | _ + 1 => onAV (ev e x) fun a => (match a with
          | .loc k o => K (.loc k (o + fi.1))
          | .v (.pointer p) => onPtr p fun b o => K (.v (.pointer (some ⟨b, o + fi.1, none⟩)))
          | _ => False))
      | none => False)
    | _ => False)
  | .field t x f => onTI T t fun i => (match i.kn with
    | .struct fs => (match fs[f]? with
      | some fi => onV (ev e x) fun a => (match a with
        | .agg cs => (match Nat.ble (fi.1 + fi.2.1) cs.toList.length with
          | true => mkV fi.2.2 ((cs.toList.drop fi.1).take fi.2.1) fun v => K (.v v)
          | false => False)
        | _ => False)
      | none => False)
    | _ => False)
  | .indexAddr t x ix => onTI T t fun i => onV (ev e ix) fun iv => (match iv with
    | .int _ j => (match i.kn with
      | .slice _ esz _ => onV (ev e x) fun a => (match a with
        | .slice A n c => 0 ≤ j ∧ j < n ∧ onPtr A fun b o => K (.v (.pointer (some ⟨b, o + j.toNat * esz, none⟩)))
        | _ => False)
      | .array len esz _ => onAV (ev e x) fun a => (match a with
        | .loc k o => 0 ≤ j ∧ j < len ∧ K (.loc k (o + j.toNat * esz))
        | .v (.pointer p) => 0 ≤ j ∧ j < len ∧ onPtr p fun b o => K (.v (.pointer (some ⟨b, o + j.toNat * esz, none⟩)))
        | _ => False)
      | _ => False)
    | _ => False)
  | .index t x ix => onTI T t fun i => onV (ev e ix) fun iv => (match iv with
    | .int _ j => onV (ev e x) fun a => (match i.kn, a with
      | .array len esz ag, .agg cs => 0 ≤ j ∧ j < len ∧ (match Nat.beq cs.toList.length (len * esz) with
        | true => mkV ag ((cs.toList.drop (j.toNat * esz)).take esz) fun v => K (.v v)
        | false => False)
      | .string, .string s => 0 ≤ j ∧ j < s.size ∧ K (.v (.int .u8 (bAt s j)))
      | _, _ => False)
    | _ => False)
  | .slice t x lo hi mx => onTI T t fun i => onV (ev e x) fun a => (match opt e lo, opt e hi, opt e mx with
    | some lo, some hi, some mx => (match i.kn, a with
      | .slice _ esz _, .slice A n c => sliceF n c lo hi mx fun l h m => K (.v (.slice (cutA A (l * esz) (decide (m = l))) (h - l) (m - l)))
      | .string, .string s => (match mx with | none => sliceF s.size s.size lo hi none fun l h _ => K (.v (.string (s.extract l h))) | some _ => False)
      | _, _ => False)
    | _, _, _ => False)
  | .build t ps => onTI T t fun i => pairVs e ps.toList fun vs => (match i.kn with
    | .struct fs => (match fillL fs i.zs vs with | some cs => K (.v (.agg cs.toArray)) | none => False)
    | .array len esz _ => (match fillL (fsA len esz) i.zs vs with | some cs => K (.v (.agg cs.toArray)) | none => False)
    | _ => False)
  | .extract x ix => onV (ev e x) fun a => (match a with
    | .tuple vs => (match vs.toList[ix]? with | some v => K (.v v) | none => False)
    | _ => False)
  | .makeFunc fn first cap => withVs e first.toList fun a => withVs e cap.toList fun b => K (.v (.func fn a.toArray b.toArray))
  | _ => False

/-- A call: what a heap holds before it, and what holds of its result and of the heap behind it. -/
def Fr (H : Hp) (w w' : World) : Prop := w'.os = w.os ∧ w'.tape = w.tape ∧ w'.output = w.output ∧ w.heap.size ≤ w'.heap.size ∧ (∀ b, b < w.heap.size → (H b = none → w'.heap[b]? = w.heap[b]?)) ∧ w.drawn ≤ w'.drawn
def Has (w : World) (H : Hp) : Prop := ∀ b o, H b = some o → w.heap[b]? = some o
def New (H : Hp) (w : World) (H' : Hp) : Prop := ∀ b, H' b ≠ none → H b ≠ none ∨ w.heap.size ≤ b
def HCalls (P : Program) (f : FuncId) (args : List Value) (H : Hp) (Q : Value → Hp → Prop) : Prop :=
  ∀ w, Has w H → Calls P f args.toArray w fun e w' => ∃ v H', e = .returned v ∧ Q v H' ∧ Has w' H' ∧ Fr H w w' ∧ New H w H'

def FnOk (P : Program) (f : FuncId) : Prop := ∃ fn, P.funcs[f]? = some fn ∧ (fn.name == "runtime.NumGoroutine") = false ∧ fn.body.isNone = false
def shape1 (T : List (Nat × TI)) (t : Nat) (K : Value → Prop) : Prop := onTI T t fun i => leafEs i.zs fun vs => mkV i.agg vs K
def shapes (T : List (Nat × TI)) : List Nat → (List Value → Prop) → Prop
  | [], K => K []
  | t :: r, K => shape1 T t fun v => shapes T r fun vs => K (v :: vs)
def shapeR (T : List (Nat × TI)) (ts : List Nat) (K : Value → Prop) : Prop := match ts with
  | [t] => shape1 T t K
  | ts => shapes T ts fun vs => K (.tuple vs.toArray)
def callF (c : Cx) (f : FuncId) (args : List Value) (H : Hp) (K : Value → Hp → Prop) : Prop := match look f c.R with
  | some ts => HCalls c.P f args H fun v H' => shapeR c.T ts fun v' => v = v' ∧ K v' H'
  | none => False

def cellsAt (H : Hp) (A : Option Addr) (l : List Value) : Prop := l = [] ∨ ∃ b o, A = some ⟨b, o, none⟩ ∧ ∀ j v, l[j]? = some v → cl H b (o + j) = some v
def storeF (H : Hp) (b o : Nat) (vs : List Value) (K : Hp → Prop) : Prop :=
  ∃ (cs : List Value) (ty : Nat), H b = some (.cells cs.toArray ty (0, 0)) ∧ o + vs.length ≤ cs.length ∧ K (upd b (.cells (setR cs o vs).toArray ty (0, 0)) H)
def newF (H : Hp) (ty : Nat) (cs : List Value) (K : Nat → Hp → Prop) : Prop :=
  ∀ b, H b = none → K b (upd b (.cells cs.toArray ty (0, 0)) H)
def appendF (H : Hp) (el esz eby : Nat) (A : Option Addr) (n c : Nat) (B : Option Addr) (m : Nat) (K : Option Addr → Nat → Nat → Hp → Prop) : Prop :=
  (n + m) * eby ≤ 140737488355328 ∧ n + m ≤ 140737488355328 ∧ ∃ new : List Value, new.length = m * esz ∧ cellsAt H B new ∧ (∀ v ∈ new, v.oneCell' = true) ∧
    (n + m ≤ c → (m = 0 → K A n c H) ∧ (0 < m → ∃ (b o : Nat) (cs : List Value) (ty : Nat), A = some ⟨b, o, none⟩ ∧ H b = some (.cells cs.toArray ty (0, 0)) ∧ o + (n + m) * esz ≤ cs.length ∧
      K A (n + m) c (upd b (.cells (setR cs (o + n * esz) new).toArray ty (0, 0)) H))) ∧
    (c < n + m → ∃ old : List Value, old.length = n * esz ∧ cellsAt H A old ∧ ∀ (b cap : Nat) (rest : List Value), H b = none → n + m ≤ cap → cap ≤ maxLen → rest.length = (cap - (n + m)) * esz →
      K (some ⟨b, 0, none⟩) (n + m) cap (upd b (.cells (old ++ new ++ rest).toArray el (0, 0)) H))

/-! Maps with whole numbers as keys. -/
def isKey (x : Int) (e : MapEntry) : Bool := match e.key with
  | .int _ y => decide (x = y)
  | _ => false
def intKeys (k : IntKind) (es : List MapEntry) : Prop := ∀ e ∈ es, ∃ y : Int, e.key = .int k y
def findE (x : Int) (es : List MapEntry) : Option Value := (es.find? (isKey x)).map (·.val)
def putE (k : IntKind) (x : Int) (v : Value) (es : Array MapEntry) (clock : Nat) : Obj := match es.toList.findIdx? (isKey x) with
  | some i => .map (es.modify i fun e => { e with key := .int k x, val := v }) clock
  | none => .map (es.push { key := .int k x, val := v, born := clock }) (clock + 1)
def delE (x : Int) (es : Array MapEntry) (clock : Nat) : Obj := match es.toList.findIdx? (isKey x) with
  | some i => .map (es.eraseIdxIfInBounds i) clock
  | none => .map es clock
/-! Maps with pairs of whole numbers as keys. -/
def key2 (x y : Int) : Value := .agg #[.int .i64 x, .int .i64 y]
def isKey2 (x y : Int) (e : MapEntry) : Bool := match e.key with
  | .agg cs => (match cs.toList with
    | [.int _ a, .int _ b] => decide (x = a) && decide (y = b)
    | _ => false)
  | _ => false
def pairKeys (es : List MapEntry) : Prop := ∀ e ∈ es, ∃ a b : Int, e.key = key2 a b
def findE2 (x y : Int) (es : List MapEntry) : Option Value := (es.find? (isKey2 x y)).map (·.val)
def putE2 (x y : Int) (v : Value) (es : Array MapEntry) (clock : Nat) : Obj := match es.toList.findIdx? (isKey2 x y) with
  | some i => .map (es.modify i fun e => { e with key := key2 x y, val := v }) clock
  | none => .map (es.push { key := key2 x y, val := v, born := clock }) (clock + 1)
def lookF2 (H : Hp) (r : Option Nat) (x y : Int) (z : Value) (K : Value → Bool → Prop) : Prop := match r with
  | none => K z false
  | some b => ∃ es clock, H b = some (.map es clock) ∧ pairKeys es.toList ∧ K ((findE2 x y es.toList).getD z) (findE2 x y es.toList).isSome
def putF2 (H : Hp) (r : Option Nat) (x y : Int) (v : Value) (K : Hp → Prop) : Prop :=
  ∃ b es clock, r = some b ∧ H b = some (.map es clock) ∧ pairKeys es.toList ∧ K (upd b (putE2 x y v es clock) H)
def newMapF (H : Hp) (K : Nat → Hp → Prop) : Prop := ∀ b, H b = none → K b (upd b (.map #[] 0) H)
def lookF (H : Hp) (k : IntKind) (r : Option Nat) (x : Int) (z : Value) (K : Value → Bool → Prop) : Prop := match r with
  | none => K z false
  | some b => ∃ es clock, H b = some (.map es clock) ∧ intKeys k es.toList ∧ K ((findE x es.toList).getD z) (findE x es.toList).isSome
def okV (ok : Bool) (v : Value) (b : Bool) : Value := match ok with
  | true => .tuple #[v, .bool b]
  | false => v
def putF (H : Hp) (k : IntKind) (r : Option Nat) (x : Int) (v : Value) (K : Hp → Prop) : Prop :=
  ∃ b es clock, r = some b ∧ H b = some (.map es clock) ∧ intKeys k es.toList ∧ K (upd b (putE k x v es clock) H)
def delF (H : Hp) (k : IntKind) (r : Option Nat) (x : Int) (K : Hp → Prop) : Prop :=
  ∃ b es clock, r = some b ∧ H b = some (.map es clock) ∧ intKeys k es.toList ∧ K (upd b (delE x es clock) H)
def sizeF (H : Hp) (r : Option Nat) (K : Nat → Prop) : Prop := match r with
  | none => K 0
  | some b => ∃ es clock, H b = some (.map es clock) ∧ K es.size
def rangeF (H : Hp) (r : Option Nat) (K : Nat → Hp → Prop) : Prop :=
  ∃ b es clock, r = some b ∧ H b = some (.map es clock) ∧ ∀ i, H i = none → K i (upd i (.mapIter (some b) clock #[] clock) H)
def nextF (H : Hp) (i o : Nat) (Kn : Prop) (Ks : Value → Value → Hp → Prop) : Prop :=
  o = 0 ∧ ∃ b since seen c0 es clock, H i = some (.mapIter (some b) since seen c0) ∧ H b = some (.map es clock) ∧ (∀ e ∈ es.toList, e.born < since) ∧ since ≤ c0 ∧
    ((leftOf es seen).size = 0 → Kn) ∧ ∀ e ∈ (leftOf es seen).toList, Ks e.key e.val (upd i (.mapIter (some b) since (seen.push e.born) clock) H)
def entryF (H : Hp) (i o : Nat) (K : Value → Value → Prop) : Prop :=
  o = 0 ∧ ∃ (b since : Nat) (seen : Array Nat) (es : Array MapEntry) (clock : Nat) (e : MapEntry), H i = some (.mapIter (some b) since (seen.push e.born) clock) ∧ H b = some (.map es clock) ∧ e ∈ es.toList ∧ (es.toList.map (·.born)).Nodup ∧ K e.key e.val
/-- Cells copied from one slice to another. -/
def copyF (H : Hp) (esz : Nat) (A : Option Addr) (n : Nat) (B : Option Addr) (m : Nat) (K : Hp → Prop) : Prop :=
  (min m n = 0 → K H) ∧ (0 < min m n → ∃ new : List Value, new.length = min m n * esz ∧ cellsAt H B new ∧ (∀ v ∈ new, v.oneCell' = true) ∧ onPtr A fun b o => storeF H b o new K)
/-- Two slices in two blocks do not overlap. -/
def apartF (H : Hp) (A B : Option Addr) (K : Prop) : Prop :=
  onPtr A fun a _ => onPtr B fun b _ => a ≠ b ∧ (∃ cs ty, H a = some (.cells cs ty (0, 0))) ∧ (∃ cs ty, H b = some (.cells cs ty (0, 0)) ∧ 0 < cs.size) ∧ K
/-- Zero values appended to a slice that has no room for them. -/
def appendZF (H : Hp) (el esz eby : Nat) (zs : List Value) (A : Option Addr) (n c : Nat) (k : Int) (K : Option Addr → Nat → Nat → Hp → Prop) : Prop :=
  0 < k ∧ c < n + k.toNat ∧ (n + k.toNat) * eby ≤ 140737488355328 ∧ n + k.toNat ≤ 140737488355328 ∧ ∃ old : List Value, old.length = n * esz ∧ cellsAt H A old ∧
    ∀ (b cap : Nat) (rest : List Value), H b = none → n + k.toNat ≤ cap → cap ≤ maxLen → rest.length = (cap - (n + k.toNat)) * esz →
      K (some ⟨b, 0, none⟩) (n + k.toNat) cap (upd b (.cells (old ++ (List.replicate k.toNat zs).flatten ++ rest).toArray el (0, 0)) H)
/-- The number of what a map has. -/
def lenMap (T : List (Nat × TI)) (o : Oper) : Bool := match o.op, o.guard with
  | .call { callee := .builtin .len, argTypes := ts, .. }, none => (match ts.toList with
    | [t] => (match look t T with
      | some i => (match i.kn with
        | .map _ _ => true
        | _ => false)
      | none => false)
    | _ => false)
  | _, _ => false
def lenMapF (o : Op) (e : Env) (H : Hp) (K : Value → Prop) : Prop := match o with
  | .call { args := args, .. } => withVs e args.toList fun vs => (match vs with
    | [.map r] => sizeF H r fun n => K (.int .i64 n)
    | _ => False)
  | _ => False
def updF (c : Cx) (e : Env) (H : Hp) (t : Nat) (m x y : Operand) (K : Hp → Prop) : Prop := onTI c.T t fun i => (match i.kn with
    | .map kt _ => onTI c.T kt fun ki => (match ki.kn, ki.zs with
      | .scalar, [.int k' _] => onV (ev e m) fun mv => onV (ev e x) fun xv => onV (ev e y) fun v => (match mv, xv with
        | .map r, .int k n => (match sameK k' k with
          | true => putF H k r n v K
          | false => False)
        | _, _ => False)
      | .array _ _ _, [.int k1 _, .int k2 _] => onV (ev e m) fun mv => onV (ev e x) fun xv => onV (ev e y) fun v => (match mv, xv with
        | .map r, .agg cs => (match cs.toList with
          | [.int k3 p, .int k4 q] => (match ki.eqs && (sameK k1 .i64 && (sameK k2 .i64 && (sameK k3 .i64 && sameK k4 .i64))) with
            | true => putF2 H r p q v K
            | false => False)
          | _ => False)
        | _, _ => False)
      | _, _ => False)
    | _ => False)
/-- One operation; what follows is handed what its slot then holds. -/
def wOp (c : Cx) (o : Oper) (e : Env) (V : VSt) (H : Hp) (K : Option AV → Env → VSt → Hp → Prop) : Prop := match o.op with
  | .load t a => onTI c.T t fun i => onAV (ev e a) fun p => (match p with
    | .loc k o => (match V k with
      | some x => (match Nat.ble (o + i.zs.length) x.2.length with
        | true => mkV i.agg ((x.2.drop o).take i.zs.length) fun v => K (some (.v v)) e V H
        | false => False)
      | none => False)
    | .v (.pointer p) => onPtr p fun b o => (match i.zs with
      | [] => False
      | z :: zs => loadL (z :: zs) H b o fun vs => mkV i.agg vs fun v => K (some (.v v)) e V H)
    | _ => False)
  | .store t a x => onTI c.T t fun i => onV (ev e x) fun v => (match Nat.beq (cellsL v).length i.zs.length, allOne (cellsL v) with
    | true, true => onAV (ev e a) fun p => (match p with
      | .loc k o => (match V k with
        | some (true, cs) => (match Nat.ble (o + (cellsL v).length) cs.length with
          | true => K none e (upd k (true, setR cs o (cellsL v)) V) H
          | false => False)
        | _ => False)
      | .v (.pointer p) => onPtr p fun b o => storeF H b o (cellsL v) fun H' => K none e V H'
      | _ => False)
    | _, _ => False)
  | .alloc t => onTI c.T t fun i => (match o.dst with
    | some d => (match look d c.virt with
      | some rw => K (some (.loc d 0)) (forget d e) (upd d (rw, i.zs) V) H
      | none => newF H t i.zs fun b H' => K (some (.v (.pointer (some ⟨b, 0, none⟩)))) e V H')
    | none => False)
  | .box t x => onTI c.T t fun i => onV (ev e x) fun v => (match Nat.beq (cellsL v).length i.zs.length, allOne (cellsL v), o.dst with
    | true, true, some d => (match look d c.virt with
      | some rw => K (some (.loc d 0)) (forget d e) (upd d (rw, cellsL v) V) H
      | none => newF H t (cellsL v) fun b H' => K (some (.v (.pointer (some ⟨b, 0, none⟩)))) e V H')
    | _, _, _ => False)
  | .buildSlice t len ps => onTI c.T t fun i => pairVs e ps.toList fun vs => (match i.kn with
    | .slice el esz _ => onTI c.T el fun ei => (match fillL (fsA len esz) (List.replicate len ei.zs).flatten vs, Nat.ble (len * esz) 16777216 with
      | some cs, true => newF H el cs fun b H' => K (some (.v (.slice (some ⟨b, 0, none⟩) len len))) e V H'
      | _, _ => False)
    | _ => False)
  | .call { callee := .value f, args := args, .. } => onV (ev e f) fun fv => withVs e args.toList fun vs => (match fv with
    | .func (.func g) first cap => (match f with
      | .tmp _ => FnOk c.P g ∧ (match look o.type c.T with
        | some i => HCalls c.P g (first.toList ++ vs ++ cap.toList) H fun v H' => leafEs i.zs fun us => mkV i.agg us fun v' => v = v' ∧ K (some (.v v')) e V H'
        | none => HCalls c.P g (first.toList ++ vs ++ cap.toList) H fun v H' => K (some (.v v)) e V H')
      | _ => (match elemN g c.overs with
        | true => (match first.toList ++ vs ++ cap.toList with
          | [.slice A _ _, .slice B _ _] => apartF H A B (K (some (.v (.bool false))) e V H)
          | _ => False)
        | false => callF c g (first.toList ++ vs ++ cap.toList) H fun v H' => K (some (.v v)) e V H'))
    | _ => False)
  | .call { callee := .builtin .len, args := args, argTypes := ts } => withVs e args.toList fun vs => (match ts.toList, vs with
    | [t], [v] => onTI c.T t fun i => (match i.kn, v with
      | .slice _ _ _, .slice _ n _ => K (some (.v (.int .i64 n))) e V H
      | .string, .string s => K (some (.v (.int .i64 s.size))) e V H
      | _, _ => False)
    | _, _ => False)
  | .call { callee := .builtin .append, args := args, argTypes := ts } => withVs e args.toList fun vs => (match ts.toList, vs with
    | [t, u], [.slice A n cp, .slice B m _] => (match Nat.beq t u with
      | true => onTI c.T t fun i => (match i.kn with
        | .slice el esz eby => (match esz with
          | 0 => False
          | _ + 1 => appendF H el esz eby A n cp B m fun A' n' c' H' => K (some (.v (.slice A' n' c'))) e V H')
        | _ => False)
      | false => False)
    | [t, u], [.slice A n cp, .int .i64 k] => onTI c.T t fun i => onTI c.T u fun ui => (match i.kn, ui.kn, ui.zs with
      | .slice el esz eby, .scalar, [.int _ _] => onTI c.T el fun ei => (match esz with
        | 0 => False
        | _ + 1 => appendZF H el esz eby ei.zs A n cp k fun A' n' c' H' => K (some (.v (.slice A' n' c'))) e V H')
      | _, _, _ => False)
    | _, _ => False)
  | .call { callee := .builtin .clear, args := args, argTypes := ts } => withVs e args.toList fun vs => (match ts.toList, vs with
    | [t], [.slice A n _] => onTI c.T t fun i => (match i.kn with
      | .slice el esz _ => onTI c.T el fun ei => (n = 0 → K (some (.v (.tuple #[]))) e V H) ∧ (0 < n → onPtr A fun b o => storeF H b o (List.replicate n ei.zs).flatten fun H' => K (some (.v (.tuple #[]))) e V H')
      | _ => False)
    | _, _ => False)
  | .call { callee := .builtin .delete, args := args, argTypes := ts } => withVs e args.toList fun vs => (match ts.toList, vs with
    | t :: _, [.map r, .int k x] => onTI c.T t fun i => (match i.kn with
      | .map kt _ => onTI c.T kt fun ki => (match ki.kn, ki.zs with
        | .scalar, [.int k' _] => (match sameK k' k with
          | true => delF H k r x fun H' => K (some (.v (.tuple #[]))) e V H'
          | false => False)
        | _, _ => False)
      | _ => False)
    | _, _ => False)
  | .makeMap _ none => newMapF H fun b H' => K (some (.v (.map (some b)))) e V H'
  | .lookup t m x ok => onTI c.T t fun i => (match i.kn with
    | .map kt vt => onTI c.T kt fun ki => onTI c.T vt fun vi => (match ki.kn, ki.zs with
      | .scalar, [.int k' _] => onV (ev e m) fun mv => onV (ev e x) fun xv => (match mv, xv with
        | .map r, .int k y => (match sameK k' k with
          | true => mkV vi.agg vi.zs fun z => lookF H k r y z fun v b => leafEs vi.zs fun us => mkV vi.agg us fun v' => v = v' ∧ K (some (.v (okV ok v' b))) e V H
          | false => False)
        | _, _ => False)
      | .array _ _ _, [.int k1 _, .int k2 _] => onV (ev e m) fun mv => onV (ev e x) fun xv => (match mv, xv with
        | .map r, .agg cs => (match cs.toList with
          | [.int k3 p, .int k4 q] => (match ki.eqs && (sameK k1 .i64 && (sameK k2 .i64 && (sameK k3 .i64 && sameK k4 .i64))) with
            | true => mkV vi.agg vi.zs fun z => lookF2 H r p q z fun v b => leafEs vi.zs fun us => mkV vi.agg us fun v' => v = v' ∧ K (some (.v (okV ok v' b))) e V H
            | false => False)
          | _ => False)
        | _, _ => False)
      | _, _ => False)
    | _ => False)
  | .mapUpdate t m x y => updF c e H t m x y fun H' => K none e V H'
  | .insert t m x y => updF c e H t m x y fun H' => K none e V H'
  | .range t m => onTI c.T t fun i => (match i.kn with
    | .map _ _ => onV (ev e m) fun mv => (match mv with
      | .map r => rangeF H r fun b H' => K (some (.v (.pointer (some ⟨b, 0, none⟩)))) e V H'
      | _ => False)
    | _ => False)
  | .next it false => onV (ev e it) fun iv => (match iv, o.dst with
    | .pointer p, some d => (match look d c.nexts with
      | some zz => onPtr p fun b off => nextF H b off (K (some (.v (.tuple #[.bool false]))) e V H) fun key val H' =>
          leafE zz.1 fun k' => key = k' ∧ leafE zz.2 fun v' => val = v' ∧ K (some (.v (.tuple #[.bool true, k', v']))) e V H'
      | none => False)
    | _, _ => False)
  | .entry it => onV (ev e it) fun iv => (match iv, o.dst with
    | .pointer p, some d => (match look d c.nexts with
      | some zz => onPtr p fun b off => entryF H b off fun key val => leafE zz.1 fun k' => key = k' ∧ leafE zz.2 fun v' => val = v' ∧ K (some (.v (.tuple #[k', v']))) e V H
      | none => False)
    | _, _ => False)
  | .call { callee := .builtin .max, args := args, .. } => withVs e args.toList fun vs => (match vs with
    | [.int k x, .int k' y] => (match sameK k k' with
      | true => K (some (.v (.int k (if y > x then y else x)))) e V H
      | false => False)
    | _ => False)
  | .call { callee := .builtin .cap, args := args, argTypes := ts } => withVs e args.toList fun vs => (match ts.toList, vs with
    | [t], [.slice _ _ cp] => onTI c.T t fun i => (match i.kn with
      | .slice _ _ _ => K (some (.v (.int .i64 cp))) e V H
      | _ => False)
    | _, _ => False)
  | .call { callee := .builtin .copy, args := args, argTypes := ts } => withVs e args.toList fun vs => (match ts.toList, vs with
    | [t, _], [.slice A n _, .slice B m _] => onTI c.T t fun i => (match i.kn with
      | .slice _ esz _ => copyF H esz A n B m fun H' => K (some (.v (.int .i64 (min m n)))) e V H'
      | _ => False)
    | _, _ => False)
  | x => wPure c.T x e fun a => K (some a) e V H

/-- What a slot holds behind an operation. -/
def fin (n : Nat) (d : Option Nat) (a : Option AV) (e : Env) : Env := match d with
  | none => e
  | some d => match a, Nat.blt d n with
    | some a, true => upd d a e
    | _, _ => del d e
def dstAt (ops : List Oper) (j : Nat) : Option Nat := match ops[j]? with | some o => o.dst | none => none
def wStep (c : Cx) (ops : List Oper) (o : Oper) (K : Env → VSt → Hp → Prop) (e : Env) (V : VSt) (H : Hp) : Prop := match o.guard with
  | none => wOp c o e V H fun a e V H => K (fin c.n o.dst a e) V H
  | some (j, want) => match dstAt ops j with
    | some d => (match e d with
      | some (.v (.bool b)) => cnd b
          (match want with
            | true => wOp c o (upd d (.v (.bool true)) e) V H fun a e V H => K (fin c.n o.dst a e) V H
            | false => K (fin c.n o.dst (some (.v undef)) (upd d (.v (.bool true)) e)) V H)
          (match want with
            | false => wOp c o (upd d (.v (.bool false)) e) V H fun a e V H => K (fin c.n o.dst a e) V H
            | true => K (fin c.n o.dst (some (.v undef)) (upd d (.v (.bool false)) e)) V H)
      | some (.v (.tuple _)) => K (fin c.n o.dst (some (.v undef)) e) V H
      | _ => False)
    | none => False
def wOps (c : Cx) (ops : List Oper) : List Oper → (Env → VSt → Hp → Prop) → Env → VSt → Hp → Prop
  | [], K, e, V, H => K e V H
  | o :: r, K, e, V, H => (match lenMap c.T o with
    | true => lenMapF o.op e H fun v => wOps c ops r K (fin c.n o.dst (some (.v v)) e) V H
    | false => wStep c ops o (wOps c ops r K) e V H)

/-! A region whose order is open. -/
inductive Ef where
  | pure | load | quiet | write
def efOf : Op → Ef
  | .move _ | .pick .. | .nilCheck _ | .binOp .. | .unOp .. | .convert .. | .fieldAddr .. | .field .. | .indexAddr .. | .index .. | .slice .. | .build .. | .extract .. | .makeFunc .. => .pure
  | .call { callee := .builtin .len, .. } => .pure
  | .load .. => .load
  | .assign _ | .alloc _ | .box .. | .buildSlice .. => .quiet
  | _ => .write
def isEf : Ef → Bool
  | .pure | .load => false
  | _ => true
/-- The variable beside the heap into which an operation stores. -/
def vstK (e : Env) : Op → Option Nat
  | .store _ a _ => (match ev e a with | some (.loc k _) => some k | _ => none)
  | _ => none
def dirOf (o : Oper) : List Nat := (o.after.toList.filter fun x => Region.binds .any x).map (·.on)
def maskOf (acc : List Nat) : List Nat → Nat
  | [] => 0
  | z :: r => (2 ^ z ||| acc.getD z 0) ||| maskOf acc r
def masks : List Nat → List Oper → List Nat
  | acc, [] => acc
  | acc, o :: r => masks (acc ++ [maskOf acc (dirOf o)]) r
def befB (bf : List Nat) (i j : Nat) : Bool := (bf.getD i 0).testBit j
/-- Loads that have been gone through and that this may come before: what they looked at stays. -/
def lateL (bf S : List Nat) (i : Nat) (w : Bool) (k : Option Nat) (e : Env) (H H' : Hp) : Nat → List Oper → Prop → Prop
  | _, [], P => P
  | j, o :: r, P => match o.op with
    | .load _ a => (match befB bf i j || elemN j S with
      | true => lateL bf S i w k e H H' (j + 1) r P
      | false => (match ev e a with
        | none => False
        | some (.loc k1 _) => (match k with
          | none => lateL bf S i w k e H H' (j + 1) r P
          | some k2 => (match Nat.beq k1 k2 with
            | true => False
            | false => lateL bf S i w k e H H' (j + 1) r P))
        | some (.v v) => (match k with
          | some _ => lateL bf S i w k e H H' (j + 1) r P
          | none => (match w with
            | false => lateL bf S i w k e H H' (j + 1) r P
            | true => (match v with
              | .pointer (some p) => H' p.block = H p.block ∧ lateL bf S i w k e H H' (j + 1) r P
              | _ => lateL bf S i w k e H H' (j + 1) r P)))))
    | _ => lateL bf S i w k e H H' (j + 1) r P
def lateP (bf S : List Nat) (ops : List Oper) (i : Nat) (o : Oper) (e : Env) (H H' : Hp) (P : Prop) : Prop := match efOf o.op with
  | .write => (match vstK e o.op with
    | some k => lateL bf S i false (some k) e H H' 0 ops P
    | none => lateL bf S i true none e H H' 0 ops P)
  | _ => P
def without (x : Nat) : List Nat → List Nat
  | [] => []
  | y :: r => match Nat.beq x y with
    | true => without x r
    | false => y :: without x r
def wOpsD (c : Cx) (ops : List Oper) (bf : List Nat) : OT → List Nat → (Env → VSt → Hp → Prop) → Env → VSt → Hp → Prop
  | .done, _, K, e, V, H => K e V H
  | .look i t, S, K, e, V, H => (match ops[i]? with
    | some o => wStep c ops o (wOpsD c ops bf t (without i S) K) e V H
    | none => False)
  | .act i t u, S, K, e, V, H => (match ops[i]? with
    | some o => (match u.isDone with
      | true => wStep c ops o (fun e' V' H' => lateP bf S ops i o e H H' (wOpsD c ops bf t (without i S) K e' V' H')) e V H
      | false => wStep c ops o (fun e' V' H' => lateP bf S ops i o e H H' (wOpsD c ops bf t (without i S) K e' V' H')) e V H ∧ wOpsD c ops bf u S K e V H)
    | none => False)
def namesOf (ops : List Oper) (o : Oper) : List Nat := (o.op.operands.toList.filterMap fun x => match x with | .tmp t => some t | _ => none) ++ (match o.guard with | some (j, _) => (match dstAt ops j with | some d => [d] | none => []) | none => [])
def efAt (ops : List Oper) (i : Nat) : Bool := match ops[i]? with | some o => isEf (efOf o.op) | none => true
def slotOk (ops : List Oper) (bf : List Nat) (x y : Nat) : Bool := match ops[x]?, ops[y]? with
  | some ox, some oy => (match oy.dst with
    | none => true
    | some d => (!(elemN d (namesOf ops ox)) && (match ox.dst with | some d' => !Nat.beq d' d | none => true)) || befB bf x y || (isEf (efOf oy.op) && befB bf y x))
  | _, _ => false
def pairB (ops : List Oper) (bf : List Nat) (x : Nat) (S : List Nat) : Bool := (without x S).all fun y => !befB bf x y && slotOk ops bf x y && slotOk ops bf y x
def emptyB : List Nat → Bool
  | [] => true
  | _ => false
def tOk (ops : List Oper) (bf : List Nat) : OT → List Nat → List Nat → Bool
  | .done, S, tried => (match emptyB tried with
    | true => emptyB S
    | false => S.all fun z => elemN z tried || (without z S).any fun y => befB bf z y)
  | .look x t, S, tried => emptyB tried && elemN x S && !efAt ops x && pairB ops bf x S && tOk ops bf t (without x S) []
  | .act x t u, S, tried => elemN x S && efAt ops x && pairB ops bf x S && tOk ops bf t (without x S) [] && tOk ops bf u S (x :: tried)
def rangeB : Nat → List Nat
  | 0 => []
  | n + 1 => n :: rangeB n
def regOk (ops : List Oper) : Bool :=
  (rangeB ops.length).all fun i => match ops[i]? with | some o => (match o.dst with | some d => !elemN d (namesOf ops o) | none => true) && (dirOf o).all (fun z => Nat.blt z i) | none => false

inductive Xt where
  | normal | exit (id : Nat) | ret
def getSh (s : Sh) (v : Value) (K : s.T → Prop) : Prop := match s, v, K with
  | .int k, .int k' x, K => (match sameK k k' with | true => K x | false => False)
  | .bool, .bool x, K => K x
  | .str, .string x, K => K x
  | .slice, .slice A n c, K => K (A, n, c)
  | .ptr, .pointer p, K => K p
  | .map, .map r, K => K r
  | _, _, _ => False
def getL : (l : List Sh) → List Value → (ShT l → Prop) → Prop
  | [], [], K => K ()
  | s :: r, v :: vs, K => getSh s v fun x => getL r vs fun y => K (x, y)
  | _, _, _ => False
def valsT (l : List (Nat × Sh)) : List Sh := l.map (·.2)
def BoxT : List (Nat × List Sh) → Type
  | [] => Unit
  | b :: r => ShT b.2 × BoxT r
abbrev LD.St (d : LD) : Type := ShT (valsT d.vals) × BoxT d.boxes
def getVals : (l : List (Nat × Sh)) → Env → (ShT (valsT l) → Prop) → Prop
  | [], _, K => K ()
  | p :: r, e, K => onV (e p.1) fun v => getSh p.2 v fun x => getVals r e fun y => K (x, y)
def getBoxes : (l : List (Nat × List Sh)) → VSt → (BoxT l → Prop) → Prop
  | [], _, K => K ()
  | p :: r, V, K => match V p.1 with
    | some (true, cs) => getL p.2 cs fun x => getBoxes r V fun y => K (x, y)
    | _ => False
def encVals : (l : List (Nat × Sh)) → ShT (valsT l) → Env → Env
  | [], _, e => e
  | p :: r, x, e => upd p.1 (.v (p.2.enc x.1)) (encVals r x.2 e)
def encBoxes : (l : List (Nat × List Sh)) → BoxT l → VSt → VSt
  | [], _, V => V
  | p :: r, x, V => upd p.1 (true, encL p.2 x.1) (encBoxes r x.2 V)
def restr {α : Type} (l : List Nat) (e : Nat → Option α) : Nat → Option α := fun x => match elemN x l with | true => e x | false => none
def LoopF {σ : Type} (s0 : σ) (H : Hp) (body : σ → Hp → (σ → Hp → Prop) → Prop) : Prop :=
  ∃ J : Nat → σ → Hp → Prop, (∃ n, J n s0 H) ∧ ∀ n s H', J n s H' → body s H' fun s' H2 => ∃ m, m < n ∧ J m s' H2

def keyOf : Code → Option Nat
  | .region id _ _ => some id
  | .seq a b => match keyOf a with | some k => some k | none => keyOf b
  | .cond _ a b => match keyOf a with | some k => some k | none => keyOf b
  | .block _ a => keyOf a
  | .loop a => keyOf a
  | _ => none
/-- Nothing of this has turned. -/
def KeepX (x : List (Option AV)) (y : List (Option (Bool × List Value))) : Prop := (x, y) = (x, y)
/-- Where several ways meet: what holds from there on is said once. -/
def jn {α : Type} (r : α) (A : α → Prop) : Prop := A r
theorem jn_intro {α : Type} {r : α} {A : α → Prop} (S : α → Prop) (h : S r) (h2 : ∀ J, S J → A J) : jn r A := h2 r h
def mapE {α : Type} (e : Nat → Option α) : List Nat → List (Option α)
  | [] => []
  | x :: r => e x :: mapE e r
def wv (c : Cx) : Code → (Xt → Env → VSt → Hp → Prop) → Env → VSt → Hp → Prop
  | .skip, Q, e, V, H => Q .normal e V H
  | .label _, Q, e, V, H => Q .normal e V H
  | .region id ops draw, Q, e, V, H => (match draw with
    | false => wOps c ops.toList ops.toList (Q .normal) e V H
    | true => (match look id c.perms with
      | some p => (match regOk ops.toList && tOk ops.toList (masks [] ops.toList) p (rangeB ops.toList.length) [] with
        | true => wOpsD c ops.toList (masks [] ops.toList) p (rangeB ops.toList.length) (Q .normal) e V H
        | false => False)
      | none => False))
  | .seq a b, Q, e, V, H => wv c a (fun x e V H => match x with | .normal => wv c b Q e V H | x => Q x e V H) e V H
  | .cond x a b, Q, e, V, H => onV (ev e x) fun v => (match v with
    | .bool t => cnd t (wv c a Q e V H) (wv c b Q e V H)
    | _ => False)
  | .block id a, Q, e, V, H => wv c a (fun x e V H => match x with | .exit i => (match Nat.beq i id with | true => Q .normal e V H | false => Q (.exit i) e V H) | x => Q x e V H) e V H
  | .exit id, Q, e, V, H => Q (.exit id) e V H
  | .ret, Q, e, V, H => Q .ret e V H
  | .loop a, Q, e, V, H => (match keyOf a with
    | some k => (match look k c.loops with
      | some d => getVals d.vals e fun x => getBoxes d.boxes V fun y => LoopF (σ := d.St) (x, y) H fun s H' next =>
            wv c a (fun q e' V' H2 => match q with
              | .normal => getVals d.vals e' fun x' => getBoxes d.boxes V' fun y' => (mapE e' d.keep, mapE V' d.kb) = (mapE e d.keep, mapE V d.kb) ∧ next (x', y') H2
              | q => Q q e' V' H2) (encVals d.vals s.1 (restr d.keep e)) (encBoxes d.boxes s.2 (restr d.kb V)) H'
      | none => False)
    | none => False)
  | _, _, _, _, _ => False

def resF (rs : List ResultVar) (T : List (Nat × TI)) (e : Env) (V : VSt) (K : List Value → Prop) : Prop := match rs with
  | [] => K []
  | .tmp t :: r => onV (e t) fun v => resF r T e V fun vs => K (v :: vs)
  | .cell t ty :: r => onTI T ty fun i => onAV (e t) fun a => (match a with
    | .loc k 0 => (match V k with
      | some x => (match Nat.beq x.2.length i.zs.length with
        | true => mkV i.agg x.2 fun v => resF r T e V fun vs => K (v :: vs)
        | false => False)
      | none => False)
    | _ => False)
def resV (vs : List Value) (K : Value → Prop) : Prop := match vs with
  | [v] => K v
  | vs => K (.tuple vs.toArray)
def retQ (c : Cx) (rs : List ResultVar) (Q : Value → Hp → Prop) : Xt → Env → VSt → Hp → Prop
  | .normal, e, V, H => resF rs c.T e V fun vs => resV vs fun v => Q v H
  | .ret, e, V, H => resF rs c.T e V fun vs => resV vs fun v => Q v H
  | .exit _, _, _, _ => False
def env0 (args : List Value) : Env := fun t => match args[t]? with | some v => some (.v v) | none => none
def wFun (c : Cx) (fn : Func) (args : List Value) (H : Hp) (Q : Value → Hp → Prop) : Prop := match fn.body with
  | some code => (match Nat.beq c.n fn.ntmps, Nat.ble args.length fn.ntmps with
    | true, true => wv c code (retQ c fn.results.toList Q) (env0 args) (fun _ => none) H
    | _, _ => False)
  | none => False
end Go.Proofs.Ytibhpoikhkokiaa.Hs
