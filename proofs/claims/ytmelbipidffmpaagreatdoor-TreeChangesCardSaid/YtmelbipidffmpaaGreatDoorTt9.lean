/- Cn Co Cp HsFa SaD Cq Cr Cs Ct Df Dg Dh (joined by merge.py) -/
import Derived.Test.YtmelbipidffmpaaGreatDoorTt8
import Derived.Test.YtmelbipidffmpaaGreatDoorTt3
import Derived.Test.YtmelbipidffmpaaGreatDoorTt5
import Derived.Sort.Grow
import Derived.Deep.Draws
import Derived.Test.YtmelbipidffmpaaGreatDoorTt4
import Derived.Shelf.SlSortCmp.NoneTotal
/- Nodes grown out of blocks: grown. -/
set_option linter.unusedVariables false
set_option linter.unusedSimpArgs false
set_option linter.unusedSectionVars false
set_option maxRecDepth 20000
namespace Go.Proofs.YtmelbipidffmpaaGreatDoor.Hw
open Go Go.Proofs
def g52 (pt_0_A : Option Addr) (pt_0_n pt_0_c : Nat) (pt_1 : Int) (pt_2 : Int) (pi : Int) (H : Hp) (E : Nat → Hp → Prop) : Prop :=
  newF H 91 [.slice none 0 0, .slice none 0 0] fun g1 H2 => 0 ≤ (pi : Int) ∧ (pi : Int) < ((pt_0_n : Nat) : Int) ∧ onPtr pt_0_A fun b3 o3 => ∃ (A4 : Option Addr) (n4 c4 : Nat), cl H2 b3 ((o3 + (pi : Int).toNat * 2) + 0) = some (.slice A4 n4 c4) ∧ LoopF (σ := (Int × Unit) × Unit) ((0, ()), ()) H2 fun s5 H6 next7 => cnd (decide ((s5.1.1 : Int) < ((n4 : Nat) : Int))) (0 ≤ (s5.1.1 : Int) ∧ (s5.1.1 : Int) < ((n4 : Nat) : Int) ∧ onPtr A4 fun b8 o8 => ∃ (A9 : Option Addr) (n9 c9 : Nat), cl H6 b8 (o8 + (s5.1.1 : Int).toNat * 2) = some (.slice A9 n9 c9) ∧ ∃ x10 : Int, cl H6 b8 ((o8 + (s5.1.1 : Int).toNat * 2) + 1) = some (.int .i64 x10) ∧ ∃ (A11 : Option Addr) (n11 c11 : Nat), cl H6 g1 (0 + 0) = some (.slice A11 n11 c11) ∧ HCalls Tryz.prog 37 [.agg #[.slice A9 n9 c9, .int .i64 x10]] H6 fun v12 H13 => ∃ (A14 : Option Addr) (n14 c14 : Nat), ∃ x15 : Int, v12 = .agg #[.slice A14 n14 c14, .int .i64 x15] ∧ H13 g1 = H6 g1 ∧ newF H13 46 [.slice A14 n14 c14, .int .i64 x15] fun g16 H17 => appendF H17 46 2 32 A11 n11 c11 (some ⟨g16, 0, none⟩) 1 fun A18 n18 c18 H19 => storeF H19 g1 (0 + 0) [.slice A18 n18 c18] fun H20 => KeepX [some (.v (.int .i64 pi)), some (.loc 2 0), some (.v (.pointer (some ⟨g1, 0, none⟩))), some (.v (.slice A4 n4 c4)), some (.v (.int .i64 ((n4 : Nat) : Int)))] [some (true, [.slice pt_0_A pt_0_n pt_0_c, .int .i64 pt_1, .int .i64 pt_2])] ∧ next7 ((IntKind.i64.wrap (s5.1.1 + 1), ()), ()) H20) (E g1 H6)
def e52 (pt_0_A : Option Addr) (pt_0_n pt_0_c : Nat) (pt_1 : Int) (pt_2 : Int) (pi : Int) (Q : Value → Hp → Prop) (g1 : Nat) (H6 : Hp) : Prop :=
  (0 ≤ (pi : Int) ∧ (pi : Int) < ((pt_0_n : Nat) : Int) ∧ onPtr pt_0_A fun b21 o21 => ∃ (A22 : Option Addr) (n22 c22 : Nat), cl H6 b21 ((o21 + (pi : Int).toNat * 2) + 1) = some (.slice A22 n22 c22) ∧ LoopF (σ := (Int × Unit) × Unit) ((0, ()), ()) H6 fun s23 H24 next25 => cnd (decide ((s23.1.1 : Int) < ((n22 : Nat) : Int))) (0 ≤ (s23.1.1 : Int) ∧ (s23.1.1 : Int) < ((n22 : Nat) : Int) ∧ onPtr A22 fun b26 o26 => ∃ x27 : Int, cl H24 b26 (o26 + (s23.1.1 : Int).toNat * 1) = some (.int .i64 x27) ∧ ∃ (A28 : Option Addr) (n28 c28 : Nat), cl H24 g1 (0 + 1) = some (.slice A28 n28 c28) ∧ HCalls Tryz.prog 52 [.agg #[.slice pt_0_A pt_0_n pt_0_c, .int .i64 pt_1, .int .i64 pt_2], .int .i64 x27] H24 fun v29 H30 => ∃ p31 : Option Addr, v29 = .pointer p31 ∧ H30 g1 = H24 g1 ∧ newF H30 86 [.pointer p31] fun g32 H33 => appendF H33 86 1 8 A28 n28 c28 (some ⟨g32, 0, none⟩) 1 fun A34 n34 c34 H35 => storeF H35 g1 (0 + 1) [.slice A34 n34 c34] fun H36 => KeepX [some (.loc 2 0), some (.v (.pointer (some ⟨g1, 0, none⟩))), some (.v (.slice A22 n22 c22)), some (.v (.int .i64 ((n22 : Nat) : Int)))] [some (true, [.slice pt_0_A pt_0_n pt_0_c, .int .i64 pt_1, .int .i64 pt_2])] ∧ next25 ((IntKind.i64.wrap (s23.1.1 + 1), ()), ()) H36) (Q (.pointer (some ⟨g1, 0, none⟩)) H24))

section
variable {X : Hp} {A : Option Addr} {n c : Nat} {root cols : Int} {bl : List NdM}
theorem f52_is {i : Int} {H : Hp} {Q : Value → Hp → Prop} : f52 A n c root cols i H Q = g52 A n c root cols i H (e52 A n c root cols i Q) := rfl
/-- Keys that are new. -/
def NewK (H : Hp) (e : EnM) : Prop := e.key ≠ [] → ∀ q, rowB e.A q → H q = none
theorem grown_es {hh : Nat} {i : Int} {H : Hp} {b : NdM} {E : Nat → Hp → Prop} (hT : TrAt X A n bl) (hX : Ext X H) (h0 : 0 ≤ i) (hb : bl[i.toNat]? = some b) (h8 : b.es.length ≤ 8) (hk : ∀ e ∈ b.es, e.key.length < big)
    (hE : ∀ H6 t, GrowN H H6 hh t → t.ks = [] → t.es.map sayE = b.es.map sayE → (∀ e ∈ t.es, NewK H e) → E t.g H6) : g52 A n c root cols i H E := by
  unfold g52
  intro g1 hg1
  have hn := hT.sl.len
  have hil := (List.getElem?_eq_some_iff.1 hb).1
  have hnd := hT.nd b (List.mem_of_getElem? hb)
  have x2 : Ext H (upd g1 (.cells [Value.slice none 0 0, .slice none 0 0].toArray 91 (0, 0)) H) := Ext.new hg1
  have xx := hX.trans x2
  have N2 : NodeM (upd g1 (.cells [Value.slice none 0 0, .slice none 0 0].toArray 91 (0, 0)) H) (.mk g1 none 0 [] none 0 []) := ⟨⟨91, upd_at⟩, RowO.nil, RowO.nil⟩
  have o1 : own1 (.mk g1 none 0 [] none 0 []) = [g1] := rfl
  have G2 : GrowN H (upd g1 (.cells [Value.slice none 0 0, .slice none 0 0].toArray 91 (0, 0)) H) hh (.mk g1 none 0 [] none 0 []) := ⟨x2, N2, fun u hu => (by cases hu), ⟨by rw [o1]; simp, fun u hu => (by cases hu), List.Pairwise.nil⟩, (fun q hq => by
    rcases own_mem.1 hq with h | ⟨u, hu, _⟩
    · rw [o1, List.mem_singleton] at h; subst h; exact hg1
    · cases hu), (fun e he => by
    rcases he with he | ⟨u, hu, _⟩
    · cases he
    · cases hu)⟩
  refine ⟨by omega, by omega, rd_nd (hT.ext xx).sl hb fun q o _ k1 k2 => ⟨_, _, _, by simpa using k1, ?_⟩⟩
  refine loop_to b.es.length (fun k st H' => st = (((k : Int), ()), ()) ∧ ∃ t, t.g = g1 ∧ GrowN H H' hh t ∧ t.ks = [] ∧ t.es.length = k ∧ t.es.map sayE = (b.es.take k).map sayE ∧ ∀ e ∈ t.es, NewK H e) ⟨rfl, _, rfl, G2, rfl, rfl, rfl, fun e he => by cases he⟩ ?_
  rintro k st H6 next hk' ⟨rfl, t, hg, G, hks, hl, hm, hnew⟩ hnext
  dsimp only
  refine cndI (fun hlt => ?_) fun hlt => ?_
  · have hlt := of_decide_eq_true hlt
    obtain ⟨e, he⟩ := get_of (l := b.es) (i := k) (by omega)
    have hem := List.mem_of_getElem? he
    have hx6 := hX.trans G.ext
    have c0 := G.node.cl0
    rw [hg] at c0
    refine ⟨by omega, by omega, rd_en (hnd.es.ext hx6) he fun q o _ k1 k2 => ⟨_, _, _, by simpa using k1, _, by simpa using k2, _, _, _, c0, ?_⟩⟩
    refine c37n ((hnd.key e hem).ext hx6) (hk e hem) fun e' H13 x13 hsay hke hnw => ⟨_, _, _, _, rfl, ?_, ?_⟩
    · have : H6 g1 ≠ none := by rw [← hg]; exact G.live t.g (own_mem.2 (.inl (by simp [own1])))
      exact ext_at x13 this
    · have G13 := G.more x13
      have st := G13.pushE hke (fun _ q hq h1 => by
        have := G.live q h1
        exact this (hnw q hq)) (by omega) (K := fun H20 => KeepX [some (.v (.int .i64 i)), some (.loc 2 0), some (.v (.pointer (some ⟨g1, 0, none⟩))), some (.v (.slice b.eA b.es.length b.ec)), some (.v (.int .i64 ((b.es.length : Nat) : Int)))] [some (true, [.slice A n c, .int .i64 root, .int .i64 cols])] ∧ next ((IntKind.i64.wrap ((k : Int) + 1), ()), ()) H20) fun H20 A' c' G20 => ⟨rfl, hnext _ _ (by omega) ⟨by rw [wrap_id (by omega) (by omega)]; rfl, .mk t.g A' c' (t.es ++ [e']) t.kA t.kc t.ks, hg, G20, hks, by show (t.es ++ [e']).length = k + 1; simp [hl], ?_, fun x hx => ?_⟩⟩
      · rw [hg] at st
        exact st
      · show (t.es ++ [e']).map sayE = _
        rw [List.map_append, hm, take_snoc he, List.map_append]
        simp [hsay]
      · have hx : x ∈ t.es ++ [e'] := hx
        rcases List.mem_append.1 hx with hx | hx
        · exact hnew x hx
        · rw [List.mem_singleton] at hx; subst hx
          exact fun _ q hq => G.ext.none (hnw q hq)
  · have hlt := of_decide_eq_false hlt
    have : k = b.es.length := by omega
    rw [this, List.take_length] at hm
    have := hE H6 t G hks hm hnew
    rw [hg] at this
    exact this
theorem inter_map {α β : Type} {f : α → β} : ∀ {K : List (List α)} {E : List α}, (inter K E).map f = inter (K.map (List.map f)) (E.map f)
  | [], E => rfl
  | k :: K, [] => by
    show (k ++ inter K []).map f = k.map f ++ inter (K.map (List.map f)) []
    rw [List.map_append, inter_map]; rfl
  | k :: K, e :: E => by
    show (k ++ e :: inter K E).map f = k.map f ++ f e :: inter (K.map (List.map f)) (E.map f)
    rw [List.map_append, List.map_cons, inter_map]
theorem c52 : ∀ {h : Nat} {H : Hp} {i : Int} {bt : BT} {r : Bool} {Q : Value → Hp → Prop}, TrAt X A n bl → Ext X H → AtB bl h i bt → FullB r h bt → (∀ e ∈ flatB h bt, e.key.length < big) →
    (∀ H' t, Ext H H' → MemM H' h t → SepM h t → (∀ q ∈ ownM h t, H q = none) → (flatM h t).map sayE = (flatB h bt).map sayE → FullM bt.es.length 8 h t → (∀ e ∈ flatM h t, KeyAt H' e ∧ NewK H e ∧ (e.key ≠ [] → ∀ q, rowB e.A q → q ∉ ownM h t)) → Q (.pointer (some ⟨t.g, 0, none⟩)) H') →
    HCalls Tryz.prog 52 [.agg #[.slice A n c, .int .i64 root, .int .i64 cols], .int .i64 i] H Q := by
  intro h
  induction h with
  | zero =>
    intro H i bt r Q hT hX hA hF hk hq
    refine f52.ok _ _ _ _ _ _ ?_
    rw [f52_is]
    obtain ⟨hi0, hbk, b, hb, hbe, hbks⟩ := hA
    obtain ⟨f1, f2, f3⟩ := hF
    have hnd := hT.nd b (List.mem_of_getElem? hb)
    have hn := hT.sl.len
    have hil := (List.getElem?_eq_some_iff.1 hb).1
    refine grown_es (hh := 0) hT hX hi0 hb (by rw [hbe]; exact f2) (fun e he => hk e (by rw [hbe] at he; exact he)) fun H6 t G hks hm hnew => ?_
    unfold e52
    refine ⟨by omega, by omega, rd_nd (hT.ext (hX.trans G.ext)).sl hb fun q o _ k1 k2 => ⟨_, _, _, by simpa using k2, ?_⟩⟩
    refine loop_to 0 (fun k st H' => st = ((0, ()), ()) ∧ H' = H6) ⟨rfl, rfl⟩ ?_
    rintro k st H24 next hk' ⟨rfl, rfl⟩ hnext
    dsimp only
    have hl : t.es.length = bt.es.length := by have := congrArg List.length hm; rw [hbe] at this; simpa using this
    refine cndF (by rw [hbks]; rfl) (hq H24 t G.ext ⟨G.node, hks⟩ G.sep.1 (fun q hq => G.hid q (own_mem.2 (.inl hq))) (by rw [hbe] at hm; exact hm) ⟨hks, by omega, by omega⟩ fun e he => ?_)
    obtain ⟨z1, z2⟩ := G.key e (.inl he)
    exact ⟨z1, hnew e he, fun h0 q hq h1 => z2 h0 q hq (own_mem.2 (.inl h1))⟩
  | succ h ih =>
    intro H i bt r Q hT hX hA hF hk hq
    refine f52.ok _ _ _ _ _ _ ?_
    rw [f52_is]
    obtain ⟨hi0, b, hb, hbe, hbl, hkid⟩ := hA
    obtain ⟨f1, f2, f3, f4, f5⟩ := hF
    have hnd := hT.nd b (List.mem_of_getElem? hb)
    have hn := hT.sl.len
    have hil := (List.getElem?_eq_some_iff.1 hb).1
    have hmem : ∀ x, x ∈ flatB (h + 1) bt ↔ x ∈ bt.es ∨ ∃ k ∈ bt.ks.map (flatB h), x ∈ k := fun x => inter_mem (by rw [List.length_map]; exact f1)
    refine grown_es (hh := h) hT hX hi0 hb (by rw [hbe]; exact f2) (fun e he => hk e ((hmem e).2 (.inl (by rw [← hbe]; exact he)))) fun H6 t G hks hm hnew => ?_
    unfold e52
    have hbks : b.ks.length = bt.es.length + 1 := by omega
    refine ⟨by omega, by omega, rd_nd (hT.ext (hX.trans G.ext)).sl hb fun q o _ k1 k2 => ⟨_, _, _, by simpa using k2, ?_⟩⟩
    refine loop_to b.ks.length (fun k st H' => st = (((k : Int), ()), ()) ∧ ∃ t', t'.g = t.g ∧ t'.es = t.es ∧ GrowN H H' h t' ∧ t'.ks.length = k ∧ (t'.ks.map (flatM h)).map (List.map sayE) = ((bt.ks.take k).map (flatB h)).map (List.map sayE) ∧ (∀ u ∈ t'.ks, FullM 3 8 h u) ∧ ∀ e, (e ∈ t'.es ∨ ∃ u ∈ t'.ks, e ∈ flatM h u) → NewK H e)
      ⟨rfl, t, rfl, rfl, G, by rw [hks]; rfl, by rw [hks]; rfl, (fun u hu => by rw [hks] at hu; cases hu), (fun e he => by
        rcases he with he | ⟨u, hu, _⟩
        · exact hnew e he
        · rw [hks] at hu; cases hu)⟩ ?_
    rintro k st H24 next hk' ⟨rfl, t', hg, hes, G', hl, hfm, hfull, hnk⟩ hnext
    dsimp only
    refine cndI (fun hlt => ?_) fun hlt => ?_
    · have hlt := of_decide_eq_true hlt
      obtain ⟨x, hx⟩ := get_of (l := b.ks) (i := k) (by omega)
      obtain ⟨v, hv⟩ := get_of (l := bt.ks) (i := k) (by omega)
      have hvm := List.mem_of_getElem? hv
      have c1 := G'.node.cl1
      rw [hg] at c1
      have hx24 := hX.trans G'.ext
      refine ⟨by omega, by omega, rd_in (hnd.ks.ext hx24) hx fun q o _ kc => ⟨x, by simpa using kc, _, _, _, c1, ?_⟩⟩
      refine ih hT hx24 (hkid k x v hx hv) (f5 v hvm) (fun e he => hk e ((hmem e).2 (.inr ⟨_, List.mem_map_of_mem hvm, he⟩))) fun H30 u x30 Mu Su hidu hsu Fu ku => ⟨_, rfl, ?_, ?_⟩
      · have : H24 t.g ≠ none := by rw [← hg]; exact G'.live t'.g (own_mem.2 (.inl (by simp [own1])))
        exact ext_at x30 this
      · have G30 := G'.more x30
        have back : ∀ q, H24 q = none → H q = none := fun q hq => G'.ext.none hq
        have st := G30.pushK Mu Su (fun q hq => ⟨back q (hidu q hq), fun h1 => G'.live q h1 (hidu q hq)⟩) (fun e he => by
            obtain ⟨z1, z2, z3⟩ := ku e he
            exact ⟨z1, fun h0 q hq => ⟨fun h1 => G'.live q h1 (z2 h0 q hq), z3 h0 q hq⟩⟩)
          (fun e he h0 q hq h1 => (G'.key e he).1.live h0 hq (hidu q h1)) (by omega)
          (K := fun H36 => KeepX [some (.loc 2 0), some (.v (.pointer (some ⟨t.g, 0, none⟩))), some (.v (.slice b.kA b.ks.length b.kc)), some (.v (.int .i64 ((b.ks.length : Nat) : Int)))] [some (true, [.slice A n c, .int .i64 root, .int .i64 cols])] ∧ next ((IntKind.i64.wrap ((k : Int) + 1), ()), ()) H36) fun H36 A' c' G36 => ⟨rfl, hnext _ _ (by omega) ⟨by rw [wrap_id (by omega) (by omega)]; rfl, .mk t'.g t'.eA t'.ec t'.es A' c' (t'.ks ++ [u]), hg, hes, G36, by show (t'.ks ++ [u]).length = k + 1; simp [hl], ?_, fun w hw => ?_, fun e he => ?_⟩⟩
        · rw [hg] at st
          exact st
        · show ((t'.ks ++ [u]).map (flatM h)).map (List.map sayE) = _
          rw [List.map_append, List.map_append, hfm, take_snoc hv, List.map_append, List.map_append]
          simp [hsu]
        · have hw : w ∈ t'.ks ++ [u] := hw
          rcases List.mem_append.1 hw with hw | hw
          · exact hfull w hw
          · rw [List.mem_singleton] at hw; subst hw
            have hv3 : 3 ≤ v.es.length := by
              have := f5 v hvm
              cases h with
              | zero => rcases this.2.2 with h | h; cases h; exact h
              | succ h => rcases this.2.2.1 with h | h; cases h; exact h
            exact Fu.lower hv3
        · rcases he with he | ⟨w, hw, he⟩
          · exact hnk e (.inl he)
          · have hw : w ∈ t'.ks ++ [u] := hw
            rcases List.mem_append.1 hw with hw | hw
            · exact hnk e (.inr ⟨w, hw, he⟩)
            · rw [List.mem_singleton] at hw; subst hw
              exact fun h0 q hq => back q ((ku e he).2.1 h0 q hq)
    · have hlt := of_decide_eq_false hlt
      have hkk : k = b.ks.length := by omega
      rw [hkk, List.take_of_length_le (by omega)] at hfm
      have hle : t'.es.length = bt.es.length := by rw [hes]; have := congrArg List.length hm; rw [hbe] at this; simpa using this
      have hin : ∀ e ∈ flatM (h + 1) t', e ∈ t'.es ∨ ∃ u ∈ t'.ks, e ∈ flatM h u := fun e he => by
        have := (inter_mem (by rw [List.length_map]; omega)).1 he
        rcases this with h1 | ⟨l, hl', h1⟩
        · exact .inl h1
        · obtain ⟨u, hu, rfl⟩ := List.mem_map.1 hl'
          exact .inr ⟨u, hu, h1⟩
      have := hq H24 t' G'.ext ⟨G'.node, G'.mem⟩ G'.sep G'.hid (by
        show (inter (t'.ks.map (flatM h)) t'.es).map sayE = (inter (bt.ks.map (flatB h)) bt.es).map sayE
        rw [inter_map, inter_map, hfm, hes, hm, hbe]) ⟨by omega, by omega, by omega, hfull⟩ fun e he => by
        obtain ⟨z1, z2⟩ := G'.key e (hin e he)
        exact ⟨z1, hnk e (hin e he), z2⟩
      rw [hg] at this
      exact this
end
end Go.Proofs.YtmelbipidffmpaaGreatDoor.Hw

/- Insert. -/
set_option linter.unusedVariables false
set_option linter.unusedSimpArgs false
set_option linter.unusedSectionVars false
set_option maxRecDepth 20000
namespace Go.Proofs.YtmelbipidffmpaaGreatDoor.Hw
open Go Go.Proofs
theorem ord_say {a b a' b' : EnM} (h1 : sayE a = sayE a') (h2 : sayE b = sayE b') : ordE a b = ordE a' b' := by
  have k1 : a.key = a'.key := congrArg Prod.fst h1
  have k2 : a.id = a'.id := congrArg Prod.snd h1
  have k3 : b.key = b'.key := congrArg Prod.fst h2
  have k4 : b.id = b'.id := congrArg Prod.snd h2
  unfold ordE
  rw [k1, k2, k3, k4]
theorem ent_say {cols : Int} {a a' : EnM} (h1 : sayE a = sayE a') : entB cols a = entB cols a' := by
  have k1 : a.key = a'.key := congrArg Prod.fst h1
  have k2 : a.id = a'.id := congrArg Prod.snd h1
  unfold entB
  rw [k1, k2]
theorem say_get {l l' : List EnM} (h : l.map sayE = l'.map sayE) {i : Nat} {x : EnM} (hx : l[i]? = some x) : ∃ y, l'[i]? = some y ∧ sayE y = sayE x := by
  have h1 := congrArg (fun l => l[i]?) h
  simp only [List.getElem?_map, hx, Option.map_some] at h1
  cases hy : l'[i]? with
  | none => rw [hy] at h1; cases h1
  | some y => rw [hy] at h1; exact ⟨y, rfl, (Option.some.inj h1).symm⟩
theorem say_mem {l l' : List EnM} (h : l.map sayE = l'.map sayE) {x : EnM} (hx : x ∈ l) : ∃ y ∈ l', sayE y = sayE x := by
  obtain ⟨i, hi⟩ := List.mem_iff_getElem?.1 hx
  obtain ⟨y, hy, e⟩ := say_get h hi
  exact ⟨y, List.mem_of_getElem? hy, e⟩
theorem srt_say {l l' : List EnM} (h : l.map sayE = l'.map sayE) (hs : SrtE l) : SrtE l' := by
  unfold SrtE at hs ⊢
  rw [List.pairwise_iff_getElem] at hs ⊢
  intro i j hi hj hij
  obtain ⟨x, hx, ex⟩ := say_get h.symm (List.getElem?_eq_getElem hi)
  obtain ⟨y, hy, ey⟩ := say_get h.symm (List.getElem?_eq_getElem hj)
  obtain ⟨a1, a2⟩ := List.getElem?_eq_some_iff.1 hx
  obtain ⟨a3, a4⟩ := List.getElem?_eq_some_iff.1 hy
  have := hs i j a1 a3 hij
  rw [a2, a4] at this
  rw [← ord_say ex ey]; exact this
theorem has_false {l : List EnM} {e : EnM} (hs : SrtE l) (h : hasE l e = false) : ∀ x ∈ l, ordE x e ≠ 0 := fun x hx h0 => by
  obtain ⟨j, hj⟩ := List.mem_iff_getElem?.1 hx
  have hjl := (List.getElem?_eq_some_iff.1 hj).1
  have hc : cntE l e = j := take_is (p := fun x => decide (ordE x e < 0)) (fun i a hi ha => by
    have h1 : ordE a x < 0 := by
      have h2 := hs.le (by omega : i ≤ j) ha hj
      obtain ⟨a1, a2⟩ := List.getElem?_eq_some_iff.1 ha
      obtain ⟨a3, a4⟩ := List.getElem?_eq_some_iff.1 hj
      have := List.pairwise_iff_getElem.1 hs i j a1 a3 hi
      rw [a2, a4] at this; exact this
    exact decide_eq_true (ordE_ok.lt_of h1 (by omega))) (fun a ha => by
    rw [hj] at ha; cases ha
    exact decide_eq_false (by omega)) (by omega)
  unfold hasE at h
  rw [hc, hj] at h
  have h : (ordE x e == 0) = false := h
  rw [h0] at h; cases h
theorem has_true {l : List EnM} {e : EnM} (h : hasE l e = true) : ∃ x ∈ l, ordE x e = 0 := by
  unfold hasE at h
  cases hg : l[cntE l e]? with
  | none => rw [hg] at h; cases h
  | some x =>
    rw [hg] at h
    exact ⟨x, List.mem_of_getElem? hg, by simpa using h⟩
/-- What an entry put into a list says. -/
def PutS (l : List EnM) (e : EnM) (l' : List EnM) : Prop := ∃ a b, l = a ++ b ∧ l'.map sayE = a.map sayE ++ sayE e :: b.map sayE ∧ (∀ x ∈ a, ordE x e < 0) ∧ ∀ x ∈ b, ordE e x < 0
theorem Put.says {l0 l l' : List EnM} {e0 e : EnM} (h : Put l e l') (hl : l.map sayE = l0.map sayE) (he : sayE e = sayE e0) : PutS l0 e0 l' := by
  obtain ⟨a, b, rfl, rfl, ha, hb⟩ := h
  have hlen : l0.length = a.length + b.length := by have := congrArg List.length hl; simp at this; omega
  have h1 : (l0.take a.length).map sayE = a.map sayE := by rw [List.map_take, ← hl, List.map_append, List.take_left' (by simp)]
  have h2 : (l0.drop a.length).map sayE = b.map sayE := by rw [List.map_drop, ← hl, List.map_append, List.drop_left' (by simp)]
  refine ⟨l0.take a.length, l0.drop a.length, (List.take_append_drop _ _).symm, by rw [h1, h2, List.map_append, List.map_cons, he], fun x hx => ?_, fun x hx => ?_⟩
  · obtain ⟨y, hy, e1⟩ := say_mem h1 hx
    rw [← ord_say e1 he]; exact ha y hy
  · obtain ⟨y, hy, e1⟩ := say_mem h2 hx
    rw [← ord_say he e1]; exact hb y hy
/-- Memory without some blocks. -/
def hideH (O : List Nat) (H : Hp) : Hp := fun b => if b ∈ O then none else H b
theorem hide_ext {O : List Nat} {H : Hp} : Ext (hideH O H) H := fun b o h => by
  unfold hideH at h
  split at h
  · cases h
  · exact h
theorem hide_in {O : List Nat} {H : Hp} {q : Nat} (h : q ∈ O) : hideH O H q = none := if_pos h
theorem KeyAt.hide {O : List Nat} {H : Hp} {e : EnM} (h : KeyAt H e) (hk : e.key ≠ [] → ∀ q, rowB e.A q → q ∉ O) : KeyAt (hideH O H) e := h.stay fun h0 q hq _ => if_neg (hk h0 q hq)
section
variable {H : Hp} {A : Option Addr} {n c : Nat} {root cols : Int} {bl : List NdM} {Q : Value → Hp → Prop} {e : EnM}
/-- What Insert answers, in a number. -/
def insCode (t : Option Sv) (cols : Int) (e : EnM) : Int := match t with
  | none => 2
  | some S => if entB cols e = true then (if hasE S.out e = true then 14 else if 4000 ≤ S.out.length then 3 else 0) else 2
theorem out_root {h : Nat} {H1 : Hp} {t : MT} {lo : Nat} {X : Hp} (M : MemM H1 h t) (S : SepM h t) (F : FullM lo 9 h t) (hlo : h = 0 ∨ 1 ≤ lo) (hX : Ext X H1) (hid : ∀ q ∈ ownM h t, X q = none) (hkey : ∀ x ∈ flatM h t, KeyAt X x) (hc : 1 ≤ cols ∧ cols ≤ 20) (hs : SrtE (flatM h t)) (he : ∀ x ∈ flatM h t, entB cols x = true) (hn : (flatM h t).length ≤ 4000)
    {J : Option Addr → Hp → Prop} (hJ : ∀ (h' : Nat) (t' : MT) (lo' : Nat) (H' : Hp), MemM H' h' t' → FullM lo' 8 h' t' → (h' = 0 ∨ 1 ≤ lo') → Ext X H' → flatM h' t' = flatM h t → SepM h' t' → (∀ q ∈ ownM h' t', X q = none) → J (some ⟨t'.g, 0, none⟩) H') :
    ∃ (A29 : Option Addr) (n29 c29 : Nat), cl H1 t.g (0 + 0) = some (.slice A29 n29 c29) ∧ cnd (decide (((n29 : Nat) : Int) > 8))
      (HCalls Tryz.prog 54 [.pointer (some ⟨t.g, 0, none⟩)] H1 fun v30 H31 => ∃ (A32 : Option Addr) (n32 c32 : Nat), ∃ x33 : Int, ∃ p34 : Option Addr, v30 = .tuple #[.agg #[.slice A32 n32 c32, .int .i64 x33], .pointer p34] ∧ newF H31 46 [.slice A32 n32 c32, .int .i64 x33] fun g35 H36 => newF H36 86 [.pointer (some ⟨t.g, 0, none⟩), .pointer p34] fun g37 H38 => newF H38 91 [.slice (some ⟨g35, 0, none⟩) 1 1, .slice (some ⟨g37, 0, none⟩) 2 2] fun g39 H40 => J (some ⟨g39, 0, none⟩) H40)
      (J (some ⟨t.g, 0, none⟩) H1) := by
  refine ⟨_, _, _, M.node.cl0, cndI (fun h8 => ?_) fun h8 => ?_⟩
  · have h8 := of_decide_eq_true h8
    refine c54m M S F (by omega) fun H31 tl tr mid Ml Mr Sl Sr ap Fl Fr hgl hflat nl nr F31 => ⟨_, _, _, _, _, rfl, fun g35 hg35 g37 hg37 g39 hg39 => ?_⟩
    have x36 : Ext H31 (upd g35 (.cells (enC mid).toArray 46 (0, 0)) H31) := Ext.new hg35
    have x38 := Ext.new (o := .cells [Value.pointer (some ⟨t.g, 0, none⟩), .pointer (some ⟨tr.g, 0, none⟩)].toArray 86 (0, 0)) hg37
    have x40 := Ext.new (o := .cells [Value.slice (some ⟨g35, 0, none⟩) 1 1, .slice (some ⟨g37, 0, none⟩) 2 2].toArray 91 (0, 0)) hg39
    have xx := x36.trans (x38.trans x40)
    have hX31 : Ext X H31 := F31.ext hX hid
    refine hJ (h + 1) (.mk g39 (some ⟨g35, 0, none⟩) 1 [mid] (some ⟨g37, 0, none⟩) 2 [tl, tr]) 1 _ ⟨⟨⟨91, upd_at⟩, ?_, ?_⟩, fun u hu => ?_⟩ ⟨rfl, Nat.le_refl _, by simp [MT.es], fun u hu => ?_⟩ (.inr (Nat.le_refl _)) (hX31.trans xx) ?_ ?_ ?_
    · refine ⟨rfl, Nat.le_refl _, .inr ⟨g35, 0, enC mid, 46, rfl, (x38.trans x40) _ _ upd_at, (by show 0 + 1 * 2 ≤ 2; omega), fun j v hj => ?_⟩⟩
      rw [Nat.zero_add]; simpa [MT.es] using hj
    · refine ⟨rfl, Nat.le_refl _, .inr ⟨g37, 0, [Value.pointer (some ⟨t.g, 0, none⟩), .pointer (some ⟨tr.g, 0, none⟩)], 86, rfl, x40 _ _ upd_at, (by show 0 + 2 * 1 ≤ 2; omega), fun j v hj => ?_⟩⟩
      rw [Nat.zero_add]
      have : ([tl, tr].flatMap ptC)[j]? = some v := hj
      simp only [List.flatMap_cons, List.flatMap_nil, ptC, hgl] at this
      exact this
    · have hu : u ∈ [tl, tr] := hu
      rcases List.mem_cons.1 hu with rfl | hu
      · exact Ml.ext xx
      · rw [List.mem_singleton] at hu; subst hu; exact Mr.ext xx
    · have hu : u ∈ [tl, tr] := hu
      rcases List.mem_cons.1 hu with rfl | hu
      · exact Fl
      · rw [List.mem_singleton] at hu; subst hu; exact Fr
    · show inter ([tl, tr].map (flatM h)) [mid] = _
      rw [hflat]
      simp [inter]
    · have l31 : ∀ q, (q ∈ ownM h tl ∨ q ∈ ownM h tr) → H31 q ≠ none := fun q hq => hq.elim (Ml.live q) (Mr.live q)
      have e37 : g37 ≠ g35 := fun e => by subst e; rw [upd_at] at hg37; cases hg37
      have e39 : g39 ≠ g35 ∧ g39 ≠ g37 := by
        refine ⟨fun e => ?_, fun e => ?_⟩
        · subst e
          have := x38 _ _ (upd_at (t := g39) (a := Obj.cells (enC mid).toArray 46 (0, 0)) (e := H31))
          rw [hg39] at this; cases this
        · subst e; rw [upd_at] at hg39; cases hg39
      have n37 : H31 g37 = none := x36.none hg37
      have n39 : H31 g39 = none := x36.none (x38.none hg39)
      have o1 : ∀ q, q ∈ own1 (.mk g39 (some ⟨g35, 0, none⟩) 1 [mid] (some ⟨g37, 0, none⟩) 2 [tl, tr]) ↔ q = g39 ∨ q = g35 ∨ q = g37 := fun q => by
        show q ∈ [g39, g35, g37] ↔ _
        simp
      have on : ∀ q, q ∈ own1 (.mk g39 (some ⟨g35, 0, none⟩) 1 [mid] (some ⟨g37, 0, none⟩) 2 [tl, tr]) → H31 q = none := fun q hq => by
        rcases (o1 q).1 hq with rfl | rfl | rfl
        · exact n39
        · exact hg35
        · exact n37
      refine ⟨?_, fun u hu => ?_, ?_⟩
      · show ([g39, g35, g37] : List Nat).Nodup
        simp [e39.1, e39.2, Ne.symm e37]
      · have hu : u ∈ [tl, tr] := hu
        rcases List.mem_cons.1 hu with rfl | hu
        · exact ⟨Sl, fun q hq h1 => l31 q (.inl hq) (on q h1)⟩
        · rw [List.mem_singleton] at hu; subst hu
          exact ⟨Sr, fun q hq h1 => l31 q (.inr hq) (on q h1)⟩
      · show [tl, tr].Pairwise (Apart h)
        simp [ap]
    · intro q hq
      rcases own_mem.1 hq with h1 | ⟨u, hu, h1⟩
      · refine hX31.none ?_
        have h1 : q ∈ [g39, g35, g37] := h1
        simp only [List.mem_cons, List.not_mem_nil, or_false] at h1
        rcases h1 with rfl | rfl | rfl
        · exact x36.none (x38.none hg39)
        · exact hg35
        · exact x36.none hg37
      · have hu : u ∈ [tl, tr] := hu
        have h2 : q ∈ ownM h t ∨ H1 q = none := by
          rcases List.mem_cons.1 hu with rfl | hu
          · exact nl q h1
          · rw [List.mem_singleton] at hu; subst hu; exact nr q h1
        rcases h2 with h2 | h2
        · exact hid q h2
        · exact hX.none h2
  · have h8 := of_decide_eq_false h8
    refine hJ h t lo H1 M ?_ hlo hX rfl S hid
    cases h with
    | zero => exact ⟨F.1, F.2.1, by omega⟩
    | succ h => exact ⟨F.1, F.2.1, by omega, F.2.2.2⟩
theorem c25 (N : NullAt H) (hT : TrAt H A n bl) (hF : Fewish bl) (hK : KeyAt H e)
    (h0 : insCode (treeV bl root cols) cols e ≠ 0 → ∀ H', Ext H H' → Q (.tuple #[.agg #[.slice none 0 0, .int .i64 0, .int .i64 0], .int .i64 (insCode (treeV bl root cols) cols e)]) H')
    (h1 : ∀ S, treeV bl root cols = some S → insCode (treeV bl root cols) cols e = 0 → ∀ H' A' c' bl' l' dep, Ext H H' → OutT H' A' bl' cols l' dep → PutS S.out e l' → Q (.tuple #[.agg #[.slice A' bl'.length c', .int .i64 0, .int .i64 cols], .int .i64 0]) H') :
    HCalls Tryz.prog 25 [.agg #[.slice A n c, .int .i64 root, .int .i64 cols], enA e] H Q := by
  refine f25.ok _ _ _ _ _ _ _ _ _ ?_
  unfold f25
  refine c36 N hT hF (fun h H2 hx => ⟨_, _, rfl, ?_⟩) fun S h hl hk g gs oA oc H2 W => ⟨_, _, rfl, ?_⟩
  · refine jn_intro (fun J => ∀ H', Ext H H' → J true H') (fun H9 x9 => cndT rfl ?_) fun J hJ => cndT rfl (hJ H2 hx)
    have : insCode (treeV bl root cols) cols e = 2 := by rw [h]; rfl
    rw [this] at h0
    exact h0 (by decide) H9 x9
  have hob : S.out.length < huge := by unfold huge; omega
  obtain ⟨hs, hgd, hh, bt, a1, a2, a3, a4, a5⟩ := tree_of h
  have hent := good_ent hgd
  have hsrt := good_srt hgd
  have hW := W.ext
  have hcode : insCode (treeV bl root cols) cols e = if entB cols e = true then (if hasE S.out e = true then 14 else if 4000 ≤ S.out.length then 3 else 0) else 2 := by rw [h]; rfl
  refine jn_intro (fun J => (entB cols e = false → J true H2) ∧ (entB cols e = true → J false H2)) ⟨fun hb => cndT rfl ?_, fun hb => cndF rfl ?_⟩ fun J hJ => cndF rfl (c49 (N.ext hW) (hK.ext hW) ⟨_, rfl, ?_⟩)
  · rw [hcode, if_neg (by rw [hb]; decide)] at h0
    exact h0 (by decide) H2 hW
  · rw [hb] at hcode
    simp only [if_true] at hcode
    refine ⟨_, _, _, W.cl 5, c50 (outAt W hob) (fun x hx => (hk x hx).ext hW) (hK.ext hW) hsrt (by unfold big; omega) fun H14 x14 => ⟨_, _, rfl, cndI (fun hhas => ?_) fun hhas => ?_⟩⟩
    · rw [hcode, if_pos hhas] at h0
      exact h0 (by decide) H14 (hW.trans x14)
    have W14 := W.more x14
    rw [if_neg (by rw [hhas]; decide)] at hcode
    refine ⟨_, _, _, W14.cl 5, cndI (fun hlim => ?_) fun hlim => ?_⟩
    · have hlim := of_decide_eq_true hlim
      rw [hcode, if_pos (by omega)] at h0
      exact h0 (by decide) H14 W14.ext
    have hlim := of_decide_eq_false hlim
    rw [if_neg (by omega)] at hcode
    have hne := has_false hsrt hhas
    have hlenS : ∀ x ∈ S.out, x.key.length < big := fun x hx => by
      have := (ent_len (hent x hx)).1
      have := hs.2.1
      unfold big; omega
    have hke : e.key.length < big := by
      have := (ent_len hb).1
      have := hs.2.1
      unfold big; omega
    refine c52 (r := true) (bt := bt) hT W14.ext a1 a2 (fun x hx => hlenS x (by rw [a3]; exact hx)) fun H20 t x20 M Sp hid hsay Fu kt => ⟨_, rfl, ?_⟩
    refine c37n ((hK.ext W14.ext).ext x20) hke fun e' H23 x23 hsay' hke' hnw => ⟨_, _, _, _, rfl, ?_⟩
    rw [← a3] at hsay
    have M23 := M.ext x23
    have liveT := M.live
    have kX : ∀ x ∈ flatM hh t, KeyAt (hideH (ownM hh t) H23) x := fun x hx => ((kt x hx).1.ext x23).hide (kt x hx).2.2
    have keX : KeyAt (hideH (ownM hh t) H23) e' := hke'.hide fun _ q hq h1 => liveT q h1 (hnw q hq)
    have srtT : SrtE (flatM hh t) := srt_say hsay.symm hsrt
    have neT : ∀ x ∈ flatM hh t, ordE x e' ≠ 0 := fun x hx => by
      obtain ⟨y, hy, e1⟩ := say_mem hsay hx
      rw [← ord_say e1 hsay'.symm]; exact hne y hy
    refine c53 M23 Sp Fu hide_ext kX keX (fun q hq => hide_in hq) srtT neT fun H27 t' M27 S27 F27 hg27 P27 Fr27 => ⟨rfl, ?_⟩
    have hX27 : Ext (hideH (ownM hh t) H23) H27 := Fr27.ext hide_ext fun q hq => hide_in hq
    have hid27 := Fr27.hid hide_ext fun q hq => hide_in hq
    have hk27 : ∀ x ∈ flatM hh t', KeyAt (hideH (ownM hh t) H23) x := fun x hx => by
      rcases (P27.mem).1 hx with rfl | h
      · exact keX
      · exact kX x h
    have ent27 : ∀ x ∈ flatM hh t', entB cols x = true := fun x hx => by
      rcases (P27.mem).1 hx with rfl | h
      · rw [ent_say hsay']; exact hb
      · obtain ⟨y, hy, e1⟩ := say_mem hsay h
        rw [← ent_say e1]; exact hent y hy
    have len27 : (flatM hh t').length ≤ 4000 := by
      obtain ⟨a, b, q1, q2, _, _⟩ := P27
      have : (flatM hh t).length = S.out.length := by have := congrArg List.length hsay; simpa using this
      rw [q1] at this
      rw [q2]
      simp at this ⊢
      omega
    have srt27 := P27.srt srtT
    have hH : Ext H (hideH (ownM hh t) H23) := fun q o hq => by
      have h1 := x23 q o (x20 q o (W14.ext q o hq))
      show (if q ∈ ownM hh t then none else H23 q) = _
      rw [if_neg, h1]
      intro hm
      have := W14.ext.none (hid q hm)
      rw [this] at hq; cases hq
    refine jn_intro (fun J => ∀ (h' : Nat) (t2 : MT) (lo' : Nat) (H' : Hp), MemM H' h' t2 → FullM lo' 8 h' t2 → (h' = 0 ∨ 1 ≤ lo') → Ext (hideH (ownM hh t) H23) H' → flatM h' t2 = flatM hh t' → SepM h' t2 → (∀ q ∈ ownM h' t2, hideH (ownM hh t) H23 q = none) → J (some ⟨t2.g, 0, none⟩) H') (fun h' t2 lo' H' M2 F2 l2 X2 e2 _ _ => ?_) fun J hJ => ?_
    · refine c55 (lo := lo') M2 F2 l2 ⟨hs.1, hs.2.1⟩ ?_ (by rw [e2]; exact srt27) (by rw [e2]; exact ent27) (by rw [e2]; exact fun x hx => (hk27 x hx).ext X2) fun H5 A5 c5 bl5 x5 O5 => ⟨_, _, _, _, _, rfl, ?_⟩
      · have := size_le (F2.widen (hi' := 1000) (by omega))
        rw [e2] at this
        omega
      · rw [e2] at O5
        exact h1 S h hcode H5 A5 c5 bl5 _ _ (hH.trans (X2.trans x5)) O5 (P27.says hsay hsay')
    · rw [← hg27]
      exact out_root M27 S27 F27 (by
        cases hh with
        | zero => exact .inl rfl
        | succ hh => exact .inr a2.2.2.2.1) hX27 hid27 hk27 ⟨hs.1, hs.2.1⟩ srt27 ent27 len27 (J := J) hJ
  · cases hb : entB cols e with
    | true => exact hJ.2 hb
    | false => exact hJ.1 hb
end
end Go.Proofs.YtmelbipidffmpaaGreatDoor.Hw

/- Make: what asks all entries; the clone as a row. -/
set_option linter.unusedVariables false
set_option linter.unusedSimpArgs false
set_option linter.unusedSectionVars false
set_option maxRecDepth 20000
namespace Go.Proofs.YtmelbipidffmpaaGreatDoor.Hw
open Go Go.Proofs
section
variable {H : Hp} {A : Option Addr} {n c : Nat} {cols : Int} {Q : Value → Hp → Prop}
theorem c61 {e : EnM} {g : Nat} (N : NullAt H) (hK : KeyAt H e) (hg : cl H g 0 = some (.int .i64 cols)) (hq : Q (.bool (!entB cols e)) H) : HCalls Tryz.prog 61 [enA e, .pointer (some ⟨g, 0, none⟩)] H Q := by
  refine f61.ok _ _ _ _ _ _ ?_
  unfold f61
  exact ⟨cols, hg, c49 N hK ⟨_, rfl, hq⟩⟩
theorem c86 {l : List EnM} {g : Nat} (N : NullAt H) (hl : SlAt enC H A n l) (hk : ∀ e ∈ l, KeyAt H e) (hg : cl H g 0 = some (.int .i64 cols)) (hq : ∀ r : Int, decide (r ≥ 0) = !l.all (entB cols) → Q (.int .i64 r) H) : HCalls Tryz.prog 86 [.slice A n c, .func (.func 61) #[] #[.pointer (some ⟨g, 0, none⟩)]] H Q := by
  refine f86.ok _ _ _ _ _ _ ?_
  unfold f86
  obtain rfl := hl.len
  refine scan hl.lt (fun i H' => H' = H ∧ (l.take i).all (entB cols) = true) ⟨rfl, by simp⟩ (fun i H2 next hi hI hnext => ?_) (fun H2 next hI => ?_)
  · obtain ⟨rfl, hall⟩ := hI
    obtain ⟨x, hx⟩ := get_of hi
    dsimp only
    refine cndT (decide_eq_true (by omega)) ⟨by omega, by omega, rd_en hl hx fun q o _ k1 k2 => ⟨_, _, _, by simpa using k1, _, by simpa using k2, fnOk 61 rfl, c61 (e := x) N (hk x (List.mem_of_getElem? hx)) hg ⟨_, rfl, cndI (fun h => hq _ ?_) fun h => ⟨rfl, hnext H2 ⟨rfl, ?_⟩⟩⟩⟩⟩
    · rw [all_miss hx (by simpa using h), decide_eq_true (by omega)]; rfl
    · rw [all_take_succ hx, hall]
      have : entB cols x = true := by simpa using h
      rw [this]; rfl
  · obtain ⟨rfl, hall⟩ := hI
    rw [List.take_length] at hall
    dsimp only
    refine cndF (decide_eq_false (by omega)) (hq _ ?_)
    rw [hall]; rfl
theorem c60 {l : List EnM} {g : Nat} (N : NullAt H) (hl : SlAt enC H A n l) (hk : ∀ e ∈ l, KeyAt H e) (hg : cl H g 0 = some (.int .i64 cols)) (hq : Q (.bool (!l.all (entB cols))) H) : HCalls Tryz.prog 60 [.slice A n c, .func (.func 61) #[] #[.pointer (some ⟨g, 0, none⟩)]] H Q := by
  refine f60.ok _ _ _ _ _ _ ?_
  unfold f60
  exact c86 N hl hk hg fun r hr => ⟨r, rfl, by rw [hr]; exact hq⟩
/-- The clone, as a row that is new. -/
theorem c62r {l : List EnM} (hA : cellsAt H A (l.flatMap enC)) (hn : n = l.length) (hs : n * 32 ≤ 140737488355328) (hq : ∀ A' c' H', Ext H H' → Row H H' A' n c' 2 (l.flatMap enC) → Q (.slice A' n c') H') : HCalls Tryz.prog 62 [.slice A n c] H Q := by
  refine f62.ok _ _ _ ?_
  unfold f62
  have hfl : (l.flatMap enC).length = n * 2 := by rw [hn]; exact flat_length fun x _ => enC_len x
  refine cndI (fun h => ?_) fun h g1 hg1 => ?_
  · have hA0 : A = none := by cases A with | none => rfl | some a => cases h
    have h0 : l.flatMap enC = [] := by
      rcases hA with h' | ⟨b, o, e, _⟩
      · exact h'
      · rw [hA0] at e; cases e
    have hn0 : n = 0 := by rw [h0] at hfl; simp at hfl; omega
    subst hn0
    rw [h0] at hq
    exact hq none 0 H (Ext.refl _) Row.nil
  · have x1 : Ext H (upd g1 (Obj.cells [].toArray 46 (0, 0)) H) := Ext.new hg1
    have R0 : Row H (upd g1 (Obj.cells [].toArray 46 (0, 0)) H) (some ⟨g1, 0, none⟩) 0 0 2 [] := ⟨by simp, Nat.le_refl _, .inr ⟨g1, [], 46, rfl, upd_at, by simp, by simp, hg1⟩⟩
    refine R0.append x1 (cellsAt_ext x1 hA) hfl en_one (by omega) (by omega) fun A' c' H' R' x' _ _ _ => ?_
    rw [Nat.zero_add, List.nil_append] at R'
    have := hq A' c' H' x' R'
    rw [Nat.zero_add]
    exact this
end
end Go.Proofs.YtmelbipidffmpaaGreatDoor.Hw

/- What functions of the program come to, by the evaluator: printed by a program of this session (gen.py) and checked here. -/
set_option linter.unusedVariables false
set_option maxRecDepth 100000
namespace Go.Proofs.YtmelbipidffmpaaGreatDoor.Hs
open Go Go.Proofs Go.Proofs.YtmelbipidffmpaaGreatDoor.Hw

/-- cmp.isNaN[int] -/
def f98 (px : Int) (H : Hp) (Q : Value → Hp → Prop) : Prop :=
  Q (.bool ((px : Int) != px)) H
noncomputable def fcx98 : Cx := cxD 6 [] [] [] []
theorem f98.eq (px : Int) (H : Hp) (Q : Value → Hp → Prop) : f98 px H Q = wFun fcx98 Tryz.f98 [.int .i64 px] H Q := by kernel_rfl
theorem f98.ok (px : Int) {H : Hp} {Q : Value → Hp → Prop} (h : f98 px H Q) : HCallsG true Tryz.prog 98 [.int .i64 px] H Q := hcalls_of (cxOkD _ _ _ _ _) Tryz.func98 (Eq.mp (f98.eq px H Q) h)

/-- cmp.Compare[int] -/
def f77 (px : Int) (py : Int) (H : Hp) (Q : Value → Hp → Prop) : Prop :=
  HCallsG true Tryz.prog 98 [.int .i64 px] H fun v1 H2 => ∃ x3 : Bool, v1 = .bool x3 ∧ HCallsG true Tryz.prog 98 [.int .i64 py] H2 fun v4 H5 => ∃ x6 : Bool, v4 = .bool x6 ∧ cnd x3 (cnd x6 (Q (.int .i64 0) H5) (Q (.int .i64 (-1)) H5))
    (cnd x6 (Q (.int .i64 1) H5) (cnd (decide ((px : Int) < py)) (Q (.int .i64 (-1)) H5) (cnd (decide ((px : Int) > py)) (Q (.int .i64 1) H5) (Q (.int .i64 0) H5))))
noncomputable def fcx77 : Cx := cxD 20 [] [] [] []
theorem f77.eq (px : Int) (py : Int) (H : Hp) (Q : Value → Hp → Prop) : f77 px py H Q = wFun fcx77 Tryz.f77 [.int .i64 px, .int .i64 py] H Q := by kernel_rfl
theorem f77.ok (px : Int) (py : Int) {H : Hp} {Q : Value → Hp → Prop} (h : f77 px py H Q) : HCallsG true Tryz.prog 77 [.int .i64 px, .int .i64 py] H Q := hcalls_of (cxOkD _ _ _ _ _) Tryz.func77 (Eq.mp (f77.eq px py H Q) h)

/-- cmp.isNaN[justiciar api.Kind] -/
def f119 (px : Int) (H : Hp) (Q : Value → Hp → Prop) : Prop :=
  Q (.bool ((px : Int) != px)) H
noncomputable def fcx119 : Cx := cxD 6 [] [] [] []
theorem f119.eq (px : Int) (H : Hp) (Q : Value → Hp → Prop) : f119 px H Q = wFun fcx119 Tryz.f119 [.int .i64 px] H Q := by kernel_rfl
theorem f119.ok (px : Int) {H : Hp} {Q : Value → Hp → Prop} (h : f119 px H Q) : HCallsG true Tryz.prog 119 [.int .i64 px] H Q := hcalls_of (cxOkD _ _ _ _ _) Tryz.func119 (Eq.mp (f119.eq px H Q) h)

/-- cmp.Compare[justiciar api.Kind] -/
def f95 (px : Int) (py : Int) (H : Hp) (Q : Value → Hp → Prop) : Prop :=
  HCallsG true Tryz.prog 119 [.int .i64 px] H fun v1 H2 => ∃ x3 : Bool, v1 = .bool x3 ∧ HCallsG true Tryz.prog 119 [.int .i64 py] H2 fun v4 H5 => ∃ x6 : Bool, v4 = .bool x6 ∧ cnd x3 (cnd x6 (Q (.int .i64 0) H5) (Q (.int .i64 (-1)) H5))
    (cnd x6 (Q (.int .i64 1) H5) (cnd (decide ((px : Int) < py)) (Q (.int .i64 (-1)) H5) (cnd (decide ((px : Int) > py)) (Q (.int .i64 1) H5) (Q (.int .i64 0) H5))))
noncomputable def fcx95 : Cx := cxD 20 [] [] [] []
theorem f95.eq (px : Int) (py : Int) (H : Hp) (Q : Value → Hp → Prop) : f95 px py H Q = wFun fcx95 Tryz.f95 [.int .i64 px, .int .i64 py] H Q := by kernel_rfl
theorem f95.ok (px : Int) (py : Int) {H : Hp} {Q : Value → Hp → Prop} (h : f95 px py H Q) : HCallsG true Tryz.prog 95 [.int .i64 px, .int .i64 py] H Q := hcalls_of (cxOkD _ _ _ _ _) Tryz.func95 (Eq.mp (f95.eq px py H Q) h)

/-- cmp.Or[int] -/
def f76 (pvals_A : Option Addr) (pvals_n pvals_c : Nat) (H : Hp) (Q : Value → Hp → Prop) : Prop :=
  LoopF (σ := (Int × Unit) × Unit) ((0, ()), ()) H fun s1 H2 next3 => cnd (decide ((s1.1.1 : Int) < ((pvals_n : Nat) : Int))) (0 ≤ (s1.1.1 : Int) ∧ (s1.1.1 : Int) < ((pvals_n : Nat) : Int) ∧ onPtr pvals_A fun b4 o4 => ∃ x5
    : Int, cl H2 b4 (o4 + (s1.1.1 : Int).toNat * 1) = some (.int .i64 x5) ∧ cnd ((x5 : Int) != 0) (Q (.int .i64 x5) H2) (KeepX [some (.v (.int .i64 0)), some (.v (.slice pvals_A pvals_n pvals_c)), some (.v (.int .i64
    ((pvals_n : Nat) : Int)))] [] ∧ next3 ((IntKind.i64.wrap (s1.1.1 + 1), ()), ()) H2)) (Q (.int .i64 0) H2)
noncomputable def fcx76 : Cx := cxD 18 [] [(3, ⟨[3, 6, 7], [], [(8, .int .i64)], []⟩)] [] []
theorem f76.eq (pvals_A : Option Addr) (pvals_n pvals_c : Nat) (H : Hp) (Q : Value → Hp → Prop) : f76 pvals_A pvals_n pvals_c H Q = wFun fcx76 Tryz.f76 [.slice pvals_A pvals_n pvals_c] H Q := by kernel_rfl
theorem f76.ok (pvals_A : Option Addr) (pvals_n pvals_c : Nat) {H : Hp} {Q : Value → Hp → Prop} (h : f76 pvals_A pvals_n pvals_c H Q) : HCallsG true Tryz.prog 76 [.slice pvals_A pvals_n pvals_c] H Q := hcalls_of (cxOkD _ _ _ _ _) Tryz.func76 (Eq.mp (f76.eq pvals_A pvals_n pvals_c H Q) h)

/-- cmp.isNaN[string] -/
def f118 (px : ByteArray) (H : Hp) (Q : Value → Hp → Prop) : Prop :=
  Q (.bool (!(px.toList == px.toList))) H
noncomputable def fcx118 : Cx := cxD 6 [] [] [] []
theorem f118.eq (px : ByteArray) (H : Hp) (Q : Value → Hp → Prop) : f118 px H Q = wFun fcx118 Tryz.f118 [.string px] H Q := by kernel_rfl
theorem f118.ok (px : ByteArray) {H : Hp} {Q : Value → Hp → Prop} (h : f118 px H Q) : HCallsG true Tryz.prog 118 [.string px] H Q := hcalls_of (cxOkD _ _ _ _ _) Tryz.func118 (Eq.mp (f118.eq px H Q) h)

/-- cmp.Compare[string] -/
def f94 (px : ByteArray) (py : ByteArray) (H : Hp) (Q : Value → Hp → Prop) : Prop :=
  HCallsG true Tryz.prog 118 [.string px] H fun v1 H2 => ∃ x3 : Bool, v1 = .bool x3 ∧ HCallsG true Tryz.prog 118 [.string py] H2 fun v4 H5 => ∃ x6 : Bool, v4 = .bool x6 ∧ cnd x3 (cnd x6 (Q (.int .i64 0) H5) (Q (.int .i64 (-1)) H5))
    (cnd x6 (Q (.int .i64 1) H5) (cnd (Op.bytesLess px.toList py.toList) (Q (.int .i64 (-1)) H5) (cnd (!(Op.bytesLess px.toList py.toList || px.toList == py.toList)) (Q (.int .i64 1) H5) (Q (.int .i64 0) H5))))
noncomputable def fcx94 : Cx := cxD 20 [] [] [] []
theorem f94.eq (px : ByteArray) (py : ByteArray) (H : Hp) (Q : Value → Hp → Prop) : f94 px py H Q = wFun fcx94 Tryz.f94 [.string px, .string py] H Q := by kernel_rfl
theorem f94.ok (px : ByteArray) (py : ByteArray) {H : Hp} {Q : Value → Hp → Prop} (h : f94 px py H Q) : HCallsG true Tryz.prog 94 [.string px, .string py] H Q := hcalls_of (cxOkD _ _ _ _ _) Tryz.func94 (Eq.mp (f94.eq px py H Q) h)

/-- justiciar valid.Order -/
def f72 (pa_0 : Int) (pa_1 : Int) (pa_2 : ByteArray) (pb_0 : Int) (pb_1 : Int) (pb_2 : ByteArray) (H : Hp) (Q : Value → Hp → Prop) : Prop :=
  cnd ((pa_0 : Int) == pb_0) (HCallsG true Tryz.prog 77 [.int .i64 pa_1, .int .i64 pb_1] H fun v1 H2 => ∃ x3 : Int, v1 = .int .i64 x3 ∧ HCallsG true Tryz.prog 94 [.string pa_2, .string pb_2] H2 fun v4 H5 => ∃ x6 : Int, v4 = .int .i64
    x6 ∧ newF H5 3 [.int .i64 x3, .int .i64 x6] fun g7 H8 => HCallsG true Tryz.prog 76 [.slice (some ⟨g7, 0, none⟩) 2 2] H8 fun v9 H10 => ∃ x11 : Int, v9 = .int .i64 x11 ∧ Q (.int .i64 x11) H10) (cnd ((pa_0 : Int) == 0) (Q
    (.int .i64 1) H) (cnd ((pb_0 : Int) == 0) (Q (.int .i64 (-1)) H) (HCallsG true Tryz.prog 95 [.int .i64 pa_0, .int .i64 pb_0] H fun v12 H13 => ∃ x14 : Int, v12 = .int .i64 x14 ∧ Q (.int .i64 x14) H13)))
noncomputable def fcx72 : Cx := cxD 36 [(2, true), (3, true)] [] [(2, (.look 0 (.look 1 (.look 2 (.look 3 (.look 5 (.look 6 (.look 7 (.look 8 (.act 4 (.act 9 (.act 10 (.act 11 (.act 12 .done .done) .done) .done) .done) .done))))))))))] []
theorem f72.eq (pa_0 : Int) (pa_1 : Int) (pa_2 : ByteArray) (pb_0 : Int) (pb_1 : Int) (pb_2 : ByteArray) (H : Hp) (Q : Value → Hp → Prop) : f72 pa_0 pa_1 pa_2 pb_0 pb_1 pb_2 H Q = wFun fcx72 Tryz.f72 [.agg #[.int .i64 pa_0, .int .i64 pa_1, .string pa_2], .agg #[.int .i64 pb_0, .int .i64 pb_1, .string pb_2]] H Q := by kernel_rfl
theorem f72.ok (pa_0 : Int) (pa_1 : Int) (pa_2 : ByteArray) (pb_0 : Int) (pb_1 : Int) (pb_2 : ByteArray) {H : Hp} {Q : Value → Hp → Prop} (h : f72 pa_0 pa_1 pa_2 pb_0 pb_1 pb_2 H Q) : HCallsG true Tryz.prog 72 [.agg #[.int .i64 pa_0, .int .i64 pa_1, .string pa_2], .agg #[.int .i64 pb_0, .int .i64 pb_1, .string pb_2]] H Q := hcalls_of (cxOkD _ _ _ _ _) Tryz.func72 (Eq.mp (f72.eq pa_0 pa_1 pa_2 pb_0 pb_1 pb_2 H Q) h)

/-- slices.CompareFunc[[]justiciar api.Value,[]justiciar api.Value,justiciar api.Value,justiciar api.Value] -/
def f71 (psb_A : Option Addr) (psb_n psb_c : Nat) (psc_A : Option Addr) (psc_n psc_c : Nat) (pcmp_f : FuncId) (pcmp_a pcmp_c : Array Value) (H : Hp) (Q : Value → Hp → Prop) : Prop :=
  LoopF (σ := (Int × Unit) × Unit) ((0, ()), ()) H fun s1 H2 next3 => cnd (decide ((s1.1.1 : Int) < ((psb_n : Nat) : Int))) (0 ≤ (s1.1.1 : Int) ∧ (s1.1.1 : Int) < ((psb_n : Nat) : Int) ∧ onPtr psb_A fun b4 o4 => ∃ x5 : Int,
    cl H2 b4 (o4 + (s1.1.1 : Int).toNat * 3) = some (.int .i64 x5) ∧ ∃ x6 : Int, cl H2 b4 ((o4 + (s1.1.1 : Int).toNat * 3) + 1) = some (.int .i64 x6) ∧ ∃ s7 : ByteArray, cl H2 b4 (((o4 + (s1.1.1 : Int).toNat * 3) + 1) +
    1) = some (.string s7) ∧ cnd (decide ((s1.1.1 : Int) ≥ ((psc_n : Nat) : Int))) (Q (.int .i64 1) H2) (0 ≤ (s1.1.1 : Int) ∧ (s1.1.1 : Int) < ((psc_n : Nat) : Int) ∧ onPtr psc_A fun b8 o8 => ∃ x9 : Int, cl H2 b8 (o8 +
    (s1.1.1 : Int).toNat * 3) = some (.int .i64 x9) ∧ ∃ x10 : Int, cl H2 b8 ((o8 + (s1.1.1 : Int).toNat * 3) + 1) = some (.int .i64 x10) ∧ ∃ s11 : ByteArray, cl H2 b8 (((o8 + (s1.1.1 : Int).toNat * 3) + 1) + 1) = some
    (.string s11) ∧ FnOk Tryz.prog pcmp_f ∧ HCallsG true Tryz.prog pcmp_f (pcmp_a.toList ++ [.agg #[.int .i64 x5, .int .i64 x6, .string s7], .agg #[.int .i64 x9, .int .i64 x10, .string s11]] ++ pcmp_c.toList) H2 fun v12 H13 =>
    ∃ x14 : Int, v12 = .int .i64 x14 ∧ cnd ((x14 : Int) != 0) (Q (.int .i64 x14) H13) (KeepX [some (.v (.slice psb_A psb_n psb_c)), some (.v (.slice psc_A psc_n psc_c)), some (.v (.func (.func pcmp_f) pcmp_a pcmp_c)),
    some (.v (.slice psb_A psb_n psb_c)), some (.v (.int .i64 ((psb_n : Nat) : Int)))] [] ∧ next3 ((IntKind.i64.wrap (s1.1.1 + 1), ()), ()) H13))) (cnd (decide ((((psb_n : Nat) : Int) : Int) < ((psc_n : Nat) : Int))) (Q
    (.int .i64 (-1)) H2) (Q (.int .i64 0) H2))
noncomputable def fcx71 : Cx := cxD 39 [(8, true), (9, true)] [(2, ⟨[0, 1, 2, 11, 12], [], [(13, .int .i64)], []⟩)] [] []
theorem f71.eq (psb_A : Option Addr) (psb_n psb_c : Nat) (psc_A : Option Addr) (psc_n psc_c : Nat) (pcmp_f : FuncId) (pcmp_a pcmp_c : Array Value) (H : Hp) (Q : Value → Hp → Prop) : f71 psb_A psb_n psb_c psc_A psc_n psc_c pcmp_f pcmp_a pcmp_c H Q = wFun fcx71 Tryz.f71 [.slice psb_A psb_n psb_c, .slice psc_A psc_n psc_c, .func (.func pcmp_f) pcmp_a pcmp_c] H Q := by kernel_rfl
theorem f71.ok (psb_A : Option Addr) (psb_n psb_c : Nat) (psc_A : Option Addr) (psc_n psc_c : Nat) (pcmp_f : FuncId) (pcmp_a pcmp_c : Array Value) {H : Hp} {Q : Value → Hp → Prop} (h : f71 psb_A psb_n psb_c psc_A psc_n psc_c pcmp_f pcmp_a pcmp_c H Q) : HCallsG true Tryz.prog 71 [.slice psb_A psb_n psb_c, .slice psc_A psc_n psc_c, .func (.func pcmp_f) pcmp_a pcmp_c] H Q := hcalls_of (cxOkD _ _ _ _ _) Tryz.func71 (Eq.mp (f71.eq psb_A psb_n psb_c psc_A psc_n psc_c pcmp_f pcmp_a pcmp_c H Q) h)

/-- justiciar valid.Rows -/
def f41 (pa_A : Option Addr) (pa_n pa_c : Nat) (pb_A : Option Addr) (pb_n pb_c : Nat) (H : Hp) (Q : Value → Hp → Prop) : Prop :=
  HCallsG true Tryz.prog 71 [.slice pa_A pa_n pa_c, .slice pb_A pb_n pb_c, .func (.func 72) #[] #[]] H fun v1 H2 => ∃ x3 : Int, v1 = .int .i64 x3 ∧ Q (.int .i64 x3) H2
noncomputable def fcx41 : Cx := cxD 8 [] [] [] []
theorem f41.eq (pa_A : Option Addr) (pa_n pa_c : Nat) (pb_A : Option Addr) (pb_n pb_c : Nat) (H : Hp) (Q : Value → Hp → Prop) : f41 pa_A pa_n pa_c pb_A pb_n pb_c H Q = wFun fcx41 Tryz.f41 [.slice pa_A pa_n pa_c, .slice pb_A pb_n pb_c] H Q := by kernel_rfl
theorem f41.ok (pa_A : Option Addr) (pa_n pa_c : Nat) (pb_A : Option Addr) (pb_n pb_c : Nat) {H : Hp} {Q : Value → Hp → Prop} (h : f41 pa_A pa_n pa_c pb_A pb_n pb_c H Q) : HCallsG true Tryz.prog 41 [.slice pa_A pa_n pa_c, .slice pb_A pb_n pb_c] H Q := hcalls_of (cxOkD _ _ _ _ _) Tryz.func41 (Eq.mp (f41.eq pa_A pa_n pa_c pb_A pb_n pb_c H Q) h)

/-- justiciar tree.order -/
def f51 (pa_0_A : Option Addr) (pa_0_n pa_0_c : Nat) (pa_1 : Int) (pb_0_A : Option Addr) (pb_0_n pb_0_c : Nat) (pb_1 : Int) (H : Hp) (Q : Value → Hp → Prop) : Prop :=
  HCallsG true Tryz.prog 41 [.slice pa_0_A pa_0_n pa_0_c, .slice pb_0_A pb_0_n pb_0_c] H fun v1 H2 => ∃ x3 : Int, v1 = .int .i64 x3 ∧ HCallsG true Tryz.prog 77 [.int .i64 pa_1, .int .i64 pb_1] H2 fun v4 H5 => ∃ x6 : Int, v4 = .int .i64
    x6 ∧ newF H5 3 [.int .i64 x3, .int .i64 x6] fun g7 H8 => HCallsG true Tryz.prog 76 [.slice (some ⟨g7, 0, none⟩) 2 2] H8 fun v9 H10 => ∃ x11 : Int, v9 = .int .i64 x11 ∧ Q (.int .i64 x11) H10
noncomputable def fcx51 : Cx := cxD 17 [(2, true), (3, true)] [] [(1, (.look 0 (.look 1 (.look 2 (.look 3 (.look 5 (.look 6 (.look 7 (.look 8 (.act 4 (.act 9 (.act 10 (.act 11 (.act 12 .done .done) .done) .done) .done) .done))))))))))] []
theorem f51.eq (pa_0_A : Option Addr) (pa_0_n pa_0_c : Nat) (pa_1 : Int) (pb_0_A : Option Addr) (pb_0_n pb_0_c : Nat) (pb_1 : Int) (H : Hp) (Q : Value → Hp → Prop) : f51 pa_0_A pa_0_n pa_0_c pa_1 pb_0_A pb_0_n pb_0_c pb_1 H Q = wFun fcx51 Tryz.f51 [.agg #[.slice pa_0_A pa_0_n pa_0_c, .int .i64 pa_1], .agg #[.slice pb_0_A pb_0_n pb_0_c, .int .i64 pb_1]] H Q := by kernel_rfl
theorem f51.ok (pa_0_A : Option Addr) (pa_0_n pa_0_c : Nat) (pa_1 : Int) (pb_0_A : Option Addr) (pb_0_n pb_0_c : Nat) (pb_1 : Int) {H : Hp} {Q : Value → Hp → Prop} (h : f51 pa_0_A pa_0_n pa_0_c pa_1 pb_0_A pb_0_n pb_0_c pb_1 H Q) : HCallsG true Tryz.prog 51 [.agg #[.slice pa_0_A pa_0_n pa_0_c, .int .i64 pa_1], .agg #[.slice pb_0_A pb_0_n pb_0_c, .int .i64 pb_1]] H Q := hcalls_of (cxOkD _ _ _ _ _) Tryz.func51 (Eq.mp (f51.eq pa_0_A pa_0_n pa_0_c pa_1 pb_0_A pb_0_n pb_0_c pb_1 H Q) h)

end Go.Proofs.YtmelbipidffmpaaGreatDoor.Hs

/- The order of entries, where draws are counted. -/
set_option linter.unusedVariables false
set_option linter.unusedSimpArgs false
set_option linter.unusedSectionVars false
set_option maxRecDepth 20000
namespace Go.Proofs.YtmelbipidffmpaaGreatDoor.Hs
open Go Go.Proofs Go.Proofs.YtmelbipidffmpaaGreatDoor.Hw
section
variable {H : Hp} {Q : Value → Hp → Prop}
theorem c98 {x : Int} (hq : Q (.bool false) H) : HCallsG true Tryz.prog 98 [.int .i64 x] H Q := by
  refine f98.ok _ ?_
  unfold f98
  simpa using hq
theorem c119 {x : Int} (hq : Q (.bool false) H) : HCallsG true Tryz.prog 119 [.int .i64 x] H Q := by
  refine f119.ok _ ?_
  unfold f119
  simpa using hq
theorem c77 {x y : Int} (hq : Q (.int .i64 (cmpI x y)) H) : HCallsG true Tryz.prog 77 [.int .i64 x, .int .i64 y] H Q := by
  refine f77.ok _ _ ?_
  unfold f77
  unfold cmpI at hq
  refine c98 ⟨false, rfl, c98 ⟨false, rfl, cndF rfl (cndF rfl (cndI (fun h => ?_) fun h => cndI (fun h2 => ?_) fun h2 => ?_))⟩⟩
  · rw [if_pos (of_decide_eq_true h)] at hq; exact hq
  · rw [if_neg (of_decide_eq_false h), if_pos (of_decide_eq_true h2)] at hq; exact hq
  · rw [if_neg (of_decide_eq_false h), if_neg (of_decide_eq_false h2)] at hq; exact hq
theorem c95 {x y : Int} (hq : Q (.int .i64 (cmpI x y)) H) : HCallsG true Tryz.prog 95 [.int .i64 x, .int .i64 y] H Q := by
  refine f95.ok _ _ ?_
  unfold f95
  unfold cmpI at hq
  refine c119 ⟨false, rfl, c119 ⟨false, rfl, cndF rfl (cndF rfl (cndI (fun h => ?_) fun h => cndI (fun h2 => ?_) fun h2 => ?_))⟩⟩
  · rw [if_pos (of_decide_eq_true h)] at hq; exact hq
  · rw [if_neg (of_decide_eq_false h), if_pos (of_decide_eq_true h2)] at hq; exact hq
  · rw [if_neg (of_decide_eq_false h), if_neg (of_decide_eq_false h2)] at hq; exact hq
theorem c76 {A : Option Addr} {n k : Nat} {l : List Int} (hA : SlAt inC H A n l) (hq : Q (.int .i64 (orL l)) H) : HCallsG true Tryz.prog 76 [.slice A n k] H Q := by
  refine f76.ok _ _ _ ?_
  unfold f76
  obtain rfl := hA.len
  have hlt := hA.lt
  refine scan hlt (fun i H' => H' = H ∧ ∀ y ∈ l.take i, (y != 0) = false) ⟨rfl, fun y hy => by simp at hy⟩ ?_ ?_
  · rintro i H next hi ⟨rfl, hI⟩ hnext
    obtain ⟨y, hy⟩ := get_of hi
    dsimp only
    refine cndT (decide_eq_true (by omega)) ⟨by omega, by omega, rd_in hA hy fun q o _ hc => ⟨y, by simpa using hc, cndI (fun h => ?_) (fun h => ⟨rfl, hnext _ ⟨rfl, fun z hz => ?_⟩⟩)⟩⟩
    · have : l.find? (fun x => x != 0) = some y := by
        obtain ⟨h1, h2⟩ := List.getElem?_eq_some_iff.1 hy
        rw [← List.take_append_drop i l, List.find?_append, List.find?_eq_none.2 (fun z hz => by rw [hI z hz]; decide), List.drop_eq_getElem_cons h1, h2, List.find?_cons, h]
        rfl
      unfold orL at hq
      rw [this] at hq; exact hq
    · rw [take_snoc hy] at hz
      rcases List.mem_append.1 hz with hz | hz
      · exact hI z hz
      · obtain rfl := List.mem_singleton.1 hz; exact h
  · rintro H next ⟨rfl, hI⟩
    rw [List.take_length] at hI
    have : l.find? (fun x => x != 0) = none := List.find?_eq_none.2 fun z hz => by rw [hI z hz]; decide
    unfold orL at hq
    rw [this] at hq
    dsimp only
    exact cndF (decide_eq_false (by omega)) hq
theorem c118 {x : ByteArray} (hq : Q (.bool false) H) : HCallsG true Tryz.prog 118 [.string x] H Q := by
  refine f118.ok _ ?_
  unfold f118
  rw [show (x.toList == x.toList) = true from beq_iff_eq.2 rfl]; exact hq
theorem c94 {x y : ByteArray} (hq : Q (.int .i64 (cmpS x y)) H) : HCallsG true Tryz.prog 94 [.string x, .string y] H Q := by
  refine f94.ok _ _ ?_
  unfold f94
  unfold cmpS lessS at hq
  refine c118 ⟨false, rfl, c118 ⟨false, rfl, cndF rfl (cndF rfl (cndI (fun h => ?_) fun h => cndI (fun h2 => ?_) fun h2 => ?_))⟩⟩
  · rw [if_pos h] at hq; exact hq
  · rw [h] at h2 hq
    have : (x.toList == y.toList) = false := by simpa using h2
    rw [this] at hq
    simpa using hq
  · rw [h] at h2 hq
    have : (x.toList == y.toList) = true := by simpa using h2
    rw [this] at hq
    simpa using hq
theorem c72 {a b : Vl} (hq : ∀ H', Ext H H' → Q (.int .i64 (ordV a b)) H') : HCallsG true Tryz.prog 72 [vlA a, vlA b] H Q := by
  refine f72.ok _ _ _ _ _ _ ?_
  unfold f72
  unfold ordV at hq
  refine cndI (fun h => ?_) fun h => ?_
  · rw [if_pos h] at hq
    refine c77 ⟨_, rfl, c94 ⟨_, rfl, fun g7 hg7 => ?_⟩⟩
    have s := fresh_sl (H := H) (g := g7) (ty := 3) (f := inC) (l := [cmpI a.num b.num, cmpS a.txt b.txt]) (vs := [Value.int .i64 (cmpI a.num b.num), .int .i64 (cmpS a.txt b.txt)]) rfl (by simp [huge])
    have x8 : Ext H (upd g7 (Obj.cells [Value.int .i64 (cmpI a.num b.num), .int .i64 (cmpS a.txt b.txt)].toArray 3 (0, 0)) H) := Ext.new hg7
    refine c76 s ⟨_, rfl, ?_⟩
    rw [orL_two]
    exact hq _ x8
  · rw [if_neg (by rw [h]; decide)] at hq
    refine cndI (fun h1 => ?_) fun h1 => ?_
    · rw [if_pos h1] at hq; exact hq H (Ext.refl _)
    · rw [if_neg (by rw [h1]; decide)] at hq
      refine cndI (fun h2 => ?_) fun h2 => ?_
      · rw [if_pos h2] at hq; exact hq H (Ext.refl _)
      · rw [if_neg (by rw [h2]; decide)] at hq
        exact c95 ⟨_, rfl, hq H (Ext.refl _)⟩
theorem c71 {A B : Option Addr} {n m ca cb : Nat} {x y : List Vl} (hA : SlAt vlC H A n x) (hB : SlAt vlC H B m y) (hq : ∀ H', Ext H H' → Q (.int .i64 (ordL x y)) H') : HCallsG true Tryz.prog 71 [.slice A n ca, .slice B m cb, .func (.func 72) #[] #[]] H Q := by
  refine f71.ok _ _ _ _ _ _ _ _ _ ?_
  unfold f71
  obtain rfl := hA.len
  obtain rfl := hB.len
  have hl1 := hA.lt
  have hl2 := hB.lt
  refine scan hl1 (fun i H' => Ext H H' ∧ i ≤ y.length ∧ ordL x y = ordL (x.drop i) (y.drop i)) ⟨Ext.refl _, Nat.zero_le _, rfl⟩ (fun i H2 next hi hI hnext => ?_) (fun H2 next hI => ?_)
  · obtain ⟨hx2, hiy, he⟩ := hI
    obtain ⟨a, ha⟩ := get_of hi
    dsimp only
    refine cndT (decide_eq_true (by omega)) ⟨by omega, by omega, rd_vl (hA.ext hx2) ha fun q o _ k1 k2 k3 => ⟨a.kind, by simpa using k1, a.num, by simpa using k2, a.txt, by simpa using k3, cndI (fun h => ?_) fun h => ?_⟩⟩
    · have h := of_decide_eq_true h
      have : i = y.length := by omega
      have hd : y.drop i = [] := by rw [this]; exact List.drop_length
      have hxd : x.drop i = a :: x.drop (i + 1) := by rw [List.drop_eq_getElem_cons hi, (List.getElem?_eq_some_iff.1 ha).2]
      rw [he, hd, hxd] at hq
      exact hq H2 hx2
    · have h := of_decide_eq_false h
      obtain ⟨b, hb⟩ := get_of (l := y) (i := i) (by omega)
      have hod := ordL_drop ha hb
      refine ⟨by omega, by omega, rd_vl (hB.ext hx2) hb fun q o _ k1 k2 k3 => ⟨b.kind, by simpa using k1, b.num, by simpa using k2, b.txt, by simpa using k3, fnOk 72 rfl, c72 (a := a) (b := b) fun H13 x13 => ⟨_, rfl, cndI (fun hne => ?_) fun he0 => ⟨rfl, hnext H13 ⟨hx2.trans x13, by omega, ?_⟩⟩⟩⟩⟩
      · rw [he, hod, if_pos hne] at hq
        exact hq H13 (hx2.trans x13)
      · rw [he, hod, if_neg (by rw [he0]; decide)]
  · obtain ⟨hx2, hiy, he⟩ := hI
    rw [List.drop_length] at he
    dsimp only
    refine cndF (decide_eq_false (by omega)) (cndI (fun h => ?_) fun h => ?_)
    · have h := of_decide_eq_true h
      obtain ⟨b, hb⟩ := get_of (l := y) (i := x.length) (by omega)
      rw [List.drop_eq_getElem_cons (by omega)] at he
      rw [he] at hq
      exact hq H2 hx2
    · have h := of_decide_eq_false h
      rw [show y.drop x.length = [] from List.drop_of_length_le (by omega)] at he
      rw [he] at hq
      exact hq H2 hx2
theorem c41 {A B : Option Addr} {n m ca cb : Nat} {x y : List Vl} (hA : SlAt vlC H A n x) (hB : SlAt vlC H B m y) (hq : ∀ H', Ext H H' → Q (.int .i64 (ordL x y)) H') : HCallsG true Tryz.prog 41 [.slice A n ca, .slice B m cb] H Q := by
  refine f41.ok _ _ _ _ _ _ ?_
  unfold f41
  exact c71 hA hB fun H' hx => ⟨_, rfl, hq H' hx⟩
theorem c51 {a b : EnM} (ha : KeyAt H a) (hb : KeyAt H b) (hq : ∀ H', Ext H H' → Q (.int .i64 (ordE a b)) H') : HCallsG true Tryz.prog 51 [enA a, enA b] H Q := by
  refine f51.ok _ _ _ _ _ _ _ _ ?_
  unfold f51
  refine c41 ha.sl hb.sl fun H2 x2 => ⟨_, rfl, c77 ⟨_, rfl, fun g7 hg7 => ?_⟩⟩
  have s := fresh_sl (H := H2) (g := g7) (ty := 3) (f := inC) (l := [ordL a.key b.key, cmpI a.id b.id]) (vs := [Value.int .i64 (ordL a.key b.key), .int .i64 (cmpI a.id b.id)]) rfl (by simp [huge])
  refine c76 s ⟨_, rfl, ?_⟩
  rw [orL_two]
  exact hq _ (x2.trans (Ext.new hg7))
end
end Go.Proofs.YtmelbipidffmpaaGreatDoor.Hs

/- slices.SortFunc of entries, by the kit's contract. -/
set_option linter.unusedVariables false
set_option linter.unusedSimpArgs false
set_option linter.unusedSectionVars false
set_option maxRecDepth 20000
namespace Go.Proofs.YtmelbipidffmpaaGreatDoor.Hw
open Go Go.Proofs Go.Sort Go.Shelf
theorem grow_of {w w' : World} (h : Fr true (fun _ => none) w w') : ∃ q os, w' = grow (w.drewN q) os := by
  obtain ⟨h1, h2, h3, h4, h5, h6⟩ := h
  have h6 := h6 rfl
  refine ⟨w'.drawn - w.drawn, w'.heap.extract w.heap.size w'.heap.size, ?_⟩
  have hh : w'.heap = w.heap ++ w'.heap.extract w.heap.size w'.heap.size := by
    apply Array.ext_getElem?
    intro i
    by_cases hi : i < w.heap.size
    · rw [Array.getElem?_append_left hi, h5 i hi rfl]
    · rw [Array.getElem?_append_right (by omega), Array.getElem?_extract]
      by_cases hi2 : i < w'.heap.size
      · rw [if_pos (by omega), show w.heap.size + (i - w.heap.size) = i by omega]
      · rw [if_neg (by omega), Array.getElem?_eq_none (by omega)]
  have hd : w'.drawn = w.drawn + (w'.drawn - w.drawn) := by omega
  obtain ⟨a, b, c, d, e⟩ := w'
  simp only at h1 h2 h3 hh hd
  unfold grow World.drewN
  simp only [World.mk.injEq]
  exact ⟨hh, h2, hd, h1, h3⟩
theorem closureE {X : Hp} {a b : EnM} (ha : KeyAt X a) (hb : KeyAt X b) (W : World) (hw : Has W X) : Calls Tryz.prog 51 #[enA a, enA b] W fun e w' => e = .returned (.int .i64 (ordE a b)) ∧ ∃ q os', w' = grow (W.drewN q) os' := by
  have := Hs.c51 (Q := fun v H' => v = .int .i64 (ordE a b) ∧ Ext X H') ha hb (fun H' hx => ⟨rfl, hx⟩) W hw
  refine Calls.mono this ?_
  rintro e w' ⟨v, H', rfl, ⟨rfl, hx⟩, hh, hf, _⟩
  refine ⟨rfl, grow_of ?_⟩
  obtain ⟨f1, f2, f3, f4, f5, f6⟩ := hf
  refine ⟨f1, f2, f3, f4, fun b hb _ => ?_, f6⟩
  cases hH : X b with
  | none => exact f5 b hb hH
  | some o => rw [hh b o (hx b o hH), hw b o hH]
/-! ### the order, for the kit -/
abbrev EK (X : Hp) : Type := {e : EnM // KeyAt X e}
def encK (X : Hp) (x : EK X) : List Value := enC x.1
def ordK (X : Hp) (x y : EK X) : Int := ordE x.1 y.1
theorem ordK_t {X : Hp} {x y : EK X} : ltOf (ordK X) x y = true ↔ ordE x.1 y.1 < 0 := by unfold ltOf ordK; rw [decide_eq_true_eq]
theorem ordK_f {X : Hp} {x y : EK X} : ltOf (ordK X) x y = false ↔ ¬ ordE x.1 y.1 < 0 := by rw [← ordK_t]; simp
theorem swoK {X : Hp} : SWO (ltOf (ordK X)) where
  irrefl x := ordK_f.2 (by rw [ordE_ok.self]; omega)
  trans x y z h1 h2 := ordK_t.2 (ordE_ok.lt_of (ordK_t.1 h1) (by have := ordK_t.1 h2; omega))
  ntrans x y z h1 h2 := ordK_f.2 fun h => by
    have h1 := ordK_f.1 h1
    have h2 := ordK_f.1 h2
    have a1 := ordE_ok.anti x.1 y.1
    have a2 := ordE_ok.anti y.1 z.1
    have a3 := ordE_ok.anti x.1 z.1
    have := ordE_ok.tr z.1 y.1 x.1 (by omega) (by omega)
    omega
theorem flatK_is {X : Hp} [Inhabited (EK X)] {l : List (EK X)} : (flatK (encK X) 2 l.toArray) = (l.flatMap (encK X)).toArray := by
  apply Array.ext_getElem?
  intro i
  show (flatK (encK X) 2 l.toArray)[i]? = ((l.flatMap (encK X)).toArray)[i]?
  have hfl : (l.flatMap (encK X)).length = l.length * 2 := flat_length fun y _ => rfl
  by_cases hi : i < l.length * 2
  · have h1 := get_flatK (encK X) 2 l.toArray i (by simpa using hi)
    obtain ⟨x, hx⟩ := get_of (l := l) (i := i / 2) (by omega)
    have h2 := flat_get (f := encK X) (k := 2) (j := i % 2) (fun x _ => rfl) hx (by omega)
    rw [show i / 2 * 2 + i % 2 = i by omega] at h2
    have hs : i < (flatK (encK X) 2 l.toArray).size := by rw [size_flatK]; simpa using hi
    have e1 : ((l.flatMap (encK X)).toArray)[i]? = (l.flatMap (encK X))[i]? := by simp
    rw [e1, h2, Array.getElem?_eq_getElem hs]
    rw [getElem!_pos (flatK (encK X) 2 l.toArray) i hs] at h1
    rw [h1]
    have : l.toArray[i / 2]! = x := by
      have hl : i / 2 < l.length := by omega
      rw [getElem!_pos l.toArray (i / 2) (by simpa using hl)]
      obtain ⟨_, e⟩ := List.getElem?_eq_some_iff.1 hx
      simpa using e
    rw [this]
    have h4 : i % 2 < (encK X x).length := by show _ < 2; omega
    rw [getElem!_pos (encK X x) (i % 2) h4, List.getElem?_eq_getElem h4]
  · rw [Array.getElem?_eq_none (by rw [size_flatK]; simpa using hi), List.getElem?_toArray, List.getElem?_eq_none (by omega)]
end Go.Proofs.YtmelbipidffmpaaGreatDoor.Hw

/- slices.SortFunc of entries: the contract. -/
set_option linter.unusedVariables false
set_option linter.unusedSimpArgs false
set_option linter.unusedSectionVars false
set_option maxRecDepth 20000
namespace Go.Proofs.YtmelbipidffmpaaGreatDoor.Hw
open Go Go.Proofs Go.Sort Go.Shelf
section
variable {H0 H : Hp} {Q : Value → Hp → Prop} {w : World}
theorem putV {vs cs : List Value} (h : vs.length ≤ cs.length) : putCells id 0 vs.toArray cs.toArray = (vs ++ cs.drop vs.length).toArray := by
  apply Array.ext'
  unfold putCells
  rw [Array.toList_mapIdx]
  apply List.ext_getElem?
  intro j
  simp only [List.getElem?_mapIdx, Nat.zero_le, true_and, Nat.zero_add, List.size_toArray, Nat.sub_zero]
  by_cases hj : j < vs.length
  · rw [List.getElem?_append_left hj, List.getElem?_eq_getElem (by omega : j < cs.length), List.getElem?_eq_getElem hj]
    simp [hj]
  · rw [List.getElem?_append_right (by omega), List.getElem?_drop, show vs.length + (j - vs.length) = j by omega]
    cases hc : cs[j]? with
    | none => simp [hc]
    | some v => simp [hc, hj]
theorem row_putV {b m : Nat} {cs vs : List Value} {ty : Nat} {os : Array Obj} (hw : Has w H) (hb : H b = some (.cells cs.toArray ty (0, 0))) (h : vs.length ≤ cs.length) :
    Has (grow (putRow id (Sort.ahead w m) b 0 vs.toArray) os) (upd b (.cells (vs ++ cs.drop vs.length).toArray ty (0, 0)) H) ∧ Fr true H w (grow (putRow id (Sort.ahead w m) b 0 vs.toArray) os) ∧ New H w (upd b (.cells (vs ++ cs.drop vs.length).toArray ty (0, 0)) H) := by
  have hwb := hw b _ hb
  have hlt : b < w.heap.size := (Array.getElem?_eq_some_iff.1 hwb).1
  have hat : ∀ x, x < w.heap.size → (grow (putRow id (Sort.ahead w m) b 0 vs.toArray) os).heap[x]? = if x = b then some (.cells (vs ++ cs.drop vs.length).toArray ty (0, 0)) else w.heap[x]? := fun x hx => by
    unfold grow putRow mapBlock Sort.ahead
    simp only
    rw [Array.getElem?_append_left (by simpa using hx), Array.getElem?_modify]
    by_cases e : b = x
    · subst e
      rw [if_pos rfl, if_pos rfl, hwb]
      simp only [Option.map_eq_map, Option.map_some, onCells]
      rw [putV h]
    · rw [if_neg e, if_neg (fun e' => e e'.symm)]
  refine ⟨fun x o hx => ?_, ⟨rfl, rfl, rfl, ?_, fun x hx hn => ?_, fun _ => ?_⟩, fun x hx => ?_⟩
  · rcases upd_some hx with ⟨rfl, rfl⟩ | ⟨hne, hx⟩
    · rw [hat x hlt, if_pos rfl]
    · rw [hat x (Array.getElem?_eq_some_iff.1 (hw x o hx)).1, if_neg hne]; exact hw x o hx
  · unfold grow putRow mapBlock Sort.ahead; simp
  · rw [hat x hx, if_neg (fun e => by subst e; rw [hb] at hn; cases hn)]
  · unfold grow putRow mapBlock Sort.ahead; simp
  · by_cases e : x = b
    · subst e; left; rw [hb]; simp
    · rw [upd_other e] at hx; exact .inl hx
theorem has_sw {b m : Nat} {vs : List Value} {os : Array Obj} (hw : Has w H) (hx : Ext H0 H) (hz : H0 b = none) : Has (grow (putRow id (Sort.ahead w m) b 0 vs.toArray) os) H0 := fun q o hq => by
  have hwq := hw q o (hx q o hq)
  have hlt : q < w.heap.size := (Array.getElem?_eq_some_iff.1 hwq).1
  have hne : ¬ b = q := fun e => by subst e; rw [hz] at hq; cases hq
  unfold grow putRow mapBlock Sort.ahead
  simp only
  rw [Array.getElem?_append_left (by simpa using hlt), Array.getElem?_modify, if_neg hne]
  exact hwq
theorem c63 {A : Option Addr} {c : Nat} {l : List EnM} (R : Row H0 H A l.length c 2 (l.flatMap enC)) (hx : Ext H0 H) (hkey : ∀ e ∈ l, KeyAt H0 e) (hs : l.length < huge)
    (hq : ∀ (l' : List EnM) (H' : Hp), l'.Perm l → l'.Pairwise (fun x y => ¬ ordE y x < 0) → Row H0 H' A l'.length c 2 (l'.flatMap enC) → Ext H0 H' → (∀ q, ¬ rowB A q → H q ≠ none → H' q = H q) → Q (.tuple #[]) H') :
    HCalls Tryz.prog 63 [.slice A l.length c, .func (.func 51) #[] #[]] H Q := by
  intro w hw
  by_cases h0 : l = []
  · subst h0
    refine Calls.mono (AnyF.slices_SortFunc_none Tryz.sortEnt A c _ w) ?_
    rintro e w' ⟨rfl, rfl⟩
    exact ⟨_, H, rfl, hq [] H (List.Perm.refl _) List.Pairwise.nil R hx (fun q _ _ => rfl), hw, ⟨rfl, rfl, rfl, Nat.le_refl _, fun _ _ _ => rfl, fun _ => Nat.le_refl _⟩, fun b hb => .inl hb⟩
  obtain ⟨h1, h2, h3 | ⟨b, cs, ty, rfl, hb, hcl, ht, hz⟩⟩ := R
  · have : 0 < l.length := List.length_pos_iff.2 h0
    omega
  unfold huge at hs
  have hwb := hw b _ hb
  have hlt : b < w.heap.size := (Array.getElem?_eq_some_iff.1 hwb).1
  obtain ⟨x0, hx0⟩ : ∃ x0, x0 ∈ l := by
    cases l with
    | nil => exact absurd rfl h0
    | cons x r => exact ⟨x, List.mem_cons_self ..⟩
  haveI : Inhabited (EK H0) := ⟨⟨x0, hkey x0 hx0⟩⟩
  obtain ⟨L, hL⟩ : ∃ L : List (EK H0), L.map Subtype.val = l := ⟨l.attach.map fun x => ⟨x.1, hkey x.1 x.2⟩, by rw [List.map_map]; exact List.attach_map_subtype_val l⟩
  have hLl : L.length = l.length := by rw [← hL, List.length_map]
  have hLf : L.flatMap (encK H0) = l.flatMap enC := by rw [← hL, List.flatMap_map]; rfl
  have hH : HoldsK (encK H0) 2 w b 0 L.toArray := by
    unfold HoldsK
    rw [flatK_is, hLf]
    intro j hj
    have hj' : j < (l.flatMap enC).length := by simpa using hj
    refine ⟨?_, frz_of w hwb⟩
    rw [cl_of w hwb, Nat.zero_add]
    have h1' : (cs.take (l.length * 2))[j]? = cs[j]? := by rw [List.getElem?_take_of_lt (by omega)]
    rw [← h1', ht, List.getElem?_eq_getElem hj']
    simp
    rw [List.getElem?_eq_getElem hj']; rfl
  have eg : ∀ args w, (callFunc 51 args).run Tryz.prog w = .ok (.enter 51 args) w := enters_of Tryz.func51 (by kernel_rfl) rfl
  have lays : CmpLays Tryz.prog 51 #[] (encK H0) 2 (ordK H0) b 0 L.toArray.size w := fun m os dk hsz x y => by
    refine closureE x.2 y.2 _ ?_
    unfold sortWorldK putRowK
    have : dk = dk.toList.toArray := by simp
    rw [this, flatK_is]
    exact has_sw hw hx hz
  have hcon := AnyQ.slices_SortFunc Tryz.sortEnt 2 Tryz.isAgg46 Tryz.sizeOf46 (encK H0) (fun x => enC_len x.1) (fun x => enC_one x.1) (ordK H0) swoK 51 #[] b 0 c L.toArray w eg lays hH hlt (by simpa [hLl] using (by omega : l.length < 4611686018427387904))
  simp only [List.size_toArray, hLl] at hcon
  change Calls Tryz.prog 63 _ w _ at hcon
  refine Calls.mono hcon ?_
  rintro e w' ⟨rfl, d', m, os, hp, hsrt, rfl⟩
  obtain ⟨p1, _, p3⟩ := hp
  have hd' : d'.size = l.length := by rw [p1]; simp [hLl]
  obtain ⟨L', hL'⟩ : ∃ L' : List (EK H0), L' = d'.toList := ⟨_, rfl⟩
  have hdL : d' = L'.toArray := by rw [hL']
  have hL'l : L'.length = l.length := by rw [hL']; simpa using hd'
  have hperm : L'.Perm L := by
    rw [Array.extract_eq_self_of_le (by omega), Array.extract_eq_self_of_le (by simp [hLl])] at p3
    rw [hL']; simpa using p3
  have hsorted : L'.Pairwise (fun x y => ¬ ordE y.1 x.1 < 0) := by
    rw [List.pairwise_iff_getElem]
    intro i j hi hj hij
    have := hsrt i j (Nat.zero_le _) hij (by omega)
    have gi : ∀ k (hk : k < L'.length), d'[k]! = L'[k] := fun k hk => by
      rw [hdL, getElem!_pos _ k (by simpa using hk)]
      simp
    rw [gi i hi, gi j hj] at this
    exact ordK_f.1 this
  have hl' : (L'.map Subtype.val).length = l.length := by rw [List.length_map]; exact hL'l
  have hfl : ((L'.map Subtype.val).flatMap enC).length = l.length * 2 := by rw [flat_length (fun y _ => enC_len y), hl']
  have hff : L'.flatMap (encK H0) = (L'.map Subtype.val).flatMap enC := by rw [List.flatMap_map]; rfl
  obtain ⟨g1, g2, g3⟩ := row_putV (m := m) (os := os) (vs := (L'.map Subtype.val).flatMap enC) hw hb (by omega)
  have e : sortWorldK (encK H0) 2 w b 0 m d' os = grow (putRow id (Sort.ahead w m) b 0 ((L'.map Subtype.val).flatMap enC).toArray) os := by
    unfold sortWorldK putRowK
    rw [hdL, flatK_is, hff]
  rw [e]
  have hperm' : (L'.map Subtype.val).Perm l := by rw [← hL]; exact hperm.map _
  refine ⟨_, _, rfl, hq (L'.map Subtype.val) _ hperm' (by rw [List.pairwise_map]; exact hsorted) ⟨by rw [hfl, hl'], by rw [hl']; exact h2, .inr ⟨b, _, ty, rfl, upd_at, ?_, ?_, hz⟩⟩ (hx.upd hz) (fun q hq' _ => ?_), g1, g2.weak, g3⟩
  · rw [List.length_append, List.length_drop, hfl]; omega
  · rw [List.take_left' (by rw [hfl, hl'])]
  · exact upd_off fun e => hq' ⟨0, none, by rw [e]⟩
end
end Go.Proofs.YtmelbipidffmpaaGreatDoor.Hw

/- Make. -/
set_option linter.unusedVariables false
set_option linter.unusedSimpArgs false
set_option linter.unusedSectionVars false
set_option maxRecDepth 20000
namespace Go.Proofs.YtmelbipidffmpaaGreatDoor.Hw
open Go Go.Proofs
def NoTwo (l : List EnM) : Prop := l.Pairwise fun a b => ordE a b ≠ 0
theorem noTwo_perm {l l' : List EnM} (h : l'.Perm l) : NoTwo l' ↔ NoTwo l :=
  h.pairwise_iff fun {x y} hne h0 => hne (by have := ordE_ok.anti x y; omega)
theorem srt_of {l : List EnM} (h1 : l.Pairwise fun x y => ¬ ordE y x < 0) (h2 : ∀ j a b, l[j]? = some a → l[j + 1]? = some b → ordE a b ≠ 0) : SrtE l := by
  have le : ∀ (i j : Nat) (a b : EnM), i ≤ j → l[i]? = some a → l[j]? = some b → ordE a b ≤ 0 := fun i j a b hij ha hb => by
    by_cases e : i = j
    · subst e; rw [ha] at hb; cases hb; rw [ordE_ok.self]; omega
    · obtain ⟨a1, a2⟩ := List.getElem?_eq_some_iff.1 ha
      obtain ⟨b1, b2⟩ := List.getElem?_eq_some_iff.1 hb
      have := List.pairwise_iff_getElem.1 h1 i j a1 b1 (by omega)
      rw [a2, b2] at this
      have := ordE_ok.anti a b
      omega
  unfold SrtE
  rw [List.pairwise_iff_getElem]
  intro i j hi hj hij
  have g1 := List.getElem?_eq_getElem hi
  have g2 := List.getElem?_eq_getElem (l := l) (i := i + 1) (by omega)
  have g3 := List.getElem?_eq_getElem hj
  have q1 := le i (i + 1) _ _ (by omega) g1 g2
  have q2 := h2 i _ _ g1 g2
  exact ordE_ok.lt_of (by omega) (le (i + 1) j _ _ (by omega) g2 g3)
theorem srt_noTwo {l : List EnM} (h : SrtE l) : NoTwo l := List.Pairwise.imp (fun {a b} h => by omega) h
section
variable {H : Hp} {A : Option Addr} {n c : Nat} {cols : Int} {Q : Value → Hp → Prop}
theorem c31 {l : List EnM} (N : NullAt H) (hl : SlAt enC H A n l) (hk : ∀ e ∈ l, KeyAt H e) (hn4 : n ≤ 4398046510976)
    (h2 : ¬ ((1 ≤ cols ∧ cols ≤ 20) ∧ l.all (entB cols) = true) → ∀ H', Ext H H' → Q (.tuple #[.agg #[.slice none 0 0, .int .i64 0, .int .i64 0], .int .i64 2]) H')
    (h14 : ((1 ≤ cols ∧ cols ≤ 20) ∧ l.all (entB cols) = true) → ¬ NoTwo l → ∀ H', Ext H H' → Q (.tuple #[.agg #[.slice none 0 0, .int .i64 0, .int .i64 0], .int .i64 14]) H')
    (h3 : ((1 ≤ cols ∧ cols ≤ 20) ∧ l.all (entB cols) = true) → NoTwo l → 4000 < l.length → ∀ H', Ext H H' → Q (.tuple #[.agg #[.slice none 0 0, .int .i64 0, .int .i64 0], .int .i64 3]) H')
    (h0 : ((1 ≤ cols ∧ cols ≤ 20) ∧ l.all (entB cols) = true) → NoTwo l → l.length ≤ 4000 → ∀ H' A' c' bl l' L dep, Ext H H' → L.Perm l → SrtE L → l'.map sayE = L.map sayE → OutT H' A' bl cols l' dep → Q (.tuple #[.agg #[.slice A' bl.length c', .int .i64 0, .int .i64 cols], .int .i64 0]) H') :
    HCalls Tryz.prog 31 [.int .i64 cols, .slice A n c] H Q := by
  refine f31.ok _ _ _ _ ?_
  unfold f31
  intro g1 hg1
  obtain rfl := hl.len
  have x2 : Ext H (upd g1 (.cells [Value.int .i64 cols].toArray 3 (0, 0)) H) := Ext.new hg1
  obtain ⟨H2, hH2⟩ : ∃ H2, H2 = upd g1 (.cells [Value.int .i64 cols].toArray 3 (0, 0)) H := ⟨_, rfl⟩
  rw [← hH2] at x2 ⊢
  have cg : ∀ H', Ext H2 H' → cl H' g1 0 = some (.int .i64 cols) := fun H' hx => by
    have : H2 g1 = some (.cells [Value.int .i64 cols].toArray 3 (0, 0)) := by rw [hH2]; exact upd_at
    rw [cl_cells (hx _ _ this)]; rfl
  have cg2 := cg H2 (Ext.refl _)
  refine jn_intro (fun J => (¬ ((1 ≤ cols ∧ cols ≤ 20) ∧ l.all (entB cols) = true) → J true H2) ∧ (((1 ≤ cols ∧ cols ≤ 20) ∧ l.all (entB cols) = true) → J false H2)) ⟨fun hb => cndT rfl (h2 hb H2 x2), fun hok => cndF rfl ?_⟩ fun J hJ => ⟨cols, cg2, cndI (fun h => hJ.1 fun h' => ?_) fun h => ⟨cols, cg2, cndI (fun h' => hJ.1 fun h'' => ?_) fun h' => ?_⟩⟩
  rotate_left
  · have := of_decide_eq_true h; omega
  · have := of_decide_eq_true h'; omega
  · have h := of_decide_eq_false h
    have h' := of_decide_eq_false h'
    refine c60 (N.ext x2) (hl.ext x2) (fun e he => (hk e he).ext x2) cg2 ⟨_, rfl, ?_⟩
    cases ha : l.all (entB cols) with
    | true => exact hJ.2 ⟨⟨by omega, by omega⟩, ha⟩
    | false => exact hJ.1 fun ⟨_, e⟩ => by rw [ha] at e; cases e
  have hk2 : ∀ e ∈ l, KeyAt H2 e := fun e he => (hk e he).ext x2
  have hcols := hok.1
  have hall := hok.2
  refine c62r (l := l) (hl.ext x2).cells rfl (by omega) fun A13 c13 H12 x12 R12 => ⟨_, _, _, rfl, ?_⟩
  refine c63 R12 x12 hk2 hl.small fun L H15 hperm hsrt R15 x15 _ => ⟨rfl, ?_⟩
  have hLl : L.length = l.length := hperm.length_eq
  have hkL : ∀ e ∈ L, KeyAt H2 e := fun e he => hk2 e (hperm.mem_iff.1 he)
  have entL : ∀ e ∈ L, entB cols e = true := fun e he => List.all_eq_true.1 hall e (hperm.mem_iff.1 he)
  have s15 : SlAt enC H15 A13 L.length L := ⟨rfl, R15.cells, by rw [hLl]; exact hl.small⟩
  have hsm := hl.small
  unfold huge at hsm
  rw [← hLl]
  refine loop_to L.length (fun i st H' => st = (((i : Int), ()), (((none, 0, 0), (0, (0, ()))), ())) ∧ Ext H15 H' ∧ ∀ j a b, j + 1 < i → L[j]? = some a → L[j + 1]? = some b → ordE a b ≠ 0) ⟨rfl, Ext.refl _, fun j a b h => by omega⟩ ?_
  rintro i st H17 next hi ⟨rfl, x17, hne⟩ hnext
  dsimp only
  have xx := x2.trans (x15.trans x17)
  refine cndI (fun hlt => ?_) fun hlt => ?_
  · have hlt := of_decide_eq_true hlt
    obtain ⟨e, he⟩ := get_of (l := L) (i := i) (by omega)
    have hem := List.mem_of_getElem? he
    refine ⟨by omega, by omega, rd_en (s15.ext x17) he fun q o _ k1 k2 => ⟨_, _, _, by simpa using k1, _, by simpa using k2, ?_⟩⟩
    refine jn_intro (fun J => (¬ NoTwo L → ∀ H', Ext H17 H' → J true H') ∧ ((∀ a, 0 < i → L[i - 1]? = some a → ordE a e ≠ 0) → ∀ H', Ext H17 H' → J false H')) ⟨fun hd H29 x29 => cndT rfl (h14 hok (fun h => hd ((noTwo_perm hperm).2 h)) H29 (xx.trans x29)), fun hd H29 x29 => cndF rfl ⟨rfl, hnext _ _ (by omega) ⟨by rw [wrap_id (by omega) (by omega)]; rfl, x17.trans x29, fun j a b hj ha hb => ?_⟩⟩⟩ fun J hJ => cndI (fun hp => ?_) fun hp => ?_
    · by_cases hji : j + 1 = i
      · subst hji
        rw [he] at hb; cases hb
        exact hd a (by omega) (by rw [Nat.add_sub_cancel]; exact ha)
      · exact hne j a b (by omega) ha hb
    · have hp := of_decide_eq_true hp
      have ew : IntKind.i64.wrap ((i : Int) - 1) = ((i - 1 : Nat) : Int) := by rw [wrap_id (by omega) (by omega)]; omega
      obtain ⟨p, hpp⟩ := get_of (l := L) (i := i - 1) (by omega)
      rw [ew]
      refine ⟨by omega, by omega, rd_en (s15.ext x17) hpp fun q o _ k1 k2 => ⟨_, _, _, by simpa using k1, _, by simpa using k2, ?_⟩⟩
      refine c51 ((hkL p (List.mem_of_getElem? hpp)).ext (x15.trans x17)) ((hkL e hem).ext (x15.trans x17)) fun H26 x26 => ⟨_, rfl, ?_⟩
      by_cases hz : ordE p e = 0
      · rw [hz]
        refine hJ.1 (fun hN => ?_) H26 x26
        obtain ⟨a1, a2⟩ := List.getElem?_eq_some_iff.1 hpp
        obtain ⟨a3, a4⟩ := List.getElem?_eq_some_iff.1 he
        have := List.pairwise_iff_getElem.1 hN (i - 1) i a1 a3 (by omega)
        rw [a2, a4] at this
        exact this hz
      · rw [show (ordE p e == 0) = false by simpa using hz]
        exact hJ.2 (fun a _ ha => by rw [hpp] at ha; cases ha; exact hz) H26 x26
    · have hp := of_decide_eq_false hp
      exact hJ.2 (fun a h0 => by omega) H17 (Ext.refl _)
  · have hlt := of_decide_eq_false hlt
    have hii : i = L.length := by omega
    have hS : SrtE L := srt_of hsrt fun j a b ha hb => hne j a b (by have := (List.getElem?_eq_some_iff.1 hb).1; omega) ha hb
    have hno : NoTwo l := (noTwo_perm hperm).1 (srt_noTwo hS)
    refine cndI (fun hbig => ?_) fun hbig => ?_
    · have hbig := of_decide_eq_true hbig
      exact h3 hok hno (by omega) H17 xx
    have hbig := of_decide_eq_false hbig
    have hL4 : L.length ≤ 4000 := by omega
    intro g31 hg31
    have x32 : Ext H17 (upd g31 (.cells [Value.slice none 0 0, .slice none 0 0].toArray 91 (0, 0)) H17) := Ext.new hg31
    have hlenL : ∀ e ∈ L, e.key.length < big := fun e he => by
      have := (ent_len (entL e he)).1
      unfold big; omega
    refine loop_to L.length (fun k st H' => ∃ hh t lo X, st = ((some ⟨t.g, 0, none⟩, ((k : Int), ())), ()) ∧ Ext X H' ∧ Ext H17 X ∧ MemM H' hh t ∧ SepM hh t ∧ FullM lo 8 hh t ∧ (hh = 0 ∨ 1 ≤ lo) ∧ (∀ q ∈ ownM hh t, X q = none) ∧ (∀ e ∈ flatM hh t, KeyAt X e) ∧ (flatM hh t).map sayE = (L.take k).map sayE)
      ⟨0, .mk g31 none 0 [] none 0 [], 0, H17, rfl, x32, Ext.refl _, ⟨⟨⟨91, upd_at⟩, RowO.nil, RowO.nil⟩, rfl⟩, (by show ([g31] : List Nat).Nodup; simp), ⟨rfl, Nat.le_refl _, by simp [MT.es]⟩, .inl rfl, (fun q hq => by
        have hq : q ∈ [g31] := hq
        rw [List.mem_singleton] at hq; subst hq; exact hg31), (fun e he => by cases he), rfl⟩ ?_
    rintro k st H34 next hk' ⟨hh, t, lo, X, rfl, xX, x17X, M, Sp, Fu, hlo, hid, hkey, hsay⟩ hnext
    dsimp only
    have srtT : SrtE (flatM hh t) := srt_say hsay.symm (hS.sublist (List.take_sublist _ _))
    have xH34 := x17X.trans xX
    refine cndI (fun hlt => ?_) fun hlt => ?_
    · have hlt := of_decide_eq_true hlt
      obtain ⟨e, he⟩ := get_of (l := L) (i := k) (by omega)
      have hem := List.mem_of_getElem? he
      refine jn_intro (fun J => ∀ (h' : Nat) (t2 : MT) (lo' : Nat) (X' H' : Hp), Ext X' H' → Ext H17 X' → MemM H' h' t2 → SepM h' t2 → FullM lo' 8 h' t2 → (h' = 0 ∨ 1 ≤ lo') → (∀ q ∈ ownM h' t2, X' q = none) → (∀ e ∈ flatM h' t2, KeyAt X' e) → (flatM h' t2).map sayE = (L.take (k + 1)).map sayE → J (some ⟨t2.g, 0, none⟩) H') (fun h' t2 lo' X' H' a1 a2 a3 a4 a5 a6 a7 a8 a9 => ⟨rfl, hnext _ _ (by omega) ⟨h', t2, lo', X', by rw [wrap_id (by omega) (by omega)]; rfl, a1, a2, a3, a4, a5, a6, a7, a8, a9⟩⟩) fun J hJ => ⟨by omega, by omega, rd_en (s15.ext (x17.trans xH34)) he fun q o _ k1 k2 => ⟨_, _, _, by simpa using k1, _, by simpa using k2, ?_⟩⟩
      refine c37n ((hkL e hem).ext (x15.trans (x17.trans xH34))) (hlenL e hem) fun e' H40 x40 hsay' hke' hnw => ⟨_, _, _, _, rfl, ?_⟩
      have liveT := M.live
      have xXh : Ext X (hideH (ownM hh t) H40) := fun q o hq => by
        show (if q ∈ ownM hh t then none else H40 q) = _
        rw [if_neg (fun hm => by rw [hid q hm] at hq; cases hq)]
        exact x40 q o (xX q o hq)
      have kX : ∀ x ∈ flatM hh t, KeyAt (hideH (ownM hh t) H40) x := fun x hx => (hkey x hx).ext xXh
      have keX : KeyAt (hideH (ownM hh t) H40) e' := hke'.hide fun _ q hq h1 => liveT q h1 (hnw q hq)
      have ltT : ∀ x ∈ flatM hh t, ordE x e' < 0 := fun x hx => by
        obtain ⟨y, hy, e1⟩ := say_mem hsay hx
        obtain ⟨j, hj⟩ := List.mem_iff_getElem?.1 hy
        have hjl := (List.getElem?_eq_some_iff.1 hj).1
        rw [List.length_take] at hjl
        rw [List.getElem?_take_of_lt (by omega)] at hj
        obtain ⟨b1, b2⟩ := List.getElem?_eq_some_iff.1 hj
        obtain ⟨b3, b4⟩ := List.getElem?_eq_some_iff.1 he
        have := List.pairwise_iff_getElem.1 hS j k b1 b3 (by omega)
        rw [b2, b4] at this
        rw [← ord_say e1 hsay'.symm]; exact this
      refine c53 (M.ext x40) Sp Fu hide_ext kX keX (fun q hq => hide_in hq) srtT (fun x hx => by have := ltT x hx; omega) fun H44 t' M44 S44 F44 hg44 P44 Fr44 => ⟨rfl, ?_⟩
      have hX44 : Ext (hideH (ownM hh t) H40) H44 := Fr44.ext hide_ext fun q hq => hide_in hq
      have hid44 := Fr44.hid hide_ext fun q hq => hide_in hq
      have hk44 : ∀ x ∈ flatM hh t', KeyAt (hideH (ownM hh t) H40) x := fun x hx => by
        rcases (P44.mem).1 hx with rfl | h
        · exact keX
        · exact kX x h
      have say44 : (flatM hh t').map sayE = (L.take (k + 1)).map sayE := by
        obtain ⟨a, b, q1, q2, qa, qb⟩ := P44
        have hb0 : b = [] := by
          cases b with
          | nil => rfl
          | cons x r =>
            have p1 := ltT x (by rw [q1]; simp)
            have p2 := qb x (List.mem_cons_self ..)
            have := ordE_ok.anti x e'
            omega
        subst hb0
        rw [q2, take_snoc he, List.map_append, List.map_append]
        rw [q1, List.append_nil] at hsay
        rw [hsay]
        simp [hsay']
      have srt44 := P44.srt srtT
      have len44 : (flatM hh t').length ≤ 4000 := by
        have := congrArg List.length say44
        simp at this; omega
      have ent44 : ∀ x ∈ flatM hh t', entB cols x = true := fun x hx => by
        obtain ⟨y, hy, e1⟩ := say_mem say44 hx
        rw [← ent_say e1]; exact entL y (List.mem_of_mem_take hy)
      rw [← hg44]
      exact out_root M44 S44 F44 hlo hX44 hid44 hk44 hcols srt44 ent44 len44 (J := J) fun h' t2 lo' H' b1 b2 b3 b4 b5 b6 b7 => hJ h' t2 lo' _ H' b4 (x17X.trans xXh) b1 b6 b2 b3 b7 (by rw [b5]; exact hk44) (by rw [b5]; exact say44)
    · have hlt := of_decide_eq_false hlt
      have hkk : k = L.length := by omega
      rw [hkk, List.take_length] at hsay
      have entT : ∀ x ∈ flatM hh t, entB cols x = true := fun x hx => by
        obtain ⟨y, hy, e1⟩ := say_mem hsay hx
        rw [← ent_say e1]; exact entL y hy
      refine ⟨cols, cg H34 (x15.trans (x17.trans xH34)), c55 M Fu hlo hcols ?_ srtT entT (fun x hx => (hkey x hx).ext xX) fun H63 A63 c63' bl x63 O => ⟨_, _, _, _, _, rfl, ?_⟩⟩
      · have := size_le (Fu.widen (hi' := 1000) (by omega))
        have := congrArg List.length hsay
        simp at this
        omega
      · exact h0 hok hno (by omega) H63 A63 c63' bl _ L _ (xx.trans (xH34.trans x63)) hperm hS hsay O
end
end Go.Proofs.YtmelbipidffmpaaGreatDoor.Hw

/- Delete: an entry taken out of a node's own entries. -/
set_option linter.unusedVariables false
set_option linter.unusedSimpArgs false
set_option linter.unusedSectionVars false
set_option maxRecDepth 20000
namespace Go.Proofs.YtmelbipidffmpaaGreatDoor.Hw
open Go Go.Proofs
section
variable {H : Hp} {Q : Value → Hp → Prop}
/-- An entry is taken out of a node's own entries. -/
theorem takeE {t : MT} {i : Nat} {K : Hp → Prop} (N : NodeM H t) (nd : (own1 t).Nodup) (hi : i < t.es.length) (hs : t.es.length < 1000)
    (hk : ∀ H', NodeM H' (.mk t.g t.eA t.ec (t.es.take i ++ t.es.drop (i + 1)) t.kA t.kc t.ks) → FrM H H' (own1 t) (own1 t) → K H') :
    HCalls Tryz.prog 83 [.slice t.eA t.es.length t.ec, .int .i64 (i : Int), .int .i64 ((i + 1 : Nat) : Int)] H fun v9 H10 => ∃ (A11 : Option Addr) (n11 c11 : Nat), v9 = .slice A11 n11 c11 ∧ storeF H10 t.g (0 + 0) [.slice A11 n11 c11] K := by
  obtain ⟨n1, n2, n3⟩ := nd1 nd
  refine f83.ok _ _ _ _ _ ?_
  rw [f83_is]
  refine del_ok N.er (by omega) rfl en_one (Nat.lt_succ_self i) (by omega) (by unfold big; omega) (by omega) fun H10 R10 F10 => ⟨_, _, _, rfl, ?_⟩
  rw [flat_take enC_len, flat_drop enC_len, ← List.flatMap_append] at R10
  have hl : (t.es.take i ++ t.es.drop (i + 1)).length = i + (t.es.length - (i + 1)) := by simp; omega
  have keep : ∀ q, ¬ rowB t.eA q → H q ≠ none → H10 q = H q := fun q hq hn => Classical.byContradiction fun hne => by
    rcases F10.ch q hne with h | h
    · exact hq h
    · exact hn h
  obtain ⟨ty, hc⟩ := N.cell
  have hc10 : ∃ ty, H10 t.g = some (.cells (nodeC t.eA t.es.length t.ec t.kA t.ks.length t.kc).toArray ty (0, 0)) := ⟨ty, (keep _ n1 (by rw [hc]; simp)).trans hc⟩
  have k10 : RowO H10 t.kA t.ks.length t.kc 1 (t.ks.flatMap ptC) := N.kr.keep fun q hq hn => keep q (fun h => n3 q h hq) hn
  refine setE' hc10 k10 hl.symm (by rw [hl]; exact R10) n1 n2 fun H12 N12 off lv => hk H12 N12 ⟨fun q hq => ?_, fun q hq => .inl hq, fun q hq => ?_⟩
  · by_cases e1 : q = t.g
    · subst e1; exact .inl (by simp [own1])
    · rw [off q e1] at hq
      rcases F10.ch q hq with h | h
      · exact .inl (by simp [own1, blk_row, h])
      · exact .inr h
  · by_cases e1 : q = t.g
    · subst e1; exact lv
    · rw [off q e1]
      exact F10.al q hq
/-- remove, at a leaf. -/
theorem c58L {t : MT} {e : EnM} (N : NodeM H t) (hk0 : t.ks = []) (nd : (own1 t).Nodup) (hkey : ∀ x ∈ t.es, KeyAt H x) (he : KeyAt H e) (hsrt : SrtE t.es) (hs : t.es.length < 1000) (hhas : hasE t.es e = true)
    (hq : ∀ H', NodeM H' (.mk t.g t.eA t.ec (t.es.take (cntE t.es e) ++ t.es.drop (cntE t.es e + 1)) t.kA t.kc t.ks) → FrM H H' (own1 t) (own1 t) → Q (.tuple #[]) H') : HCalls Tryz.prog 58 [.pointer (some ⟨t.g, 0, none⟩), enA e] H Q := by
  refine f58.ok _ _ _ _ _ _ ?_
  unfold f58
  have hi : cntE t.es e < t.es.length := by
    unfold hasE at hhas
    cases hg : t.es[cntE t.es e]? with
    | none => rw [hg] at hhas; cases hhas
    | some x => exact (List.getElem?_eq_some_iff.1 hg).1
  refine c78 N hkey he hsrt (by unfold big; omega) fun H2 x2 => ⟨_, _, rfl, ?_⟩
  have N2 := N.ext x2
  rw [hhas]
  have ei : IntKind.i64.wrap (((cntE t.es e : Nat) : Int) + 1) = ((cntE t.es e + 1 : Nat) : Int) := by rw [wrap_id (by omega) (by omega)]; omega
  rw [ei]
  refine jn_intro (fun J => J true) (cndT rfl ⟨_, _, _, N2.cl0, takeE N2 nd hi hs fun H12 N12 F12 => hq H12 N12 ((FrM.ofExt x2).trans F12)⟩) fun J hJ => ⟨_, _, _, N2.cl1, cndT (by rw [hk0]; rfl) hJ⟩
end
end Go.Proofs.YtmelbipidffmpaaGreatDoor.Hw

/- slices.Grow, slices.Concat of entries; two nodes put together. -/
set_option linter.unusedVariables false
set_option linter.unusedSimpArgs false
set_option linter.unusedSectionVars false
set_option maxRecDepth 20000
namespace Go.Proofs.YtmelbipidffmpaaGreatDoor.Hw
open Go Go.Proofs
structure SlM where
  A : Option Addr
  n : Nat
  c : Nat
  l : List EnM
def smC (x : SlM) : List Value := [.slice x.A x.n x.c]
def allM (ls : List SlM) : List EnM := ls.flatMap SlM.l
section
variable {H : Hp} {A : Option Addr} {n c : Nat} {Q : Value → Hp → Prop}
theorem c137 {k : Nat} (hk : k < 1000) (hq : ∀ A' c' H', Ext H H' → RowO H' A' 0 c' 2 [] → k ≤ c' → (∀ q, rowB A' q → H q = none) → Q (.slice A' 0 c') H') : HCalls Tryz.prog 137 [.slice none 0 0, .int .i64 (k : Int)] H Q := by
  refine f137.ok _ _ _ _ ?_
  unfold f137
  have e1 : IntKind.i64.wrap (((0 : Nat) : Int) - ((0 : Nat) : Int)) = 0 := by rw [wrap_id (by omega) (by omega)]; omega
  have e2 : IntKind.i64.wrap ((k : Int) - 0) = (k : Int) := by rw [wrap_id (by omega) (by omega)]; omega
  rw [e1, e2]
  refine cndF (decide_eq_false (by omega)) (jn_intro (fun J => ∀ A' c' H', Ext H H' → RowO H' A' 0 c' 2 [] → k ≤ c' → (∀ q, rowB A' q → H q = none) → J A' 0 c' H') hq fun J hJ => cndI (fun h => ?_) fun h => ?_)
  · have h := of_decide_eq_true h
    simp only [cut_zero, Nat.sub_zero, Int.toNat_natCast]
    refine ⟨by omega, by omega, by omega, by omega, by rw [Int.toNat_natCast]; omega, by rw [Int.toNat_natCast]; omega, [], rfl, .inl rfl, fun b cap rest hb h1 h2 h3 => ⟨by omega, by omega, ?_⟩⟩
    rw [Int.toNat_natCast] at h1 h3 ⊢
    have hz : ((List.replicate k [Value.slice none 0 0, .int .i64 0]).flatten).length = k * 2 := flat_rep rfl
    refine hJ _ cap _ (Ext.new hb) ⟨rfl, Nat.zero_le _, .inr ⟨b, 0, _, 46, rfl, upd_at, ?_, fun j v hj => by simp at hj⟩⟩ (by omega) fun q ⟨o, z, hh⟩ => by cases hh; exact hb
    rw [List.length_append, List.length_append, hz, h3, List.length_nil]
    omega
  · have h := of_decide_eq_false h
    exact hJ none 0 H (Ext.refl _) RowO.nil (by omega) fun q ⟨o, z, hh⟩ => by cases hh
theorem rd_sm {l : List SlM} {i : Nat} {x : SlM} (h : SlAt smC H A n l) (hi : l[i]? = some x) {K : Nat → Nat → Prop}
    (hk : ∀ p o, A = some ⟨p, o, none⟩ → cl H p (o + i * 1) = some (.slice x.A x.n x.c) → K p o) : onPtr A K := by
  have hlen : ∀ x ∈ l, (smC x).length = 1 := fun x _ => rfl
  have hne : l ≠ [] := fun e => by subst e; simp at hi
  refine at_cells h.cells (flat_ne hlen (by omega) hne) fun p o hA hc => hk p o hA ?_
  have := hc (i * 1 + 0) _ (flat_get hlen hi (by omega))
  rw [Nat.add_zero] at this
  exact this
theorem all_snoc {ls : List SlM} {i : Nat} {x : SlM} (h : ls[i]? = some x) : allM (ls.take (i + 1)) = allM (ls.take i) ++ x.l := by
  unfold allM
  rw [take_snoc h, List.flatMap_append]
  simp
theorem all_le {ls : List SlM} {i : Nat} : (allM (ls.take i)).length ≤ (allM ls).length := by
  conv => rhs; rw [← List.take_append_drop i ls]
  unfold allM
  rw [List.flatMap_append, List.length_append]
  omega
theorem c124 {ls : List SlM} (hA : SlAt smC H A n ls) (hm : ∀ x ∈ ls, x.n = x.l.length ∧ cellsAt H x.A (x.l.flatMap enC)) (hs : (allM ls).length < 1000)
    (hq : ∀ A' c' H', Ext H H' → RowO H' A' (allM ls).length c' 2 ((allM ls).flatMap enC) → (∀ q, rowB A' q → H q = none) → Q (.slice A' (allM ls).length c') H') : HCalls Tryz.prog 124 [.slice A n c] H Q := by
  refine f124.ok _ _ _ ?_
  unfold f124
  obtain rfl := hA.len
  have hlt := hA.lt
  refine loop_to ls.length (fun i st H' => st = (((((allM (ls.take i)).length : Nat) : Int), ((i : Int), ())), ()) ∧ H' = H) ⟨rfl, rfl⟩ ?_
  rintro i st H2 next hi ⟨rfl, rfl⟩ hnext
  dsimp only
  refine cndI (fun h => ?_) fun h => ?_
  · have h := of_decide_eq_true h
    obtain ⟨x, hx⟩ := get_of (l := ls) (i := i) (by omega)
    have hxn := (hm x (List.mem_of_getElem? hx)).1
    have e1 := all_snoc hx
    have e2 := all_le (ls := ls) (i := i + 1)
    have e3 : (allM (ls.take (i + 1))).length = (allM (ls.take i)).length + x.l.length := by rw [e1, List.length_append]
    have ew : IntKind.i64.wrap ((((allM (ls.take i)).length : Nat) : Int) + ((x.n : Nat) : Int)) = (((allM (ls.take (i + 1))).length : Nat) : Int) := by rw [wrap_id (by omega) (by omega)]; omega
    refine ⟨by omega, by omega, rd_sm hA hx fun q o _ k1 => ⟨_, _, _, by simpa using k1, ?_⟩⟩
    rw [ew]
    refine cndF (decide_eq_false (by omega)) ⟨rfl, hnext _ _ (by omega) ⟨by rw [wrap_id (by omega) (by omega)]; rfl, rfl⟩⟩
  · have h := of_decide_eq_false h
    have hin : i = ls.length := by omega
    subst hin
    rw [List.take_length]
    refine c137 hs fun A8 c8 H7 x7 R7 hc8 nw7 => ⟨_, _, _, rfl, ?_⟩
    refine loop_to ls.length (fun i st H' => ∃ A' c', st = (((A', (allM (ls.take i)).length, c'), ((i : Int), ())), ()) ∧ Ext H2 H' ∧ RowO H' A' (allM (ls.take i)).length c' 2 ((allM (ls.take i)).flatMap enC) ∧ ∀ q, rowB A' q → H2 q = none) ⟨A8, c8, rfl, x7, R7, nw7⟩ ?_
    rintro i st H10 next' hi' ⟨A', c', rfl, x10, R10, nw10⟩ hnext'
    dsimp only
    refine cndI (fun h => ?_) fun h => ?_
    · have h := of_decide_eq_true h
      obtain ⟨x, hx⟩ := get_of (l := ls) (i := i) (by omega)
      obtain ⟨hxn, hxc⟩ := hm x (List.mem_of_getElem? hx)
      have e1 := all_snoc hx
      have e2 := all_le (ls := ls) (i := i + 1)
      have e3 : (allM (ls.take (i + 1))).length = (allM (ls.take i)).length + x.l.length := by rw [e1, List.length_append]
      refine ⟨by omega, by omega, rd_sm (hA.ext x10) hx fun q o _ k1 => ⟨_, _, _, by simpa using k1, ?_⟩⟩
      rw [hxn]
      refine R10.append (new := x.l.flatMap enC) (cellsAt_ext x10 hxc) (flat_length fun x _ => enC_len x) en_one (by unfold big; omega) (by omega) fun A14 c14 H15 R15 F15 _ => ⟨rfl, hnext' _ _ (by omega) ⟨A14, c14, ?_, F15.ext x10 nw10, ?_, fun q hq => ?_⟩⟩
      · rw [wrap_id (by omega) (by omega), e3]; rfl
      · rw [e3, e1, List.flatMap_append]; exact R15
      · rcases F15.nw q hq with h1 | h1
        · exact nw10 q h1
        · exact x10.none h1
    · have h := of_decide_eq_false h
      have hin : i = ls.length := by omega
      subst hin
      rw [List.take_length] at R10 ⊢
      exact hq A' c' H10 x10 R10 nw10
end
section
variable {H0 H : Hp} {O : List Nat} {t p q : MT} {j : Nat} {s : EnM} {Q : Value → Hp → Prop}
theorem c105 (T : Tri H0 H O t p q) (hp : t.ks[j]? = some p) (hq' : t.ks[j + 1]? = some q) (hs : t.es[j]? = some s)
    (b1 : t.es.length < 400) (b2 : t.ks.length < 400) (b3 : p.es.length < 400) (b4 : q.es.length < 400) (b5 : p.ks.length < 400) (b6 : q.ks.length < 400)
    (hq : ∀ H' t' p' q', Tri H0 H' O t' p' q' → t'.g = t.g → t'.ks = t.ks.take (j + 1) ++ t.ks.drop (j + 2) → t'.es = t.es.take j ++ t.es.drop (j + 1) → p'.g = p.g → p'.es = p.es ++ s :: q.es → p'.ks = p.ks ++ q.ks → Q (.tuple #[]) H') :
    HCalls Tryz.prog 105 [.pointer (some ⟨t.g, 0, none⟩), .int .i64 ((j : Nat) : Int)] H Q := by
  have jt := (List.getElem?_eq_some_iff.1 hp).1
  have jt' := (List.getElem?_eq_some_iff.1 hq').1
  have je := (List.getElem?_eq_some_iff.1 hs).1
  have ew : IntKind.i64.wrap (((j : Nat) : Int) + 1) = ((j + 1 : Nat) : Int) := by rw [wrap_id (by omega) (by omega)]; omega
  have ew2 : IntKind.i64.wrap (((j : Nat) : Int) + 2) = ((j + 1 + 1 : Nat) : Int) := by rw [wrap_id (by omega) (by omega)]; omega
  have hle := T.na.er.le
  refine f105.ok _ _ _ ?_
  unfold f105
  rw [ew, ew2]
  refine ⟨_, _, _, T.na.cl1, by omega, by omega, rd_pt (T.na.ksAt (by unfold huge; omega)) hp fun q1 o1 _ kp => ⟨_, by simpa using kp, _, _, _, T.na.cl1, by omega, by omega, rd_pt (T.na.ksAt (by unfold huge; omega)) hq' fun q2 o2 _ kq => ⟨_, by simpa using kq, onPtrI ⟨_, _, _, T.nb.cl0, _, _, _, T.na.cl0, by omega, by omega, by omega, by omega, onPtrI ⟨_, _, _, T.nc.cl0, fun g12 hg12 => ?_⟩⟩⟩⟩⟩
  simp only [onPtr_at, Int.toNat_natCast]
  have e1 : j + 1 - j = 1 := by omega
  rw [e1]
  have x13 : Ext H (upd g12 (.cells [Value.slice p.eA p.es.length p.ec, .slice (cutA t.eA (j * 2) (decide (t.ec = j))) 1 (t.ec - j), .slice q.eA q.es.length q.ec].toArray 28 (0, 0)) H) := Ext.new hg12
  have hmid : cellsAt H (cutA t.eA (j * 2) (decide (t.ec = j))) ([s].flatMap enC) := by
    have D := (T.na.er.drop (p := j) (by omega) (by omega)).take (p := 1) (by omega)
    rw [flat_drop enC_len, flat_take enC_len] at D
    have e : (t.es.drop j).take 1 = [s] := by
      rw [List.drop_eq_getElem_cons je, (List.getElem?_eq_some_iff.1 hs).2]; rfl
    rw [e] at D
    exact D.cells
  have eall : allM [⟨p.eA, p.es.length, p.ec, p.es⟩, ⟨cutA t.eA (j * 2) (decide (t.ec = j)), 1, t.ec - j, [s]⟩, ⟨q.eA, q.es.length, q.ec, q.es⟩] = p.es ++ s :: q.es := by simp [allM]
  have lall : (p.es ++ s :: q.es).length = p.es.length + q.es.length + 1 := by simp; omega
  refine c124 (ls := [⟨p.eA, p.es.length, p.ec, p.es⟩, ⟨cutA t.eA (j * 2) (decide (t.ec = j)), 1, t.ec - j, [s]⟩, ⟨q.eA, q.es.length, q.ec, q.es⟩]) (fresh_sl (l := [⟨p.eA, p.es.length, p.ec, p.es⟩, ⟨cutA t.eA (j * 2) (decide (t.ec = j)), 1, t.ec - j, [s]⟩, ⟨q.eA, q.es.length, q.ec, q.es⟩]) (f := smC) rfl (by simp [huge])) (fun x hx => ?_) (by rw [eall, lall]; omega) fun A16 c16 H15 x15 R15 nw15 => ⟨_, _, _, rfl, ?_⟩
  · simp only [List.mem_cons, List.not_mem_nil, or_false] at hx
    rcases hx with rfl | rfl | rfl
    · exact ⟨rfl, cellsAt_ext x13 T.nb.er.cells⟩
    · exact ⟨rfl, cellsAt_ext x13 hmid⟩
    · exact ⟨rfl, cellsAt_ext x13 T.nc.er.cells⟩
  rw [eall] at R15 ⊢
  have xx := x13.trans x15
  have F15 : FrO H H15 p.eA A16 := ⟨fun z hz => .inr (Classical.byContradiction fun hn => hz (ext_at xx hn)), fun z hz => .inr (x13.none (nw15 z hz)), fun z hz => by rw [ext_at xx hz]; exact hz⟩
  refine setE_fr T.nb T.ndb rfl R15 F15 fun H18 N18 nd18 F18 => ?_
  have T1 := T.put2 N18 nd18 F18
  refine ⟨_, _, _, T1.nb.cl1, _, _, _, T1.nc.cl1, ?_⟩
  refine apKs T1.nb T1.ndb T1.nc (by show p.ks.length + q.ks.length < 1000; omega) fun H26 A26 c26 N26 nd26 F26 => ?_
  have T2 := T1.put2 N26 nd26 F26
  refine ⟨_, _, _, T2.na.cl0, ?_⟩
  refine takeE (i := j) T2.na T2.nda je (by omega) fun H31 N31 F31 => ?_
  have T3 := T2.put1 N31 T2.nda F31
  refine ⟨_, _, _, T3.na.cl1, ?_⟩
  refine takeK (i := j + 1) T3.na T3.nda jt' (by show t.ks.length < 1000; omega) fun H36 N36 nd36 F36 => ?_
  have T4 := T3.put1 N36 nd36 F36
  exact hq H36 _ _ _ T4 rfl rfl rfl rfl rfl rfl
end
end Go.Proofs.YtmelbipidffmpaaGreatDoor.Hw

/- Nodes: mend. -/
set_option linter.unusedVariables false
set_option linter.unusedSimpArgs false
set_option linter.unusedSectionVars false
set_option maxRecDepth 20000
namespace Go.Proofs.YtmelbipidffmpaaGreatDoor.Hw
open Go Go.Proofs
section
variable {H H' : Hp} {h : Nat} {t t' p q p' q' u : MT} {K1 K2 : List MT} {j : Nat} {s x : EnM}
theorem tri_of (M : MemM H (h + 1) t) (S : SepM (h + 1) t) (hk : t.ks = K1 ++ ([p, q] ++ K2)) : Tri H H (own1 t ++ own1 p ++ own1 q) t p q := by
  obtain ⟨s1, s2, s3⟩ := S
  have hp : p ∈ t.ks := by rw [hk]; simp
  have hq : q ∈ t.ks := by rw [hk]; simp
  have hpq : Apart h p q := by
    rw [hk, List.pairwise_append, List.pairwise_append] at s3
    have := s3.2.1.1
    rw [List.pairwise_cons] at this
    exact this.1 q (by simp)
  refine ⟨M.1, (M.2 p hp).node, (M.2 q hq).node, ?_, FrM.refl⟩
  rw [List.append_assoc, List.nodup_append, List.nodup_append]
  refine ⟨s1, ⟨(s2 p hp).1.one, (s2 q hq).1.one, fun a ha b hb e => hpq a (own1_sub ha) (by rw [e]; exact own1_sub hb)⟩, fun a ha b hb e => ?_⟩
  subst e
  rcases List.mem_append.1 hb with hb | hb
  · exact (s2 p hp).2 a (own1_sub hb) ha
  · exact (s2 q hq).2 a (own1_sub hb) ha
theorem pair_same (e1 : p'.g = p.g) (e2 : q'.g = q.g) : (K1 ++ ([p', q'] ++ K2)).flatMap ptC = (K1 ++ ([p, q] ++ K2)).flatMap ptC := by
  simp only [List.flatMap_append, List.flatMap_cons, List.flatMap_nil, ptC, e1, e2]
/-- What has come of a node and two kids: as before, but for where things stand. -/
structure Same (H H' : Hp) (h : Nat) (t t2 : MT) : Prop where
  g : t2.g = t.g
  mem : MemM H' (h + 1) t2
  sep : SepM (h + 1) t2
  full : FullM (t.es.length - 1) 8 (h + 1) t2
  flat : flatM (h + 1) t2 = flatM (h + 1) t
  fr : FrM H H' (ownM (h + 1) t) (ownM (h + 1) t2)
theorem pair_end (M : MemM H (h + 1) t) (S : SepM (h + 1) t) (hk : t.ks = K1 ++ ([p, q] ++ K2)) (T : Tri H H' (own1 t ++ own1 p ++ own1 q) t' p' q') (eg : t'.g = t.g) (ek : t'.ks = t.ks) (ee : t'.es = t.es.set j x) (egp : p'.g = p.g) (egq : q'.g = q.g)
    (hLk : p'.ks ++ q'.ks = p.ks ++ q.ks) (hj : K1.length = j) (hs : t.es[j]? = some s) (hfl : flatM h p' ++ x :: flatM h q' = flatM h p ++ s :: flatM h q) (Fp : FullM 3 8 h p') (Fq : FullM 3 8 h q') (fo : ∀ v, v ∈ K1 ∨ v ∈ K2 → FullM 3 8 h v) (hkl : t.ks.length = t.es.length + 1) (h8 : t.es.length ≤ 8) :
    ∃ t2, Same H H' h t t2 := by
  have hjl := (List.getElem?_eq_some_iff.1 hs).1
  obtain ⟨t2, ht2⟩ : ∃ t2 : MT, t2 = .mk t'.g t'.eA t'.ec t'.es t'.kA t'.kc (K1 ++ ([p', q'] ++ K2)) := ⟨_, rfl⟩
  have T2 := T.same1 (ks' := K1 ++ ([p', q'] ++ K2)) (by rw [ek, hk]; exact pair_same egp egq)
  rw [← ht2] at T2
  have k2 : t2.ks = K1 ++ ([p', q'] ++ K2) := by rw [ht2]; rfl
  have e2 : t2.es = t.es.set j x := by rw [ht2]; exact ee
  obtain ⟨a1, a2, a3⟩ := two_done M S hk T2 (.inl rfl) (by simpa using hLk) k2
  have es1 : t.es = t.es.take j ++ s :: t.es.drop (j + 1) := kids_split hs
  have es2 : t2.es = t.es.take j ++ x :: t.es.drop (j + 1) := by rw [e2, List.set_eq_take_append_cons_drop, if_pos hjl]
  have hl : K1.length = (t.es.take j).length := by rw [List.length_take]; omega
  refine ⟨t2, by rw [ht2]; exact eg, a1, a2, ⟨?_, ?_, ?_, fun v hv => ?_⟩, ?_, a3⟩
  · rw [k2, e2, List.length_set, ← hkl, hk]; simp
  · rw [e2, List.length_set]; omega
  · rw [e2, List.length_set]; omega
  · rw [k2] at hv
    rcases List.mem_append.1 hv with hv | hv
    · exact fo v (.inl hv)
    · rcases List.mem_append.1 hv with hv | hv
      · simp only [List.mem_cons, List.not_mem_nil, or_false] at hv
        rcases hv with rfl | rfl
        · exact Fp
        · exact Fq
      · exact fo v (.inr hv)
  · rw [flat_pair (h := h) k2 es2 hl, flat_pair (h := h) hk es1 hl, hfl]
theorem one_end (M : MemM H (h + 1) t) (S : SepM (h + 1) t) (hk : t.ks = K1 ++ ([p, q] ++ K2)) (T : Tri H H' (own1 t ++ own1 p ++ own1 q) t' p' q') (eg : t'.g = t.g) (ek : t'.ks = t.ks.take (j + 1) ++ t.ks.drop (j + 2)) (ee : t'.es = t.es.take j ++ t.es.drop (j + 1)) (egp : p'.g = p.g)
    (hLk : p'.ks = p.ks ++ q.ks) (hj : K1.length = j) (hs : t.es[j]? = some s) (hfl : flatM h p' = flatM h p ++ s :: flatM h q) (Fp : FullM 3 8 h p') (fo : ∀ v, v ∈ K1 ∨ v ∈ K2 → FullM 3 8 h v) (hkl : t.ks.length = t.es.length + 1) (h8 : t.es.length ≤ 8) :
    ∃ t2, Same H H' h t t2 := by
  have hjl := (List.getElem?_eq_some_iff.1 hs).1
  have kk : t'.ks = K1 ++ ([p] ++ K2) := by
    have e1 : t.ks.take (j + 1) = K1 ++ [p] := by
      have : t.ks = (K1 ++ [p]) ++ (q :: K2) := by rw [hk]; simp
      rw [this, List.take_left' (by simp; omega)]
    have e2 : t.ks.drop (j + 2) = K2 := by
      have : t.ks = (K1 ++ [p, q]) ++ K2 := by rw [hk]; simp
      rw [this, List.drop_left' (by simp; omega)]
    rw [ek, e1, e2]; simp
  obtain ⟨t2, ht2⟩ : ∃ t2 : MT, t2 = .mk t'.g t'.eA t'.ec t'.es t'.kA t'.kc (K1 ++ ([p'] ++ K2)) := ⟨_, rfl⟩
  have T2 := T.same1 (ks' := K1 ++ ([p'] ++ K2)) (by rw [kk]; simp only [List.flatMap_append, List.flatMap_cons, List.flatMap_nil, ptC, egp])
  rw [← ht2] at T2
  have k2 : t2.ks = K1 ++ ([p'] ++ K2) := by rw [ht2]; rfl
  have e2 : t2.es = t.es.take j ++ t.es.drop (j + 1) := by rw [ht2]; exact ee
  obtain ⟨a1, a2, a3⟩ := two_done M S hk T2 (.inr rfl) (by simpa using hLk) k2
  have es1 : t.es = t.es.take j ++ s :: t.es.drop (j + 1) := kids_split hs
  have hl : K1.length = (t.es.take j).length := by rw [List.length_take]; omega
  have el : t2.es.length = t.es.length - 1 := by rw [e2]; simp; omega
  refine ⟨t2, by rw [ht2]; exact eg, a1, a2, ⟨?_, by omega, by omega, fun v hv => ?_⟩, ?_, a3⟩
  · rw [el, k2]
    have := hkl
    rw [hk] at this
    simp at this ⊢
    omega
  · rw [k2] at hv
    rcases List.mem_append.1 hv with hv | hv
    · exact fo v (.inl hv)
    · rcases List.mem_append.1 hv with hv | hv
      · simp only [List.mem_cons, List.not_mem_nil, or_false] at hv
        subst hv
        exact Fp
      · exact fo v (.inr hv)
  · rw [flat_one (h := h) k2 e2 hl, flat_pair (h := h) hk es1 hl, hfl]
end
section
variable {H : Hp} {h : Nat} {t p q u : MT} {K1 K2 : List MT} {j i : Nat} {Q : Value → Hp → Prop}
theorem at_pair (hk : t.ks = K1 ++ ([p, q] ++ K2)) (hj : K1.length = j) : t.ks[j]? = some p ∧ t.ks[j + 1]? = some q := by
  rw [hk, ← hj]
  refine ⟨by simp, ?_⟩
  rw [List.getElem?_append_right (by omega), show K1.length + 1 - K1.length = 1 by omega]; rfl
theorem mend_left (M : MemM H (h + 1) t) (S : SepM (h + 1) t) (hk : t.ks = K1 ++ ([p, q] ++ K2)) (hj : K1.length = j) (hkl : t.ks.length = t.es.length + 1) (h8 : t.es.length ≤ 8) (fo : ∀ v, v ∈ K1 ∨ v ∈ K2 → FullM 3 8 h v) (fp : FullM 4 8 h p) (fq : FullM 2 7 h q)
    (hq : ∀ H' t2, Same H H' h t t2 → Q (.tuple #[]) H') : HCalls Tryz.prog 103 [.pointer (some ⟨t.g, 0, none⟩), .int .i64 ((j + 1 : Nat) : Int)] H Q := by
  obtain ⟨a1, a2⟩ := at_pair hk hj
  have ptop := fp.top
  have qtop := fq.top
  obtain ⟨z1, z2⟩ := full_kids fp
  obtain ⟨y1, y2⟩ := full_kids fq
  have ll : t.ks.length = K1.length + 2 + K2.length := by rw [hk]; simp; omega
  obtain ⟨s, hs⟩ := get_of (l := t.es) (i := j) (by omega)
  obtain ⟨Pe, x, hx⟩ : ∃ Pe x, p.es = Pe ++ [x] := ⟨_, _, (List.dropLast_concat_getLast (by intro e; rw [e] at ptop; simp at ptop)).symm⟩
  have pl : p.es.length = Pe.length + 1 := by rw [hx]; simp
  have pk : p.ks.length ≤ 9 := by
    cases h with
    | zero => rw [z1 rfl]; simp
    | succ h => have := (z2 h rfl).1; omega
  have qk : q.ks.length ≤ 9 := by
    cases h with
    | zero => rw [y1 rfl]; simp
    | succ h => have := (y2 h rfl).1; omega
  refine c103 (tri_of M S hk) a1 a2 hs hx ?_ (by omega) (by omega) (by omega) (by omega) (by omega) fun H' t' p' q' T eg ek ee egp epe egq eqe hks => ?_
  · cases h with
    | zero => exact .inl (z1 rfl)
    | succ h =>
      have hl := (z2 h rfl).1
      refine .inr ⟨_, _, (List.dropLast_concat_getLast (by intro e; rw [e] at hl; simp at hl)).symm, ?_⟩
      rw [List.length_dropLast]; omega
  · have hpe' : p'.es.length = Pe.length := by rw [epe]
    have hqe' : q'.es.length = q.es.length + 1 := by rw [eqe]; simp
    have hcase : (h = 0 ∧ p.ks = [] ∧ q.ks = [] ∧ p'.ks = [] ∧ q'.ks = []) ∨ ∃ h' Pk z, h = h' + 1 ∧ p.ks = Pk ++ [z] ∧ Pk.length = Pe.length + 1 ∧ p'.ks = Pk ∧ q'.ks = z :: q.ks := by
      cases h with
      | zero =>
        left
        rcases hks with ⟨b1, b2, b3⟩ | ⟨Pk, z, b1, _⟩
        · exact ⟨rfl, b1, y1 rfl, b2, by rw [b3]; exact y1 rfl⟩
        · rw [z1 rfl] at b1; simp at b1
      | succ h =>
        right
        rcases hks with ⟨b1, b2, b3⟩ | ⟨Pk, z, b⟩
        · have := (z2 h rfl).1; rw [b1] at this; simp at this
        · exact ⟨h, Pk, z, rfl, b⟩
    obtain ⟨t2, ht2⟩ := pair_end (x := x) (s := s) M S hk T eg ek ee egp egq (by
      rcases hcase with ⟨_, b1, b2, b3, b4⟩ | ⟨h', Pk, z, _, b1, _, b3, b4⟩
      · rw [b1, b2, b3, b4]
      · rw [b1, b3, b4]; simp) hj hs (by
      rcases hcase with ⟨b0, _⟩ | ⟨h', Pk, z, b0, b1, b2, b3, b4⟩
      · exact flat_left (z := t) (Pk := []) hx epe eqe (.inl b0)
      · exact flat_left hx epe eqe (.inr ⟨b1, b2, b3, b4⟩))
      (full_of (fun e => by
        rcases hcase with ⟨_, b1, b2, b3, b4⟩ | ⟨h', _, _, e', _⟩
        · exact b3
        · omega) (fun h' e => by
        rcases hcase with ⟨e', _⟩ | ⟨h'', Pk, z, e', b1, b2, b3, b4⟩
        · omega
        · obtain rfl : h' = h'' := by omega
          refine ⟨by rw [b3]; omega, fun v hv => (z2 h' e).2 v ?_⟩
          rw [b3] at hv; rw [b1]; exact List.mem_append_left _ hv) (by omega) (by omega))
      (full_of (fun e => by
        rcases hcase with ⟨_, b1, b2, b3, b4⟩ | ⟨h', _, _, e', _⟩
        · exact b4
        · omega) (fun h' e => by
        rcases hcase with ⟨e', _⟩ | ⟨h'', Pk, z, e', b1, b2, b3, b4⟩
        · omega
        · obtain rfl : h' = h'' := by omega
          have hyl := (y2 h' e).1
          refine ⟨by rw [b4, hqe', List.length_cons, hyl], fun v hv => ?_⟩
          rw [b4] at hv
          rcases List.mem_cons.1 hv with rfl | hv
          · exact (z2 h' e).2 _ (by rw [b1]; simp)
          · exact (y2 h' e).2 v hv) (by omega) (by omega)) fo hkl h8
    exact hq H' t2 ht2
theorem mend_right (M : MemM H (h + 1) t) (S : SepM (h + 1) t) (hk : t.ks = K1 ++ ([p, q] ++ K2)) (hj : K1.length = j) (hkl : t.ks.length = t.es.length + 1) (h8 : t.es.length ≤ 8) (fo : ∀ v, v ∈ K1 ∨ v ∈ K2 → FullM 3 8 h v) (fp : FullM 2 7 h p) (fq : FullM 4 8 h q)
    (hq : ∀ H' t2, Same H H' h t t2 → Q (.tuple #[]) H') : HCalls Tryz.prog 104 [.pointer (some ⟨t.g, 0, none⟩), .int .i64 ((j : Nat) : Int)] H Q := by
  obtain ⟨a1, a2⟩ := at_pair hk hj
  have ptop := fp.top
  have qtop := fq.top
  obtain ⟨z1, z2⟩ := full_kids fp
  obtain ⟨y1, y2⟩ := full_kids fq
  have ll : t.ks.length = K1.length + 2 + K2.length := by rw [hk]; simp; omega
  obtain ⟨s, hs⟩ := get_of (l := t.es) (i := j) (by omega)
  obtain ⟨x, Qe, hx⟩ : ∃ x Qe, q.es = x :: Qe := by
    cases he : q.es with
    | nil => rw [he] at qtop; simp at qtop
    | cons x r => exact ⟨x, r, rfl⟩
  have ql : q.es.length = Qe.length + 1 := by rw [hx]; simp
  have pk : p.ks.length ≤ 9 := by
    cases h with
    | zero => rw [z1 rfl]; simp
    | succ h => have := (z2 h rfl).1; omega
  have qk : q.ks.length ≤ 9 := by
    cases h with
    | zero => rw [y1 rfl]; simp
    | succ h => have := (y2 h rfl).1; omega
  refine c104 (tri_of M S hk) a1 a2 hs hx (by omega) ?_ (by omega) (by omega) (by omega) (by omega) (by omega) (by omega) fun H' t' p' q' T eg ek ee egp epe egq eqe hks => ?_
  · cases h with
    | zero => exact .inl (y1 rfl)
    | succ h =>
      have hl := (y2 h rfl).1
      cases hz : q.ks with
      | nil => rw [hz] at hl; simp at hl
      | cons z r => rw [hz] at hl; exact .inr ⟨z, r, rfl, by simp at hl; omega⟩
  · have hqe' : q'.es.length = Qe.length := by rw [eqe]
    have hpe' : p'.es.length = p.es.length + 1 := by rw [epe]; simp
    have hcase : (h = 0 ∧ p.ks = [] ∧ q.ks = [] ∧ p'.ks = [] ∧ q'.ks = []) ∨ ∃ h' z Qk, h = h' + 1 ∧ q.ks = z :: Qk ∧ q'.ks = Qk ∧ p'.ks = p.ks ++ [z] := by
      cases h with
      | zero =>
        left
        rcases hks with ⟨b1, b2, b3⟩ | ⟨z, Qk, b1, _⟩
        · exact ⟨rfl, z1 rfl, b1, by rw [b3]; exact z1 rfl, b2⟩
        · rw [y1 rfl] at b1; simp at b1
      | succ h =>
        right
        rcases hks with ⟨b1, b2, b3⟩ | ⟨z, Qk, b⟩
        · have := (y2 h rfl).1; rw [b1] at this; simp at this
        · exact ⟨h, z, Qk, rfl, b⟩
    obtain ⟨t2, ht2⟩ := pair_end (x := x) (s := s) M S hk T eg ek ee egp egq (by
      rcases hcase with ⟨_, b1, b2, b3, b4⟩ | ⟨h', z, Qk, _, b1, b3, b4⟩
      · rw [b1, b2, b3, b4]
      · rw [b1, b3, b4]; simp) hj hs (by
      rcases hcase with ⟨b0, _⟩ | ⟨h', z, Qk, b0, b1, b3, b4⟩
      · exact flat_right (z := t) (Qk := []) hx eqe epe (.inl b0)
      · exact flat_right hx eqe epe (.inr ⟨b1, (z2 h' b0).1, b3, b4⟩))
      (full_of (fun e => by
        rcases hcase with ⟨_, b1, b2, b3, b4⟩ | ⟨h', _, _, e', _⟩
        · exact b3
        · omega) (fun h' e => by
        rcases hcase with ⟨e', _⟩ | ⟨h'', z, Qk, e', b1, b3, b4⟩
        · omega
        · obtain rfl : h' = h'' := by omega
          have hyl := (z2 h' e).1
          refine ⟨by rw [b4, hpe', List.length_append, hyl]; rfl, fun v hv => ?_⟩
          rw [b4] at hv
          rcases List.mem_append.1 hv with hv | hv
          · exact (z2 h' e).2 v hv
          · rw [List.mem_singleton] at hv; subst hv; exact (y2 h' e).2 _ (by rw [b1]; simp)) (by omega) (by omega))
      (full_of (fun e => by
        rcases hcase with ⟨_, b1, b2, b3, b4⟩ | ⟨h', _, _, e', _⟩
        · exact b4
        · omega) (fun h' e => by
        rcases hcase with ⟨e', _⟩ | ⟨h'', z, Qk, e', b1, b3, b4⟩
        · omega
        · obtain rfl : h' = h'' := by omega
          have hyl := (y2 h' e).1
          rw [b1] at hyl
          refine ⟨by rw [b3]; simp at hyl; omega, fun v hv => (y2 h' e).2 v ?_⟩
          rw [b3] at hv; rw [b1]; exact List.mem_cons_of_mem _ hv) (by omega) (by omega)) fo hkl h8
    exact hq H' t2 ht2
theorem mend_both (M : MemM H (h + 1) t) (S : SepM (h + 1) t) (hk : t.ks = K1 ++ ([p, q] ++ K2)) (hj : K1.length = j) (hkl : t.ks.length = t.es.length + 1) (h8 : t.es.length ≤ 8) (fo : ∀ v, v ∈ K1 ∨ v ∈ K2 → FullM 3 8 h v) (fp : FullM 2 3 h p) (fq : FullM 2 3 h q)
    (hq : ∀ H' t2, Same H H' h t t2 → Q (.tuple #[]) H') : HCalls Tryz.prog 105 [.pointer (some ⟨t.g, 0, none⟩), .int .i64 ((j : Nat) : Int)] H Q := by
  obtain ⟨a1, a2⟩ := at_pair hk hj
  have ptop := fp.top
  have qtop := fq.top
  obtain ⟨z1, z2⟩ := full_kids fp
  obtain ⟨y1, y2⟩ := full_kids fq
  have ll : t.ks.length = K1.length + 2 + K2.length := by rw [hk]; simp; omega
  obtain ⟨s, hs⟩ := get_of (l := t.es) (i := j) (by omega)
  have pk : p.ks.length ≤ 9 := by
    cases h with
    | zero => rw [z1 rfl]; simp
    | succ h => have := (z2 h rfl).1; omega
  have qk : q.ks.length ≤ 9 := by
    cases h with
    | zero => rw [y1 rfl]; simp
    | succ h => have := (y2 h rfl).1; omega
  refine c105 (tri_of M S hk) a1 a2 hs (by omega) (by omega) (by omega) (by omega) (by omega) (by omega) fun H' t' p' q' T eg ek ee egp epe epk => ?_
  have hpe' : p'.es.length = p.es.length + q.es.length + 1 := by rw [epe]; simp; omega
  obtain ⟨t2, ht2⟩ := one_end (s := s) M S hk T eg ek ee egp epk hj hs (flat_both epe (by
      cases h with
      | zero => exact .inl rfl
      | succ h => exact .inr ⟨(z2 h rfl).1, epk⟩))
    (full_of (fun e => by rw [epk, z1 e, y1 e]; rfl) (fun h' e => by
      have h3 := (z2 h' e).1
      have h4 := (y2 h' e).1
      refine ⟨by rw [epk, List.length_append]; omega, fun v hv => ?_⟩
      rw [epk] at hv
      rcases List.mem_append.1 hv with hv | hv
      · exact (z2 h' e).2 v hv
      · exact (y2 h' e).2 v hv) (by omega) (by omega)) fo hkl h8
  exact hq H' t2 ht2
end
end Go.Proofs.YtmelbipidffmpaaGreatDoor.Hw

/- Nodes: mend, all ways; first; one kid changed. -/
set_option linter.unusedVariables false
set_option linter.unusedSimpArgs false
set_option linter.unusedSectionVars false
set_option maxRecDepth 20000
namespace Go.Proofs.YtmelbipidffmpaaGreatDoor.Hw
open Go Go.Proofs
section
variable {H H' : Hp} {h : Nat} {t t1 u u' : MT} {K1 K2 : List MT} {i : Nat} {Q : Value → Hp → Prop}
theorem c85 (M : MemM H (h + 1) t) (S : SepM (h + 1) t) (hk : t.ks = K1 ++ u :: K2) (hi : K1.length = i) (hkl : t.ks.length = t.es.length + 1) (h1 : 1 ≤ t.es.length) (h8 : t.es.length ≤ 8) (fo : ∀ v, v ∈ K1 ∨ v ∈ K2 → FullM 3 8 h v) (fu : FullM 2 8 h u)
    (hq : ∀ H' t2, Same H H' h t t2 → Q (.tuple #[]) H') : HCalls Tryz.prog 85 [.pointer (some ⟨t.g, 0, none⟩), .int .i64 ((i : Nat) : Int)] H Q := by
  have ll : t.ks.length = K1.length + 1 + K2.length := by rw [hk]; simp; omega
  have hu : t.ks[i]? = some u := by rw [hk, ← hi]; simp
  have hum := List.mem_of_getElem? hu
  have N := M.1
  have utop := fu.top
  obtain ⟨u1, u2⟩ := full_kids fu
  have ew : IntKind.i64.wrap (((i : Nat) : Int) + 1) = ((i + 1 : Nat) : Int) := by rw [wrap_id (by omega) (by omega)]; omega
  refine f85.ok _ _ _ ?_
  unfold f85
  rw [ew]
  refine ⟨_, _, _, N.cl1, by omega, by omega, rd_pt (N.ksAt (by unfold huge; omega)) hu fun q o _ kp => ⟨_, by simpa using kp, onPtrI ⟨_, _, _, (M.2 u hum).node.cl0, cndI (fun h3 => ?_) fun h3 => ?_⟩⟩⟩
  · have h3 := of_decide_eq_true h3
    refine hq H t ⟨rfl, M, S, ⟨hkl, by omega, h8, fun v hv => ?_⟩, rfl, FrM.refl⟩
    rw [hk] at hv
    rcases List.mem_append.1 hv with hv | hv
    · exact fo v (.inl hv)
    · rcases List.mem_cons.1 hv with rfl | hv
      · exact full_of u1 u2 (by omega) utop.2
      · exact fo v (.inr hv)
  have h3 := of_decide_eq_false h3
  refine jn_intro (fun J => (∀ K l, K1 = K ++ [l] → 3 < l.es.length → J true) ∧ ((∀ K l, K1 = K ++ [l] → l.es.length ≤ 3) → J false)) ⟨fun K l hK hl => cndT rfl ?_, fun hL => cndF rfl ?_⟩ fun J hJ => cndI (fun h0 => ?_) fun h0 => ?_
  · -- from the left
    subst hK
    rw [List.append_assoc] at hk
    have hi' : i = K.length + 1 := by rw [← hi]; simp
    rw [hi']
    refine mend_left (K1 := K) (p := l) (q := u) (K2 := K2) M S hk rfl hkl h8 (fun v hv => fo v (by
      rcases hv with hv | hv
      · exact .inl (by simp [hv])
      · exact .inr hv)) ?_ ?_ fun H' t2 ht => ⟨rfl, hq H' t2 ht⟩
    · have fl := fo l (.inl (by simp))
      obtain ⟨l1, l2⟩ := full_kids fl
      exact full_of l1 l2 (by omega) fl.top.2
    · cases h with
      | zero => exact ⟨fu.1, fu.2.1, by omega⟩
      | succ h => exact ⟨fu.1, fu.2.1, by omega, fu.2.2.2⟩
  · refine jn_intro (fun J => (∀ r K, K2 = r :: K → 3 < r.es.length → J true) ∧ ((∀ r K, K2 = r :: K → r.es.length ≤ 3) → J false)) ⟨fun r K hK hr => cndT rfl ?_, fun hR => cndF rfl ?_⟩ fun J hJ => ⟨_, _, _, N.cl1, cndI (fun h0 => ?_) fun h0 => ?_⟩
    · subst hK
      refine mend_right (K1 := K1) (p := u) (q := r) (K2 := K) M S (by rw [hk]; rfl) hi hkl h8 (fun v hv => fo v (by
        rcases hv with hv | hv
        · exact .inl hv
        · exact .inr (by simp [hv]))) ?_ ?_ fun H' t2 ht => ⟨rfl, hq H' t2 ht⟩
      · cases h with
        | zero => exact ⟨fu.1, fu.2.1, by omega⟩
        | succ h => exact ⟨fu.1, fu.2.1, by omega, fu.2.2.2⟩
      · have fl := fo r (.inr (by simp))
        obtain ⟨l1, l2⟩ := full_kids fl
        exact full_of l1 l2 (by omega) fl.top.2
    · -- both in one
      have f23 : ∀ v, FullM 2 8 h v → v.es.length ≤ 3 → FullM 2 3 h v := fun v fv hv => by
        cases h with
        | zero => exact ⟨fv.1, fv.2.1, hv⟩
        | succ h => exact ⟨fv.1, fv.2.1, hv, fv.2.2.2⟩
      by_cases h0 : i = 0
      · subst h0
        have hK1 : K1 = [] := List.eq_nil_of_length_eq_zero hi
        subst hK1
        obtain ⟨r, K, hK⟩ : ∃ r K, K2 = r :: K := by
          cases hK2 : K2 with
          | nil => rw [hK2] at ll; simp at ll; omega
          | cons r K => exact ⟨r, K, rfl⟩
        subst hK
        have e0 : (if (0 : Int) > (IntKind.i64.wrap (((0 : Nat) : Int) - 1)) then 0 else IntKind.i64.wrap (((0 : Nat) : Int) - 1)) = ((0 : Nat) : Int) := by
          rw [wrap_id (by omega) (by omega)]; rfl
        rw [e0]
        refine mend_both (K1 := []) (p := u) (q := r) (K2 := K) M S (by rw [hk]; rfl) rfl hkl h8 (fun v hv => fo v (by
          rcases hv with hv | hv
          · exact .inl hv
          · exact .inr (by simp [hv]))) (f23 u fu (by omega)) (f23 r ((fo r (.inr (by simp))).lower (by omega)) (hR r K rfl)) fun H' t2 ht => ⟨rfl, hq H' t2 ht⟩
      · obtain ⟨K, l, hK⟩ : ∃ K l, K1 = K ++ [l] := ⟨_, _, (List.dropLast_concat_getLast (by intro e; rw [e] at hi; simp at hi; omega)).symm⟩
        have hll := hL K l hK
        subst hK
        have hi' : i = K.length + 1 := by rw [← hi]; simp
        subst hi'
        have e0 : (if (0 : Int) > (IntKind.i64.wrap (((K.length + 1 : Nat) : Int) - 1)) then 0 else IntKind.i64.wrap (((K.length + 1 : Nat) : Int) - 1)) = ((K.length : Nat) : Int) := by
          rw [wrap_id (by omega) (by omega), if_neg (by omega)]; omega
        rw [e0]
        refine mend_both (K1 := K) (p := l) (q := u) (K2 := K2) M S (by rw [hk, List.append_assoc]; rfl) rfl hkl h8 (fun v hv => fo v (by
          rcases hv with hv | hv
          · exact .inl (by simp [hv])
          · exact .inr hv)) (f23 l ((fo l (.inl (by simp))).lower (by omega)) hll) (f23 u fu (by omega)) fun H' t2 ht => ⟨rfl, hq H' t2 ht⟩
    · have h0 := of_decide_eq_true h0
      obtain ⟨r, K, hK⟩ : ∃ r K, K2 = r :: K := by
        cases hK2 : K2 with
        | nil => rw [hK2] at ll; simp at ll; omega
        | cons r K => exact ⟨r, K, rfl⟩
      have hr : t.ks[i + 1]? = some r := by rw [hk, ← hi, hK, List.getElem?_append_right (by omega), show K1.length + 1 - K1.length = 1 by omega]; rfl
      refine ⟨_, _, _, N.cl1, by omega, by omega, rd_pt (N.ksAt (by unfold huge; omega)) hr fun q o _ kp => ⟨_, by simpa using kp, onPtrI ⟨_, _, _, (M.2 r (List.mem_of_getElem? hr)).node.cl0, ?_⟩⟩⟩
      cases hb : decide (((r.es.length : Nat) : Int) > 3) with
      | true => have := of_decide_eq_true hb; exact hJ.1 r K hK (by omega)
      | false => have := of_decide_eq_false hb; exact hJ.2 fun r' K' hK' => by rw [hK] at hK'; cases hK'; omega
    · have h0 := of_decide_eq_false h0
      exact hJ.2 fun r K hK => by rw [hK] at ll; simp at ll; omega
  · have h0 := of_decide_eq_true h0
    have ew1 : IntKind.i64.wrap (((i : Nat) : Int) - 1) = ((i - 1 : Nat) : Int) := by rw [wrap_id (by omega) (by omega)]; omega
    obtain ⟨K, l, hK⟩ : ∃ K l, K1 = K ++ [l] := ⟨_, _, (List.dropLast_concat_getLast (by intro e; rw [e] at hi; simp at hi; omega)).symm⟩
    have hl : t.ks[i - 1]? = some l := by rw [hk, ← hi, hK]; simp
    rw [ew1]
    refine ⟨_, _, _, N.cl1, by omega, by omega, rd_pt (N.ksAt (by unfold huge; omega)) hl fun q o _ kp => ⟨_, by simpa using kp, onPtrI ⟨_, _, _, (M.2 l (List.mem_of_getElem? hl)).node.cl0, ?_⟩⟩⟩
    cases hb : decide (((l.es.length : Nat) : Int) > 3) with
    | true => have := of_decide_eq_true hb; exact hJ.1 K l hK (by omega)
    | false =>
      have := of_decide_eq_false hb
      exact hJ.2 fun K' l' hK' => by
        rw [hK] at hK'
        have := (List.append_inj' hK' rfl).2
        cases this; omega
  · have h0 := of_decide_eq_false h0
    exact hJ.2 fun K l hK => by rw [hK] at hi; simp at hi; omega
/-- One kid has changed, in its own blocks. -/
theorem kid_done (M : MemM H (h + 1) t) (S : SepM (h + 1) t) (hk : t.ks = K1 ++ u :: K2) (M' : MemM H' h u') (S' : SepM h u') (hg : u'.g = u.g) (Fr : FrM H H' (ownM h u) (ownM h u')) (ht1 : t1 = .mk t.g t.eA t.ec t.es t.kA t.kc (K1 ++ u' :: K2)) :
    MemM H' (h + 1) t1 ∧ SepM (h + 1) t1 ∧ FrM H H' (ownM (h + 1) t) (ownM (h + 1) t1) := by
  have hum : u ∈ t.ks := by rw [hk]; simp
  have ownu : ∀ q ∈ ownM h u, q ∈ ownM (h + 1) t := fun q hq => own_mem.2 (.inr ⟨u, hum, hq⟩)
  have lv := M.live
  have hu1 : ∀ q ∈ own1 t, q ∉ ownM h u := fun q hq h2 => (S.2.1 u hum).2 q h2 hq
  have N17 : NodeM H' t := M.1.keep fun q hq => Fr.off (hu1 q hq) (M.1.live q hq)
  have other : ∀ v, v ∈ K1 ∨ v ∈ K2 → v ∈ t.ks ∧ ∀ q ∈ ownM h v, q ∉ ownM h u := fun v hv => by
    obtain ⟨_, _, s3⟩ := S
    rw [hk, List.pairwise_append, List.pairwise_cons] at s3
    obtain ⟨p1, ⟨p4, p5⟩, p3⟩ := s3
    refine ⟨by rw [hk]; rcases hv with hv | hv <;> simp [hv], fun q hq h2 => ?_⟩
    rcases hv with hv | hv
    · exact p3 v hv u (List.mem_cons_self ..) q hq h2
    · exact p4 v hv q h2 hq
  have M17o : ∀ v, v ∈ K1 ∨ v ∈ K2 → MemM H' h v := fun v hv => (M.2 v (other v hv).1).keep fun q hq => Fr.off ((other v hv).2 q hq) ((M.2 v (other v hv).1).live q hq)
  have Nt' : NodeM H' t1 := by
    rw [ht1]
    refine N17.same ?_
    rw [hk]; exact pt_same hg
  have ho1 : own1 t1 = own1 t := by rw [ht1]; rfl
  have k1 : t1.ks = K1 ++ u' :: K2 := by rw [ht1]; rfl
  refine ⟨⟨Nt', fun v hv => ?_⟩, ?_, fun q hq => (Fr.ch q hq).imp (ownu q) id, fun q hq => ?_, Fr.al⟩
  · rw [k1] at hv
    rcases List.mem_append.1 hv with hv | hv
    · exact M17o v (.inl hv)
    · rcases List.mem_cons.1 hv with rfl | hv
      · exact M'
      · exact M17o v (.inr hv)
  · refine sep_replace (H := H) (L := [u']) S hk lv (fun v hv => ?_) (by simp) (fun v hv q hq => ?_) (by rw [k1]; simp) (by rw [ho1]; exact S.1) fun q hq => .inl (by rw [ho1] at hq; exact hq)
    · rw [List.mem_singleton] at hv; subst hv; exact S'
    · rw [List.mem_singleton] at hv; subst hv; exact Fr.nw q hq
  · rcases own_mem.1 hq with h1 | ⟨v, hv, h1⟩
    · rw [ho1] at h1; exact .inl (own_mem.2 (.inl h1))
    · rw [k1] at hv
      rcases List.mem_append.1 hv with hv | hv
      · exact .inl (own_mem.2 (.inr ⟨v, (other v (.inl hv)).1, h1⟩))
      · rcases List.mem_cons.1 hv with rfl | hv
        · exact (Fr.nw q h1).imp (ownu q) id
        · exact .inl (own_mem.2 (.inr ⟨v, (other v (.inr hv)).1, h1⟩))
end
theorem c84 : ∀ {h : Nat} {H : Hp} {t : MT} {lo : Nat} {Q : Value → Hp → Prop}, MemM H h t → FullM lo 8 h t → 1 ≤ lo → (∀ x r, flatM h t = x :: r → Q (enA x) H) → HCalls Tryz.prog 84 [.pointer (some ⟨t.g, 0, none⟩)] H Q
  | 0, H, t, lo, Q, M, F, hlo, hq => by
    refine f84.ok _ _ ?_
    unfold f84
    have N := M.1
    have htop := F.top
    obtain ⟨x, r, hx⟩ : ∃ x r, t.es = x :: r := by
      cases he : t.es with
      | nil => rw [he] at htop; simp at htop; omega
      | cons x r => exact ⟨x, r, rfl⟩
    have hx0 : t.es[0]? = some x := by rw [hx]; rfl
    exact ⟨_, _, _, N.cl1, cndF (by rw [M.2]; rfl) ⟨_, _, _, N.cl0, by omega, by omega, rd_en (N.esAt (by unfold huge; omega)) hx0 fun q o _ k1 k2 => ⟨_, _, _, by simpa using k1, _, by simpa using k2, hq x r hx⟩⟩⟩
  | h + 1, H, t, lo, Q, M, F, hlo, hq => by
    refine f84.ok _ _ ?_
    unfold f84
    have N := M.1
    have htop := F.top
    obtain ⟨f1, f2, f3, f4⟩ := F
    obtain ⟨u, K, hk⟩ : ∃ u K, t.ks = u :: K := by
      cases he : t.ks with
      | nil => rw [he] at f1; simp at f1
      | cons x r => exact ⟨x, r, rfl⟩
    have hu0 : t.ks[0]? = some u := by rw [hk]; rfl
    have hum := List.mem_of_getElem? hu0
    refine ⟨_, _, _, N.cl1, cndT (decide_eq_true (by omega)) ⟨_, _, _, N.cl1, by omega, by omega, rd_pt (N.ksAt (by unfold huge; omega)) hu0 fun q o _ kp => ⟨_, by simpa using kp, ?_⟩⟩⟩
    refine c84 (M.2 u hum) (f4 u hum) (by omega) fun x r hx => ⟨_, _, _, _, rfl, hq x (r ++ restE (K.map (flatM h)) t.es) ?_⟩
    show inter (t.ks.map (flatM h)) t.es = _
    rw [hk, List.map_cons, inter_head, hx]; rfl
end Go.Proofs.YtmelbipidffmpaaGreatDoor.Hw
