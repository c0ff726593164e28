/- Di Cu Dj Dk Dm Cv Cw HwFf Cx Cy Cz Dl HwFh Dn Fa Ea (joined by merge.py) -/
import Derived.Test.YtmelbipidffmpaaGreatDoorTt9
import Derived.Test.YtmelbipidffmpaaGreatDoorTt5
import Derived.Test.YtmelbipidffmpaaGreatDoorTt3
import Derived.Test.YtmelbipidffmpaaGreatDoorTt6
import Derived.Test.YtmelbipidffmpaaGreatDoorTie
import Derived.Test.YtmelbipidffmpaaGreatDoorCards
/- Nodes: remove. -/
set_option linter.unusedVariables false
set_option linter.unusedSimpArgs false
set_option linter.unusedSectionVars false
set_option maxRecDepth 20000
namespace Go.Proofs.YtmelbipidffmpaaGreatDoor.Hw
open Go Go.Proofs
/-- An entry is out. -/
def OutE (l : List EnM) (e : EnM) (l' : List EnM) : Prop := ∃ a x b, l = a ++ x :: b ∧ l' = a ++ b ∧ ordE x e = 0
theorem OutE.wrap {l l' z r : List EnM} {e : EnM} (h : OutE l e l') : OutE (z ++ l ++ r) e (z ++ l' ++ r) := by
  obtain ⟨a, x, b, rfl, rfl, h⟩ := h
  exact ⟨z ++ a, x, b ++ r, by simp, by simp, h⟩
theorem OutE.sub {l l' : List EnM} {e : EnM} (h : OutE l e l') : l'.Sublist l := by
  obtain ⟨a, x, b, rfl, rfl, h⟩ := h
  exact List.Sublist.append (List.Sublist.refl _) (List.sublist_cons_self _ _)
/-- The first one out. -/
theorem OutE.first {x : EnM} {r l' : List EnM} (hs : SrtE (x :: r)) (h : OutE (x :: r) x l') : l' = r := by
  obtain ⟨a, y, b, h1, rfl, h⟩ := h
  cases a with
  | nil => simp at h1; exact h1.2.symm
  | cons z a =>
    exfalso
    simp only [List.cons_append, List.cons.injEq] at h1
    unfold SrtE at hs
    rw [List.pairwise_cons] at hs
    have h2 := hs.1 y (by rw [h1.2]; simp)
    have := ordE_ok.anti x y
    omega
theorem zip_snoc {α : Type} {k : List α} {y : α} : ∀ {K : List (List α)} {E : List α}, K.length = E.length → zipE (K ++ [k]) (E ++ [y]) = zipE K E ++ (k ++ [y])
  | [], [], _ => by simp [zipE]
  | [], _ :: _, h => by simp at h
  | _ :: _, [], h => by simp at h
  | a :: K, e :: E, h => by
    show a ++ e :: zipE (K ++ [k]) (E ++ [y]) = (a ++ e :: zipE K E) ++ (k ++ [y])
    rw [zip_snoc (by simpa using h)]
    simp
theorem has_of {l : List EnM} {e : EnM} (hs : SrtE l) (h : ∃ x ∈ l, ordE x e = 0) : hasE l e = true := by
  cases hc : hasE l e with
  | true => rfl
  | false =>
    obtain ⟨x, hx, h0⟩ := h
    exact absurd h0 (has_false hs hc x hx)
theorem has_get {l : List EnM} {e : EnM} (h : hasE l e = true) : ∃ y, l[cntE l e]? = some y ∧ ordE y e = 0 := by
  unfold hasE at h
  cases hg : l[cntE l e]? with
  | none => rw [hg] at h; cases h
  | some y => rw [hg] at h; exact ⟨y, rfl, by simpa using h⟩
theorem mid_sub {α : Type} {a b c : List α} : b.Sublist (a ++ b ++ c) := (List.sublist_append_right a b).trans (List.sublist_append_left _ c)
section
variable {h : Nat} {t u : MT}
/-- Where an entry goes down that is not in the node itself. -/
theorem way_down2 {e : EnM} {K1 K2 : List MT} (hk : t.ks = K1 ++ u :: K2) {i : Nat} (hi : i = cntE t.es e) (hl : K1.length = i) (hl2 : t.ks.length = t.es.length + 1) (hs : SrtE (flatM (h + 1) t)) (hes : SrtE t.es) (hno : ∀ x ∈ t.es, ordE x e ≠ 0) :
    (∀ x ∈ zipE (K1.map (flatM h)) (t.es.take i), ordE x e < 0) ∧ ∀ x ∈ restE (K2.map (flatM h)) (t.es.drop i), ordE e x < 0 := by
  have hle := cnt_le (l := t.es) (e := e)
  have hf := flat_split (h := h) hk (E1 := t.es.take i) (E2 := t.es.drop i) (List.take_append_drop _ _).symm (by rw [List.length_take]; omega)
  rw [hf] at hs
  unfold SrtE at hs
  rw [List.append_assoc, List.pairwise_append, List.pairwise_append] at hs
  obtain ⟨q1, ⟨q2, q3, q4⟩, q5⟩ := hs
  refine ⟨fun x hx => ?_, fun x hx => ?_⟩
  · cases hg : (t.es.take i).getLast? with
    | none =>
      have : t.es.take i = [] := List.getLast?_eq_none_iff.1 hg
      rw [this] at hx
      cases hK : K1.map (flatM h) <;> rw [hK] at hx <;> simp [zipE] at hx
    | some y =>
      obtain ⟨Z, hZ⟩ := zip_last (K := K1.map (flatM h)) (E := t.es.take i) (by rw [List.length_map, List.length_take]; omega) hg
      have hy : ordE y e < 0 := by
        have hmem : y ∈ t.es.take i := List.mem_of_getLast? hg
        obtain ⟨j, hj⟩ := List.mem_iff_getElem?.1 hmem
        have hlt := (List.getElem?_eq_some_iff.1 hj).1
        rw [List.length_take] at hlt
        rw [List.getElem?_take_of_lt (by omega)] at hj
        exact cnt_lt (by omega) hj
      rw [hZ] at q1 hx
      rw [List.pairwise_append] at q1
      rcases List.mem_append.1 hx with hx | hx
      · exact ordE_ok.lt_of (q1.2.2 x hx y (by simp)) (by omega)
      · rw [List.mem_singleton] at hx; rw [hx]; exact hy
  · cases hd : t.es.drop i with
    | nil =>
      rw [hd] at hx
      have hlen : t.es.length ≤ i := List.drop_eq_nil_iff.1 hd
      have hkl := hl2
      rw [hk, List.length_append, List.length_cons] at hkl
      have : K2 = [] := List.eq_nil_of_length_eq_zero (by omega)
      rw [this] at hx
      simp [restE, inter] at hx
    | cons y E =>
      have hyi : t.es[i]? = some y := by
        have := congrArg (fun l => l[0]?) hd
        simpa using this
      rw [hd] at hx q3
      have hx : x ∈ y :: inter (K2.map (flatM h)) E := hx
      have q3 : (y :: inter (K2.map (flatM h)) E).Pairwise fun a b => ordE a b < 0 := q3
      have hy : ordE e y < 0 := ord_flip (cnt_ge hes (by omega) hyi) (hno y (List.mem_of_getElem? hyi))
      rcases List.mem_cons.1 hx with rfl | hx
      · exact hy
      · rw [List.pairwise_cons] at q3
        exact ordE_ok.lt_of hy (by have := q3.1 x hx; omega)
end
section
variable {X : Hp}
theorem c58 : ∀ {h : Nat} {H : Hp} {t : MT} {e : EnM} {lo : Nat} {Q : Value → Hp → Prop}, MemM H h t → SepM h t → FullM lo 8 h t → (h = 0 ∨ 1 ≤ lo) → Ext X H → (∀ x ∈ flatM h t, KeyAt X x) → KeyAt X e → (∀ q ∈ ownM h t, X q = none) → SrtE (flatM h t) → (∃ x ∈ flatM h t, ordE x e = 0) →
    (∀ H' t', MemM H' h t' → SepM h t' → FullM (lo - 1) 8 h t' → t'.g = t.g → OutE (flatM h t) e (flatM h t') → FrM H H' (ownM h t) (ownM h t') → Q (.tuple #[]) H') →
    HCalls Tryz.prog 58 [.pointer (some ⟨t.g, 0, none⟩), enA e] H Q
  | 0, H, t, e, lo, Q, M, S, F, hlo, hX, hkey, hke, hid, hsrt, hex, hq => by
    have hsrt : SrtE t.es := hsrt
    have hhas := has_of hsrt hex
    have ftop := F.top
    obtain ⟨y, hy, h0⟩ := has_get hhas
    have hyl := (List.getElem?_eq_some_iff.1 hy).1
    refine c58L M.1 M.2 S (fun x hx => (hkey x hx).ext hX) (hke.ext hX) hsrt (by omega) hhas fun H' N' Fr => hq H' _ ⟨N', M.2⟩ S ⟨M.2, ?_, ?_⟩ rfl ⟨t.es.take (cntE t.es e), y, t.es.drop (cntE t.es e + 1), kids_split hy, rfl, h0⟩ Fr
    · show lo - 1 ≤ (t.es.take _ ++ t.es.drop _).length
      simp; omega
    · show (t.es.take _ ++ t.es.drop _).length ≤ 8
      simp; omega
  | h + 1, H, t, e, lo, Q, M, S, F, hlo, hX, hkey, hke, hid, hsrt, hex, hq => by
    refine f58.ok _ _ _ _ _ _ ?_
    unfold f58
    have N := M.1
    have hle := cnt_le (l := t.es) (e := e)
    obtain ⟨f1, f2, f3, f4⟩ := id F
    have hsub := es_sub F
    have hes : SrtE t.es := hsrt.sublist hsub
    have hl1 : 1 ≤ lo := hlo.resolve_left (by omega)
    refine c78 N (fun x hx => (hkey x (hsub.subset hx)).ext hX) (hke.ext hX) hes (by unfold big; omega) fun H2 x2 => ⟨_, _, rfl, ?_⟩
    obtain ⟨i, hi⟩ : ∃ i, i = cntE t.es e := ⟨_, rfl⟩
    rw [← hi] at hle ⊢
    have ew : IntKind.i64.wrap (((i : Nat) : Int) + 1) = ((i + 1 : Nat) : Int) := by rw [wrap_id (by omega) (by omega)]; omega
    rw [ew]
    have N2 := N.ext x2
    have M2 : MemM H2 (h + 1) t := M.ext x2
    have hX2 := hX.trans x2
    refine jn_intro (fun J => J false) (cndF rfl ?_) fun J hJ => ⟨_, _, _, N2.cl1, cndF (by simp; intro e0; rw [e0] at f1; simp at f1) hJ⟩
    have fin : ∀ (H9 : Hp) (t9 t2 : MT), t2.g = t.g → t2.es.length = t.es.length → FrM H H9 (ownM (h + 1) t) (ownM (h + 1) t2) → OutE (flatM (h + 1) t) e (flatM (h + 1) t2) → ∀ H10, Same H9 H10 h t2 t9 → Q (.tuple #[]) H10 := fun H9 t9 t2 hg he Fr hO H10 hS =>
      hq H10 t9 hS.mem hS.sep (hS.full.lower (by omega)) (hS.g.trans hg) (by rw [hS.flat]; exact hO) (Fr.trans hS.fr)
    refine cndI (fun hhas => ?_) fun hhas => ?_
    · -- it is here: the next one takes its place
      obtain ⟨y, hy, h0⟩ := has_get hhas
      rw [← hi] at hy
      have hyl := (List.getElem?_eq_some_iff.1 hy).1
      obtain ⟨u, hu⟩ := get_of (l := t.ks) (i := i + 1) (by omega)
      have hum := List.mem_of_getElem? hu
      have hk : t.ks = t.ks.take (i + 1) ++ u :: t.ks.drop (i + 1 + 1) := kids_split hu
      obtain ⟨K2, hK2⟩ : ∃ K2, K2 = t.ks.drop (i + 1 + 1) := ⟨_, rfl⟩
      obtain ⟨w, hw⟩ := get_of (l := t.ks) (i := i) (by omega)
      have hK1 : t.ks.take (i + 1) = t.ks.take i ++ [w] := take_snoc hw
      obtain ⟨K0, hK0⟩ : ∃ K0, K0 = t.ks.take i := ⟨_, rfl⟩
      rw [hK1, ← hK0, ← hK2] at hk
      have l0 : K0.length = i := by rw [hK0, List.length_take]; omega
      have es1 : t.es = (t.es.take i ++ [y]) ++ t.es.drop (i + 1) := by
        conv => lhs; rw [kids_split hy]
        simp
      have lt1 : (t.es.take i).length = i := by rw [List.length_take]; omega
      have hfl := flat_split (h := h) hk (E1 := t.es.take i ++ [y]) (E2 := t.es.drop (i + 1)) es1 (by simp; omega)
      rw [List.map_append, List.map_cons, List.map_nil, zip_snoc (by rw [List.length_map]; omega)] at hfl
      have inu : ∀ x ∈ flatM h u, x ∈ flatM (h + 1) t := fun x hx => by rw [hfl]; simp [hx]
      have hsu : SrtE (flatM h u) := by
        have hsrt := hsrt
        rw [hfl] at hsrt
        exact hsrt.sublist mid_sub
      refine ⟨_, _, _, N2.cl1, by omega, by omega, rd_pt (N2.ksAt (by unfold huge; omega)) hu fun q o _ kp => ⟨_, by simpa using kp, ?_⟩⟩
      refine c84 (M2.2 u hum) (f4 u hum) (by omega) fun x r hxr => ⟨_, _, _, _, rfl, _, _, _, N2.cl0, by omega, by omega, ?_⟩
      simp only [Int.toNat_natCast]
      have hxm : x ∈ flatM h u := by rw [hxr]; simp
      refine writeE (x := x) N2 S.1 hyl fun H22 N22 nd22 F22 => ?_
      obtain ⟨t1, ht1⟩ : ∃ t1 : MT, t1 = .mk t.g t.eA t.ec (t.es.set i x) t.kA t.kc t.ks := ⟨_, rfl⟩
      rw [← ht1] at N22 F22
      have o1 : own1 t1 = own1 t := by rw [ht1]; rfl
      have k1 : t1.ks = t.ks := by rw [ht1]; rfl
      rw [o1] at F22
      have M22 : MemM H22 (h + 1) t1 := ⟨N22, fun v hv => by
        rw [k1] at hv
        exact (M2.2 v hv).keep fun q hq => F22.off ((S.2.1 v hv).2 q hq) ((M2.2 v hv).live q hq)⟩
      have S22 : SepM (h + 1) t1 := ⟨by rw [o1]; exact S.1, fun v hv => by rw [k1] at hv; rw [o1]; exact S.2.1 v hv, by rw [k1]; exact S.2.2⟩
      have own1' : ∀ q, q ∈ ownM (h + 1) t1 ↔ q ∈ ownM (h + 1) t := fun q => by rw [own_mem, own_mem, o1, k1]
      have Fr1 : FrM H H22 (ownM (h + 1) t) (ownM (h + 1) t1) := (FrM.ofExt x2).trans ⟨fun q hq => (F22.ch q hq).imp (fun h => own_mem.2 (.inl h)) id, fun q hq => .inl ((own1' q).1 hq), F22.al⟩
      have hX22 : Ext X H22 := Fr1.ext hX hid
      have c22 : cl H22 t.g (0 + 1) = some (.slice t.kA t.ks.length t.kc) := by have := N22.cl1; rw [ht1] at this; exact this
      refine ⟨_, _, _, c22, by omega, by omega, ?_⟩
      have ks22 := N22.ksAt (by rw [k1]; unfold huge; omega)
      rw [k1] at ks22
      have kA1 : t1.kA = t.kA := by rw [ht1]; rfl
      rw [kA1] at ks22
      refine rd_pt ks22 hu fun q o _ kp => ⟨_, by simpa using kp, ?_⟩
      have hum1 : u ∈ t1.ks := by rw [k1]; exact hum
      have hid1 : ∀ q ∈ ownM h u, X q = none := fun q hq => hid q (own_mem.2 (.inr ⟨u, hum, hq⟩))
      refine c58 (M22.2 u hum1) (S22.2.1 u hum1).1 (f4 u hum) (.inr (by omega)) hX22 (fun z hz => hkey z (inu z hz)) (hkey x (inu x hxm)) hid1 hsu ⟨x, hxm, ordE_ok.self x⟩ fun H27 u' M27 S27 F27 hg27 O27 Fr27 => ⟨rfl, ?_⟩
      have hr : flatM h u' = r := by
        rw [hxr] at O27 hsu
        exact OutE.first hsu O27
      obtain ⟨t2, ht2⟩ : ∃ t2 : MT, t2 = .mk t1.g t1.eA t1.ec t1.es t1.kA t1.kc ((K0 ++ [w]) ++ u' :: K2) := ⟨_, rfl⟩
      have hk1 : t1.ks = (K0 ++ [w]) ++ u :: K2 := by rw [k1]; exact hk
      obtain ⟨d1, d2, d3⟩ := kid_done M22 S22 hk1 M27 S27 hg27 Fr27 ht2
      have g2 : t2.g = t.g := by rw [ht2, ht1]; rfl
      have e2 : t2.es = t.es.set i x := by rw [ht2, ht1]; rfl
      have e2l : t2.es.length = t.es.length := by rw [e2, List.length_set]
      have k2 : t2.ks = (K0 ++ [w]) ++ u' :: K2 := by rw [ht2]; rfl
      have es2 : t2.es = (t.es.take i ++ [x]) ++ t.es.drop (i + 1) := by
        rw [e2, List.set_eq_take_append_cons_drop, if_pos hyl]; simp
      have hfl2 := flat_split (h := h) k2 (E1 := t.es.take i ++ [x]) (E2 := t.es.drop (i + 1)) es2 (by simp; omega)
      rw [List.map_append, List.map_cons, List.map_nil, zip_snoc (by rw [List.length_map]; omega), hr] at hfl2
      have hOut : OutE (flatM (h + 1) t) e (flatM (h + 1) t2) := by
        rw [hfl, hfl2, hxr]
        exact ⟨zipE (K0.map (flatM h)) (t.es.take i) ++ flatM h w, y, x :: r ++ restE (K2.map (flatM h)) (t.es.drop (i + 1)), by simp, by simp, h0⟩
      rw [← g2]
      refine c85 (K1 := K0 ++ [w]) (u := u') (K2 := K2) d1 d2 k2 (by simp; omega) ?_ (by omega) (by omega) (fun v hv => f4 v ?_) F27 fun H29 t9 hS => ⟨rfl, fin H27 t9 t2 g2 e2l (Fr1.trans d3) hOut H29 hS⟩
      · have := f1
        rw [hk] at this
        rw [k2, e2l]
        simp at this ⊢
        omega
      · rw [hk]
        rcases hv with hv | hv
        · exact List.mem_append_left _ hv
        · exact List.mem_append_right _ (List.mem_cons_of_mem _ hv)
    · -- it is below
      have hno := has_false hes hhas
      obtain ⟨u, hu⟩ := get_of (l := t.ks) (i := i) (by omega)
      have hum := List.mem_of_getElem? hu
      have hk : t.ks = t.ks.take i ++ u :: t.ks.drop (i + 1) := kids_split hu
      obtain ⟨K1, hK1⟩ : ∃ K1, K1 = t.ks.take i := ⟨_, rfl⟩
      obtain ⟨K2, hK2⟩ : ∃ K2, K2 = t.ks.drop (i + 1) := ⟨_, rfl⟩
      rw [← hK1, ← hK2] at hk
      have l1 : K1.length = i := by rw [hK1, List.length_take]; omega
      have hfl := flat_split (h := h) hk (E1 := t.es.take i) (E2 := t.es.drop i) (List.take_append_drop _ _).symm (by rw [List.length_take]; omega)
      obtain ⟨wz, wr⟩ := way_down2 hk hi l1 f1 hsrt hes hno
      have hsu : SrtE (flatM h u) := by
        have hsrt := hsrt
        rw [hfl] at hsrt
        exact hsrt.sublist mid_sub
      have inu : ∀ x ∈ flatM h u, x ∈ flatM (h + 1) t := fun x hx => by rw [hfl]; simp [hx]
      have hexu : ∃ x ∈ flatM h u, ordE x e = 0 := by
        obtain ⟨x, hx, hz⟩ := hex
        rw [hfl] at hx
        rcases List.mem_append.1 hx with hx | hx
        · rcases List.mem_append.1 hx with hx | hx
          · have := wz x hx; omega
          · exact ⟨x, hx, hz⟩
        · have := wr x hx
          have := ordE_ok.anti x e
          omega
      refine ⟨_, _, _, N2.cl1, cndT (decide_eq_true (by omega)) ⟨_, _, _, N2.cl1, by omega, by omega, rd_pt (N2.ksAt (by unfold huge; omega)) hu fun q o _ kp => ⟨_, by simpa using kp, ?_⟩⟩⟩
      have hid1 : ∀ q ∈ ownM h u, X q = none := fun q hq => hid q (own_mem.2 (.inr ⟨u, hum, hq⟩))
      refine c58 (M2.2 u hum) (S.2.1 u hum).1 (f4 u hum) (.inr (by omega)) hX2 (fun z hz => hkey z (inu z hz)) hke hid1 hsu hexu fun H27 u' M27 S27 F27 hg27 O27 Fr27 => ⟨rfl, ?_⟩
      obtain ⟨t2, ht2⟩ : ∃ t2 : MT, t2 = .mk t.g t.eA t.ec t.es t.kA t.kc (K1 ++ u' :: K2) := ⟨_, rfl⟩
      obtain ⟨d1, d2, d3⟩ := kid_done M2 S hk M27 S27 hg27 Fr27 ht2
      have g2 : t2.g = t.g := by rw [ht2]; rfl
      have e2 : t2.es = t.es := by rw [ht2]; rfl
      have k2 : t2.ks = K1 ++ u' :: K2 := by rw [ht2]; rfl
      have hfl2 := flat_split (h := h) k2 (E1 := t.es.take i) (E2 := t.es.drop i) (by rw [e2]; exact (List.take_append_drop _ _).symm) (by rw [List.length_take]; omega)
      have hOut : OutE (flatM (h + 1) t) e (flatM (h + 1) t2) := by
        rw [hfl, hfl2]
        exact O27.wrap
      rw [← g2]
      refine c85 (K1 := K1) (u := u') (K2 := K2) d1 d2 k2 l1 ?_ (by rw [e2]; omega) (by rw [e2]; omega) (fun v hv => f4 v ?_) F27 fun H29 t9 hS => ⟨rfl, fin H27 t9 t2 g2 (by rw [e2]) ((FrM.ofExt x2).trans d3) hOut H29 hS⟩
      · have := f1
        rw [hk] at this
        rw [k2, e2]
        simp at this ⊢
        omega
      · rw [hk]
        rcases hv with hv | hv
        · exact List.mem_append_left _ hv
        · exact List.mem_append_right _ (List.mem_cons_of_mem _ hv)
end
end Go.Proofs.YtmelbipidffmpaaGreatDoor.Hw

/- Delete, of trees of one block. -/
set_option linter.unusedVariables false
set_option linter.unusedSimpArgs false
set_option linter.unusedSectionVars false
set_option maxRecDepth 20000
namespace Go.Proofs.YtmelbipidffmpaaGreatDoor.Hw
open Go Go.Proofs
theorem fullB_three : ∀ {h : Nat} {t : BT}, FullB false h t → 3 ≤ (flatB h t).length
  | 0, t, F => by
    rcases F.2.2 with h | h
    · cases h
    · exact h
  | h + 1, t, ⟨f1, f2, f3, f4, f5⟩ => by
    have h1 := (inter_sub (K := t.ks.map (flatB h)) (E := t.es) (by rw [List.length_map]; exact f1)).length_le
    rcases f3 with h | h
    · cases h
    · exact Nat.le_trans h h1
theorem low_tree {h : Nat} {t : BT} (F : FullB true h t) (hl : (flatB h t).length ≤ 6) : h = 0 := by
  cases h with
  | zero => rfl
  | succ h =>
    exfalso
    obtain ⟨f1, f2, f3, f4, f5⟩ := F
    have hl' : (flatB (h + 1) t).length = ((t.ks.map (flatB h)).map List.length).sum + t.es.length := len_inter (by rw [List.length_map]; exact f1)
    match hk : t.ks with
    | [] => rw [hk] at f1; simp at f1
    | [u] => rw [hk] at f1; have f1 : 1 = t.es.length + 1 := f1; omega
    | u :: v :: r =>
      have a1 := fullB_three (f5 u (by rw [hk]; simp))
      have a2 := fullB_three (f5 v (by rw [hk]; simp))
      rw [hk] at hl'
      simp only [List.map_cons, List.sum_cons] at hl'
      omega
section
variable {H : Hp} {A : Option Addr} {n c : Nat} {root cols : Int} {bl : List NdM} {Q : Value → Hp → Prop} {e : EnM} {S : Sv}
end
end Go.Proofs.YtmelbipidffmpaaGreatDoor.Hw

/- Delete. -/
set_option linter.unusedVariables false
set_option linter.unusedSimpArgs false
set_option linter.unusedSectionVars false
set_option maxRecDepth 20000
namespace Go.Proofs.YtmelbipidffmpaaGreatDoor.Hw
open Go Go.Proofs
theorem cnt_say {e : EnM} : ∀ {l l' : List EnM}, l.map sayE = l'.map sayE → cntE l e = cntE l' e
  | [], [], _ => rfl
  | [], _ :: _, h => by simp at h
  | _ :: _, [], h => by simp at h
  | x :: r, y :: r', h => by
    simp only [List.map_cons, List.cons.injEq] at h
    have ho := ord_say h.1 (rfl : sayE e = sayE e)
    have := cnt_say (e := e) h.2
    unfold cntE at this ⊢
    rw [List.takeWhile_cons, List.takeWhile_cons, ho]
    split
    · simp [this]
    · rfl
/-- In a list in order one place alone is an entry's. -/
theorem OutE.is {l l' : List EnM} {e : EnM} (hs : SrtE l) (h : OutE l e l') : l' = l.take (cntE l e) ++ l.drop (cntE l e + 1) := by
  obtain ⟨a, x, b, rfl, rfl, h0⟩ := h
  have hc : cntE (a ++ x :: b) e = a.length := take_is (p := fun z => decide (ordE z e < 0)) (fun i z hi hz => by
    have hz' : a[i]? = some z := by rwa [List.getElem?_append_left hi] at hz
    unfold SrtE at hs
    rw [List.pairwise_append] at hs
    have h1 := hs.2.2 z (List.mem_of_getElem? hz') x (by simp)
    exact decide_eq_true (ordE_ok.lt_of h1 (by omega))) (fun z hz => by
    have : x = z := by simpa using hz
    subst this
    exact decide_eq_false (by omega)) (by simp)
  rw [hc, List.take_left' rfl, ← List.drop_drop, List.drop_left' rfl]; rfl
/-- What Delete answers, in a number. -/
def delCode (t : Option Sv) (cols : Int) (e : EnM) : Int := match t with
  | none => 2
  | some S => if entB cols e = true then (if hasE S.out e = true then 0 else 4) else 2
section
variable {H : Hp} {A : Option Addr} {n c : Nat} {root cols : Int} {bl : List NdM} {Q : Value → Hp → Prop} {e : EnM}
theorem c28 (N : NullAt H) (hT : TrAt H A n bl) (hF : Fewish bl) (hK : KeyAt H e) (hlim : ∀ S, treeV bl root cols = some S → S.out.length ≤ 5000)
    (h0 : delCode (treeV bl root cols) cols e ≠ 0 → ∀ H', Ext H H' → Q (.tuple #[.agg #[.slice none 0 0, .int .i64 0, .int .i64 0], .int .i64 (delCode (treeV bl root cols) cols e)]) H')
    (h1 : ∀ S, treeV bl root cols = some S → delCode (treeV bl root cols) cols e = 0 → ∀ H' A' c' bl' l' dep, Ext H H' → OutT H' A' bl' cols l' dep → l'.map sayE = (S.out.take (cntE S.out e) ++ S.out.drop (cntE S.out e + 1)).map sayE → Q (.tuple #[.agg #[.slice A' bl'.length c', .int .i64 0, .int .i64 cols], .int .i64 0]) H') :
    HCalls Tryz.prog 28 [.agg #[.slice A n c, .int .i64 root, .int .i64 cols], enA e] H Q := by
  refine f28.ok _ _ _ _ _ _ _ _ _ ?_
  unfold f28
  refine c36 N hT hF (fun h H2 hx => ⟨_, _, rfl, ?_⟩) fun S h hl hk g gs oA oc H2 W => ⟨_, _, rfl, ?_⟩
  · refine jn_intro (fun J => ∀ H', Ext H H' → J true H') (fun H9 x9 => cndT rfl ?_) fun J hJ => cndT rfl (hJ H2 hx)
    have : delCode (treeV bl root cols) cols e = 2 := by rw [h]; rfl
    rw [this] at h0
    exact h0 (by decide) H9 x9
  have hob : S.out.length < huge := by unfold huge; omega
  obtain ⟨hs, hgd, hh, bt, a1, a2, a3, a4, a5⟩ := tree_of h
  have hent := good_ent hgd
  have hsrt := good_srt hgd
  have hW := W.ext
  have hcode : delCode (treeV bl root cols) cols e = if entB cols e = true then (if hasE S.out e = true then 0 else 4) else 2 := by rw [h]; rfl
  refine jn_intro (fun J => (entB cols e = false → J true H2) ∧ (entB cols e = true → J false H2)) ⟨fun hb => cndT rfl ?_, fun hb => cndF rfl ?_⟩ fun J hJ => cndF rfl (c49 (N.ext hW) (hK.ext hW) ⟨_, rfl, ?_⟩)
  · rw [hcode, if_neg (by rw [hb]; decide)] at h0
    exact h0 (by decide) H2 hW
  · rw [hb] at hcode
    simp only [if_true] at hcode
    refine ⟨_, _, _, W.cl 5, c50 (outAt W hob) (fun x hx => (hk x hx).ext hW) (hK.ext hW) hsrt (by unfold big; omega) fun H14 x14 => ⟨_, _, rfl, cndI (fun hhas => ?_) fun hhas => ?_⟩⟩
    · have hhas : hasE S.out e = false := by simpa using hhas
      rw [hcode, if_neg (by rw [hhas]; decide)] at h0
      exact h0 (by decide) H14 (hW.trans x14)
    have hhas : hasE S.out e = true := by simpa using hhas
    have W14 := W.more x14
    rw [if_pos hhas] at hcode
    have hlenS : ∀ x ∈ S.out, x.key.length < big := fun x hx => by
      have := (ent_len (hent x hx)).1
      have := hs.2.1
      unfold big; omega
    refine c52 (r := true) (bt := bt) hT W14.ext a1 a2 (fun x hx => hlenS x (by rw [a3]; exact hx)) fun H20 t x20 M Sp hid hsay Fu kt => ⟨_, rfl, ?_⟩
    rw [← a3] at hsay
    have liveT := M.live
    have kX : ∀ x ∈ flatM hh t, KeyAt (hideH (ownM hh t) H20) x := fun x hx => (kt x hx).1.hide (kt x hx).2.2
    have hX14 := W14.ext.trans x20
    have keX : KeyAt (hideH (ownM hh t) H20) e := (hK.ext hX14).hide fun h0 q hq h1 => by
      have h2 := W14.ext.none (hid q h1)
      exact hK.live h0 hq h2
    have srtT : SrtE (flatM hh t) := srt_say hsay.symm hsrt
    have exT : ∃ x ∈ flatM hh t, ordE x e = 0 := by
      obtain ⟨x, hx, hz⟩ := has_true hhas
      obtain ⟨y, hy, e1⟩ := say_mem hsay.symm hx
      exact ⟨y, hy, by rw [ord_say e1 rfl]; exact hz⟩
    have hlo : hh = 0 ∨ 1 ≤ bt.es.length := by
      cases hh with
      | zero => exact .inl rfl
      | succ hh => exact .inr a2.2.2.2.1
    refine c58 M Sp Fu hlo hide_ext kX keX (fun q hq => hide_in hq) srtT exT fun H21 t' M21 S21 F21 hg21 O21 Fr21 => ⟨rfl, ?_⟩
    have hX21 : Ext (hideH (ownM hh t) H20) H21 := Fr21.ext hide_ext fun q hq => hide_in hq
    have hsub := O21.sub
    have hk21 : ∀ x ∈ flatM hh t', KeyAt H21 x := fun x hx => (kX x (hsub.subset hx)).ext hX21
    have ent21 : ∀ x ∈ flatM hh t', entB cols x = true := fun x hx => by
      obtain ⟨y, hy, e1⟩ := say_mem hsay (hsub.subset hx)
      rw [← ent_say e1]; exact hent y hy
    have srt21 := srtT.sublist hsub
    have hlenT : (flatM hh t).length = S.out.length := by have := congrArg List.length hsay; simpa using this
    have hout : (flatM hh t').map sayE = (S.out.take (cntE S.out e) ++ S.out.drop (cntE S.out e + 1)).map sayE := by
      rw [O21.is srtT, cnt_say hsay, List.map_append, List.map_append, List.map_take, List.map_drop, hsay, ← List.map_take, ← List.map_drop]
    have hH : Ext H H21 := by
      have : Ext H (hideH (ownM hh t) H20) := fun q o hq => by
        have h1 := hX14 q o hq
        show (if q ∈ ownM hh t then none else H20 q) = _
        rw [if_neg, h1]
        intro hm
        have := W14.ext.none (hid q hm)
        rw [this] at hq; cases hq
      exact this.trans hX21
    have fin : ∀ (h' : Nat) (t2 : MT) (lo' : Nat), MemM H21 h' t2 → FullM lo' 8 h' t2 → (h' = 0 ∨ 1 ≤ lo') → flatM h' t2 = flatM hh t' → HCalls Tryz.prog 55 [.pointer (some ⟨t2.g, 0, none⟩), .int .i64 cols] H21 fun v34 H35 => ∃ (A36 : Option Addr) (n36 c36 : Nat), ∃ x37 : Int, ∃ x38 : Int, v34 = .agg #[.slice A36 n36 c36, .int .i64 x37, .int .i64 x38] ∧ Q (.tuple #[.agg #[.slice A36 n36 c36, .int .i64 x37, .int .i64 x38], .int .i64 0]) H35 := fun h' t2 lo' M2 F2 l2 e2 => by
      refine c55 (lo := lo') M2 F2 l2 ⟨hs.1, hs.2.1⟩ ?_ (by rw [e2]; exact srt21) (by rw [e2]; exact ent21) (by rw [e2]; exact hk21) fun H5 A5 c5 bl5 x5 O5 => ⟨_, _, _, _, _, rfl, ?_⟩
      · have h1 := size_le (F2.widen (hi' := 1000) (by omega))
        rw [e2] at h1
        have h2 := hsub.length_le
        have h3 := hlim S h
        omega
      · rw [e2] at O5
        exact h1 S h hcode H5 A5 c5 bl5 _ _ (hH.trans x5) O5 hout
    refine jn_intro (fun J => ∀ (h' : Nat) (t2 : MT) (lo' : Nat), MemM H21 h' t2 → FullM lo' 8 h' t2 → (h' = 0 ∨ 1 ≤ lo') → flatM h' t2 = flatM hh t' → J (some ⟨t2.g, 0, none⟩)) fin fun J hJ => ?_
    have N21 := M21.node
    have c0 := N21.cl0
    have c1 := N21.cl1
    rw [hg21] at c0 c1
    cases hh with
    | zero =>
      have hk0 : t'.ks = [] := M21.2
      refine jn_intro (fun J27 => J27 false) (cndF rfl ?_) fun J27 hJ27 => ⟨_, _, _, c0, cndI (fun h => ⟨_, _, _, c1, ?_⟩) fun h => hJ27⟩
      · rw [← hg21]
        exact hJ 0 t' _ M21 F21 (.inl rfl) rfl
      · rw [show decide (((t'.ks.length : Nat) : Int) > 0) = false by rw [hk0]; rfl]; exact hJ27
    | succ hh =>
      obtain ⟨g1, g2, g3, g4⟩ := F21
      refine jn_intro (fun J27 => (1 ≤ t'.es.length → J27 false) ∧ (t'.es.length = 0 → J27 true)) ⟨fun he => cndF rfl ?_, fun he => cndT rfl ?_⟩ fun J27 hJ27 => ⟨_, _, _, c0, cndI (fun h => ⟨_, _, _, c1, ?_⟩) fun h => hJ27.1 ?_⟩
      · rw [← hg21]
        exact hJ (hh + 1) t' 1 M21 ⟨g1, he, g3, g4⟩ (.inr (Nat.le_refl _)) rfl
      · have hkl : t'.ks.length = 1 := by omega
        obtain ⟨u, hu⟩ := get_of (l := t'.ks) (i := 0) (by omega)
        have hum := List.mem_of_getElem? hu
        have hk1 : t'.ks = [u] := by
          cases hc : t'.ks with
          | nil => rw [hc] at hkl; simp at hkl
          | cons v r =>
            rw [hc] at hkl hu
            have hr : r = [] := List.eq_nil_of_length_eq_zero (by simpa using hkl)
            have hv : v = u := by simpa using hu
            rw [hr, hv]
        have he0 : t'.es = [] := List.eq_nil_of_length_eq_zero he
        refine ⟨_, _, _, c1, by omega, by omega, rd_pt (N21.ksAt (by unfold huge; omega)) hu fun q o _ kp => ⟨_, by simpa using kp, ?_⟩⟩
        refine hJ hh u 3 (M21.2 u hum) (g4 u hum) (.inr (by omega)) ?_
        show flatM hh u = inter (t'.ks.map (flatM hh)) t'.es
        rw [hk1, he0]; simp [inter]
      · have h : t'.es.length = 0 := by have := beq_iff_eq.1 h; omega
        rw [show decide (((t'.ks.length : Nat) : Int) > 0) = true from decide_eq_true (by omega)]
        exact hJ27.2 h
      · have h : ((t'.es.length : Nat) : Int) ≠ 0 := by simpa using h
        omega
  · cases hb : entB cols e with
    | true => exact hJ.2 hb
    | false => exact hJ.1 hb
end
end Go.Proofs.YtmelbipidffmpaaGreatDoor.Hw

/- Few, of a good tree: how many entries there are. -/
set_option linter.unusedVariables false
set_option linter.unusedSimpArgs false
set_option linter.unusedSectionVars false
set_option maxRecDepth 20000
namespace Go.Proofs.YtmelbipidffmpaaGreatDoor.Hw
open Go Go.Proofs
/-- The entries of the blocks that were seen. -/
def seenW : List NdM → List Bool → Nat
  | b :: r, true :: l => b.es.length + seenW r l
  | _ :: r, false :: l => seenW r l
  | _, _ => 0
theorem seenW_set : ∀ {bl : List NdM} {l : List Bool} {i : Nat} {b : NdM}, bl[i]? = some b → l[i]? = some false → seenW bl (l.set i true) = seenW bl l + b.es.length
  | [], _, _, _, h, _ => by simp at h
  | _ :: _, [], _, _, _, h => by simp at h
  | b :: r, x :: l, 0, c, h, h' => by
    simp at h h'
    subst h
    subst h'
    show b.es.length + seenW r l = seenW r l + b.es.length
    omega
  | b :: r, x :: l, i + 1, c, h, h' => by
    have ih := seenW_set (bl := r) (l := l) (i := i) (b := c) (by simpa using h) (by simpa using h')
    cases x with
    | true => show b.es.length + seenW r (l.set i true) = b.es.length + seenW r l + c.es.length; omega
    | false => exact ih
theorem seenW_le : ∀ {bl : List NdM} {l : List Bool}, seenW bl l ≤ (bl.map fun b => b.es.length).sum
  | [], l => by cases l <;> simp [seenW]
  | b :: r, [] => by simp [seenW]
  | b :: r, x :: l => by
    have ih := seenW_le (bl := r) (l := l)
    rw [List.map_cons, List.sum_cons]
    cases x with
    | true => show b.es.length + seenW r l ≤ _; omega
    | false => show seenW r l ≤ _; omega
theorem seenW_start {bl : List NdM} : ∀ {n : Nat}, seenW bl (List.replicate n false) = 0 := by
  induction bl with
  | nil => intro n; cases n <;> rfl
  | cons b r ih => intro n; cases n with
    | zero => rfl
    | succ n => exact ih
/-- What a call of visit adds. -/
structure Adds (bl : List NdM) (S S' : Sv) (more : Nat) : Prop where
  sub : ∀ e ∈ S.out, e ∈ S'.out
  old : ∀ i : Nat, S.seen[i]? = some true → S'.seen[i]? = some true
  len : S'.seen.length = S.seen.length
  new : ∀ (i : Nat) (b : NdM), bl[i]? = some b → S.seen[i]? = some false → S'.seen[i]? = some true → b.es.length ≤ 8 ∧ b.ks.length ≤ 9 ∧ ∀ e ∈ b.es, e ∈ S'.out
  num : S'.out.length + seenW bl S.seen ≤ S.out.length + seenW bl S'.seen + more
theorem Adds.trans {bl : List NdM} {S S1 S2 : Sv} {m1 m2 : Nat} (a : Adds bl S S1 m1) (b : Adds bl S1 S2 m2) : Adds bl S S2 (m1 + m2) := by
  refine ⟨fun e he => b.sub e (a.sub e he), fun i hi => b.old i (a.old i hi), b.len.trans a.len, fun i x hx h0 h1 => ?_, by have := a.num; have := b.num; omega⟩
  cases hs : S1.seen[i]? with
  | none =>
    have h2 := List.getElem?_eq_none_iff.1 hs
    have h3 := (List.getElem?_eq_some_iff.1 h0).1
    have := a.len
    omega
  | some z =>
    cases z with
    | true =>
      obtain ⟨c1, c2, c3⟩ := a.new i x hx h0 hs
      exact ⟨c1, c2, fun e he => b.sub e (c3 e he)⟩
    | false => exact b.new i x hx hs h1
theorem kids_adds {bl : List NdM} {f : Sv → Int → Option Sv} (hf : ∀ S k S', f S k = some S' → Adds bl S S' 0) : ∀ {ks : List Int} {es : List EnM} {S S' : Sv}, kidsV f ks es S = some S' → Adds bl S S' es.length ∧ (es.length ≤ ks.length → ∀ e ∈ es, e ∈ S'.out)
  | [], es, S, S', h => by
    cases h
    exact ⟨⟨fun e he => he, fun i hi => hi, rfl, (fun i b hb h0 h1 => by rw [h0] at h1; cases h1), by omega⟩, fun h e he => by
      have : es = [] := List.eq_nil_of_length_eq_zero (by simpa using h)
      rw [this] at he; cases he⟩
  | k :: ks, es, S, S', h => by
    unfold kidsV at h
    cases hv : f S k with
    | none => rw [hv] at h; cases h
    | some T =>
      rw [hv] at h
      have a := hf S k T hv
      cases es with
      | nil =>
        obtain ⟨b, _⟩ := kids_adds hf h
        exact ⟨by simpa using a.trans b, fun _ e he => by cases he⟩
      | cons x es =>
        obtain ⟨b, b2⟩ := kids_adds hf h
        have c : Adds bl T ⟨T.seen, T.leaf, T.out ++ [x]⟩ 1 := ⟨fun e he => List.mem_append_left _ he, fun i hi => hi, rfl, (fun i z hz h0 h1 => by
          have h1 : T.seen[i]? = some true := h1
          rw [h0] at h1; cases h1), by simp; omega⟩
        refine ⟨by have := a.trans (c.trans b); rw [List.length_cons]; rw [Nat.zero_add, Nat.add_comm] at this; exact this, fun hl e he => ?_⟩
        rcases List.mem_cons.1 he with rfl | he
        · exact b.sub _ (List.mem_append_right _ (List.mem_singleton.2 rfl))
        · exact b2 (by simpa using hl) e he
theorem visit_adds {bl : List NdM} {root : Int} : ∀ {m : Nat} {S S' : Sv} {i d : Int}, visit bl root m S i d = some S' → Adds bl S S' 0
  | 0, S, S', i, d, h => by cases h
  | m + 1, S, S', i, d, h => by
    unfold visit at h
    split at h
    · cases h
    · split at h
      · rename_i b hb hs
        have hset : ∀ j : Nat, S.seen[j]? = some true → (S.seen.set i.toNat true)[j]? = some true := fun j hj => by
          rw [List.getElem?_set]
          split
          · rename_i e
            subst e
            rw [hs] at hj; cases hj
          · exact hj
        have hw := seenW_set (bl := bl) hb hs
        have hone : ∀ (j : Nat) (x : NdM), bl[j]? = some x → S.seen[j]? = some false → (S.seen.set i.toNat true)[j]? = some true → x = b := fun j x hx h0 h1 => by
          rw [List.getElem?_set] at h1
          split at h1
          · rename_i e
            subst e
            rw [hb] at hx; cases hx; rfl
          · rw [h0] at h1; cases h1
        split at h
        · rename_i hk0
          split at h
          · rename_i hl
            cases h
            unfold leafOk at hl
            simp only [Bool.and_eq_true, decide_eq_true_eq] at hl
            refine ⟨fun e he => List.mem_append_left _ he, hset, by simp, fun j x hx h0 h1 => ?_, ?_⟩
            · obtain rfl := hone j x hx h0 h1
              exact ⟨hl.1, by omega, fun e he => List.mem_append_right _ he⟩
            · show (S.out ++ b.es).length + seenW bl S.seen ≤ S.out.length + seenW bl (S.seen.set i.toNat true) + 0
              rw [List.length_append]; omega
          · cases h
        · split at h
          · rename_i hn
            unfold nodeOk at hn
            simp only [Bool.and_eq_true, decide_eq_true_eq, beq_iff_eq] at hn
            obtain ⟨g1, g2⟩ := kids_adds (fun S k S' hv => visit_adds hv) h
            refine ⟨g1.sub, fun j hj => g1.old j (hset j hj), g1.len.trans (by simp), fun j x hx h0 h1 => ?_, ?_⟩
            · cases hj : (S.seen.set i.toNat true)[j]? with
              | none =>
                have h2 := List.getElem?_eq_none_iff.1 hj
                have h3 := (List.getElem?_eq_some_iff.1 h0).1
                simp at h2
                omega
              | some z =>
                cases z with
                | true =>
                  obtain rfl := hone j x hx h0 hj
                  exact ⟨hn.1, by omega, g2 (by omega)⟩
                | false => exact g1.new j x hx hj h1
            · have := g1.num
              have this : S'.out.length + seenW bl (S.seen.set i.toNat true) ≤ S.out.length + seenW bl S'.seen + b.es.length := this
              omega
          · cases h
      · cases h
/-- The blocks of a good tree are small, and hold what there is. -/
theorem tree_small {bl : List NdM} {root cols : Int} {S : Sv} (h : treeV bl root cols = some S) :
    (∀ b ∈ bl, b.es.length ≤ 8 ∧ b.ks.length ≤ 9 ∧ ∀ e ∈ b.es, ((e.key.length : Nat) : Int) = cols) ∧ S.out.length ≤ (bl.map fun b => b.es.length).sum := by
  obtain ⟨hs, hgd, _⟩ := tree_of h
  have hent := good_ent hgd
  unfold treeV at h
  rw [if_pos hs] at h
  split at h
  · cases h
  · rename_i T hv
    split at h
    · rename_i hg
      cases h
      rw [Bool.and_eq_true] at hg
      have a := visit_adds hv
      have hw := a.num
      have hw2 := seenW_le (bl := bl) (l := S.seen)
      have hw : S.out.length + seenW bl (List.replicate bl.length false) ≤ 0 + seenW bl S.seen + 0 := hw
      rw [seenW_start] at hw
      refine ⟨fun b hb => ?_, by omega⟩
      obtain ⟨i, hi⟩ := List.mem_iff_getElem?.1 hb
      have hil := (List.getElem?_eq_some_iff.1 hi).1
      have hsl : S.seen.length = bl.length := by rw [a.len]; simp [start]
      have h1 : S.seen[i]? = some true := by
        rw [List.getElem?_eq_getElem (by omega)]
        congr 1
        exact List.all_eq_true.1 hg.1 _ (List.getElem_mem _)
      obtain ⟨c1, c2, c3⟩ := a.new i b hi (by show (List.replicate bl.length false)[i]? = _; rw [List.getElem?_replicate, if_pos hil]) h1
      exact ⟨c1, c2, fun e he => (ent_len (hent e (c3 e he))).1⟩
    · cases h
section
variable {H : Hp} {A : Option Addr} {n c : Nat} {root cols : Int} {bl : List NdM} {Q : Value → Hp → Prop} {S : Sv}
theorem c9s (hT : TrAt H A n bl) (hv : treeV bl root cols = some S) (hq : ∀ b, (b = true → S.out.length < 4000) → Q (.bool b) H) : HCalls Tryz.prog 9 [.agg #[.slice A n c, .int .i64 root, .int .i64 cols]] H Q := by
  refine f9.ok _ _ _ _ _ ?_
  unfold f9
  obtain rfl := hT.sl.len
  have hsm := hT.sl.lt
  obtain ⟨small, hsum⟩ := tree_small hv
  obtain ⟨⟨hc1, hc2, hb1, hb2⟩, _⟩ := tree_of hv
  refine loop_to bl.length (fun i st H' => H' = H ∧ ∃ s : Int, st = ((s, ((i : Int), ())), ()) ∧ ((((bl.take i).map fun b => b.es.length).sum : Nat) : Int) ≤ s ∧ s ≤ 6000) ⟨rfl, _, rfl, by simp, by omega⟩ ?_
  rintro i st H2 next hi ⟨rfl, s, rfl, hlo, hhi⟩ hnext
  dsimp only
  refine jn_intro (fun J => (i < bl.length → s < 4000 → J true) ∧ ((s < 4000 → i = bl.length) → J false)) ⟨fun hlt h4 => cndT rfl ?_, fun he => cndF rfl (hq _ fun h => ?_)⟩ fun J hJ => cndI (fun h => ?_) fun h => hJ.2 fun _ => ?_
  · obtain ⟨b, hb⟩ := get_of hlt
    have hbm := List.mem_of_getElem? hb
    have hnd := hT.nd b hbm
    have hesm := hnd.es.lt
    obtain ⟨b8, b9, bk⟩ := small b hbm
    have htake : ((bl.take (i + 1)).map fun b => b.es.length).sum = ((bl.take i).map fun b => b.es.length).sum + b.es.length := by
      rw [take_snoc hb, List.map_append, List.sum_append]; simp
    have ek : IntKind.i64.wrap (s + ((b.ks.length : Nat) : Int)) = s + ((b.ks.length : Nat) : Int) := wrap_id (by omega) (by omega)
    refine ⟨by omega, by omega, rd_nd hT.sl hb fun q o _ k1 k2 => ⟨_, _, _, by simpa using k2, by omega, by omega, rd_nd hT.sl hb fun q o _ k1 k2 => ⟨_, _, _, by simpa using k1, ?_⟩⟩⟩
    rw [ek]
    refine loop_to b.es.length (fun k st H' => H' = H2 ∧ ∃ s' : Int, st = ((s', ((k : Int), ())), ()) ∧ s + (k : Int) ≤ s' ∧ s' ≤ s + 9 + 21 * (k : Int)) ⟨rfl, _, rfl, by omega, by omega⟩ ?_
    rintro k st H11 next12 hk ⟨rfl, s', rfl, g1, g2⟩ hnext12
    dsimp only
    refine cndI (fun h => ?_) fun h => ⟨rfl, hnext _ _ hlt ⟨rfl, s', ?_, ?_, ?_⟩⟩
    · have h := of_decide_eq_true h
      obtain ⟨e, he⟩ := get_of (l := b.es) (i := k) (by omega)
      have hel := bk e (List.mem_of_getElem? he)
      have w1 : IntKind.i64.wrap (1 + ((e.key.length : Nat) : Int)) = 1 + ((e.key.length : Nat) : Int) := wrap_id (by omega) (by omega)
      have w2 : IntKind.i64.wrap (s' + (1 + ((e.key.length : Nat) : Int))) = s' + (1 + ((e.key.length : Nat) : Int)) := wrap_id (by omega) (by omega)
      refine ⟨by omega, by omega, rd_en hnd.es he fun q o _ k1 k2 => ⟨_, _, _, by simpa using k1, _, by simpa using k2, rfl, hnext12 _ _ (by omega) ⟨rfl, s' + (1 + ((e.key.length : Nat) : Int)), ?_, by omega, by omega⟩⟩⟩
      rw [w1, w2, wrap_id (x := (k : Int) + 1) (by omega) (by omega)]; rfl
    · rw [wrap_id (x := (i : Int) + 1) (by omega) (by omega)]; rfl
    · have h := of_decide_eq_false h
      rw [htake]; omega
    · omega
  · have h4 := of_decide_eq_true h
    have hin := he h4
    subst hin
    rw [List.take_length] at hlo
    omega
  · have h := of_decide_eq_true h
    cases h4 : decide (s < 4000) with
    | true => exact hJ.1 (by omega) (of_decide_eq_true h4)
    | false => exact hJ.2 fun h5 => absurd h5 (of_decide_eq_false h4)
  · have h := of_decide_eq_false h
    omega
end
end Go.Proofs.YtmelbipidffmpaaGreatDoor.Hw

/- The document's Put, Inserted, Deleted; fits. -/
set_option linter.unusedVariables false
set_option linter.unusedSimpArgs false
set_option linter.unusedSectionVars false
set_option maxRecDepth 20000
namespace Go.Proofs.YtmelbipidffmpaaGreatDoor.Hw
open Go Go.Proofs
theorem sl_take {α : Type} {f : α → List Value} {k : Nat} {H : Hp} {A : Option Addr} {n m : Nat} {l : List α} (hf : ∀ x, (f x).length = k) (hA : SlAt f H A n l) (hm : m ≤ l.length) : SlAt f H A m (l.take m) := by
  have := SlAt.cut (c := n) (p := 0) (m := m) hf hA (Nat.le_refl _) (by omega)
  rw [cut_zero, List.drop_zero] at this
  exact this
theorem sl_drop {α : Type} {f : α → List Value} {k : Nat} {H : Hp} {A : Option Addr} {n c p : Nat} {l : List α} (hf : ∀ x, (f x).length = k) (hA : SlAt f H A n l) (hc : n ≤ c) (hm : p ≤ l.length) : SlAt f H (cutA A (p * k) (decide (c = p))) (n - p) (l.drop p) := by
  have hl := hA.len
  have := SlAt.cut (c := c) (p := p) (m := n - p) hf hA hc (by omega)
  rw [List.take_of_length_le (by rw [List.length_drop]; omega)] at this
  exact this
section
variable {H : Hp} {A : Option Addr} {n c : Nat} {root cols : Int} {bl : List NdM} {Q : Value → Hp → Prop} {l : List EnM} {e : EnM}
theorem c57 (hl : EsAt H A n l) (hc : n ≤ c) (he : KeyAt H e) (hs : l.length < 900000000) (hent : ∀ x ∈ l, entB cols x = true) (hb : entB cols e = true) (hsrt : SrtE l)
    (h0 : hasE l e = true → Q (.tuple #[.slice A n c, .bool false]) H)
    (h1 : hasE l e = false → ∀ A' c' H', Ext H H' → EsAt H' A' (l.length + 1) (l.take (cntE l e) ++ e :: l.drop (cntE l e)) → l.length + 1 ≤ c' → Q (.tuple #[.slice A' (l.length + 1) c', .bool true]) H') :
    HCalls Tryz.prog 57 [.slice A n c, enA e] H Q := by
  refine f57.ok _ _ _ _ _ _ _ ?_
  unfold f57
  obtain rfl := hl.sl.len
  refine loop_to l.length (fun i st H' => st = ((((l.length - i : Nat) : Int), ()), ()) ∧ H' = H ∧ ∀ (j : Nat) (x : EnM), l.length - i ≤ j → l[j]? = some x → ¬ ordE x e < 0) ⟨rfl, rfl, fun j x hj hx => by have := (List.getElem?_eq_some_iff.1 hx).1; omega⟩ ?_
  rintro i st H2 next hi ⟨rfl, rfl, hge⟩ hnext
  dsimp only
  obtain ⟨a, ha⟩ : ∃ a, a = l.length - i := ⟨_, rfl⟩
  rw [← ha] at hge ⊢
  refine jn_intro (fun J => (∀ x, 0 < a → l[a - 1]? = some x → ¬ ordE x e < 0 → J true H2) ∧ ((∀ x, 0 < a → l[a - 1]? = some x → ordE x e < 0) → J false H2)) ⟨fun x ha0 hx hn => cndT rfl ⟨rfl, hnext _ _ (by omega) ⟨?_, rfl, fun j y hj hy => ?_⟩⟩, fun hlt => cndF rfl ?_⟩ fun J hJ => cndI (fun h => ?_) fun h => ?_
  · rw [wrap_id (by omega) (by omega), show l.length - (i + 1) = a - 1 by omega, show ((a : Nat) : Int) - 1 = ((a - 1 : Nat) : Int) by omega]
  · by_cases hja : a ≤ j
    · exact hge j y hja hy
    · have : j = a - 1 := by omega
      subst this
      rw [hx] at hy; cases hy; exact hn
  · have hcnt : cntE l e = a := take_is (p := fun z => decide (ordE z e < 0)) (fun k z hk hz => by
      obtain ⟨y, hy⟩ := get_of (l := l) (i := a - 1) (by omega)
      exact decide_eq_true (ordE_ok.lt_of' (hsrt.le (by omega) hz hy) (hlt y (by omega) hy))) (fun z hz => decide_eq_false (hge a z (Nat.le_refl _) hz)) (by omega)
    have hhas : hasE l e = match l[a]? with | some x => ordE x e == 0 | none => false := by unfold hasE; rw [hcnt] <;> rfl
    refine jn_intro (fun J => (hasE l e = true → J true H2) ∧ (hasE l e = false → J false H2)) ⟨fun h => cndT rfl (h0 h), fun h => cndF rfl ⟨by omega, by omega, by omega, by omega, by omega, by omega, fun g22 hg22 => ?_⟩⟩ fun J hJ => cndI (fun h => ?_) fun h => ?_
    · simp only [Int.toNat_natCast, cut_zero, Nat.sub_zero]
      have x23 : Ext H2 (upd g22 (.cells (enC e).toArray 46 (0, 0)) H2) := Ext.new hg22
      have hA1 : SlAt enC (upd g22 (.cells (enC e).toArray 46 (0, 0)) H2) (some ⟨g22, 0, none⟩) 1 [e] := fresh_sl (l := [e]) (f := enC) (by simp) (by simp [huge])
      have hB1 := (sl_drop (p := a) enC_len hl.sl hc (by omega)).ext x23
      refine appendF_slx enC_len enC_one (by omega) hA1 hB1 (by omega) (Nat.le_refl _) (by unfold big; omega) fun A24 c24 H25 x25 s25 hc25 _ => ?_
      have hA2 := (sl_take (m := a) enC_len hl.sl (by omega)).ext (x23.trans x25)
      refine appendF_slx enC_len enC_one (by omega) hA2 s25 (by omega) (Nat.le_refl _) (by unfold big; omega) fun A26 c26 H27 x27 s27 hc27 _ => ?_
      have e1 : a + (1 + (l.length - a)) = l.length + 1 := by omega
      rw [e1] at s27 hc27 ⊢
      have xx := x23.trans (x25.trans x27)
      refine h1 h A26 c26 H27 xx ⟨by rw [hcnt]; exact s27, fun z hz => ?_⟩ hc27
      rw [hcnt] at hz
      rcases List.mem_append.1 hz with hz | hz
      · exact (hl.key z (List.mem_of_mem_take hz)).ext xx
      · rcases List.mem_cons.1 hz with rfl | hz
        · exact he.ext xx
        · exact (hl.key z (List.mem_of_mem_drop hz)).ext xx
    · have h := of_decide_eq_true h
      obtain ⟨x, hx⟩ := get_of (l := l) (i := a) (by omega)
      have hxm := List.mem_of_getElem? hx
      rw [hx] at hhas
      have hhas : hasE l e = (ordE x e == 0) := hhas
      refine ⟨by omega, by omega, rd_en hl.sl hx fun q o _ k1 k2 => ⟨_, _, _, by simpa using k1, _, by simpa using k2, c59 (cols := cols) (hl.key x hxm) he (hent x hxm) hb ⟨_, rfl, ?_⟩⟩⟩
      rw [← hhas]
      cases hh : hasE l e with
      | true => exact hJ.1 hh
      | false => exact hJ.2 hh
    · have h := of_decide_eq_false h
      rw [List.getElem?_eq_none_iff.2 (by omega)] at hhas
      exact hJ.2 hhas
  · have h := of_decide_eq_true h
    have ew : IntKind.i64.wrap (((a : Nat) : Int) - 1) = ((a - 1 : Nat) : Int) := by rw [wrap_id (by omega) (by omega)]; omega
    rw [ew]
    obtain ⟨x, hx⟩ := get_of (l := l) (i := a - 1) (by omega)
    have hxm := List.mem_of_getElem? hx
    refine ⟨by omega, by omega, rd_en hl.sl hx fun q o _ k1 k2 => ⟨_, _, _, by simpa using k1, _, by simpa using k2, c59 (cols := cols) (hl.key x hxm) he (hent x hxm) hb ⟨_, rfl, ?_⟩⟩⟩
    cases hd : decide (ordE x e ≥ 0) with
    | true => have := of_decide_eq_true hd; exact hJ.1 x (by omega) hx (by omega)
    | false => have := of_decide_eq_false hd; exact hJ.2 fun y _ hy => by rw [hx] at hy; cases hy; omega
  · have h := of_decide_eq_false h
    exact hJ.2 fun x h0 => by omega
theorem c26 (hT : TrAt H A n bl) (hF : Fewish bl) (hK : KeyAt H e)
    (h0 : insCode (treeV bl root cols) cols e ≠ 0 → ∀ H', Ext H H' → Q (.tuple #[.slice none 0 0, .int .i64 (insCode (treeV bl root cols) cols e)]) H')
    (h1 : ∀ S, treeV bl root cols = some S → insCode (treeV bl root cols) cols e = 0 → ∀ A' c' H', Ext H H' → EsAt H' A' (S.out.length + 1) (S.out.take (cntE S.out e) ++ e :: S.out.drop (cntE S.out e)) → Q (.tuple #[.slice A' (S.out.length + 1) c', .int .i64 0]) H') :
    HCalls Tryz.prog 26 [.agg #[.slice A n c, .int .i64 root, .int .i64 cols], enA e] H Q := by
  refine f26.ok _ _ _ _ _ _ _ _ _ ?_
  unfold f26
  refine c38 hT hF (fun h A' n' c' x H' hx => ⟨_, _, _, _, _, rfl, ?_⟩) fun S h hl hk oA oc H2 hx hr => ⟨_, _, _, _, _, rfl, ?_⟩
  · refine jn_intro (fun J => ∀ H9, Ext H H9 → J true H9) (fun H9 x9 => cndT rfl ?_) fun J hJ => cndT rfl (hJ _ hx)
    have : insCode (treeV bl root cols) cols e = 2 := by rw [h]; rfl
    rw [this] at h0
    exact h0 (by decide) H9 x9
  obtain ⟨hs, hgd, _⟩ := tree_of h
  have hent := good_ent hgd
  have hsrt := good_srt hgd
  have hcode : insCode (treeV bl root cols) cols e = if entB cols e = true then (if hasE S.out e = true then 14 else if 4000 ≤ S.out.length then 3 else 0) else 2 := by rw [h]; rfl
  refine jn_intro (fun J => (entB cols e = false → J true H2) ∧ (entB cols e = true → J false H2)) ⟨fun hb => cndT rfl ?_, fun hb => cndF rfl ?_⟩ fun J hJ => cndF rfl (c56 (hK.ext hx) hs.2.1 ⟨_, rfl, ?_⟩)
  · rw [hcode, if_neg (by rw [hb]; decide)] at h0
    exact h0 (by decide) H2 hx
  · rw [hb] at hcode
    simp only [if_true] at hcode
    have hE : EsAt H2 oA S.out.length S.out := ⟨⟨rfl, hr.cells, by unfold huge; omega⟩, fun z hz => (hk z hz).ext hx⟩
    refine c57 (cols := cols) hE hr.2.1 (hK.ext hx) (by omega) hent hb hsrt (fun hh => ⟨_, _, _, _, rfl, cndT rfl ?_⟩) fun hh A' c' H13 x13 hE' hc' => ⟨_, _, _, _, rfl, cndF rfl (cndI (fun hlim => ?_) fun hlim => ?_)⟩
    · rw [hcode, if_pos hh] at h0
      exact h0 (by decide) H2 hx
    · have hlim := of_decide_eq_true hlim
      rw [hcode, if_neg (by rw [hh]; decide), if_pos (by omega)] at h0
      exact h0 (by decide) H13 (hx.trans x13)
    · have hlim := of_decide_eq_false hlim
      rw [if_neg (by rw [hh]; decide), if_neg (by omega)] at hcode
      exact h1 S h hcode A' c' H13 (hx.trans x13) hE'
  · cases hb : entB cols e with
    | true => exact hJ.2 hb
    | false => exact hJ.1 hb
theorem c29 (hT : TrAt H A n bl) (hF : Fewish bl) (hK : KeyAt H e)
    (h0 : delCode (treeV bl root cols) cols e ≠ 0 → ∀ H', Ext H H' → Q (.tuple #[.slice none 0 0, .int .i64 (delCode (treeV bl root cols) cols e)]) H')
    (h1 : ∀ S, treeV bl root cols = some S → delCode (treeV bl root cols) cols e = 0 → ∀ A' n' c' H', Ext H H' → EsAt H' A' n' (S.out.take (cntE S.out e) ++ S.out.drop (cntE S.out e + 1)) → Q (.tuple #[.slice A' n' c', .int .i64 0]) H') :
    HCalls Tryz.prog 29 [.agg #[.slice A n c, .int .i64 root, .int .i64 cols], enA e] H Q := by
  refine f29.ok _ _ _ _ _ _ _ _ _ ?_
  unfold f29
  refine c38 hT hF (fun h A' n' c' x H' hx => ⟨_, _, _, _, _, rfl, ?_⟩) fun S h hl hk oA oc H2 hx hr => ⟨_, _, _, _, _, rfl, ?_⟩
  · refine jn_intro (fun J => ∀ H9, Ext H H9 → J true H9) (fun H9 x9 => cndT rfl ?_) fun J hJ => cndT rfl (hJ _ hx)
    have : delCode (treeV bl root cols) cols e = 2 := by rw [h]; rfl
    rw [this] at h0
    exact h0 (by decide) H9 x9
  obtain ⟨hs, hgd, _⟩ := tree_of h
  have hent := good_ent hgd
  have hsrt := good_srt hgd
  have hcode : delCode (treeV bl root cols) cols e = if entB cols e = true then (if hasE S.out e = true then 0 else 4) else 2 := by rw [h]; rfl
  refine jn_intro (fun J => (entB cols e = false → J true H2) ∧ (entB cols e = true → J false H2)) ⟨fun hb => cndT rfl ?_, fun hb => cndF rfl ?_⟩ fun J hJ => cndF rfl (c56 (hK.ext hx) hs.2.1 ⟨_, rfl, ?_⟩)
  · rw [hcode, if_neg (by rw [hb]; decide)] at h0
    exact h0 (by decide) H2 hx
  · rw [hb] at hcode
    simp only [if_true] at hcode
    have hE : EsAt H2 oA S.out.length S.out := ⟨⟨rfl, hr.cells, by unfold huge; omega⟩, fun z hz => (hk z hz).ext hx⟩
    have hle := hr.2.1
    refine loop_to S.out.length (fun i st H' => st = (((i : Int), ()), ()) ∧ H' = H2 ∧ ∀ (j : Nat) (x : EnM), j < i → S.out[j]? = some x → ordE x e ≠ 0) ⟨rfl, rfl, fun j x h => by omega⟩ ?_
    rintro i st H13 next hi ⟨rfl, rfl, hno⟩ hnext
    dsimp only
    refine cndI (fun hlt => ?_) fun hlt => ?_
    · have hlt := of_decide_eq_true hlt
      obtain ⟨x, hx'⟩ := get_of (l := S.out) (i := i) (by omega)
      have hxm := List.mem_of_getElem? hx'
      have ew : IntKind.i64.wrap (((i : Nat) : Int) + 1) = ((i + 1 : Nat) : Int) := by rw [wrap_id (by omega) (by omega)]; omega
      rw [ew]
      refine ⟨by omega, by omega, rd_en hE.sl hx' fun q o _ k1 k2 => ⟨_, _, _, by simpa using k1, _, by simpa using k2, c59 (cols := cols) (hE.key x hxm) (hK.ext hx) (hent x hxm) hb ⟨_, rfl, cndI (fun h0' => ?_) fun h0' => ?_⟩⟩⟩
      · have hz : ordE x e = 0 := by simpa using h0'
        have hO : OutE S.out e (S.out.take i ++ S.out.drop (i + 1)) := ⟨_, x, _, kids_split hx', rfl, hz⟩
        have his := hO.is hsrt
        have hhas : hasE S.out e = true := has_of hsrt ⟨x, hxm, hz⟩
        rw [if_pos hhas] at hcode
        refine ⟨by omega, by omega, by omega, by omega, by omega, by omega, ?_⟩
        simp only [Int.toNat_natCast, cut_zero, Nat.sub_zero]
        have hA2 := sl_take (m := i) enC_len hE.sl (by omega)
        have hB2 := sl_drop (p := i + 1) enC_len hE.sl hle (by omega)
        refine appendF_slx enC_len enC_one (by omega) hA2 hB2 (by omega) (Nat.le_refl _) (by unfold big; omega) fun A21 c21 H22 x22 s22 hc22 _ => ?_
        refine h1 S h hcode A21 _ c21 H22 (hx.trans x22) ⟨by rw [← his]; exact s22, fun z hz' => ?_⟩
        rw [← his] at hz'
        rcases List.mem_append.1 hz' with hz' | hz'
        · exact (hE.key z (List.mem_of_mem_take hz')).ext x22
        · exact (hE.key z (List.mem_of_mem_drop hz')).ext x22
      · have hz : ordE x e ≠ 0 := by simpa using h0'
        refine ⟨rfl, hnext _ _ (by omega) ⟨by simp, rfl, fun j y hj hy => ?_⟩⟩
        by_cases hji : j = i
        · subst hji
          rw [hx'] at hy; cases hy; exact hz
        · exact hno j y (by omega) hy
    · have hlt := of_decide_eq_false hlt
      have hhas : hasE S.out e = false := by
        cases hh : hasE S.out e with
        | false => rfl
        | true =>
          obtain ⟨x, hx', hz⟩ := has_true hh
          obtain ⟨j, hj⟩ := List.mem_iff_getElem?.1 hx'
          exact absurd hz (hno j x (by have := (List.getElem?_eq_some_iff.1 hj).1; omega) hj)
      rw [hcode, if_neg (by rw [hhas]; decide)] at h0
      exact h0 (by decide) H13 hx
  · cases hb : entB cols e with
    | true => exact hJ.2 hb
    | false => exact hJ.1 hb
/-- fits: nothing, with an error. -/
theorem c27z {m k : Nat} {B : Option Addr} {cd : Int} (h : cd ≠ 0) (hq : Q (.bool true) H) : HCalls Tryz.prog 27 [.agg #[.slice none 0 0, .int .i64 0, .int .i64 0], .slice B m k, .int .i64 cols, .int .i64 cd] H Q := by
  refine f27.ok _ _ _ _ _ _ _ _ _ _ ?_
  unfold f27
  exact cndT (by simpa using h) (jn_intro (fun J => J true) hq fun J hJ => cndT rfl (cndT rfl hJ))
/-- fits: a good tree, with its entries. -/
theorem c27o {m k : Nat} {B : Option Addr} {dep : Int} {x : List EnM} (O : OutT H A bl cols l dep) (hB : EsAt H B m x) (he : x.map sayE = l.map sayE) (hq : ∀ H', Ext H H' → Q (.bool true) H') :
    HCalls Tryz.prog 27 [.agg #[.slice A bl.length c, .int .i64 0, .int .i64 cols], .slice B m k, .int .i64 cols, .int .i64 0] H Q := by
  refine f27.ok _ _ _ _ _ _ _ _ _ _ ?_
  unfold f27
  obtain ⟨S, s1, s2, _⟩ := O.val
  refine cndF rfl (c12 O.tr O.few fun A' c' l' H' hx R hl hs => ⟨_, _, _, _, rfl, ?_⟩)
  rw [s1] at hs ⊢
  have hs : l'.map sayE = S.out.map sayE := hs
  refine jn_intro (fun J => J true H') (hq H' hx) fun J hJ => cndT rfl (cndT (by simp) (c15 (hB.ext hx) (R.at (by unfold huge; omega)) (by rw [he, hs, s2]) ⟨_, rfl, hJ⟩))
end
end Go.Proofs.YtmelbipidffmpaaGreatDoor.Hw

/- The fixed calls' entries. -/
set_option linter.unusedVariables false
set_option linter.unusedSimpArgs false
set_option linter.unusedSectionVars false
set_option maxRecDepth 20000
namespace Go.Proofs.YtmelbipidffmpaaGreatDoor.Hw
open Go Go.Proofs
theorem srt_unique : ∀ {l1 l2 : List EnM}, SrtE l1 → SrtE l2 → l1.Perm l2 → l1 = l2
  | [], l2, _, _, h => h.nil_eq
  | a :: r, [], _, _, h => absurd h.length_eq (by simp)
  | a :: r, b :: s, h1, h2, h => by
    unfold SrtE at h1 h2
    rw [List.pairwise_cons] at h1 h2
    have hab : a = b := by
      have ha : a ∈ b :: s := h.mem_iff.1 (List.mem_cons_self ..)
      have hb : b ∈ a :: r := h.mem_iff.2 (List.mem_cons_self ..)
      rcases List.mem_cons.1 ha with e | ha
      · exact e
      · rcases List.mem_cons.1 hb with e | hb
        · exact e.symm
        · exfalso
          have q1 := h1.1 b hb
          have q2 := h2.1 a ha
          have := ordE_ok.anti a b
          omega
    subst hab
    rw [srt_unique h1.2 h2.2 (List.perm_cons a |>.1 h)]
def nV (n : Int) : Vl := ⟨1, n, ByteArray.empty⟩
section
variable {H : Hp} {Q : Value → Hp → Prop}
theorem c35 {n : Int} (hq : Q (vlA (nV n)) H) : HCalls Tryz.prog 35 [.int .i64 n] H Q := by
  refine f35.ok _ ?_
  unfold f35
  exact hq
theorem c34 {n id : Int} (hq : ∀ g, H g = none → Q (enA ⟨some ⟨g, 0, none⟩, 1, [nV n], id⟩) (upd g (.cells (vlC (nV n)).toArray 64 (0, 0)) H)) : HCalls Tryz.prog 34 [.int .i64 n, .int .i64 id] H Q := by
  refine f34.ok _ _ ?_
  unfold f34
  exact c35 ⟨_, _, _, rfl, fun g6 hg6 => hq g6 hg6⟩
theorem key_at {H' : Hp} {g : Nat} {n id : Int} (hx : Ext (upd g (.cells (vlC (nV n)).toArray 64 (0, 0)) H) H') : KeyAt H' ⟨some ⟨g, 0, none⟩, 1, [nV n], id⟩ := by
  refine ⟨⟨rfl, .inr ⟨g, 0, rfl, fun j v hj => ?_⟩, by simp [huge]⟩, Nat.le_refl _, fun v hv => ?_⟩
  · rw [cl_cells (hx _ _ upd_at), Nat.zero_add]
    simpa using hj
  · rw [List.mem_singleton] at hv
    subst hv
    show (0 : Nat) < _
    omega
end
end Go.Proofs.YtmelbipidffmpaaGreatDoor.Hw

/- The fixed calls' order, plain. -/
set_option linter.unusedVariables false
set_option linter.unusedSimpArgs false
set_option linter.unusedSectionVars false
set_option maxRecDepth 20000
namespace Go.Proofs.YtmelbipidffmpaaGreatDoor.Hw
open Go Go.Proofs
theorem ord_fix {a b : EnM} {n m i j : Int} (ha : sayE a = ([nV n], i)) (hb : sayE b = ([nV m], j)) : ordE a b = orI (cmpI n m) (cmpI i j) := by
  have a1 : a.key = [nV n] := congrArg Prod.fst ha
  have a2 : a.id = i := congrArg Prod.snd ha
  have b1 : b.key = [nV m] := congrArg Prod.fst hb
  have b2 : b.id = j := congrArg Prod.snd hb
  unfold ordE
  rw [a1, a2, b1, b2]
  have hs : cmpS ByteArray.empty ByteArray.empty = 0 := cmpS_eq rfl
  have hv : ordV (nV n) (nV m) = cmpI n m := by
    show (if (1 : Int) == 1 then orI (cmpI n m) (cmpS ByteArray.empty ByteArray.empty) else _) = _
    rw [hs]
    show orI (cmpI n m) 0 = cmpI n m
    unfold orI
    split
    · rename_i h; exact (beq_iff_eq.1 h).symm
    · rfl
  have hl : ordL [nV n] [nV m] = cmpI n m := by
    rw [ordL_cons, hv]
    show orI (cmpI n m) 0 = cmpI n m
    unfold orI
    split
    · rename_i h; exact (beq_iff_eq.1 h).symm
    · rfl
  rw [hl]
theorem cmpK_fix {a : EnM} {n m i : Int} (ha : sayE a = ([nV n], i)) : cmpK a [nV m] = cmpI n m := by
  have a1 : a.key = [nV n] := congrArg Prod.fst ha
  have := ord_fix (a := ⟨none, 0, [nV n], 0⟩) (b := ⟨none, 0, [nV m], 0⟩) (n := n) (m := m) (i := 0) (j := 0) rfl rfl
  unfold cmpK
  rw [a1]
  show ordL [nV n] [nV m] = _
  unfold ordE at this
  have hz : cmpI 0 0 = 0 := rfl
  rw [hz] at this
  have o : ∀ x : Int, orI x 0 = x := fun x => by
    unfold orI
    split
    · rename_i h; exact (beq_iff_eq.1 h).symm
    · rfl
  rw [o, o] at this
  exact this
/-- Entries that are numbers. -/
def AreN (l : List EnM) (ps : List (Int × Int)) : Prop := l.map sayE = ps.map fun p => ([nV p.1], p.2)
theorem AreN.nil_of {ps : List (Int × Int)} (h : AreN [] ps) : ps = [] := by
  unfold AreN at h
  cases ps with
  | nil => rfl
  | cons p r => simp at h
theorem AreN.cons {a : EnM} {l : List EnM} {ps : List (Int × Int)} (h : AreN (a :: l) ps) : ∃ p r, ps = p :: r ∧ sayE a = ([nV p.1], p.2) ∧ AreN l r := by
  unfold AreN at h
  cases ps with
  | nil => simp at h
  | cons p r =>
    simp only [List.map_cons, List.cons.injEq] at h
    exact ⟨p, r, rfl, h.1, h.2⟩
theorem betw_fix {a b : Int} : ∀ {l : List EnM} {ps : List (Int × Int)}, AreN l ps → betw l [nV a] [nV b] = (ps.filter fun p => !decide (cmpI p.1 a < 0) && decide (cmpI p.1 b ≤ 0)).map Prod.snd
  | [], ps, h => by rw [h.nil_of]; rfl
  | x :: l, ps, h => by
    obtain ⟨p, r, rfl, hx, hl⟩ := h.cons
    have hi : x.id = p.2 := congrArg Prod.snd hx
    have ih := betw_fix (a := a) (b := b) hl
    unfold betw at ih ⊢
    rw [List.filter_cons, List.filter_cons]
    have : passE [nV a] [nV b] x = (!decide (cmpI p.1 a < 0) && decide (cmpI p.1 b ≤ 0)) := by
      unfold passE
      rw [cmpK_fix hx, cmpK_fix hx]
    rw [this]
    split
    · rw [List.map_cons, List.map_cons, ih, hi]
    · exact ih
theorem ids_fix : ∀ {l : List EnM} {ps : List (Int × Int)}, AreN l ps → l.map EnM.id = ps.map Prod.snd
  | [], ps, h => by rw [h.nil_of]; rfl
  | x :: l, ps, h => by
    obtain ⟨p, r, rfl, hx, hl⟩ := h.cons
    rw [List.map_cons, List.map_cons, ids_fix hl, show x.id = p.2 from congrArg Prod.snd hx]
end Go.Proofs.YtmelbipidffmpaaGreatDoor.Hw

/- What functions of the program come to, by the evaluator: printed by a program of this session (gen.py) and checked here. -/
set_option linter.unusedVariables false
set_option maxRecDepth 100000
namespace Go.Proofs.YtmelbipidffmpaaGreatDoor.Hw
open Go Go.Proofs

/-- justiciar justiciarlaw17.awake -/
def f10  (H : Hp) (Q : Value → Hp → Prop) : Prop :=
  HCalls Tryz.prog 34 [.int .i64 2, .int .i64 4] H fun v1 H2 => ∃ (A3 : Option Addr) (n3 c3 : Nat), ∃ x4 : Int, v1 = .agg #[.slice A3 n3 c3, .int .i64 x4] ∧ HCalls Tryz.prog 34 [.int .i64 1, .int .i64 5] H2 fun v5 H6 => ∃
    (A7 : Option Addr) (n7 c7 : Nat), ∃ x8 : Int, v5 = .agg #[.slice A7 n7 c7, .int .i64 x8] ∧ HCalls Tryz.prog 34 [.int .i64 2, .int .i64 3] H6 fun v9 H10 => ∃ (A11 : Option Addr) (n11 c11 : Nat), ∃ x12 : Int, v9 = .agg
    #[.slice A11 n11 c11, .int .i64 x12] ∧ newF H10 46 [.slice A3 n3 c3, .int .i64 x4, .slice A7 n7 c7, .int .i64 x8, .slice A11 n11 c11, .int .i64 x12] fun g13 H14 => HCalls Tryz.prog 31 [.int .i64 1, .slice (some ⟨g13,
    0, none⟩) 3 3] H14 fun v15 H16 => ∃ (A17 : Option Addr) (n17 c17 : Nat), ∃ x18 : Int, ∃ x19 : Int, ∃ x20 : Int, v15 = .tuple #[.agg #[.slice A17 n17 c17, .int .i64 x18, .int .i64 x19], .int .i64 x20] ∧ HCalls
    Tryz.prog 35 [.int .i64 2] H16 fun v21 H22 => ∃ x23 : Int, ∃ x24 : Int, ∃ s25 : ByteArray, v21 = .agg #[.int .i64 x23, .int .i64 x24, .string s25] ∧ newF H22 64 [.int .i64 x23, .int .i64 x24, .string s25] fun g26 H27
    => HCalls Tryz.prog 20 [.agg #[.slice A17 n17 c17, .int .i64 x18, .int .i64 x19], .slice (some ⟨g26, 0, none⟩) 1 1] H27 fun v28 H29 => ∃ (A30 : Option Addr) (n30 c30 : Nat), ∃ x31 : Int, v28 = .tuple #[.slice A30 n30
    c30, .int .i64 x31] ∧ jn (fun (jA71 : Option Addr) (jn72 : Nat) (jc73 : Nat) (j74 : Int) (H75 : Hp) => HCalls Tryz.prog 23 [.agg #[.slice A17 n17 c17, .int .i64 x18, .int .i64 x19], .slice none 0 0, .slice none 0 0,
    .bool true] H75 fun v77 H78 => ∃ (A79 : Option Addr) (n79 c79 : Nat), ∃ x80 : Int, v77 = .tuple #[.slice A79 n79 c79, .int .i64 x80] ∧ jn (fun (j107 : Int) (jA108 : Option Addr) (jn109 : Nat) (jc110 : Nat) (j111 :
    Int) (j112 : Int) (H113 : Hp) => HCalls Tryz.prog 11 [.agg #[.slice jA108 jn109 jc110, .int .i64 j111, .int .i64 j112]] H113 fun v115 H116 => ∃ (A117 : Option Addr) (n117 c117 : Nat), ∃ x118 : Int, v115 = .tuple
    #[.slice A117 n117 c117, .int .i64 x118] ∧ jn (fun (j145 : Int) (jA146 : Option Addr) (jn147 : Nat) (jc148 : Nat) (j149 : Int) (j150 : Int) (H151 : Hp) => HCalls Tryz.prog 35 [.int .i64 7] H151 fun v153 H154 => ∃ x155
    : Int, ∃ x156 : Int, ∃ s157 : ByteArray, v153 = .agg #[.int .i64 x155, .int .i64 x156, .string s157] ∧ newF H154 64 [.int .i64 x155, .int .i64 x156, .string s157] fun g158 H159 => HCalls Tryz.prog 18 [.agg #[.slice
    jA146 jn147 jc148, .int .i64 j149, .int .i64 j150], .slice (some ⟨g158, 0, none⟩) 1 1] H159 fun v160 H161 => ∃ x162 : Int, ∃ x163 : Int, v160 = .tuple #[.int .i64 x162, .int .i64 x163] ∧ HCalls Tryz.prog 16 [.agg
    #[.slice jA146 jn147 jc148, .int .i64 j149, .int .i64 j150]] H161 fun v164 H165 => ∃ x166 : Int, ∃ x167 : Int, v164 = .tuple #[.int .i64 x166, .int .i64 x167] ∧ jn (fun (j194 : Int) (H195 : Hp) => jn (fun (j223 : Int)
    (H224 : Hp) => HCalls Tryz.prog 33 [.int .i64 2] H224 fun v226 H227 => ∃ (A228 : Option Addr) (n228 c228 : Nat), ∃ x229 : Int, ∃ x230 : Int, ∃ x231 : Int, v226 = .tuple #[.agg #[.slice A228 n228 c228, .int .i64 x229,
    .int .i64 x230], .int .i64 x231] ∧ HCalls Tryz.prog 33 [.int .i64 0] H227 fun v232 H233 => ∃ (A234 : Option Addr) (n234 c234 : Nat), ∃ x235 : Int, ∃ x236 : Int, ∃ x237 : Int, v232 = .tuple #[.agg #[.slice A234 n234
    c234, .int .i64 x235, .int .i64 x236], .int .i64 x237] ∧ jn (fun (j256 : Bool) (H257 : Hp) => Q (.bool j256) H257) fun J258 => cnd ((x20 : Int) == 0) (newF H233 3 [.int .i64 3, .int .i64 4] fun g238 H239 => HCalls
    Tryz.prog 22 [.slice A30 n30 c30, .slice (some ⟨g238, 0, none⟩) 2 2] H239 fun v240 H241 => ∃ x242 : Bool, v240 = .bool x242 ∧ cnd x242 (cnd ((x31 : Int) == 0) (newF H241 3 [.int .i64 5] fun g243 H244 => HCalls
    Tryz.prog 22 [.slice jA71 jn72 jc73, .slice (some ⟨g243, 0, none⟩) 1 1] H244 fun v245 H246 => ∃ x247 : Bool, v245 = .bool x247 ∧ cnd x247 (cnd ((j74 : Int) == 0) (newF H246 3 [.int .i64 4, .int .i64 3, .int .i64 5]
    fun g248 H249 => HCalls Tryz.prog 22 [.slice A79 n79 c79, .slice (some ⟨g248, 0, none⟩) 3 3] H249 fun v250 H251 => ∃ x252 : Bool, v250 = .bool x252 ∧ cnd x252 (cnd ((x80 : Int) == 0) (cnd ((j107 : Int) == 0) (cnd
    ((((n117 : Nat) : Int) : Int) == 4) (cnd ((x118 : Int) == 0) (cnd ((j145 : Int) == 0) (cnd ((x162 : Int) == 1) (cnd ((x163 : Int) == 0) (cnd ((x166 : Int) == 1) (cnd ((x167 : Int) == 0) (cnd ((j194 : Int) == 14) (cnd
    ((j223 : Int) == 4) (HCalls Tryz.prog 13 [.agg #[.slice A228 n228 c228, .int .i64 x229, .int .i64 x230]] H251 fun v253 H254 => ∃ x255 : Bool, v253 = .bool x255 ∧ cnd x255 (cnd ((x231 : Int) == 0) (J258 ((x237 : Int)
    == 2) H254) (J258 false H254)) (J258 false H254)) (J258 false H251)) (J258 false H251)) (J258 false H251)) (J258 false H251)) (J258 false H251)) (J258 false H251)) (J258 false H251)) (J258 false H251)) (J258 false
    H251)) (J258 false H251)) (J258 false H251)) (J258 false H251)) (J258 false H246)) (J258 false H246)) (J258 false H241)) (J258 false H241)) (J258 false H233)) fun J225 => (HCalls Tryz.prog 34 [.int .i64 1, .int .i64
    6] H195 fun v197 H198 => ∃ (A199 : Option Addr) (n199 c199 : Nat), ∃ x200 : Int, v197 = .agg #[.slice A199 n199 c199, .int .i64 x200] ∧ (HCalls Tryz.prog 28 [.agg #[.slice A17 n17 c17, .int .i64 x18, .int .i64 x19],
    .agg #[.slice A199 n199 c199, .int .i64 x200]] H198 fun v201 H202 => ∃ (A203 : Option Addr) (n203 c203 : Nat), ∃ x204 : Int, ∃ x205 : Int, ∃ x206 : Int, v201 = .tuple #[.agg #[.slice A203 n203 c203, .int .i64 x204,
    .int .i64 x205], .int .i64 x206] ∧ J225 x206 H202) ∧ (HCalls Tryz.prog 28 [.agg #[.slice A17 n17 c17, .int .i64 x18, .int .i64 x19], .agg #[.slice A199 n199 c199, .int .i64 x200]] H198 fun v207 H208 => ∃ (A209 :
    Option Addr) (n209 c209 : Nat), ∃ x210 : Int, ∃ x211 : Int, ∃ x212 : Int, v207 = .tuple #[.agg #[.slice A209 n209 c209, .int .i64 x210, .int .i64 x211], .int .i64 x212] ∧ J225 x212 H208)) ∧ (HCalls Tryz.prog 34 [.int
    .i64 1, .int .i64 6] H195 fun v213 H214 => ∃ (A215 : Option Addr) (n215 c215 : Nat), ∃ x216 : Int, v213 = .agg #[.slice A215 n215 c215, .int .i64 x216] ∧ HCalls Tryz.prog 28 [.agg #[.slice A17 n17 c17, .int .i64 x18,
    .int .i64 x19], .agg #[.slice A215 n215 c215, .int .i64 x216]] H214 fun v217 H218 => ∃ (A219 : Option Addr) (n219 c219 : Nat), ∃ x220 : Int, ∃ x221 : Int, ∃ x222 : Int, v217 = .tuple #[.agg #[.slice A219 n219 c219,
    .int .i64 x220, .int .i64 x221], .int .i64 x222] ∧ J225 x222 H218)) fun J196 => (HCalls Tryz.prog 34 [.int .i64 1, .int .i64 5] H165 fun v168 H169 => ∃ (A170 : Option Addr) (n170 c170 : Nat), ∃ x171 : Int, v168 = .agg
    #[.slice A170 n170 c170, .int .i64 x171] ∧ (HCalls Tryz.prog 25 [.agg #[.slice A17 n17 c17, .int .i64 x18, .int .i64 x19], .agg #[.slice A170 n170 c170, .int .i64 x171]] H169 fun v172 H173 => ∃ (A174 : Option Addr)
    (n174 c174 : Nat), ∃ x175 : Int, ∃ x176 : Int, ∃ x177 : Int, v172 = .tuple #[.agg #[.slice A174 n174 c174, .int .i64 x175, .int .i64 x176], .int .i64 x177] ∧ J196 x177 H173) ∧ (HCalls Tryz.prog 25 [.agg #[.slice A17
    n17 c17, .int .i64 x18, .int .i64 x19], .agg #[.slice A170 n170 c170, .int .i64 x171]] H169 fun v178 H179 => ∃ (A180 : Option Addr) (n180 c180 : Nat), ∃ x181 : Int, ∃ x182 : Int, ∃ x183 : Int, v178 = .tuple #[.agg
    #[.slice A180 n180 c180, .int .i64 x181, .int .i64 x182], .int .i64 x183] ∧ J196 x183 H179)) ∧ (HCalls Tryz.prog 34 [.int .i64 1, .int .i64 5] H165 fun v184 H185 => ∃ (A186 : Option Addr) (n186 c186 : Nat), ∃ x187 :
    Int, v184 = .agg #[.slice A186 n186 c186, .int .i64 x187] ∧ HCalls Tryz.prog 25 [.agg #[.slice A17 n17 c17, .int .i64 x18, .int .i64 x19], .agg #[.slice A186 n186 c186, .int .i64 x187]] H185 fun v188 H189 => ∃ (A190 :
    Option Addr) (n190 c190 : Nat), ∃ x191 : Int, ∃ x192 : Int, ∃ x193 : Int, v188 = .tuple #[.agg #[.slice A190 n190 c190, .int .i64 x191, .int .i64 x192], .int .i64 x193] ∧ J196 x193 H189)) fun J152 => (HCalls Tryz.prog
    34 [.int .i64 2, .int .i64 4] H116 fun v119 H120 => ∃ (A121 : Option Addr) (n121 c121 : Nat), ∃ x122 : Int, v119 = .agg #[.slice A121 n121 c121, .int .i64 x122] ∧ (HCalls Tryz.prog 28 [.agg #[.slice jA108 jn109 jc110,
    .int .i64 j111, .int .i64 j112], .agg #[.slice A121 n121 c121, .int .i64 x122]] H120 fun v123 H124 => ∃ (A125 : Option Addr) (n125 c125 : Nat), ∃ x126 : Int, ∃ x127 : Int, ∃ x128 : Int, v123 = .tuple #[.agg #[.slice
    A125 n125 c125, .int .i64 x126, .int .i64 x127], .int .i64 x128] ∧ J152 x128 A125 n125 c125 x126 x127 H124) ∧ (HCalls Tryz.prog 28 [.agg #[.slice jA108 jn109 jc110, .int .i64 j111, .int .i64 j112], .agg #[.slice A121
    n121 c121, .int .i64 x122]] H120 fun v129 H130 => ∃ (A131 : Option Addr) (n131 c131 : Nat), ∃ x132 : Int, ∃ x133 : Int, ∃ x134 : Int, v129 = .tuple #[.agg #[.slice A131 n131 c131, .int .i64 x132, .int .i64 x133], .int
    .i64 x134] ∧ J152 x134 A131 n131 c131 x132 x133 H130)) ∧ (HCalls Tryz.prog 34 [.int .i64 2, .int .i64 4] H116 fun v135 H136 => ∃ (A137 : Option Addr) (n137 c137 : Nat), ∃ x138 : Int, v135 = .agg #[.slice A137 n137
    c137, .int .i64 x138] ∧ HCalls Tryz.prog 28 [.agg #[.slice jA108 jn109 jc110, .int .i64 j111, .int .i64 j112], .agg #[.slice A137 n137 c137, .int .i64 x138]] H136 fun v139 H140 => ∃ (A141 : Option Addr) (n141 c141 :
    Nat), ∃ x142 : Int, ∃ x143 : Int, ∃ x144 : Int, v139 = .tuple #[.agg #[.slice A141 n141 c141, .int .i64 x142, .int .i64 x143], .int .i64 x144] ∧ J152 x144 A141 n141 c141 x142 x143 H140)) fun J114 => (HCalls Tryz.prog
    34 [.int .i64 0, .int .i64 9] H78 fun v81 H82 => ∃ (A83 : Option Addr) (n83 c83 : Nat), ∃ x84 : Int, v81 = .agg #[.slice A83 n83 c83, .int .i64 x84] ∧ (HCalls Tryz.prog 25 [.agg #[.slice A17 n17 c17, .int .i64 x18,
    .int .i64 x19], .agg #[.slice A83 n83 c83, .int .i64 x84]] H82 fun v85 H86 => ∃ (A87 : Option Addr) (n87 c87 : Nat), ∃ x88 : Int, ∃ x89 : Int, ∃ x90 : Int, v85 = .tuple #[.agg #[.slice A87 n87 c87, .int .i64 x88, .int
    .i64 x89], .int .i64 x90] ∧ J114 x90 A87 n87 c87 x88 x89 H86) ∧ (HCalls Tryz.prog 25 [.agg #[.slice A17 n17 c17, .int .i64 x18, .int .i64 x19], .agg #[.slice A83 n83 c83, .int .i64 x84]] H82 fun v91 H92 => ∃ (A93 :
    Option Addr) (n93 c93 : Nat), ∃ x94 : Int, ∃ x95 : Int, ∃ x96 : Int, v91 = .tuple #[.agg #[.slice A93 n93 c93, .int .i64 x94, .int .i64 x95], .int .i64 x96] ∧ J114 x96 A93 n93 c93 x94 x95 H92)) ∧ (HCalls Tryz.prog 34
    [.int .i64 0, .int .i64 9] H78 fun v97 H98 => ∃ (A99 : Option Addr) (n99 c99 : Nat), ∃ x100 : Int, v97 = .agg #[.slice A99 n99 c99, .int .i64 x100] ∧ HCalls Tryz.prog 25 [.agg #[.slice A17 n17 c17, .int .i64 x18, .int
    .i64 x19], .agg #[.slice A99 n99 c99, .int .i64 x100]] H98 fun v101 H102 => ∃ (A103 : Option Addr) (n103 c103 : Nat), ∃ x104 : Int, ∃ x105 : Int, ∃ x106 : Int, v101 = .tuple #[.agg #[.slice A103 n103 c103, .int .i64
    x104, .int .i64 x105], .int .i64 x106] ∧ J114 x106 A103 n103 c103 x104 x105 H102)) fun J76 => HCalls Tryz.prog 35 [.int .i64 1] H29 fun v32 H33 => ∃ x34 : Int, ∃ x35 : Int, ∃ s36 : ByteArray, v32 = .agg #[.int .i64
    x34, .int .i64 x35, .string s36] ∧ (newF H33 64 [.int .i64 x34, .int .i64 x35, .string s36] fun g37 H38 => HCalls Tryz.prog 35 [.int .i64 1] H38 fun v39 H40 => ∃ x41 : Int, ∃ x42 : Int, ∃ s43 : ByteArray, v39 = .agg
    #[.int .i64 x41, .int .i64 x42, .string s43] ∧ newF H40 64 [.int .i64 x41, .int .i64 x42, .string s43] fun g44 H45 => HCalls Tryz.prog 23 [.agg #[.slice A17 n17 c17, .int .i64 x18, .int .i64 x19], .slice (some ⟨g37,
    0, none⟩) 1 1, .slice (some ⟨g44, 0, none⟩) 1 1, .bool false] H45 fun v46 H47 => ∃ (A48 : Option Addr) (n48 c48 : Nat), ∃ x49 : Int, v46 = .tuple #[.slice A48 n48 c48, .int .i64 x49] ∧ J76 A48 n48 c48 x49 H47) ∧
    (HCalls Tryz.prog 35 [.int .i64 1] H33 fun v50 H51 => ∃ x52 : Int, ∃ x53 : Int, ∃ s54 : ByteArray, v50 = .agg #[.int .i64 x52, .int .i64 x53, .string s54] ∧ (newF H51 64 [.int .i64 x34, .int .i64 x35, .string s36] fun
    g55 H56 => newF H56 64 [.int .i64 x52, .int .i64 x53, .string s54] fun g57 H58 => HCalls Tryz.prog 23 [.agg #[.slice A17 n17 c17, .int .i64 x18, .int .i64 x19], .slice (some ⟨g55, 0, none⟩) 1 1, .slice (some ⟨g57, 0,
    none⟩) 1 1, .bool false] H58 fun v59 H60 => ∃ (A61 : Option Addr) (n61 c61 : Nat), ∃ x62 : Int, v59 = .tuple #[.slice A61 n61 c61, .int .i64 x62] ∧ J76 A61 n61 c61 x62 H60) ∧ (newF H51 64 [.int .i64 x52, .int .i64
    x53, .string s54] fun g63 H64 => newF H64 64 [.int .i64 x34, .int .i64 x35, .string s36] fun g65 H66 => HCalls Tryz.prog 23 [.agg #[.slice A17 n17 c17, .int .i64 x18, .int .i64 x19], .slice (some ⟨g65, 0, none⟩) 1 1,
    .slice (some ⟨g63, 0, none⟩) 1 1, .bool false] H66 fun v67 H68 => ∃ (A69 : Option Addr) (n69 c69 : Nat), ∃ x70 : Int, v67 = .tuple #[.slice A69 n69 c69, .int .i64 x70] ∧ J76 A69 n69 c69 x70 H68))
noncomputable def fcx10 : Cx := cx 187 [(1, true), (9, true), (13, true), (19, true), (21, true), (23, true), (25, true)] [] [(2, (.look 0 (.act 1 (.act 2 (.act 3 (.look 4 (.look 5 (.look 6 (.act 7 (.act 8 .done .done) .done)))) .done) .done) .done))), (3, (.look 0 (.act 1 (.act 2 (.act 3 (.act 4 (.act 5 (.look 6 (.look 7 (.look 8 (.act 9 (.act 10 .done .done) .done)))) .done) .done) .done) (.act 3 (.act 2 (.act 4 (.act 5 (.look 6 (.look 7 (.look 8 (.act 9 (.act 10 .done .done) .done)))) .done) .done) (.act 4 (.act 2 (.act 5 (.look 6 (.look 7 (.look 8 (.act 9 (.act 10 .done .done) .done)))) .done) .done) .done)) .done)) .done))), (5, (.look 0 (.act 1 (.act 2 (.look 3 (.look 4 (.look 5 (.act 6 (.act 7 (.act 8 .done .done) .done) .done)))) (.act 6 (.act 2 (.look 3 (.look 4 (.look 5 (.act 7 (.act 8 .done .done) .done)))) .done) .done)) (.act 6 (.act 1 (.act 2 (.look 3 (.look 4 (.look 5 (.act 7 (.act 8 .done .done) .done)))) .done) .done) .done)))), (7, (.look 0 (.act 1 (.act 2 (.look 3 (.look 4 (.look 5 (.act 6 (.act 7 (.act 8 .done .done) .done) .done)))) (.act 6 (.act 2 (.look 3 (.look 4 (.look 5 (.act 7 (.act 8 .done .done) .done)))) .done) .done)) (.act 6 (.act 1 (.act 2 (.look 3 (.look 4 (.look 5 (.act 7 (.act 8 .done .done) .done)))) .done) .done) .done)))), (8, (.look 0 (.act 1 (.act 2 (.act 3 (.look 4 (.look 5 (.look 6 (.act 7 (.act 8 .done .done) .done)))) .done) .done) .done))), (10, (.look 0 (.act 1 (.act 2 (.look 3 (.look 4 (.look 5 (.act 6 (.act 7 (.act 8 .done .done) .done) .done)))) (.act 6 (.act 2 (.look 3 (.look 4 (.look 5 (.act 7 (.act 8 .done .done) .done)))) .done) .done)) (.act 6 (.act 1 (.act 2 (.look 3 (.look 4 (.look 5 (.act 7 (.act 8 .done .done) .done)))) .done) .done) .done)))), (11, (.look 0 (.act 1 (.act 2 (.look 3 (.look 4 (.look 5 (.act 6 (.act 7 (.act 8 .done .done) .done) .done)))) (.act 6 (.act 2 (.look 3 (.look 4 (.look 5 (.act 7 (.act 8 .done .done) .done)))) .done) .done)) (.act 6 (.act 1 (.act 2 (.look 3 (.look 4 (.look 5 (.act 7 (.act 8 .done .done) .done)))) .done) .done) .done))))] []
theorem f10.eq  (H : Hp) (Q : Value → Hp → Prop) : f10  H Q = wFun fcx10 Tryz.f10 [] H Q := by kernel_rfl
theorem f10.ok  {H : Hp} {Q : Value → Hp → Prop} (h : f10  H Q) : HCalls Tryz.prog 10 [] H Q := hcalls_of (cxOk _ _ _ _ _) Tryz.func10 (Eq.mp (f10.eq  H Q) h)

end Go.Proofs.YtmelbipidffmpaaGreatDoor.Hw

/- The fixed calls: Insert and Delete of numbers. -/
set_option linter.unusedVariables false
set_option linter.unusedSimpArgs false
set_option linter.unusedSectionVars false
set_option maxRecDepth 20000
namespace Go.Proofs.YtmelbipidffmpaaGreatDoor.Hw
open Go Go.Proofs
def fE (g : Nat) (n id : Int) : EnM := ⟨some ⟨g, 0, none⟩, 1, [nV n], id⟩
theorem ent_fE {g : Nat} {n id : Int} (h1 : numB n = true) (h2 : idB id = true) : entB 1 (fE g n id) = true := by
  unfold entB fE
  have hv : validV (nV n) = true := by
    unfold validV nV noTx
    rw [if_neg (show ¬ ((1 : Int) == 0) = true by decide), if_pos (show ((1 : Int) == 1) = true by decide), h1, Bool.and_true]
    exact beq_iff_eq.2 rfl
  simp [validL, hv, h2]
/-- Whether a number is there, by what is said. -/
def hasN (ps : List (Int × Int)) (n i : Int) : Bool := ps.any fun p => p.1 == n && p.2 == i
theorem has_fix {l : List EnM} {ps : List (Int × Int)} {e : EnM} {n i : Int} (hl : AreN l ps) (hs : SrtE l) (he : sayE e = ([nV n], i)) : hasE l e = hasN ps n i := by
  have z : ∀ {x : EnM} {p : Int × Int}, sayE x = ([nV p.1], p.2) → (ordE x e = 0 ↔ p.1 = n ∧ p.2 = i) := fun {x p} hx => by
    rw [ord_fix hx he]
    unfold orI
    by_cases h : cmpI p.1 n = 0
    · rw [h]
      have := cmpI_eq.1 h
      simp [this, cmpI_eq]
    · rw [if_neg (by simpa using h)]
      constructor
      · intro h'; exact absurd h' h
      · rintro ⟨h', _⟩; exact absurd (cmpI_eq.2 h') h
  have q : (∃ x ∈ l, ordE x e = 0) ↔ hasN ps n i = true := by
    unfold hasN
    clear hs
    induction l generalizing ps with
    | nil => rw [hl.nil_of]; simp
    | cons x r ih =>
      obtain ⟨p, s, rfl, hx, hr⟩ := hl.cons
      rw [List.any_cons, Bool.or_eq_true, ← ih hr, Bool.and_eq_true, beq_iff_eq, beq_iff_eq, ← z hx]
      simp
  cases hh : hasE l e with
  | true => exact (q.1 (has_true hh)).symm
  | false =>
    cases hn : hasN ps n i with
    | false => rfl
    | true =>
      obtain ⟨x, hx, h0⟩ := q.2 hn
      exact absurd h0 (has_false hs hh x hx)
end Go.Proofs.YtmelbipidffmpaaGreatDoor.Hw

/- The fixed calls, each. -/
set_option linter.unusedVariables false
set_option linter.unusedSimpArgs false
set_option linter.unusedSectionVars false
set_option maxRecDepth 20000
namespace Go.Proofs.YtmelbipidffmpaaGreatDoor.Hw
open Go Go.Proofs
section
variable {H : Hp} {A : Option Addr} {c : Nat} {bl : List NdM} {l : List EnM} {dep : Int} {ps : List (Int × Int)} {Q : Value → Hp → Prop}
theorem OutT.ext {H' : Hp} (O : OutT H A bl 1 l dep) (hx : Ext H H') : OutT H' A bl 1 l dep := ⟨O.tr.ext hx, O.few, O.val⟩
theorem OutT.srt (O : OutT H A bl 1 l dep) : SrtE l := by
  obtain ⟨S, s1, s2, s3⟩ := O.val
  obtain ⟨_, hgd, _⟩ := tree_of s1
  rw [← s2]; exact good_srt hgd
theorem wIns0 {g : Nat} {n i : Int} (N : NullAt H) (O : OutT H A bl 1 l dep) (hl : AreN l ps) (h1 : numB n = true) (h2 : idB i = true) (hK : KeyAt H (fE g n i)) (hh : hasN ps n i = false) (hs : ps.length < 4000)
    (hq : ∀ H' A' c' bl' l' dep', Ext H H' → OutT H' A' bl' 1 l' dep' → PutS l (fE g n i) l' → Q (.tuple #[.agg #[.slice A' bl'.length c', .int .i64 0, .int .i64 1], .int .i64 0]) H') :
    HCalls Tryz.prog 25 [.agg #[.slice A bl.length c, .int .i64 0, .int .i64 1], enA (fE g n i)] H Q := by
  obtain ⟨S, s1, s2, s3⟩ := O.val
  have hlen : l.length = ps.length := by have := congrArg List.length hl; simpa using this
  have hc : insCode (treeV bl 0 1) 1 (fE g n i) = 0 := by
    rw [s1]
    have hf : hasE l (fE g n i) = false := (has_fix (n := n) (i := i) hl O.srt rfl).trans hh
    unfold insCode
    simp only [ent_fE h1 h2, if_true, s2, hf]
    rw [if_neg (show ¬ (false = true) by decide), if_neg (by omega)]
  refine c25 N O.tr O.few hK (fun h => absurd hc h) fun S' hS' _ H' A' c' bl' l' dep' hx O' P => hq H' A' c' bl' l' dep' hx O' ?_
  rw [s1] at hS'
  cases hS'
  rw [s2] at P; exact P
theorem wIns14 {g : Nat} {n i : Int} (N : NullAt H) (O : OutT H A bl 1 l dep) (hl : AreN l ps) (h1 : numB n = true) (h2 : idB i = true) (hK : KeyAt H (fE g n i)) (hh : hasN ps n i = true)
    (hq : ∀ H', Ext H H' → Q (.tuple #[.agg #[.slice none 0 0, .int .i64 0, .int .i64 0], .int .i64 14]) H') :
    HCalls Tryz.prog 25 [.agg #[.slice A bl.length c, .int .i64 0, .int .i64 1], enA (fE g n i)] H Q := by
  obtain ⟨S, s1, s2, s3⟩ := O.val
  have hc : insCode (treeV bl 0 1) 1 (fE g n i) = 14 := by
    rw [s1]
    have hf : hasE l (fE g n i) = true := (has_fix (n := n) (i := i) hl O.srt rfl).trans hh
    unfold insCode
    simp only [ent_fE h1 h2, if_true, s2, hf]
  refine c25 N O.tr O.few hK (fun _ H' hx => by rw [hc]; exact hq H' hx) fun S' hS' h0 => by rw [hc] at h0; cases h0
end
end Go.Proofs.YtmelbipidffmpaaGreatDoor.Hw

/- The fixed calls: awake. -/
set_option linter.unusedVariables false
set_option linter.unusedSimpArgs false
set_option linter.unusedSectionVars false
set_option maxRecDepth 20000
namespace Go.Proofs.YtmelbipidffmpaaGreatDoor.Hw
open Go Go.Proofs
section
variable {H : Hp} {A : Option Addr} {n c : Nat} {root cols : Int} {bl : List NdM} {l : List EnM} {dep : Int} {ps : List (Int × Int)} {Q : Value → Hp → Prop} {key low high : List Vl} {kA lA : Option Addr} {kn kc ln lc : Nat} {back : Bool} {ids : List Int} {cd : Int}
theorem w20 (N : NullAt H) (hT : TrAt H A n bl) (hF : Fewish bl) (hS : SlAt vlC H kA kn key) (hf : findT (treeV bl root cols) cols key = (ids, cd)) (hs : ids.length < big)
    (hq : ∀ A' c' H', Ext H H' → SlAt inC H' A' ids.length ids → Q (.tuple #[.slice A' ids.length c', .int .i64 cd]) H') : HCalls Tryz.prog 20 [.agg #[.slice A n c, .int .i64 root, .int .i64 cols], .slice kA kn kc] H Q :=
  c20 N hT hF hS (by rw [hf]; exact fun A' c' H' hx R => hq A' c' H' hx (R.at hs))
theorem w23 (N : NullAt H) (hT : TrAt H A n bl) (hF : Fewish bl) (hL : SlAt vlC H lA ln low) (hS : SlAt vlC H kA kn high) (hf : betT (treeV bl root cols) cols low high back = (ids, cd)) (hs : ids.length < big)
    (hq : ∀ A' c' H', Ext H H' → SlAt inC H' A' ids.length ids → Q (.tuple #[.slice A' ids.length c', .int .i64 cd]) H') : HCalls Tryz.prog 23 [.agg #[.slice A n c, .int .i64 root, .int .i64 cols], .slice lA ln lc, .slice kA kn kc, .bool back] H Q :=
  c23 N hT hF hL hS (by rw [hf]; exact fun A' c' H' hx R => hq A' c' H' hx (R.at hs))
theorem OutT.ext2 {H' : Hp} (O : OutT H A bl cols l dep) (hx : Ext H H') : OutT H' A bl cols l dep := ⟨O.tr.ext hx, O.few, O.val⟩
theorem OutT.good (O : OutT H A bl cols l dep) : ∃ S, treeV bl 0 cols = some S ∧ S.out = l := by
  obtain ⟨S, s1, s2, _⟩ := O.val
  exact ⟨S, s1, s2⟩
theorem AreN.len (h : AreN l ps) : l.length = ps.length := by have := congrArg List.length h; simpa using this
theorem nV_ok {n : Int} (h : numB n = true) : validL [nV n] = true := by
  have := ent_fE (g := 0) (n := n) (id := 1) h (by decide)
  unfold entB fE at this
  simp only [Bool.and_eq_true] at this
  exact this.2.1
theorem find_fix {n : Int} (O : OutT H A bl 1 l dep) (hl : AreN l ps) (hn : numB n = true) : findT (treeV bl 0 1) 1 [nV n] = ((ps.filter fun p => !decide (cmpI p.1 n < 0) && decide (cmpI p.1 n ≤ 0)).map Prod.snd, 0) := by
  obtain ⟨S, s1, s2⟩ := O.good
  unfold findT betT
  rw [s1, if_neg (by simp)]
  have : keyG 0 1 [nV n] = true := by unfold keyG; rw [nV_ok hn]; rfl
  simp only [this, Bool.and_self, if_true]
  rw [s2, betw_fix hl]; rfl
theorem bet_fix {n m : Int} (O : OutT H A bl 1 l dep) (hl : AreN l ps) (hn : numB n = true) (hm : numB m = true) : betT (treeV bl 0 1) 1 [nV n] [nV m] false = ((ps.filter fun p => !decide (cmpI p.1 n < 0) && decide (cmpI p.1 m ≤ 0)).map Prod.snd, 0) := by
  obtain ⟨S, s1, s2⟩ := O.good
  unfold betT
  rw [s1]
  have k1 : keyG 0 1 [nV n] = true := by unfold keyG; rw [nV_ok hn]; rfl
  have k2 : keyG 0 1 [nV m] = true := by unfold keyG; rw [nV_ok hm]; rfl
  simp only [k1, k2, Bool.and_self, if_true]
  rw [s2, betw_fix hl]; rfl
theorem all_fix (O : OutT H A bl 1 l dep) (hl : AreN l ps) : betT (treeV bl 0 1) 1 [] [] true = ((ps.map Prod.snd).reverse, 0) := by
  obtain ⟨S, s1, s2⟩ := O.good
  unfold betT
  rw [s1]
  have k1 : keyG 0 1 [] = true := by decide
  simp only [k1, Bool.and_self, if_true]
  rw [s2, betw_all (cols := 1), ids_fix hl]; rfl
/-- One entry before all others. -/
theorem put_front {l' : List EnM} {e : EnM} {n i : Int} (hl : AreN l ps) (he : sayE e = ([nV n], i)) (h : PutS l e l') (hf : ∀ p ∈ ps, ¬ orI (cmpI p.1 n) (cmpI p.2 i) < 0) : AreN l' ((n, i) :: ps) := by
  obtain ⟨a, b, h1, h2, h3, h4⟩ := h
  cases a with
  | nil =>
    have h1 : l = b := h1
    subst h1
    unfold AreN at hl ⊢
    rw [h2, List.map_nil, List.nil_append, hl, he]; rfl
  | cons x r =>
    exfalso
    subst h1
    obtain ⟨p, s, hp, hx, _⟩ := AreN.cons hl
    subst hp
    have := h3 x (List.mem_cons_self ..)
    rw [ord_fix hx he] at this
    exact hf p (List.mem_cons_self ..) this
theorem wDel0 {g : Nat} {n i : Int} (N : NullAt H) (O : OutT H A bl 1 l dep) (hl : AreN l ps) (h1 : numB n = true) (h2 : idB i = true) (hK : KeyAt H (fE g n i)) (hh : hasN ps n i = true) (hs : ps.length < 4000)
    (hq : ∀ H' A' c' bl' l' dep', Ext H H' → OutT H' A' bl' 1 l' dep' → l'.length ≤ l.length → Q (.tuple #[.agg #[.slice A' bl'.length c', .int .i64 0, .int .i64 1], .int .i64 0]) H') :
    HCalls Tryz.prog 28 [.agg #[.slice A bl.length c, .int .i64 0, .int .i64 1], enA (fE g n i)] H Q := by
  obtain ⟨S, s1, s2⟩ := O.good
  have hlen := hl.len
  have hf : hasE l (fE g n i) = true := (has_fix (n := n) (i := i) hl O.srt rfl).trans hh
  have hc : delCode (treeV bl 0 1) 1 (fE g n i) = 0 := by
    rw [s1]
    unfold delCode
    simp only [ent_fE h1 h2, if_true, s2, hf]
  refine c28 N O.tr O.few hK (fun S' h' => by rw [s1] at h'; cases h'; rw [s2]; omega) (fun h => absurd hc h) fun S' hS' _ H' A' c' bl' l' dep' hx O' hsay => hq H' A' c' bl' l' dep' hx O' ?_
  rw [s1] at hS'
  cases hS'
  have := congrArg List.length hsay
  rw [s2] at this
  simp at this
  omega
theorem wDel4 {g : Nat} {n i : Int} (N : NullAt H) (O : OutT H A bl 1 l dep) (hl : AreN l ps) (h1 : numB n = true) (h2 : idB i = true) (hK : KeyAt H (fE g n i)) (hh : hasN ps n i = false) (hs : ps.length < 4000)
    (hq : ∀ H', Ext H H' → Q (.tuple #[.agg #[.slice none 0 0, .int .i64 0, .int .i64 0], .int .i64 4]) H') :
    HCalls Tryz.prog 28 [.agg #[.slice A bl.length c, .int .i64 0, .int .i64 1], enA (fE g n i)] H Q := by
  obtain ⟨S, s1, s2⟩ := O.good
  have hlen := hl.len
  have hf : hasE l (fE g n i) = false := (has_fix (n := n) (i := i) hl O.srt rfl).trans hh
  have hc : delCode (treeV bl 0 1) 1 (fE g n i) = 4 := by
    rw [s1]
    unfold delCode
    simp only [ent_fE h1 h2, if_true, s2, hf]
    rfl
  refine c28 N O.tr O.few hK (fun S' h' => by rw [s1] at h'; cases h'; rw [s2]; omega) (fun _ H' hx => by rw [hc]; exact hq H' hx) fun S' hS' h0 => by rw [hc] at h0; cases h0
/-- A small tree is one block. -/
theorem OutT.oneB (O : OutT H A bl 1 l dep) (hs : l.length ≤ 6) : ∃ S t, treeV bl 0 1 = some S ∧ AtB bl 0 0 t ∧ FullB true 0 t ∧ S.out = flatB 0 t ∧ S.leaf = 1 := by
  obtain ⟨S, s1, s2⟩ := O.good
  obtain ⟨_, _, h, t, a1, a2, a3, a4, a5⟩ := tree_of s1
  obtain rfl := low_tree a2 (by rw [← a3, s2]; exact hs)
  exact ⟨S, t, s1, a1, a2, a3, by rw [a4]; rfl⟩
theorem w16 (N : NullAt H) (O : OutT H A bl 1 l dep) (hs : l.length ≤ 6) (hq : ∀ H', Ext H H' → Q (.tuple #[.int .i64 1, .int .i64 0]) H') : HCalls Tryz.prog 16 [.agg #[.slice A bl.length c, .int .i64 0, .int .i64 1]] H Q := by
  obtain ⟨S, t, s1, a1, a2, a3, a4⟩ := O.oneB hs
  have hd : depT (treeV bl 0 1) = (1, 0) := by rw [s1, ← a4]; rfl
  exact c16 N O.tr O.few (by rw [hd]; exact hq)
theorem w18 {n : Int} (N : NullAt H) (O : OutT H A bl 1 l dep) (hs : l.length ≤ 6) (hn : numB n = true) (hS : SlAt vlC H kA kn [nV n]) (hq : ∀ H', Ext H H' → Q (.tuple #[.int .i64 1, .int .i64 0]) H') : HCalls Tryz.prog 18 [.agg #[.slice A bl.length c, .int .i64 0, .int .i64 1], .slice kA kn kc] H Q := by
  obtain ⟨S, t, s1, a1, a2, a3, a4⟩ := O.oneB hs
  have hd : touT 1 1 [nV n] 0 t = (1, 0) := by
    unfold touT
    have : keyG 1 1 [nV n] = true := by unfold keyG; rw [nV_ok hn]; rfl
    rw [if_pos this]; rfl
  exact c18 N O.tr O.few hS s1 a1 a2 a3 (by omega) (by rw [hd]; exact hq)
theorem w11 (N : NullAt H) (O : OutT H A bl 1 l dep) (hq : ∀ A' c' H', Ext H H' → Q (.tuple #[.slice A' l.length c', .int .i64 0]) H') : HCalls Tryz.prog 11 [.agg #[.slice A bl.length c, .int .i64 0, .int .i64 1]] H Q := by
  obtain ⟨S, s1, s2⟩ := O.good
  refine c11 N O.tr O.few fun A' c' l' H' hx R hl he => ?_
  rw [s1] at he ⊢
  have he : l'.map sayE = S.out.map sayE := he
  have : l'.length = l.length := by have := congrArg List.length he; rw [s2] at this; simpa using this
  rw [this]
  exact hq A' c' H' hx
theorem w13 (N : NullAt H) (O : OutT H A bl cols l dep) (hq : ∀ H', Ext H H' → Q (.bool true) H') : HCalls Tryz.prog 13 [.agg #[.slice A bl.length c, .int .i64 0, .int .i64 cols]] H Q := by
  obtain ⟨S, s1, s2⟩ := O.good
  exact c13 N O.tr O.few (by rw [s1]; exact hq)
/-- One number in a slice of its own. -/
theorem key_sl {g : Nat} {n : Int} : SlAt vlC (upd g (.cells (vlC (nV n)).toArray 64 (0, 0)) H) (some ⟨g, 0, none⟩) 1 [nV n] := fresh_sl (l := [nV n]) (f := vlC) (by simp) (by simp [huge])
theorem nil_sl : SlAt vlC H none 0 [] := ⟨rfl, .inl rfl, by simp [huge]⟩
end
end Go.Proofs.YtmelbipidffmpaaGreatDoor.Hw

/- The fixed calls: awake is true. -/
set_option linter.unusedVariables false
set_option linter.unusedSimpArgs false
set_option linter.unusedSectionVars false
set_option maxRecDepth 20000
namespace Go.Proofs.YtmelbipidffmpaaGreatDoor.Hw
open Go Go.Proofs
theorem c10 : Awake := fun H Q N hq => by
  refine f10.ok ?_
  unfold f10
  refine c34 fun g1 hg1 => ⟨_, _, _, _, rfl, c34 fun g5 hg5 => ⟨_, _, _, _, rfl, c34 fun g9 hg9 => ⟨_, _, _, _, rfl, fun g13 hg13 => ?_⟩⟩⟩
  have x2 : Ext H (upd g1 (.cells (vlC (nV 2)).toArray 64 (0, 0)) H) := Ext.new hg1
  have x6 := Ext.new (o := .cells (vlC (nV 1)).toArray 64 (0, 0)) hg5
  have x10 := Ext.new (o := .cells (vlC (nV 2)).toArray 64 (0, 0)) hg9
  have x14 := Ext.new (o := .cells [Value.slice (some ⟨g1, 0, none⟩) 1 1, .int .i64 4, .slice (some ⟨g5, 0, none⟩) 1 1, .int .i64 5, .slice (some ⟨g9, 0, none⟩) 1 1, .int .i64 3].toArray 46 (0, 0)) hg13
  have k1 : ∀ H', Ext _ H' → KeyAt H' (fE g1 2 4) := fun H' hx => key_at ((x6.trans (x10.trans x14)).trans hx)
  have k2 : ∀ H', Ext _ H' → KeyAt H' (fE g5 1 5) := fun H' hx => key_at ((x10.trans x14).trans hx)
  have k3 : ∀ H', Ext _ H' → KeyAt H' (fE g9 2 3) := fun H' hx => key_at (x14.trans hx)
  have xx := x2.trans (x6.trans (x10.trans x14))
  have s14 : SlAt enC (upd g13 (.cells [Value.slice (some ⟨g1, 0, none⟩) 1 1, .int .i64 4, .slice (some ⟨g5, 0, none⟩) 1 1, .int .i64 5, .slice (some ⟨g9, 0, none⟩) 1 1, .int .i64 3].toArray 46 (0, 0)) (upd g9 (.cells (vlC (nV 2)).toArray 64 (0, 0)) (upd g5 (.cells (vlC (nV 1)).toArray 64 (0, 0)) (upd g1 (.cells (vlC (nV 2)).toArray 64 (0, 0)) H)))) (some ⟨g13, 0, none⟩) 3 [fE g1 2 4, fE g5 1 5, fE g9 2 3] :=
    fresh_sl (l := [fE g1 2 4, fE g5 1 5, fE g9 2 3]) (f := enC) rfl (by simp [huge])
  obtain ⟨H14, hH14⟩ : ∃ H14, H14 = upd g13 (.cells [Value.slice (some ⟨g1, 0, none⟩) 1 1, .int .i64 4, .slice (some ⟨g5, 0, none⟩) 1 1, .int .i64 5, .slice (some ⟨g9, 0, none⟩) 1 1, .int .i64 3].toArray 46 (0, 0)) (upd g9 (.cells (vlC (nV 2)).toArray 64 (0, 0)) (upd g5 (.cells (vlC (nV 1)).toArray 64 (0, 0)) (upd g1 (.cells (vlC (nV 2)).toArray 64 (0, 0)) H))) := ⟨_, rfl⟩
  rw [← hH14] at s14 k1 k2 k3 xx
  have N14 := N.ext xx
  have say : ∀ g n i, sayE (fE g n i) = ([nV n], i) := fun _ _ _ => rfl
  have o12 : ordE (fE g5 1 5) (fE g9 2 3) < 0 := by rw [ord_fix (say _ _ _) (say _ _ _)]; decide
  have o13 : ordE (fE g5 1 5) (fE g1 2 4) < 0 := by rw [ord_fix (say _ _ _) (say _ _ _)]; decide
  have o23 : ordE (fE g9 2 3) (fE g1 2 4) < 0 := by rw [ord_fix (say _ _ _) (say _ _ _)]; decide
  have hS0 : SrtE [fE g5 1 5, fE g9 2 3, fE g1 2 4] := by
    unfold SrtE
    simp [o12, o13, o23]
  have hP0 : [fE g5 1 5, fE g9 2 3, fE g1 2 4].Perm [fE g1 2 4, fE g5 1 5, fE g9 2 3] := (List.perm_append_comm (l₁ := [fE g5 1 5, fE g9 2 3]) (l₂ := [fE g1 2 4]))
  have hN0 : NoTwo [fE g1 2 4, fE g5 1 5, fE g9 2 3] := (noTwo_perm hP0).1 (srt_noTwo hS0)
  have hok : (1 ≤ (1 : Int) ∧ (1 : Int) ≤ 20) ∧ [fE g1 2 4, fE g5 1 5, fE g9 2 3].all (entB 1) = true := by
    refine ⟨by omega, ?_⟩
    simp only [List.all_cons, List.all_nil, Bool.and_true, ent_fE (g := g1) (n := 2) (id := 4) (by decide) (by decide), ent_fE (g := g5) (n := 1) (id := 5) (by decide) (by decide), ent_fE (g := g9) (n := 2) (id := 3) (by decide) (by decide)]
  subst hH14
  refine c31 (l := [fE g1 2 4, fE g5 1 5, fE g9 2 3]) N14 s14 (fun e he => ?_) (by omega) (fun h => absurd hok h) (fun _ h => absurd hN0 h) (fun _ _ h => by simp at h) fun _ _ _ H16 A17 c17 bl l L dep x16 hperm hsrt hsay O => ⟨_, _, _, _, _, _, rfl, ?_⟩
  · simp only [List.mem_cons, List.not_mem_nil, or_false] at he
    rcases he with rfl | rfl | rfl
    · exact k1 _ (Ext.refl _)
    · exact k2 _ (Ext.refl _)
    · exact k3 _ (Ext.refl _)
  obtain rfl := srt_unique hsrt hS0 (hperm.trans hP0.symm)
  have hl : AreN l [(1, 5), (2, 3), (2, 4)] := hsay
  have hlen : l.length = 3 := hl.len
  have N16 := N14.ext x16
  clear k1 k2 k3 s14 x2 x6 x10 x14 hS0 hP0 hN0 hok o12 o13 o23 hsay hsrt hperm
  refine c35 ⟨_, _, _, rfl, fun g26 hg26 => ?_⟩
  have x27 := Ext.new (o := .cells (vlC (nV 2)).toArray 64 (0, 0)) hg26
  refine w20 (ids := [3, 4]) (N16.ext x27) (O.ext x27).tr O.few (kc := 1) (key_sl (n := 2)) ((find_fix (O.ext x27) hl (by decide)).trans rfl) (by simp [big]) fun A30 c30 H29 x29 s30 => ⟨_, _, _, _, rfl, ?_⟩
  have y29 := x27.trans x29
  have O29 := O.ext y29
  have N29 := N16.ext y29
  refine jn_intro (fun J => ∀ A c H', Ext H29 H' → SlAt inC H' A 1 [5] → J A 1 c 0 H') (fun A71 c73 H75 x75 s71 => ?_) fun J76 hJ76 => ?_
  rotate_left
  · refine c35 ⟨_, _, _, rfl, ⟨fun g37 hg37 => c35 ⟨_, _, _, rfl, fun g44 hg44 => ?_⟩, c35 ⟨_, _, _, rfl, ⟨fun g55 hg55 g57 hg57 => ?_, fun g63 hg63 g65 hg65 => ?_⟩⟩⟩⟩
    · have y1 := Ext.new (o := .cells (vlC (nV 1)).toArray 64 (0, 0)) hg37
      have y2 := Ext.new (o := .cells (vlC (nV 1)).toArray 64 (0, 0)) hg44
      have yy := y1.trans y2
      refine w23 (ids := [5]) (N29.ext yy) (O29.ext yy).tr O.few (lc := 1) (kc := 1) ((key_sl (n := 1)).ext y2) (key_sl (n := 1)) ((bet_fix (O29.ext yy) hl (by decide) (by decide)).trans rfl) (by simp [big]) fun A48 c48 H47 x47 s48 => ⟨_, _, _, _, rfl, hJ76 _ _ _ (yy.trans x47) s48⟩
    · have y1 := Ext.new (o := .cells (vlC (nV 1)).toArray 64 (0, 0)) hg55
      have y2 := Ext.new (o := .cells (vlC (nV 1)).toArray 64 (0, 0)) hg57
      have yy := y1.trans y2
      refine w23 (ids := [5]) (N29.ext yy) (O29.ext yy).tr O.few (lc := 1) (kc := 1) ((key_sl (n := 1)).ext y2) (key_sl (n := 1)) ((bet_fix (O29.ext yy) hl (by decide) (by decide)).trans rfl) (by simp [big]) fun A48 c48 H47 x47 s48 => ⟨_, _, _, _, rfl, hJ76 _ _ _ (yy.trans x47) s48⟩
    · have y1 := Ext.new (o := .cells (vlC (nV 1)).toArray 64 (0, 0)) hg63
      have y2 := Ext.new (o := .cells (vlC (nV 1)).toArray 64 (0, 0)) hg65
      have yy := y1.trans y2
      refine w23 (ids := [5]) (N29.ext yy) (O29.ext yy).tr O.few (lc := 1) (kc := 1) (key_sl (n := 1)) ((key_sl (n := 1)).ext y2) ((bet_fix (O29.ext yy) hl (by decide) (by decide)).trans rfl) (by simp [big]) fun A48 c48 H47 x47 s48 => ⟨_, _, _, _, rfl, hJ76 _ _ _ (yy.trans x47) s48⟩
  have O75 := O29.ext x75
  have N75 := N29.ext x75
  have s30 := s30.ext x75
  refine w23 (ids := [4, 3, 5]) N75 O75.tr O.few nil_sl nil_sl ((all_fix O75 hl).trans rfl) (by simp [big]) fun A79 c79 H78 x78 s79 => ⟨_, _, _, _, rfl, ?_⟩
  have O78 := O75.ext x78
  have N78 := N75.ext x78
  have s30 := s30.ext x78
  have s71 := s71.ext x78
  have zx : Ext H H78 := xx.trans (x16.trans (y29.trans (x75.trans x78)))
  refine jn_intro (fun J => ∀ H' A' c' bl' l' dep', Ext H78 H' → OutT H' A' bl' 1 l' dep' → AreN l' [(0, 9), (1, 5), (2, 3), (2, 4)] → J 0 A' bl'.length c' 0 1 H') (fun H113 A108 c110 blu lu depu x113 Ou hlu => ?_) fun J114 hJ114 => ?_
  rotate_left
  · have ins : ∀ H82 g, Ext H78 H82 → KeyAt H82 (fE g 0 9) → HCalls Tryz.prog 25 [.agg #[.slice A17 bl.length c17, .int .i64 0, .int .i64 1], enA (fE g 0 9)] H82 fun v85 H86 => ∃ (A87 : Option Addr) (n87 c87 : Nat), ∃ x88 : Int, ∃ x89 : Int, ∃ x90 : Int, v85 = .tuple #[.agg #[.slice A87 n87 c87, .int .i64 x88, .int .i64 x89], .int .i64 x90] ∧ J114 x90 A87 n87 c87 x88 x89 H86 := fun H82 g x82 hK =>
      wIns0 (N78.ext x82) (O78.ext x82) hl (by decide) (by decide) hK (by decide) (by simp) fun H' A' c' bl' l' dep' hx O' P => ⟨_, _, _, _, _, _, rfl, hJ114 H' A' c' bl' l' dep' (x82.trans hx) O' (put_front hl rfl P (by decide))⟩
    exact ⟨c34 fun g hg => ⟨_, _, _, _, rfl, ins _ g (Ext.new hg) (key_at (Ext.refl _)), ins _ g (Ext.new hg) (key_at (Ext.refl _))⟩, c34 fun g hg => ⟨_, _, _, _, rfl, ins _ g (Ext.new hg) (key_at (Ext.refl _))⟩⟩
  have N113 := N78.ext x113
  have hlu4 : lu.length = 4 := hlu.len
  refine w11 N113 Ou fun A117 c117 H116 x116 => ⟨_, _, _, _, rfl, ?_⟩
  rw [hlu4]
  have Ou := Ou.ext x116
  have N116 := N113.ext x116
  refine jn_intro (fun J => ∀ H' A' c' bl' l' dep', Ext H116 H' → OutT H' A' bl' 1 l' dep' → l'.length ≤ 6 → J 0 A' bl'.length c' 0 1 H') (fun H151 A146 c148 blv lv depv x151 Ov hlv => ?_) fun J152 hJ152 => ?_
  rotate_left
  · have del : ∀ H120 g, Ext H116 H120 → KeyAt H120 (fE g 2 4) → HCalls Tryz.prog 28 [.agg #[.slice A108 blu.length c110, .int .i64 0, .int .i64 1], enA (fE g 2 4)] H120 fun v123 H124 => ∃ (A125 : Option Addr) (n125 c125 : Nat), ∃ x126 : Int, ∃ x127 : Int, ∃ x128 : Int, v123 = .tuple #[.agg #[.slice A125 n125 c125, .int .i64 x126, .int .i64 x127], .int .i64 x128] ∧ J152 x128 A125 n125 c125 x126 x127 H124 := fun H120 g x120 hK =>
      wDel0 (N116.ext x120) (Ou.ext x120) hlu (by decide) (by decide) hK (by decide) (by simp) fun H' A' c' bl' l' dep' hx O' hle => ⟨_, _, _, _, _, _, rfl, hJ152 H' A' c' bl' l' dep' (x120.trans hx) O' (by omega)⟩
    exact ⟨c34 fun g hg => ⟨_, _, _, _, rfl, del _ g (Ext.new hg) (key_at (Ext.refl _)), del _ g (Ext.new hg) (key_at (Ext.refl _))⟩, c34 fun g hg => ⟨_, _, _, _, rfl, del _ g (Ext.new hg) (key_at (Ext.refl _))⟩⟩
  have N151 := N116.ext x151
  refine c35 ⟨_, _, _, rfl, fun g158 hg158 => ?_⟩
  have x159 := Ext.new (o := .cells (vlC (nV 7)).toArray 64 (0, 0)) hg158
  refine w18 (N151.ext x159) (Ov.ext x159) hlv (n := 7) (kc := 1) (by decide) key_sl fun H161 x161 => ⟨_, _, rfl, ?_⟩
  have y161 := x159.trans x161
  refine w16 (N151.ext y161) (Ov.ext y161) hlv fun H165 x165 => ⟨_, _, rfl, ?_⟩
  have z165 : Ext H78 H165 := x113.trans (x116.trans (x151.trans (y161.trans x165)))
  have O165 := O78.ext z165
  have N165 := N78.ext z165
  refine jn_intro (fun J => ∀ H', Ext H165 H' → J 14 H') (fun H195 x195 => ?_) fun J196 hJ196 => ?_
  rotate_left
  · have ins : ∀ H82 g, Ext H165 H82 → KeyAt H82 (fE g 1 5) → HCalls Tryz.prog 25 [.agg #[.slice A17 bl.length c17, .int .i64 0, .int .i64 1], enA (fE g 1 5)] H82 fun v85 H86 => ∃ (A87 : Option Addr) (n87 c87 : Nat), ∃ x88 : Int, ∃ x89 : Int, ∃ x90 : Int, v85 = .tuple #[.agg #[.slice A87 n87 c87, .int .i64 x88, .int .i64 x89], .int .i64 x90] ∧ J196 x90 H86 := fun H82 g x82 hK =>
      wIns14 (N165.ext x82) (O165.ext x82) hl (by decide) (by decide) hK (by decide) fun H' hx => ⟨_, _, _, _, _, _, rfl, hJ196 H' (x82.trans hx)⟩
    exact ⟨c34 fun g hg => ⟨_, _, _, _, rfl, ins _ g (Ext.new hg) (key_at (Ext.refl _)), ins _ g (Ext.new hg) (key_at (Ext.refl _))⟩, c34 fun g hg => ⟨_, _, _, _, rfl, ins _ g (Ext.new hg) (key_at (Ext.refl _))⟩⟩
  have O195 := O165.ext x195
  have N195 := N165.ext x195
  refine jn_intro (fun J => ∀ H', Ext H195 H' → J 4 H') (fun H224 x224 => ?_) fun J225 hJ225 => ?_
  rotate_left
  · have del : ∀ H120 g, Ext H195 H120 → KeyAt H120 (fE g 1 6) → HCalls Tryz.prog 28 [.agg #[.slice A17 bl.length c17, .int .i64 0, .int .i64 1], enA (fE g 1 6)] H120 fun v123 H124 => ∃ (A125 : Option Addr) (n125 c125 : Nat), ∃ x126 : Int, ∃ x127 : Int, ∃ x128 : Int, v123 = .tuple #[.agg #[.slice A125 n125 c125, .int .i64 x126, .int .i64 x127], .int .i64 x128] ∧ J225 x128 H124 := fun H120 g x120 hK =>
      wDel4 (N195.ext x120) (O195.ext x120) hl (by decide) (by decide) hK (by decide) (by simp) fun H' hx => ⟨_, _, _, _, _, _, rfl, hJ225 H' (x120.trans hx)⟩
    exact ⟨c34 fun g hg => ⟨_, _, _, _, rfl, del _ g (Ext.new hg) (key_at (Ext.refl _)), del _ g (Ext.new hg) (key_at (Ext.refl _))⟩, c34 fun g hg => ⟨_, _, _, _, rfl, del _ g (Ext.new hg) (key_at (Ext.refl _))⟩⟩
  have z224 := z165.trans (x195.trans x224)
  have N224 := N78.ext z224
  refine c33 (cols := 2) (fun h => absurd (by omega) h) fun _ H227 A228 c228 blx x227 Ox => ⟨_, _, _, _, _, _, rfl, ?_⟩
  refine c33 (cols := 0) (fun _ => ⟨_, _, _, _, _, _, rfl, ?_⟩) fun h => by omega
  have z227 := z224.trans x227
  have N227 := N78.ext z227
  refine jn_intro (fun J => ∀ H', Ext H227 H' → J true H') (fun H' hx => hq H' (zx.trans (z227.trans hx))) fun J258 hJ => ?_
  refine cndT rfl fun g238 hg238 => ?_
  have x239 := Ext.new (o := .cells [Value.int .i64 3, .int .i64 4].toArray 3 (0, 0)) hg238
  refine c22 (x := [3, 4]) (ca := c30) (cb := 2) (s30.ext (z227.trans x239)) (fresh_sl (l := [3, 4]) (f := inC) rfl (by simp [huge])) ⟨_, rfl, cndT rfl (cndT rfl fun g243 hg243 => ?_)⟩
  have x244 := Ext.new (o := .cells [Value.int .i64 5].toArray 3 (0, 0)) hg243
  refine c22 (x := [5]) (cb := 1) (s71.ext (z227.trans (x239.trans x244))) (fresh_sl (l := [5]) (f := inC) rfl (by simp [huge])) ⟨_, rfl, cndT rfl (cndT rfl fun g248 hg248 => ?_)⟩
  have x249 := Ext.new (o := .cells [Value.int .i64 4, .int .i64 3, .int .i64 5].toArray 3 (0, 0)) hg248
  refine c22 (x := [4, 3, 5]) (cb := 3) (s79.ext (z227.trans (x239.trans (x244.trans x249)))) (fresh_sl (l := [4, 3, 5]) (f := inC) rfl (by simp [huge])) ⟨_, rfl, cndT rfl ?_⟩
  have x251 := x239.trans (x244.trans x249)
  refine cndT rfl (cndT rfl (cndT rfl (cndT rfl (cndT rfl (cndT rfl (cndT rfl (cndT rfl (cndT rfl (cndT rfl (cndT rfl ?_))))))))))
  exact w13 (N227.ext x251) (Ox.ext2 x251) fun H254 x254 => ⟨_, rfl, cndT rfl (cndT rfl (hJ H254 (x251.trans x254)))⟩
theorem awake_holds : Awake := by
  exact c10
  done
end Go.Proofs.YtmelbipidffmpaaGreatDoor.Hw

/- What functions of the program come to, by the evaluator: printed by a program of this session (gen.py) and checked here. -/
set_option linter.unusedVariables false
set_option maxRecDepth 100000
namespace Go.Proofs.YtmelbipidffmpaaGreatDoor.Hw
open Go Go.Proofs

/-- justiciar justiciarlaw17.TreeChanges -/
def f5 (pt_0_A : Option Addr) (pt_0_n pt_0_c : Nat) (pt_1 : Int) (pt_2 : Int) (pe_0_A : Option Addr) (pe_0_n pe_0_c : Nat) (pe_1 : Int) (H : Hp) (Q : Value → Hp → Prop) : Prop :=
  jn (fun (j4 : Bool) (H5 : Hp) => cnd j4 (HCalls Tryz.prog 10 [] H5 fun v7 H8 => ∃ x9 : Bool, v7 = .bool x9 ∧ Q (.bool x9) H8) (HCalls Tryz.prog 25 [.agg #[.slice pt_0_A pt_0_n pt_0_c, .int .i64 pt_1, .int .i64 pt_2], .agg
    #[.slice pe_0_A pe_0_n pe_0_c, .int .i64 pe_1]] H5 fun v10 H11 => ∃ (A12 : Option Addr) (n12 c12 : Nat), ∃ x13 : Int, ∃ x14 : Int, ∃ x15 : Int, v10 = .tuple #[.agg #[.slice A12 n12 c12, .int .i64 x13, .int .i64 x14],
    .int .i64 x15] ∧ HCalls Tryz.prog 26 [.agg #[.slice pt_0_A pt_0_n pt_0_c, .int .i64 pt_1, .int .i64 pt_2], .agg #[.slice pe_0_A pe_0_n pe_0_c, .int .i64 pe_1]] H11 fun v16 H17 => ∃ (A18 : Option Addr) (n18 c18 : Nat),
    ∃ x19 : Int, v16 = .tuple #[.slice A18 n18 c18, .int .i64 x19] ∧ jn (fun (j23 : Bool) (H24 : Hp) => cnd j23 (Q (.bool false) H24) (HCalls Tryz.prog 28 [.agg #[.slice pt_0_A pt_0_n pt_0_c, .int .i64 pt_1, .int .i64
    pt_2], .agg #[.slice pe_0_A pe_0_n pe_0_c, .int .i64 pe_1]] H24 fun v26 H27 => ∃ (A28 : Option Addr) (n28 c28 : Nat), ∃ x29 : Int, ∃ x30 : Int, ∃ x31 : Int, v26 = .tuple #[.agg #[.slice A28 n28 c28, .int .i64 x29,
    .int .i64 x30], .int .i64 x31] ∧ HCalls Tryz.prog 29 [.agg #[.slice pt_0_A pt_0_n pt_0_c, .int .i64 pt_1, .int .i64 pt_2], .agg #[.slice pe_0_A pe_0_n pe_0_c, .int .i64 pe_1]] H27 fun v32 H33 => ∃ (A34 : Option Addr)
    (n34 c34 : Nat), ∃ x35 : Int, v32 = .tuple #[.slice A34 n34 c34, .int .i64 x35] ∧ jn (fun (j42 : Bool) (H43 : Hp) => Q (.bool j42) H43) fun J44 => cnd ((x31 : Int) == x35) (HCalls Tryz.prog 27 [.agg #[.slice A28 n28
    c28, .int .i64 x29, .int .i64 x30], .slice A34 n34 c34, .int .i64 pt_2, .int .i64 x31] H33 fun v36 H37 => ∃ x38 : Bool, v36 = .bool x38 ∧ cnd x38 (HCalls Tryz.prog 10 [] H37 fun v39 H40 => ∃ x41 : Bool, v39 = .bool
    x41 ∧ J44 x41 H40) (J44 false H37)) (J44 false H33))) fun J25 => cnd ((x15 : Int) != x19) (J25 true H17) (HCalls Tryz.prog 27 [.agg #[.slice A12 n12 c12, .int .i64 x13, .int .i64 x14], .slice A18 n18 c18, .int .i64
    pt_2, .int .i64 x15] H17 fun v20 H21 => ∃ x22 : Bool, v20 = .bool x22 ∧ J25 (!x22) H21))) fun J6 => HCalls Tryz.prog 9 [.agg #[.slice pt_0_A pt_0_n pt_0_c, .int .i64 pt_1, .int .i64 pt_2]] H fun v1 H2 => ∃ x3 : Bool,
    v1 = .bool x3 ∧ cnd (!x3) (J6 true H2) (J6 (decide ((((pe_0_n : Nat) : Int) : Int) > 30)) H2)
noncomputable def fcx5 : Cx := cx 69 [(2, true), (3, true), (5, true)] [] [] []
theorem f5.eq (pt_0_A : Option Addr) (pt_0_n pt_0_c : Nat) (pt_1 : Int) (pt_2 : Int) (pe_0_A : Option Addr) (pe_0_n pe_0_c : Nat) (pe_1 : Int) (H : Hp) (Q : Value → Hp → Prop) : f5 pt_0_A pt_0_n pt_0_c pt_1 pt_2 pe_0_A pe_0_n pe_0_c pe_1 H Q = wFun fcx5 Tryz.f5 [.agg #[.slice pt_0_A pt_0_n pt_0_c, .int .i64 pt_1, .int .i64 pt_2], .agg #[.slice pe_0_A pe_0_n pe_0_c, .int .i64 pe_1]] H Q := by kernel_rfl
theorem f5.ok (pt_0_A : Option Addr) (pt_0_n pt_0_c : Nat) (pt_1 : Int) (pt_2 : Int) (pe_0_A : Option Addr) (pe_0_n pe_0_c : Nat) (pe_1 : Int) {H : Hp} {Q : Value → Hp → Prop} (h : f5 pt_0_A pt_0_n pt_0_c pt_1 pt_2 pe_0_A pe_0_n pe_0_c pe_1 H Q) : HCalls Tryz.prog 5 [.agg #[.slice pt_0_A pt_0_n pt_0_c, .int .i64 pt_1, .int .i64 pt_2], .agg #[.slice pe_0_A pe_0_n pe_0_c, .int .i64 pe_1]] H Q := hcalls_of (cxOk _ _ _ _ _) Tryz.func5 (Eq.mp (f5.eq pt_0_A pt_0_n pt_0_c pt_1 pt_2 pe_0_A pe_0_n pe_0_c pe_1 H Q) h)

/-- justiciar justiciarlaw17.TreeMakes -/
def f6 (pcols : Int) (pl_A : Option Addr) (pl_n pl_c : Nat) (H : Hp) (Q : Value → Hp → Prop) : Prop :=
  HCalls Tryz.prog 30 [.slice pl_A pl_n pl_c] H fun v1 H2 => ∃ x3 : Bool, v1 = .bool x3 ∧ cnd (!x3) (HCalls Tryz.prog 10 [] H2 fun v4 H5 => ∃ x6 : Bool, v4 = .bool x6 ∧ Q (.bool x6) H5) (HCalls Tryz.prog 31 [.int .i64
    pcols, .slice pl_A pl_n pl_c] H2 fun v7 H8 => ∃ (A9 : Option Addr) (n9 c9 : Nat), ∃ x10 : Int, ∃ x11 : Int, ∃ x12 : Int, v7 = .tuple #[.agg #[.slice A9 n9 c9, .int .i64 x10, .int .i64 x11], .int .i64 x12] ∧ HCalls
    Tryz.prog 32 [.int .i64 pcols, .slice pl_A pl_n pl_c] H8 fun v13 H14 => ∃ (A15 : Option Addr) (n15 c15 : Nat), ∃ x16 : Int, v13 = .tuple #[.slice A15 n15 c15, .int .i64 x16] ∧ jn (fun (j20 : Bool) (H21 : Hp) => cnd
    j20 (Q (.bool false) H21) (LoopF (σ := ((Option Addr × Nat × Nat) × (Int × Unit)) × Unit) (((none, 0, 0), (0, ())), ()) H21 fun s23 H24 next25 => cnd (decide ((s23.1.2.1 : Int) < ((pl_n : Nat) : Int))) (0 ≤
    (IntKind.i64.wrap ((IntKind.i64.wrap (((pl_n : Nat) : Int) - 1)) - s23.1.2.1) : Int) ∧ (IntKind.i64.wrap ((IntKind.i64.wrap (((pl_n : Nat) : Int) - 1)) - s23.1.2.1) : Int) < ((pl_n : Nat) : Int) ∧ onPtr pl_A fun b26
    o26 => ∃ (A27 : Option Addr) (n27 c27 : Nat), cl H24 b26 (o26 + (IntKind.i64.wrap ((IntKind.i64.wrap (((pl_n : Nat) : Int) - 1)) - s23.1.2.1) : Int).toNat * 2) = some (.slice A27 n27 c27) ∧ ∃ x28 : Int, cl H24 b26
    ((o26 + (IntKind.i64.wrap ((IntKind.i64.wrap (((pl_n : Nat) : Int) - 1)) - s23.1.2.1) : Int).toNat * 2) + 1) = some (.int .i64 x28) ∧ newF H24 46 [.slice A27 n27 c27, .int .i64 x28] fun g29 H30 => appendF H30 46 2 32
    s23.1.1.1 s23.1.1.2.1 s23.1.1.2.2 (some ⟨g29, 0, none⟩) 1 fun A31 n31 c31 H32 => KeepX [some (.v (.int .i64 pcols)), some (.v (.slice pl_A pl_n pl_c)), some (.v (.int .i64 x12)), some (.v (.slice A15 n15 c15)), some
    (.v (.int .i64 ((pl_n : Nat) : Int)))] [] ∧ next25 (((A31, n31, c31), (IntKind.i64.wrap (s23.1.2.1 + 1), ())), ()) H32) (HCalls Tryz.prog 31 [.int .i64 pcols, .slice s23.1.1.1 s23.1.1.2.1 s23.1.1.2.2] H24 fun v33 H34
    => ∃ (A35 : Option Addr) (n35 c35 : Nat), ∃ x36 : Int, ∃ x37 : Int, ∃ x38 : Int, v33 = .tuple #[.agg #[.slice A35 n35 c35, .int .i64 x36, .int .i64 x37], .int .i64 x38] ∧ jn (fun (j42 : Bool) (H43 : Hp) => cnd j42 (Q
    (.bool false) H43) (HCalls Tryz.prog 33 [.int .i64 pcols] H43 fun v45 H46 => ∃ (A47 : Option Addr) (n47 c47 : Nat), ∃ x48 : Int, ∃ x49 : Int, ∃ x50 : Int, v45 = .tuple #[.agg #[.slice A47 n47 c47, .int .i64 x48, .int
    .i64 x49], .int .i64 x50] ∧ HCalls Tryz.prog 32 [.int .i64 pcols, .slice none 0 0] H46 fun v51 H52 => ∃ (A53 : Option Addr) (n53 c53 : Nat), ∃ x54 : Int, v51 = .tuple #[.slice A53 n53 c53, .int .i64 x54] ∧ jn (fun
    (j61 : Bool) (H62 : Hp) => Q (.bool j61) H62) fun J63 => cnd ((x50 : Int) == x54) (HCalls Tryz.prog 27 [.agg #[.slice A47 n47 c47, .int .i64 x48, .int .i64 x49], .slice none 0 0, .int .i64 pcols, .int .i64 x50] H52
    fun v55 H56 => ∃ x57 : Bool, v55 = .bool x57 ∧ cnd x57 (HCalls Tryz.prog 10 [] H56 fun v58 H59 => ∃ x60 : Bool, v58 = .bool x60 ∧ J63 x60 H59) (J63 false H56)) (J63 false H52))) fun J44 => cnd ((x12 : Int) != x38)
    (J44 true H34) (HCalls Tryz.prog 27 [.agg #[.slice A35 n35 c35, .int .i64 x36, .int .i64 x37], .slice A15 n15 c15, .int .i64 pcols, .int .i64 x12] H34 fun v39 H40 => ∃ x41 : Bool, v39 = .bool x41 ∧ J44 (!x41) H40))))
    fun J22 => cnd ((x12 : Int) != x16) (J22 true H14) (HCalls Tryz.prog 27 [.agg #[.slice A9 n9 c9, .int .i64 x10, .int .i64 x11], .slice A15 n15 c15, .int .i64 pcols, .int .i64 x12] H14 fun v17 H18 => ∃ x19 : Bool, v17
    = .bool x19 ∧ J22 (!x19) H18))
end Go.Proofs.YtmelbipidffmpaaGreatDoor.Hw

/- TreeChanges, walked. -/
set_option linter.unusedVariables false
set_option linter.unusedSimpArgs false
set_option linter.unusedSectionVars false
set_option maxRecDepth 20000
namespace Go.Proofs.YtmelbipidffmpaaGreatDoor.Hw
open Go Go.Proofs
theorem PutS.is {l l' : List EnM} {e : EnM} (h : PutS l e l') : l'.map sayE = (l.take (cntE l e) ++ e :: l.drop (cntE l e)).map sayE := by
  obtain ⟨a, b, rfl, h2, h3, h4⟩ := h
  have hc : cntE (a ++ b) e = a.length := take_is (p := fun z => decide (ordE z e < 0)) (fun i z hi hz => by
    rw [List.getElem?_append_left hi] at hz
    exact decide_eq_true (h3 z (List.mem_of_getElem? hz))) (fun z hz => by
    rw [List.getElem?_append_right (Nat.le_refl _), Nat.sub_self] at hz
    have := h4 z (List.mem_of_getElem? hz)
    have := ordE_ok.anti z e
    exact decide_eq_false (by omega)) (by simp)
  rw [hc, List.take_left' rfl, List.drop_left' rfl, h2]
  simp
section
variable {H : Hp} {A : Option Addr} {n c : Nat} {root cols : Int} {bl : List NdM} {Q : Value → Hp → Prop} {e : EnM}
theorem c9c (hT : TrAt H A n bl) (hq : ∀ b, (b = true → ∀ S, treeV bl root cols = some S → S.out.length < 4000) → Q (.bool b) H) : HCalls Tryz.prog 9 [.agg #[.slice A n c, .int .i64 root, .int .i64 cols]] H Q := by
  cases hv : treeV bl root cols with
  | none => exact c9 hT fun b => hq b fun _ S h => by rw [hv] at h; cases h
  | some S => exact c9s hT hv fun b hb => hq b fun h S' h' => by rw [hv] at h'; cases h'; exact hb h
theorem c5 (N : NullAt H) (hT : TrAt H A n bl) (hF : Fewish bl) (hK : KeyAt H e) (hq : ∀ H', Ext H H' → Q (.bool true) H') :
    HCalls Tryz.prog 5 [.agg #[.slice A n c, .int .i64 root, .int .i64 cols], enA e] H Q := by
  refine f5.ok _ _ _ _ _ _ _ _ _ ?_
  unfold f5
  refine jn_intro (fun J => J true H ∧ ((∀ S, treeV bl root cols = some S → S.out.length < 4000) → J false H)) ⟨cndT rfl (c10 H _ N fun H' hx => ⟨_, rfl, hq H' hx⟩), fun hlim => cndF rfl ?_⟩ fun J hJ => c9c hT fun b hb => ⟨_, rfl, cndI (fun h => hJ.1) fun h => ?_⟩
  rotate_left
  · have hb := hb (by simpa using h)
    cases hd : decide (((e.key.length : Nat) : Int) > 30) with
    | true => exact hJ.1
    | false => exact hJ.2 hb
  have second : ∀ H24, Ext H H24 → HCalls Tryz.prog 28 [.agg #[.slice A n c, .int .i64 root, .int .i64 cols], enA e] H24 fun v26 H27 => ∃ (A28 : Option Addr) (n28 c28 : Nat), ∃ x29 : Int, ∃ x30 : Int, ∃ x31 : Int, v26 = .tuple #[.agg #[.slice A28 n28 c28, .int .i64 x29, .int .i64 x30], .int .i64 x31] ∧ HCalls Tryz.prog 29 [.agg #[.slice A n c, .int .i64 root, .int .i64 cols], enA e] H27 fun v32 H33 => ∃ (A34 : Option Addr) (n34 c34 : Nat), ∃ x35 : Int, v32 = .tuple #[.slice A34 n34 c34, .int .i64 x35] ∧ jn (fun (j42 : Bool) (H43 : Hp) => Q (.bool j42) H43) fun J44 => cnd ((x31 : Int) == x35) (HCalls Tryz.prog 27 [.agg #[.slice A28 n28 c28, .int .i64 x29, .int .i64 x30], .slice A34 n34 c34, .int .i64 cols, .int .i64 x31] H33 fun v36 H37 => ∃ x38 : Bool, v36 = .bool x38 ∧ cnd x38 (HCalls Tryz.prog 10 [] H37 fun v39 H40 => ∃ x41 : Bool, v39 = .bool x41 ∧ J44 x41 H40) (J44 false H37)) (J44 false H33) := fun H24 x24 => by
    refine c28 (N.ext x24) (hT.ext x24) hF (hK.ext x24) (fun S h => by have := hlim S h; omega) (fun hc H27 x27 => ⟨_, _, _, _, _, _, rfl, ?_⟩) fun S hv hc H27 A28 c28' bl28 l28 dep28 x27 O28 hsay => ⟨_, _, _, _, _, _, rfl, ?_⟩
    · have y27 := x24.trans x27
      refine c29 (hT.ext y27) hF (hK.ext y27) (fun _ H33 x33 => ⟨_, _, _, _, rfl, ?_⟩) fun S _ h0 => absurd h0 hc
      have y33 := y27.trans x33
      refine jn_intro (fun J => ∀ H', Ext H H' → J true H') (fun H' hx => hq H' hx) fun J hJ => cndT (by simp) (c27z hc ⟨_, rfl, cndT rfl (c10 H33 _ (N.ext y33) fun H' hx => ⟨_, rfl, hJ H' (y33.trans hx)⟩)⟩)
    · have y27 := x24.trans x27
      refine c29 (hT.ext y27) hF (hK.ext y27) (fun h0 => absurd hc h0) fun S' hv' _ A34 n34 c34 H33 x33 E33 => ⟨_, _, _, _, rfl, ?_⟩
      rw [hv] at hv'
      cases hv'
      have y33 := y27.trans x33
      refine jn_intro (fun J => ∀ H', Ext H H' → J true H') (fun H' hx => hq H' hx) fun J hJ => cndT rfl (c27o (O28.ext2 x33) E33 hsay.symm fun H37 x37 => ⟨_, rfl, cndT rfl (c10 H37 _ (N.ext (y33.trans x37)) fun H' hx => ⟨_, rfl, hJ H' (y33.trans (x37.trans hx))⟩)⟩)
  refine c25 N hT hF hK (fun hc H11 x11 => ⟨_, _, _, _, _, _, rfl, ?_⟩) fun S hv hc H11 A12 c12' bl12 l12 dep12 x11 O12 P12 => ⟨_, _, _, _, _, _, rfl, ?_⟩
  · refine c26 (hT.ext x11) hF (hK.ext x11) (fun _ H17 x17 => ⟨_, _, _, _, rfl, ?_⟩) fun S _ h0 => absurd h0 hc
    have y17 := x11.trans x17
    refine jn_intro (fun J => ∀ H24, Ext H H24 → J false H24) (fun H24 x24 => cndF rfl (second H24 x24)) fun J hJ => cndF (by simp) (c27z hc ⟨_, rfl, hJ H17 y17⟩)
  · refine c26 (hT.ext x11) hF (hK.ext x11) (fun h0 => absurd hc h0) fun S' hv' _ A18 c18 H17 x17 E17 => ⟨_, _, _, _, rfl, ?_⟩
    rw [hv] at hv'
    cases hv'
    have y17 := x11.trans x17
    refine jn_intro (fun J => ∀ H24, Ext H H24 → J false H24) (fun H24 x24 => cndF rfl (second H24 x24)) fun J hJ => cndF rfl (c27o (O12.ext2 x17) E17 P12.is.symm fun H21 x21 => ⟨_, rfl, hJ H21 (y17.trans x21)⟩)
end
end Go.Proofs.YtmelbipidffmpaaGreatDoor.Hw

/- The row TreeChanges and its card: for every started Os and all arguments of the statement's domain the function returns true. No condition. -/
set_option linter.unusedVariables false
set_option linter.unusedSimpArgs false
set_option maxRecDepth 100000
namespace Go.Proofs.YtmelbipidffmpaaGreatDoor
open Go.ChangeShapes Go.WideShapes Go.ChangeAt Go.RowKit
open Hw
theorem open_ent {X : Type} {enc : TypeId × Value → X} {w : World} {base : Nat} {spare : Nat → Bool} {held : Bool} {fuel : Nat} {cs : List Value} {x : DataW X × List MemPlace} (hsz : Sz Tryz.prog 46 x.1) (h : DataW.trod enc Tryz.prog w base spare held fuel 46 cs = some x) : ∃ e : EnM, cs = enC e ∧ KeyAt (hpOf w) e := by
  obtain ⟨v0, v1, m', y0, y1, rfl, ⟨hs0, _⟩, e0, e1⟩ := opn2 k46 hsz h
  obtain ⟨A', n', c', l', ha, g1, g2, g3⟩ := open_vals u44 hs0 e0
  obtain ⟨b, hb, _⟩ := DataW.trod_int u3 e1
  cases ha; cases hb
  have hn := g1.len
  subst hn
  exact ⟨⟨A', c', l', b⟩, rfl, g1, g3, g2⟩
theorem changes_lifted (os : Os) (started : os.Started) (H : Type) (enc : TypeId × Value → H) :
    ReturnsInHanded {} Tryz.checked os 5 .any (fun w args => (Rows.treeChangesSpec.pre enc Tryz.prog Tryz.f5 Rows.treeChangesRow.domain false w args ∧ laidMet Tryz.prog Rows.treeChangesRow.laid w) ∧ sizedMet enc Tryz.prog Tryz.f5 (OpenSpec.ofChange Rows.treeChangesSpec) false w args)
      (Rows.treeChangesSpec.post enc Tryz.prog Tryz.f5 Rows.treeChangesRow.apart Rows.treeChangesRow.fresh Rows.treeChangesRow.handsOn Rows.treeChangesRow.again) := by
  refine returnsInHanded_of_change_and (C := Tryz.checked) (X := fun w _ => laidMet Tryz.prog theLaid w) (fun _ _ _ hh h => h.of_heap hh) ownK started (by kernel_rfl) Tryz.func5
    (ChangeSpec.witness_at (enc := enc) (C := Tryz.checked) (os := os) (X := fun w _ => laidMet Tryz.prog theLaid w) false (World.holding Tryz.prog os ⟨#[], #[], []⟩) #[.agg #[.slice none 0 0, .int .i64 0, .int .i64 0], .agg #[.slice none 0 0, .int .i64 0]] 8 rfl (by kernel_rfl) (by kernel_rfl) (by kernel_rfl) (by kernel_rfl) (by kernel_rfl) (laid_met os _)) ?_
  intro W base args ds gs before hval0 hW hcnd hsz0 hL _
  have hval : ∀ (j : Nat) t v, Tryz.f5.params[j]? = some t → args[j]? = some v → Value.okWide Tryz.prog W .any base t v := hval0
  have hsz : (DataW.weightsEach Tryz.prog (Tryz.f5.params.toList ++ Rows.treeChangesSpec.plain.varTypes Tryz.prog) (ds ++ gs)).all (· ≤ reachBytes) = true := hsz0
  have hW' := hW
  obtain ⟨p, q, hA0, hV, rfl, hfz, hnd⟩ := hW
  have hA : DataW.TrodAll enc Tryz.prog W 0 (fun _ => true) true Tryz.f5.params.toList args.toList ds p := hA0
  rw [Tryz.params5] at hA hval hsz
  obtain ⟨v0, v1, d0, d1, p0, p1, rfl, rfl, rfl, h0, h1⟩ := trodAll_two hA
  obtain ⟨rfl, rfl⟩ := trodVars_none hV
  have hs0 : Sz Tryz.prog 24 d0 := fun n hn => by
    have := List.all_eq_true.1 hsz n (DataW.weights_mem_each (j := 0) rfl rfl n hn)
    exact of_decide_eq_true this
  have hs1 : Sz Tryz.prog 46 d1 := fun n hn => by
    have := List.all_eq_true.1 hsz n (DataW.weights_mem_each (j := 1) rfl rfl n hn)
    exact of_decide_eq_true this
  obtain ⟨fl0, e0⟩ := h0
  obtain ⟨fl1, e1⟩ := h1
  obtain ⟨A, n, c, root, cols, bl, hc0, hT, hF⟩ := open_tree hs0 e0
  obtain ⟨e, hc1, hK⟩ := open_ent hs1 e1
  have g0 := agg_of s24 (hval 0 24 v0 rfl rfl) hc0
  have g1 := agg_of s46 (hval 1 46 v1 rfl rfl) hc1
  subst g0
  subst g1
  have key := c5 (c := c) (root := root) (cols := cols) (Q := fun v H' => v = .bool true ∧ Ext (hpOf W) H') (null_of_laid hL) hT hF hK (fun H' hx => ⟨rfl, hx⟩) W (fun b o h => h)
  refine Calls.mono key ?_
  rintro e W' ⟨v, H', rfl, ⟨rfl, hx⟩, hh, hf, _⟩
  refine ⟨_, rfl, post_look (f := Tryz.f5) cellsB_prog (by rw [Tryz.params5]; decide) hW' rfl rfl rfl (fun b sp hd => ?_) (fun b o h => hh b o (hx b o h)) hf.1 hf.2.2.1 ?_⟩
  · exact res_bool b sp hd true
  · exact ok_bools rfl true
theorem changes_row : Rows.TreeChangesSaid :=
  OpenClaim.holds_of_wide 5 Tryz.f5 rfl rfl rfl rfl rfl rfl rfl ⟨rfl, rfl, rfl, rfl, rfl⟩ rfl rfl rfl rfl rfl (by kernel_rfl) Tryz.func5 (by kernel_rfl)
    (of_decide_eq_true (by kernel_rfl)) (by unfold Func.isWrapper; first | (rw [if_pos (by decide +kernel)]; kernel_rfl) | (rw [if_neg (by decide +kernel)]; exact ⟨rfl, rfl⟩))
    (fun os started H enc _ => changes_lifted os started H enc)
theorem changes_card : Rows.TreeChangesCardSaid :=
  Claim7.holds_tied_plain_at .later [] [.data] true (true, "23305348b4ba4c31fb5a626f45f9e6925a27ab1b066bd0b37f3c06df2b996abf") false
    changes_row (fun _ h => by cases h) (by kernel_rfl) (fun _ h => by cases h) treeChanges_row_tie rfl ⟨rfl, rfl⟩ (by kernel_rfl) rfl
    (fun f fn hf hfn => by
      obtain rfl : f = 5 := Option.some.inj ((show Tryz.prog.funcNamed "justiciar/justiciarlaw17.TreeChanges" = some 5 by kernel_rfl).symm.trans hf) |>.symm
      obtain rfl : fn = Tryz.f5 := (Option.some.inj (Tryz.func5.symm.trans hfn)).symm
      exact ⟨by kernel_rfl, fun j t ht => by
        rw [Tryz.params5] at ht
        rcases j with _ | _ | j
        · cases (Option.some.inj ht); exact wants24
        · cases (Option.some.inj ht); exact wants46
        · simp at ht⟩)
    (by kernel_rfl)
end Go.Proofs.YtmelbipidffmpaaGreatDoor

/- The cards of TreeTells, TreeWays, TreeFinds and TreeChanges: for every started Os and all arguments of each statement's domain the function returns true. No condition. -/
set_option linter.unusedVariables false
namespace Go.Proofs.YtmelbipidffmpaaGreatDoor
open Hw
theorem tells_holds : Rows.TreeTellsCardSaid := tells_card awake_holds
theorem ways_holds : Rows.TreeWaysCardSaid := ways_card awake_holds
theorem finds_holds : Rows.TreeFindsCardSaid := finds_card awake_holds
theorem changes_holds : Rows.TreeChangesCardSaid := changes_card
end Go.Proofs.YtmelbipidffmpaaGreatDoor
